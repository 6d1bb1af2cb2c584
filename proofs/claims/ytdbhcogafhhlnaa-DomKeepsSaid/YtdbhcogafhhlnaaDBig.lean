/- Big: what is known of nodes that are not. -/
import Derived.Test.YtdbhcogafhhlnaaDNds
import Derived.BigQuiet
import Derived.Deep.Cut
import Derived.Deep.CutRange
namespace Go.Proofs.Ytdbhcogafhhlnaa
open Go.RowKit Go.Maps Go.ChangeShapes Go.WideShapes Go.ChangeAt Go.WideMaps Go.WideElems

def SmallD (d : NodeD) : Prop := d.cls.length ≤ 8 ∧ d.att.length ≤ 8 ∧ d.tag.size ≤ 60 ∧ d.id.size ≤ 60 ∧ (∀ (j : Nat) s, d.cls[j]? = some s → s.size ≤ 60) ∧ ∀ (j : Nat) q, d.att[j]? = some q → q.1.size ≤ 60 ∧ q.2.size ≤ 100

def BigP (w : World) (ds : List NodeD) (e : Ending) (w' : World) : Prop :=
  w' = w ∧ ∃ b, e = .returned (.bool b) ∧ (b = false → (∀ (k : Nat) d, k < 100 → ds[k]? = some d → SmallD d) ∧ (ds.length ≤ 40 ∨ 4096 < ds.length) ∧ ds.length ≤ 4100)
theorem BigP.yes {w : World} {ds : List NodeD} : BigP w ds (.returned (.bool true)) w := ⟨rfl, true, rfl, fun h => by cases h⟩

set_option maxHeartbeats 1000000 in
set_option maxRecDepth 100000 in
theorem Big_any (ds : List NodeD) (p : Option Addr) (c : Nat) (w : World) (h : RdNs w p ds) (_hlc : ds.length ≤ c) (hcm : c ≤ maxLen) :
    Calls Try.prog 19 #[.slice p ds.length c] w (BigP w ds) := by
  have H := Lib.hid h
  have hcm' := hcm
  unfold maxLen at hcm'
  clear h
  go_enter Try.func19, Try.ntmps19
  go_wp2_with fail
  go_loopw [3] (fun i wr => ∃ k : Nat, k ≤ ds.length ∧ k ≤ 100 ∧ i = .int .i64 k ∧ w = wr ∧ Hid (∀ (j : Nat) d, j < k → ds[j]? = some d → SmallD d)) (fun i _ => ds.length - (intOf i).toNat)
  case atStart => exact ⟨0, Nat.zero_le _, by omega, rfl, rfl, fun j d hj => by omega⟩
  case round =>
    obtain ⟨k, hk, hk100, rfl, rfl, hS⟩ := hrel
    by_cases hlt : k < ds.length
    · have q1 : decide ((k : Int) < (ds.length : Int)) = true := decide_eq_true (by omega)
      have q1' : (k : Int) < (ds.length : Int) := by omega
      by_cases h100 : k < 100
      · have q2 : decide ((k : Int) < 100) = true := decide_eq_true (by omega)
        obtain ⟨d, hd⟩ : ∃ d, ds[k]? = some d := ⟨ds[k], by simp [hlt]⟩
        obtain ⟨b, off, sp, cc, q, o, rfl, hb, x0, x1, x2, x3, x4, hr⟩ := H.out k d hd
        have HR := Lib.hid hr
        have HD := Lib.hid hd
        clear hr hd x0
        by_cases t1 : (8 : Int) < (d.cls.length : Int)
        · have t1' : decide ((8 : Int) < (d.cls.length : Int)) = true := decide_eq_true t1
          go_wp2_with fail
          go_ret
          exact BigP.yes
        have t1' : decide ((8 : Int) < (d.cls.length : Int)) = false := decide_eq_false t1
        by_cases t2 : (8 : Int) < (d.att.length : Int)
        · have t2' : decide ((8 : Int) < (d.att.length : Int)) = true := decide_eq_true t2
          go_wp2_with fail
          go_ret
          exact BigP.yes
        have t2' : decide ((8 : Int) < (d.att.length : Int)) = false := decide_eq_false t2
        by_cases t3 : (60 : Int) < (d.tag.size : Int)
        · have t3' : decide ((60 : Int) < (d.tag.size : Int)) = true := decide_eq_true t3
          go_wp2_with fail
          go_ret
          exact BigP.yes
        have t3' : decide ((60 : Int) < (d.tag.size : Int)) = false := decide_eq_false t3
        by_cases t4 : (60 : Int) < (d.id.size : Int)
        · have t4' : decide ((60 : Int) < (d.id.size : Int)) = true := decide_eq_true t4
          go_wp2_with fail
          go_ret
          exact BigP.yes
        have t4' : decide ((60 : Int) < (d.id.size : Int)) = false := decide_eq_false t4
        have B1 : d.cls.length ≤ 8 := by omega
        have B2 : d.att.length ≤ 8 := by omega
        have B3 := Lib.hid (show d.tag.size ≤ 60 by omega)
        have B4 := Lib.hid (show d.id.size ≤ 60 by omega)
        go_wp2_with fail
        clear t1 t1' t2 t2' t3 t3' t4 t4'
        go_loopw [4] (fun i wr => ∃ j : Nat, j ≤ d.cls.length ∧ i = .int .i64 j ∧ w = wr ∧ Hid (∀ (i : Nat) s, i < j → d.cls[i]? = some s → s.size ≤ 60)) (fun i _ => d.cls.length - (intOf i).toNat)
        case atStart => exact ⟨0, Nat.zero_le _, rfl, rfl, fun i s hi => by omega⟩
        case round =>
          obtain ⟨j, hj, rfl, rfl, hC⟩ := hrel
          by_cases hjl : j < d.cls.length
          · have q3 : (j : Int) < (d.cls.length : Int) := by omega
            obtain ⟨s, hs⟩ : ∃ s, d.cls[j]? = some s := ⟨d.cls[j], by simp [hjl]⟩
            obtain ⟨g1, o1, rfl, _, y0⟩ := rdW_of_src HR.out.cls j s hs
            have HS := Lib.hid hs
            clear hs
            by_cases t5 : (60 : Int) < (s.size : Int)
            · have t5' : decide ((60 : Int) < (s.size : Int)) = true := decide_eq_true t5
              go_wp2_with fail
              go_ret
              exact BigP.yes
            have t5' : decide ((60 : Int) < (s.size : Int)) = false := decide_eq_false t5
            go_wp2_with fail
            go_roundw
            case rel => exact ⟨j + 1, by omega, by go_num, trivial, fun i s' hi hs' => by
              by_cases e : i = j
              · subst e
                rw [HS.out] at hs'
                cases hs'
                omega
              · exact hC.out i s' (by omega) hs'⟩
            case measure => simp [intOf]; omega
          · have hje : j = d.cls.length := by omega
            subst hje
            have q3 : ¬ ((d.cls.length : Int) < (d.cls.length : Int)) := by omega
            have HC := Lib.hid (show ∀ (i : Nat) s, d.cls[i]? = some s → s.size ≤ 60 from fun i s hs => hC.out i s (List.getElem?_eq_some_iff.1 hs).1 hs)
            clear hC hj hjl
            go_wp2_with fail
            go_loopw [5] (fun i wr => ∃ j : Nat, j ≤ d.att.length ∧ i = .int .i64 j ∧ w = wr ∧ Hid (∀ (i : Nat) q, i < j → d.att[i]? = some q → q.1.size ≤ 60 ∧ q.2.size ≤ 100)) (fun i _ => d.att.length - (intOf i).toNat)
            case atStart => exact ⟨0, Nat.zero_le _, rfl, rfl, fun i s hi => by omega⟩
            case round =>
              obtain ⟨j, hj, rfl, rfl, hA⟩ := hrel
              by_cases hjl : j < d.att.length
              · have q4 : (j : Int) < (d.att.length : Int) := by omega
                obtain ⟨⟨nm, tx⟩, hs⟩ : ∃ s, d.att[j]? = some s := ⟨d.att[j], by simp [hjl]⟩
                obtain ⟨g1, o1, rfl, _, y0, y1⟩ := rdA_of_src HR.out.att j _ hs
                simp only at y0 y1
                have HS := Lib.hid hs
                clear hs
                by_cases t5 : (60 : Int) < (nm.size : Int)
                · have t5' : decide ((60 : Int) < (nm.size : Int)) = true := decide_eq_true t5
                  go_wp2_with fail
                  go_ret
                  exact BigP.yes
                have t5' : decide ((60 : Int) < (nm.size : Int)) = false := decide_eq_false t5
                by_cases t6 : (100 : Int) < (tx.size : Int)
                · have t6' : decide ((100 : Int) < (tx.size : Int)) = true := decide_eq_true t6
                  go_wp2_with fail
                  go_ret
                  exact BigP.yes
                have t6' : decide ((100 : Int) < (tx.size : Int)) = false := decide_eq_false t6
                go_wp2_with fail
                go_roundw
                case rel => exact ⟨j + 1, by omega, by go_num, trivial, fun i s' hi hs' => by
                  by_cases e : i = j
                  · subst e
                    rw [HS.out] at hs'
                    cases hs'
                    simp only
                    omega
                  · exact hA.out i s' (by omega) hs'⟩
                case measure => simp [intOf]; omega
              · have hje : j = d.att.length := by omega
                subst hje
                have q4 : ¬ ((d.att.length : Int) < (d.att.length : Int)) := by omega
                have HA := Lib.hid (show ∀ (i : Nat) q, d.att[i]? = some q → q.1.size ≤ 60 ∧ q.2.size ≤ 100 from fun i s hs => hA.out i s (List.getElem?_eq_some_iff.1 hs).1 hs)
                clear hA hj hjl
                go_wp2_with fail
                go_roundw
                case rel => exact ⟨k + 1, by omega, by omega, by go_num, trivial, fun i d' hi hd' => by
                  by_cases e : i = k
                  · subst e
                    rw [HD.out] at hd'
                    cases hd'
                    exact ⟨B1, B2, B3.out, B4.out, HC.out, HA.out⟩
                  · exact hS.out i d' (by omega) hd'⟩
                case measure => simp [intOf]; omega
      · have q2 : decide ((k : Int) < 100) = false := decide_eq_false (by omega)
        by_cases t7 : (40 : Int) < (ds.length : Int)
        · have t7' : decide ((40 : Int) < (ds.length : Int)) = true := decide_eq_true t7
          by_cases t8 : (ds.length : Int) ≤ 4096
          · have t8' : decide ((ds.length : Int) ≤ 4096) = true := decide_eq_true t8
            go_wp2_with fail
            go_ret
            exact BigP.yes
          · have t8' : decide ((ds.length : Int) ≤ 4096) = false := decide_eq_false t8
            by_cases t9 : (4100 : Int) < (ds.length : Int)
            · have t9' : decide ((4100 : Int) < (ds.length : Int)) = true := decide_eq_true t9
              go_wp2_with fail
              go_ret
              exact BigP.yes
            · have t9' : decide ((4100 : Int) < (ds.length : Int)) = false := decide_eq_false t9
              go_wp2_with fail
              go_ret
              exact ⟨rfl, false, rfl, fun _ => ⟨fun j d hj hd => hS.out j d (by omega) hd, .inr (by omega), by omega⟩⟩
        · have t7' : decide ((40 : Int) < (ds.length : Int)) = false := decide_eq_false t7
          have t9' : decide ((4100 : Int) < (ds.length : Int)) = false := decide_eq_false (by omega)
          go_wp2_with fail
          go_ret
          exact ⟨rfl, false, rfl, fun _ => ⟨fun j d hj hd => hS.out j d (by omega) hd, .inl (by omega), by omega⟩⟩
    · have q1 : decide ((k : Int) < (ds.length : Int)) = false := decide_eq_false (by omega)
      by_cases t7 : (40 : Int) < (ds.length : Int)
      · have t7' : decide ((40 : Int) < (ds.length : Int)) = true := decide_eq_true t7
        by_cases t8 : (ds.length : Int) ≤ 4096
        · have t8' : decide ((ds.length : Int) ≤ 4096) = true := decide_eq_true t8
          go_wp2_with fail
          go_ret
          exact BigP.yes
        · have t8' : decide ((ds.length : Int) ≤ 4096) = false := decide_eq_false t8
          by_cases t9 : (4100 : Int) < (ds.length : Int)
          · have t9' : decide ((4100 : Int) < (ds.length : Int)) = true := decide_eq_true t9
            go_wp2_with fail
            go_ret
            exact BigP.yes
          · have t9' : decide ((4100 : Int) < (ds.length : Int)) = false := decide_eq_false t9
            go_wp2_with fail
            go_ret
            exact ⟨rfl, false, rfl, fun _ => ⟨fun j d hj hd => hS.out j d (by have := (List.getElem?_eq_some_iff.1 hd).1; omega) hd, .inr (by omega), by omega⟩⟩
      · have t7' : decide ((40 : Int) < (ds.length : Int)) = false := decide_eq_false t7
        have t9' : decide ((4100 : Int) < (ds.length : Int)) = false := decide_eq_false (by omega)
        go_wp2_with fail
        go_ret
        exact ⟨rfl, false, rfl, fun _ => ⟨fun j d hj hd => hS.out j d (by have := (List.getElem?_eq_some_iff.1 hd).1; omega) hd, .inl (by omega), by omega⟩⟩
end Go.Proofs.Ytdbhcogafhhlnaa
