/- BloomHashes: the walk of the law. No condition but the text's size. -/
import Derived.Test.YtfhojfndccelfaaDear
import Derived.Test.YtfhojfndccelfaaLaws
import Derived.Deep.RegionWith
namespace Go.Proofs.Ytfhojfndccelfaa
open Go.RowKit Go.Maps Go.ChangeShapes Go.WideShapes Go.ChangeAt Go.WideMaps Go.WideElems

theorem frB {w w' : World} (h : Below w.heap.size w w') : Fr (fun _ => False) w w' := ⟨h.os, h.tape, h.output, h.size, fun k hk _ => h.block k hk⟩
theorem wG_len {ps : List Prt} (h : PrtOk ps) : ∀ j, (wG ps j).length ≤ 11 * j
  | 0 => by simp [wG]
  | j + 1 => by
    have ih := wG_len h j
    unfold wG
    split
    · rename_i p q _ hq
      have := hsP_len h (List.mem_of_getElem? hq)
      split
      · rw [List.length_append]; omega
      · simp
    · simp
theorem wA_len {ps : List Prt} (h : PrtOk ps) : (wA ps).length ≤ 100000 := by
  have := wG_len h (ps.length - 1)
  have h1 := h.1
  unfold wA
  omega
/-- A node in its box. -/
theorem cells5 {w : World} {b : Nat} {a0 a1 a2 a3 a4 : Value} {t : TypeId} (h : w.heap[b]? = some (.cells #[a0, a1, a2, a3, a4] t (0, 0))) :
    w.cell? ⟨b, 0, none⟩ = some a0 ∧ w.cell? ⟨b, 1, none⟩ = some a1 ∧ w.cell? ⟨b, 2, none⟩ = some a2 ∧ w.cell? ⟨b, 3, none⟩ = some a3 ∧ w.cell? ⟨b, 4, none⟩ = some a4 :=
  ⟨cellOf h 0, cellOf h 1, cellOf h 2, cellOf h 3, cellOf h 4⟩

set_option maxRecDepth 100000 in
set_option maxHeartbeats 8000000 in
theorem hashes_walk (kind : Int) (s : ByteArray) (par : Int) (tag id : ByteArray) (pc pa : Option Addr) (cls : List ByteArray) (cc na ca : Nat) (p : Option Addr) (c : Nat) (l : List (List Prt)) (w : World) (hs : s.size ≤ maxLen)
    (hc : StrO (fun _ => False) w (.slice pc cls.length cc) cls) (ht : tag.size ≤ maxLen) (hid : id.size ≤ maxLen) (h : Sels w (.slice p l.length c) l) (hlm : l.length ≤ maxLen) :
    Calls Try.prog 7 #[.int .i64 kind, .string s, .agg #[.int .i64 par, .string tag, .string id, .slice pc cls.length cc, .slice pa na ca], .slice p l.length c] w fun e w' => e = .returned (.bool true) ∧ Fr (fun _ => False) w w' := by
  have hs' := hs
  unfold maxLen at hs' hlm
  have HB := Lib.hid (show (w.alloc (.cells #[.int .i64 par, .string tag, .string id, .slice pc cls.length cc, .slice pa na ca] 44)).heap[w.heap.size]? = some (.cells #[.int .i64 par, .string tag, .string id, .slice pc cls.length cc, .slice pa na ca] 44 (0, 0)) from heapNew _ _)
  have HF := Lib.hid ((Fr.refl (fun _ => False) w).alloc (.cells #[.int .i64 par, .string tag, .string id, .slice pc cls.length cc, .slice pa na ca] 44))
  have HL := Lib.hid (h.fr HF.out)
  have HC := Lib.hid (hc.keep HF.out (fun _ _ e => e))
  have HT := Lib.hid ht
  have HI := Lib.hid hid
  have HS := Lib.hid hs
  clear h hc ht hid hs
  go_enter Try.func7, Try.ntmps7
  go_upto_region 1 with fail
  generalize w.alloc (.cells #[.int .i64 par, .string tag, .string id, .slice pc cls.length cc, .slice pa na ca] 44) = w1 at *
  generalize w.heap.size = nb at *
  go_wp2_with fail
  refine (alive_any _).mono ?_
  rintro e w2 ⟨rfl, b2⟩
  have F2 := Lib.hid (frB b2)
  clear b2
  go_wp2_with fail
  refine (Dear_any _ p c l (HL.out.fr F2.out)).mono ?_
  rintro e w3 ⟨bd, rfl, f3, hok⟩
  have F3 := Lib.hid (F2.out.trans f3)
  have HOK := Lib.hid hok
  clear f3 hok F2
  cases bd with
  | true =>
    go_wp2_with fail
    go_ret
    exact ⟨rfl, HF.out.trans F3.out⟩
  | false =>
    replace HOK := Lib.hid (HOK.out rfl)
    have hbx := cellOf (F3.out.heap HB.out (by simp)) 3
    simp at hbx
    by_cases hs3 : 300 < s.size
    · have q1 : decide ((300 : Int) < (s.size : Int)) = true := decide_eq_true (by omega)
      go_wp2_with fail
      go_ret
      exact ⟨rfl, HF.out.trans F3.out⟩
    · have q1 : decide ((300 : Int) < (s.size : Int)) = false := decide_eq_false (by omega)
      by_cases hc3 : 30 < cls.length
      · have q2 : decide ((30 : Int) < (cls.length : Int)) = true := decide_eq_true (by omega)
        go_wp2_with fail
        go_ret
        exact ⟨rfl, HF.out.trans F3.out⟩
      · have q2 : decide ((30 : Int) < (cls.length : Int)) = false := decide_eq_false (by omega)
        go_wp2_with fail
        clear hbx
        go_loopw [11] (fun i wr => ∃ (k : Nat), i = .int .i64 k ∧ k ≤ l.length ∧ Hid (Fr (fun _ => False) w1 wr)) (fun i _ => l.length - (intOf i).toNat)
        case atStart => exact ⟨0, rfl, by omega, F3⟩
        case round =>
          clear F3
          obtain ⟨k, rfl, hk, hF⟩ := hrel
          by_cases hlt : k < l.length
          · have e1 : decide ((k : Int) < (l.length : Int)) = true := decide_eq_true (by omega)
            obtain ⟨ps, hx⟩ : ∃ ps, l[k]? = some ps := ⟨l[k], List.getElem?_eq_getElem hlt⟩
            obtain ⟨N, hN⟩ := HL.out
            obtain ⟨g, off, q, d, rfl, -, hg, a0, hps⟩ := sel_at hN hx
            have hk2 : (k : Int) < (l.length : Int) := by omega
            have PO := Lib.hid (HOK.out ps (List.mem_of_getElem? hx))
            have PW := Lib.hid (show ∀ W, Fr (fun _ => False) w1 W → Calls Try.prog 19 #[.agg #[.slice q ps.length d]] W (NewN W (wA ps)) from fun W f => Wants_any W q d ps ((parts_of hps).fr f) PO.out)
            have PR := Lib.hid (show ∀ W, Fr (fun _ => False) w1 W → Calls Try.prog 20 #[.agg #[.slice q ps.length d]] W (NewN W (wA ps)) from fun W f => RWants_any W q d ps ((parts_of hps).fr f) PO.out)
            have PX := Lib.hid (show ∀ W, Fr (fun _ => False) w1 W → W.cell? ⟨g, off + k, none⟩ = some (.slice q ps.length d) from fun W f => (f.cell (p := ⟨g, off + k, none⟩) hg (by simp)).trans a0)
            have hwl := wA_len PO.out
            clear hx hN a0 hg hps
            generalize wA ps = ws at *
            go_upto_region 8 with fail
            go_cut [50] from 39 to 50 (fun v wx => v = .bool false ∧ Hid (Fr (fun _ => False) w1 wx))
            case first =>
              have G0 : Fr (fun _ => False) w1 wr.drew := hF.out.drew
              have x0 := PX.out _ G0
              go_region_with (first
                | (go_at_call 19; refine (PW.out _ (by assumption)).mono ?_; rintro e w6 ⟨s6, c6, rfl, h6, f6⟩; have G6 : Fr (fun _ => False) w1 w6 := Fr.trans (by assumption) f6; have x6 := PX.out _ G6)
                | (go_at_call 20; refine (PR.out _ (by assumption)).mono ?_; rintro e w7 ⟨s7, c7, rfl, h7, f7⟩; have G7 : Fr (fun _ => False) w1 w7 := Fr.trans (by assumption) f7; have x7 := PX.out _ G7)
                | (go_at_call 18; (first | refine (same_any _ _ _ _ _ _ (RdN.win (h6.fr f7 (fun _ _ e => e))) (RdN.win h7) hwl).mono ?_ | refine (same_any _ _ _ _ _ _ (RdN.win h6) (RdN.win (h7.fr f6 (fun _ _ e => e))) hwl).mono ?_); rintro e w8 ⟨rfl, f8⟩; have G8 : Fr (fun _ => False) w1 w8 := Fr.trans (by assumption) f8))
              all_goals (try go_wp2_with fail)
              all_goals go_meet
              all_goals exact ⟨rfl, Lib.hid (by assumption)⟩
            case rest =>
              obtain ⟨rfl, hF8⟩ := hcut
              clear hF
              go_wp2_with fail
              go_roundw
              case rel => exact ⟨k + 1, by go_num, by omega, hF8⟩
              case measure => simp [intOf]; omega
          · have e1 : decide ((k : Int) < (l.length : Int)) = false := decide_eq_false (by omega)
            have hlt2 := hN_lt kind s
            have PH := Lib.hid (Hash_any kind s wr HS.out)
            have PRH := Lib.hid (show ∀ W, Calls Try.prog 22 #[.int .i64 kind, .string s] W fun e w' => e = .returned (.int .i64 (hN kind s : Nat)) ∧ w' = W from fun W => RHash_any kind s W HS.out)
            have PO := Lib.hid (show ∀ W, Fr (fun _ => False) w1 W → Calls Try.prog 23 #[.agg #[.int .i64 par, .string tag, .string id, .slice pc cls.length cc, .slice pa na ca]] W (NewN W (hsL tag (if id = ByteArray.empty then [] else [id]) cls)) from
              fun W f => Of_any W par tag id pc pa cls cc na ca (HC.out.keep f (fun _ _ e => e)) HT.out HI.out (by omega))
            have PQ := Lib.hid (show ∀ W, Fr (fun _ => False) w1 W → Calls Try.prog 24 #[.agg #[.int .i64 par, .string tag, .string id, .slice pc cls.length cc, .slice pa na ca]] W (NewN W (hsL tag (if id = ByteArray.empty then [] else [id]) cls)) from
              fun W f => HOf_any W par tag id pc pa cls cc na ca (HC.out.keep f (fun _ _ e => e)) HT.out HI.out (by omega))
            have PX := Lib.hid (show ∀ W, Fr (fun _ => False) w1 W → _ from fun W f => cells5 (f.heap HB.out (fun e => e)))
            have hwl : (hsL tag (if id = ByteArray.empty then [] else [id]) cls).length ≤ 100000 := by
              have := hsL_len tag (if id = ByteArray.empty then [] else [id]) cls
              have h1 : (if id = ByteArray.empty then [] else [id]).length ≤ 1 := by split <;> simp
              omega
            generalize hsL tag (if id = ByteArray.empty then [] else [id]) cls = ws at *
            generalize hN kind s = hv at *
            have z1 : ((hv : Int) == (hv : Int)) = true := by simp
            have z2 : decide ((0 : Int) ≤ (hv : Int)) = true := decide_eq_true (by omega)
            have z3 : decide ((hv : Int) < (4294967296 : Int)) = true := decide_eq_true (by omega)
            go_wp2_with fail
            refine PH.out.mono ?_
            rintro e w5 ⟨rfl, f5⟩
            have hF5 := Lib.hid (hF.out.trans f5)
            clear f5 PH hF
            go_upto_region 11 with fail
            have G0 : Fr (fun _ => False) w1 w5.drew := hF5.out.drew
            obtain ⟨x0, x1, x2, x3, x4⟩ := PX.out _ G0
            go_region_with (first
              | (go_at_call 22; refine (PRH.out _).mono ?_; rintro e w9 ⟨rfl, rfl⟩)
              | (go_at_call 23; refine (PO.out _ (by assumption)).mono ?_; rintro e w6 ⟨s6, c6, rfl, h6, f6⟩; have G6 : Fr (fun _ => False) w1 w6 := Fr.trans (by assumption) f6; obtain ⟨y0, y1, y2, y3, y4⟩ := PX.out _ G6)
              | (go_at_call 24; refine (PQ.out _ (by assumption)).mono ?_; rintro e w7 ⟨s7, c7, rfl, h7, f7⟩; have G7 : Fr (fun _ => False) w1 w7 := Fr.trans (by assumption) f7; obtain ⟨v0, v1, v2, v3, v4⟩ := PX.out _ G7)
              | (go_at_call 18; (first | refine (same_any _ _ _ _ _ _ (RdN.win (h6.fr f7 (fun _ _ e => e))) (RdN.win h7) hwl).mono ?_ | refine (same_any _ _ _ _ _ _ (RdN.win h6) (RdN.win (h7.fr f6 (fun _ _ e => e))) hwl).mono ?_); rintro e w8 ⟨rfl, f8⟩; have G8 : Fr (fun _ => False) w1 w8 := Fr.trans (by assumption) f8))
            all_goals (try go_wp2_with fail)
            all_goals go_ret
            all_goals exact ⟨rfl, HF.out.trans (by assumption)⟩
end Go.Proofs.Ytfhojfndccelfaa
