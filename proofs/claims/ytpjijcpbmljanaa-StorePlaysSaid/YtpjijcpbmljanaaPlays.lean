/- StorePlays: the walk. -/
import Derived.Test.YtpjijcpbmljanaaKT
import Derived.Test.YtpjijcpbmljanaaNone
import Derived.BigQuiet
import Derived.Deep.QuietTactic
import Derived.Deep.RegionWith
import Derived.Deep.CutRange
import Derived.Deep.CutBlock
namespace Go.Proofs.Ytpjijcpbmljanaa
open Go.RowKit Go.Maps Go.ChangeShapes Go.WideShapes Go.ChangeAt Go.WideMaps Go.WideElems

theorem cells10 {w : World} {b : Nat} {a0 a1 : Int} {x : Nat → Int} {T : TypeId} {fz : Nat × Nat} (h : w.heap[b]? = some (.cells #[.int .i64 a0, .int .i64 a1, .int .i64 (x 0), .int .i64 (x 1), .int .i64 (x 2), .int .i64 (x 3), .int .i64 (x 4), .int .i64 (x 5), .int .i64 (x 6), .int .i64 (x 7)] T fz)) :
    w.cell? ⟨b, 0, none⟩ = some (.int .i64 a0) ∧ w.cell? ⟨b, 1, none⟩ = some (.int .i64 a1) ∧
    w.cell? ⟨b, 2, none⟩ = some (.int .i64 (x 0)) ∧ w.cell? ⟨b, 3, none⟩ = some (.int .i64 (x 1)) ∧ w.cell? ⟨b, 4, none⟩ = some (.int .i64 (x 2)) ∧ w.cell? ⟨b, 5, none⟩ = some (.int .i64 (x 3)) ∧
    w.cell? ⟨b, 6, none⟩ = some (.int .i64 (x 4)) ∧ w.cell? ⟨b, 7, none⟩ = some (.int .i64 (x 5)) ∧ w.cell? ⟨b, 8, none⟩ = some (.int .i64 (x 6)) ∧ w.cell? ⟨b, 9, none⟩ = some (.int .i64 (x 7)) :=
  ⟨cellOf h 0, cellOf h 1, cellOf h 2, cellOf h 3, cellOf h 4, cellOf h 5, cellOf h 6, cellOf h 7, cellOf h 8, cellOf h 9⟩

set_option maxHeartbeats 8000000 in
set_option maxRecDepth 100000 in
theorem plays_any (v : Value) (l : List CallD) (w : World) (hl : RowR 10 CallR w v l) :
    Calls Try.prog 3 #[v] w fun e w' => e = .returned (.bool true) ∧ Below w.heap.size w w' := by
  obtain ⟨p, cp, rfl, h1, h2, h3⟩ := hl
  unfold maxLen at h2
  have H3 := Lib.hid h3
  clear h3
  by_cases hbig : 100 < l.length
  · have d1 : decide ((100 : Int) < (l.length : Int)) = true := by simp; omega
    go_enter Try.func3, Try.ntmps3
    go_wp2_with fail
    refine (alive_any _).mono ?_
    rintro e w1 ⟨rfl, b1⟩
    go_wp2_with fail
    go_ret
    exact ⟨rfl, b1⟩
  have d1 : decide ((100 : Int) < (l.length : Int)) = false := by simp; omega
  go_enter Try.func3, Try.ntmps3
  go_wp2_with fail
  refine (alive_any _).mono ?_
  rintro e w1 ⟨rfl, b1⟩
  go_wp2_with fail
  have hF := KT.new w w1 b1
  generalize ((w1.alloc (.cells #[.slice none 0 0, .int .i64 0] 26)).alloc (.cells #[.slice none 0 0, .int .i64 0] 26)).alloc (.cells #[.slice none 0 0] 30) = w2 at *
  generalize w1.heap.size + 1 + 1 = br at *
  generalize w1.heap.size + 1 = bo at *
  generalize w1.heap.size = bs at *
  have HF := Lib.hid hF
  clear hF b1
  go_loopw [7] (fun i wr => ∃ (k : Nat) (L : List Item), k ≤ l.length ∧ i = .int .i64 k ∧ Hid (KT w wr bs bo br L L (3 * k) [])) (fun i _ => l.length - (intOf i).toNat)
  case atStart => exact ⟨0, [], Nat.zero_le _, rfl, HF.out⟩
  case round =>
    obtain ⟨k, L, hk, rfl, hK⟩ := hrel
    clear HF
    by_cases hlt : k < l.length
    · obtain ⟨⟨way, i, x⟩, hx⟩ : ∃ x, l[k]? = some x := ⟨l[k], by simp [hlt]⟩
      obtain ⟨g, off, cs, rfl, hg, hcl, hcc, rfl, hw1, hw2⟩ := H3.out k _ hx
      have f0 := hcc 0 (by omega)
      have f1 := hcc 1 (by omega)
      have f2 := hcc 2 (by omega)
      have f3 := hcc 3 (by omega)
      have f4 := hcc 4 (by omega)
      have f5 := hcc 5 (by omega)
      have f6 := hcc 6 (by omega)
      have f7 := hcc 7 (by omega)
      have f8 := hcc 8 (by omega)
      have f9 := hcc 9 (by omega)
      simp [stL] at f0 f1 f2 f3 f4 f5 f6 f7 f8 f9
      clear hcc hx hcl
      have PO := Lib.hid (hK.out.other (xk k) (by omega))
      rw [stLk] at PO
      have F := Lib.hid (And.intro f0 (And.intro f1 (And.intro f2 (And.intro f3 (And.intro f4 (And.intro f5 (And.intro f6 (And.intro f7 (And.intro f8 f9)))))))))
      clear f0 f1 f2 f3 f4 f5 f6 f7 f8 f9
      go_wp2_with fail
      refine PO.out.mono ?_
      rintro e w3 ⟨⟨nn, rfl⟩, hK3⟩
      have K3 := Lib.hid hK3
      clear hK3 PO hK
      obtain ⟨f0, f1, f2, f3, f4, f5, f6, f7, f8, f9⟩ := F.out
      have a0 := (K3.out.below.cell (p := ⟨g, off + k * 10, none⟩) hg).trans f0
      have a1 := (K3.out.below.cell (p := ⟨g, off + k * 10 + 1, none⟩) hg).trans f1
      have a2 := (K3.out.below.cell (p := ⟨g, off + k * 10 + 2, none⟩) hg).trans f2
      have a3 := (K3.out.below.cell (p := ⟨g, off + k * 10 + 3, none⟩) hg).trans f3
      have a4 := (K3.out.below.cell (p := ⟨g, off + k * 10 + 4, none⟩) hg).trans f4
      have a5 := (K3.out.below.cell (p := ⟨g, off + k * 10 + 5, none⟩) hg).trans f5
      have a6 := (K3.out.below.cell (p := ⟨g, off + k * 10 + 6, none⟩) hg).trans f6
      have a7 := (K3.out.below.cell (p := ⟨g, off + k * 10 + 7, none⟩) hg).trans f7
      have a8 := (K3.out.below.cell (p := ⟨g, off + k * 10 + 8, none⟩) hg).trans f8
      have a9 := (K3.out.below.cell (p := ⟨g, off + k * 10 + 9, none⟩) hg).trans f9
      clear F f0 f1 f2 f3 f4 f5 f6 f7 f8 f9
      have K4 := Lib.hid (K3.out.alloc (.cells #[.int .i64 way, .int .i64 i, .int .i64 (x 0), .int .i64 (x 1), .int .i64 (x 2), .int .i64 (x 3), .int .i64 (x 4), .int .i64 (x 5), .int .i64 (x 6), .int .i64 (x 7)] 35))
      go_upto_block 2 with fail
      clear a0 a1 a2 a3 a4 a5 a6 a7 a8 a9
      generalize w3.alloc (.cells #[.int .i64 way, .int .i64 i, .int .i64 (x 0), .int .i64 (x 1), .int .i64 (x 2), .int .i64 (x 3), .int .i64 (x 4), .int .i64 (x 5), .int .i64 (x 6), .int .i64 (x 7)] 35) = w4 at *
      generalize w3.heap.size = a at *
      clear K3
      go_cut [9, 10, 11, 12, 13] from 25 to 111 (fun r _ _ _ _ wx => r = .bool true ∧ ∃ L', Hid (KT w wx bs bo br L' L' (3 * k + 3) [(a, (.cells #[.int .i64 way, .int .i64 i, .int .i64 (x 0), .int .i64 (x 1), .int .i64 (x 2), .int .i64 (x 3), .int .i64 (x 4), .int .i64 (x 5), .int .i64 (x 6), .int .i64 (x 7)] 35))]))
      case first =>
        have k4 := K4.out.drew
        obtain ⟨c0, c1, c2, c3, c4, c5, c6, c7, c8, c9⟩ := cells10 (K4.out.guest List.mem_cons_self)
        by_cases y0 : way = 0
        · subst y0
          go_upto_region 18 with fail
          go_region_with (first
            | (go_at_call 7; refine Calls.mono (KT.sNew (by assumption) x ?_) ?_; omega; rintro e w6 ⟨rfl, k6⟩; obtain ⟨e0, e1, e2, e3, e4, e5, e6, e7, e8, e9⟩ := cells10 (k6.guest List.mem_cons_self))
            | (go_at_call 8; refine Calls.mono (KT.rNew (by assumption) x ?_) ?_; omega; rintro e w7 ⟨rfl, k7⟩; obtain ⟨h0, h1, h2, h3, h4, h5, h6, h7, h8, h9⟩ := cells10 (k7.guest List.mem_cons_self)))
          all_goals (try go_wp2_with fail)
          all_goals go_meet
          all_goals exact ⟨rfl, _, (by assumption : KT w _ bs bo br (L ++ [(x, 1)]) (L ++ [(x, 1)]) (3 * k + 1 + 1 + 1) _)⟩
        by_cases y1 : way = 1
        · subst y1
          have qe : (errOf L i == errOf L i) = true := by simp
          go_upto_region 20 with fail
          go_region_with (first
            | (go_at_call 10; refine Calls.mono (KT.sHold (by assumption) i ?_) ?_; omega; rintro e w6 ⟨rfl, k6⟩; obtain ⟨e0, e1, e2, e3, e4, e5, e6, e7, e8, e9⟩ := cells10 (k6.guest List.mem_cons_self))
            | (go_at_call 9; refine Calls.mono (num_any _ _) ?_; rintro e w8 ⟨rfl, rfl⟩)
            | (go_at_call 11; refine Calls.mono (KT.rHold (by assumption) i ?_) ?_; omega; rintro e w7 ⟨rfl, k7⟩; obtain ⟨h0, h1, h2, h3, h4, h5, h6, h7, h8, h9⟩ := cells10 (k7.guest List.mem_cons_self)))
          all_goals (try go_wp2_with fail)
          all_goals go_meet
          all_goals exact ⟨rfl, _, (by assumption : KT w _ bs bo br (hold L i) (hold L i) (3 * k + 1 + 1 + 1) _)⟩
        by_cases y2 : way = 2
        · subst y2
          have qe : (errOf L i == errOf L i) = true := by simp
          go_upto_region 22 with fail
          go_region_with (first
            | (go_at_call 12; refine Calls.mono (KT.sRel (by assumption) i ?_) ?_; omega; rintro e w6 ⟨rfl, k6⟩; obtain ⟨e0, e1, e2, e3, e4, e5, e6, e7, e8, e9⟩ := cells10 (k6.guest List.mem_cons_self))
            | (go_at_call 9; refine Calls.mono (num_any _ _) ?_; rintro e w8 ⟨rfl, rfl⟩)
            | (go_at_call 13; refine Calls.mono (KT.rRel (by assumption) i ?_) ?_; omega; rintro e w7 ⟨rfl, k7⟩; obtain ⟨h0, h1, h2, h3, h4, h5, h6, h7, h8, h9⟩ := cells10 (k7.guest List.mem_cons_self)))
          all_goals (try go_wp2_with fail)
          all_goals go_meet
          all_goals exact ⟨rfl, _, (by assumption : KT w _ bs bo br (rel L i) (rel L i) (3 * k + 1) _).up (by omega)⟩
        have z0' : (way == 0) = false := by rw [beq_eq_false_iff_ne]; exact y0
        have z1' : (way == 1) = false := by rw [beq_eq_false_iff_ne]; exact y1
        have z2' : (way == 2) = false := by rw [beq_eq_false_iff_ne]; exact y2
        clear k4
        have P1 := Lib.hid (K4.out.sGet i (by omega))
        have HX := Lib.hid (arrEq (getX L i))
        have qe : (errOf L i == errOf L i) = true := by simp
        have STX := Lib.hid (show (stL (getX L i)).toArray = #[.int .i64 (getX L i 0), .int .i64 (getX L i 1), .int .i64 (getX L i 2), .int .i64 (getX L i 3), .int .i64 (getX L i 4), .int .i64 (getX L i 5), .int .i64 (getX L i 6), .int .i64 (getX L i 7)] from rfl)
        generalize hX : getX L i = X at *
        generalize hee : errOf L i = ee at *
        rw [STX.out] at P1 HX
        go_wp2_with fail
        refine P1.out.mono ?_
        rintro e w6 ⟨rfl, k6⟩
        have K6 := Lib.hid k6
        clear k6 P1 c0 c1 c2 c3 c4 c5 c6 c7 c8 c9
        have K7 := Lib.hid (K6.out.alloc (.cells (stL X).toArray 33))
        rw [STX.out] at K7
        obtain ⟨c0, c1, c2, c3, c4, c5, c6, c7, c8, c9⟩ := cells10 (K7.out.guest (List.mem_cons_of_mem _ List.mem_cons_self))
        have P2 := Lib.hid (K7.out.rGet i (by omega))
        rw [hee, hX, STX.out] at P2
        go_wp2_with fail
        generalize w6.alloc (.cells #[.int .i64 (X 0), .int .i64 (X 1), .int .i64 (X 2), .int .i64 (X 3), .int .i64 (X 4), .int .i64 (X 5), .int .i64 (X 6), .int .i64 (X 7)] 33) = w7 at *
        refine P2.out.mono ?_
        rintro e w8 ⟨rfl, k8⟩
        have K8 := Lib.hid k8
        clear k8 P2 c0 c1 c2 c3 c4 c5 c6 c7 c8 c9 K6 K7 K4
        have cx := K8.out.guest List.mem_cons_self
        have cs := cells8 (x := X) (fz := (0, 0)) (T := 33) cx
        generalize w6.heap.size = bx at *
        obtain ⟨c0, c1, c2, c3, c4, c5, c6, c7⟩ := cs
        have lx := ltOf cx
        clear cx
        have hq := HX.out
        have K9 := Lib.hid (K8.out.alloc (.cells #[.int .i64 (X 0), .int .i64 (X 1), .int .i64 (X 2), .int .i64 (X 3), .int .i64 (X 4), .int .i64 (X 5), .int .i64 (X 6), .int .i64 (X 7)] 33))
        go_wp2_with fail
        refine (num_any _ _).mono ?_
        rintro e w9 ⟨rfl, rfl⟩
        go_wp2_with fail
        go_meet
        exact ⟨rfl, L, (K9.out.less (by simp)).up (by omega)⟩
      case rest =>
        obtain ⟨rfl, L', hK'⟩ := hcut
        obtain ⟨c0, c1, c2, c3, c4, c5, c6, c7, c8, c9⟩ := cells10 (hK'.out.guest List.mem_cons_self)
        have C1 := Lib.hid (fun n => (hK'.out.drewN n).sCount i (by omega))
        have C2 := Lib.hid (fun n => (hK'.out.drewN n).rCount i (by omega))
        have C3 := Lib.hid (fun n => (hK'.out.drewN n).sLive)
        have C4 := Lib.hid (fun n => (hK'.out.drewN n).rLive (by omega))
        have HD := Lib.hid (fun n => hK'.out.drewN n)
        have q1 : (cntL L' i != cntL L' i) = false := by simp
        have q2 : ((liveOf L' : Int) != (liveOf L' : Int)) = false := by simp
        generalize (liveOf L' : Int) = y1 at *
        generalize cntL L' i = y2 at *
        go_upto_region 23 with fail
        go_quiet (first
          | (go_at_call 16; exact Calls.quiet_of_same (C1.out _))
          | (go_at_call 17; exact Calls.quiet_of_same (C2.out _))
          | (go_at_call 18; exact Calls.quiet_of_same (C3.out _))
          | (go_at_call 19; exact Calls.quiet_of_same (C4.out _)))
        go_wp2_with fail
        go_roundw
        case rel => 
          exact ⟨k + 1, L', by omega, by go_num, ((HD.out _).less (by simp)).up (by omega)⟩
        case measure => simp [intOf]; omega
    · go_wp2_with fail
      go_ret
      exact ⟨rfl, hK.out.below⟩
end Go.Proofs.Ytpjijcpbmljanaa
