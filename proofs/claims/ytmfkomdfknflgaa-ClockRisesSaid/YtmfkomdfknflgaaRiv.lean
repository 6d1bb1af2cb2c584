/- rivals: the accesses of others, one by one. -/
import Derived.Test.YtmfkomdfknflgaaAt
import Derived.Test.YtmfkomdfknflgaaRF
import Derived.RangeFuncBox
import Derived.RangeFuncLeaves
import Derived.RangeFuncBound
import Derived.Shelf.Abstract
import Derived.OwnWalkIn
import Derived.TacticsInMore
import Derived.LoopNIn
import Derived.LoopIn
import Derived.Shelf.RegionOpen
import Derived.Sort.LoopGhostIn
namespace Go.Proofs.Ytmfkomdfknflgaa
open Go.RowKit Go.Shelf

attribute [local go_sem] Oper.semAt_some

/-- Is a kind passed over? -/
def skp (wt at_ : Bool) (k : Nat) : Bool := (!wt && decide (k % 2 = 0)) || (at_ && decide (k / 2 % 2 ≠ 0))
def rvJ (who : Int) (t : Nat → Nat) (j : Nat) : List (Nat × Nat) := (List.range j).flatMap fun (v : Nat) => if decide ((v : Int) ≠ who) && decide (0 < t v) then [(v, t v)] else []
def rvT (who : Int) (wt at_ : Bool) (x : Cel) (n k : Nat) : List (Nat × Nat) := (List.range k).flatMap fun i => if skp wt at_ i then [] else rvJ who (x.t i) n
theorem rvJ_snoc (who : Int) (t : Nat → Nat) (j : Nat) : rvJ who t (j + 1) = rvJ who t j ++ if decide ((j : Int) ≠ who) && decide (0 < t j) then [(j, t j)] else [] := by
  unfold rvJ
  rw [List.range_succ, List.flatMap_append]
  simp only [List.flatMap_cons, List.flatMap_nil, List.append_nil]
theorem rvT_snoc (who : Int) (wt at_ : Bool) (x : Cel) (n k : Nat) : rvT who wt at_ x n (k + 1) = rvT who wt at_ x n k ++ if skp wt at_ k then [] else rvJ who (x.t k) n := by
  unfold rvT
  rw [List.range_succ, List.flatMap_append]
  simp only [List.flatMap_cons, List.flatMap_nil, List.append_nil]
theorem rvJ_len (who : Int) (t : Nat → Nat) : ∀ j, (rvJ who t j).length ≤ j
  | 0 => by simp [rvJ]
  | j + 1 => by
    have := rvJ_len who t j
    rw [rvJ_snoc, List.length_append]
    split <;> simp <;> omega
theorem rvT_len (who : Int) (wt at_ : Bool) (x : Cel) (n : Nat) : ∀ k, (rvT who wt at_ x n k).length ≤ k * n
  | 0 => by simp [rvT]
  | k + 1 => by
    have := rvT_len who wt at_ x n k
    have h2 := rvJ_len who (x.t k) n
    rw [rvT_snoc, List.length_append, Nat.add_mul]
    split
    · simp; omega
    · omega

def iN (n v : Nat) : Nat := if v < n then v else 0
theorem iN_lt {n : Nat} (v : Nat) (h : 0 < n) : iN n v < n := by unfold iN; split <;> omega
theorem rvJ_mem (who : Int) (t : Nat → Nat) (j : Nat) : ∀ y ∈ rvJ who t j, y.1 < j := by
  intro y hy
  unfold rvJ at hy
  obtain ⟨v, hv, h⟩ := List.mem_flatMap.1 hy
  split at h
  · obtain rfl := List.mem_singleton.1 h
    exact List.mem_range.1 hv
  · cases h
theorem rvT_mem (who : Int) (wt at_ : Bool) (x : Cel) (n k : Nat) : ∀ y ∈ rvT who wt at_ x n k, y.1 < n := by
  intro y hy
  unfold rvT at hy
  obtain ⟨v, _, h⟩ := List.mem_flatMap.1 hy
  split at h
  · cases h
  · exact rvJ_mem _ _ _ y h

structure RvS (R : Nat → Role) (z : Int) (ba : Nat) (av : Array Value) (T : Nat → Nat) (n : Nat) (x : Cel) (W : World) (S : Nat → Prop) : Prop where
  hb : W.heap[ba]? = some (.cells av 27 (0, 0))
  t : ∀ k, k < 4 → R (T k) = .tal z k ∧ Row W (T k) 0 n (x.t k)
  s : ∀ k, S k → R k = .no ∧ k ≠ ba
  big : ∀ k, W.heap.size ≤ k → R k = .no
theorem RvS.step {R : Nat → Role} {z : Int} {ba : Nat} {av : Array Value} {T : Nat → Nat} {n : Nat} {x : Cel} {W W' : World} {S S' : Nat → Prop} (h : RvS R z ba av T n x W S) (f : Fr S W W') (hS : ∀ k, S' k → S k ∨ W.heap.size ≤ k) : RvS R z ba av T n x W' S' :=
  ⟨f.heap h.hb (fun e => (h.s _ e).2 rfl), fun k hk => ⟨(h.t k hk).1, (h.t k hk).2.fr f (fun e => by have := (h.s _ e).1; rw [(h.t k hk).1] at this; cases this)⟩,
    fun k hk => by rcases hS k hk with e | e; exact h.s k e; exact ⟨h.big k e, by have := ltOf h.hb; omega⟩, fun k hk => h.big k (Nat.le_trans f.size hk)⟩

/-- What holds when the range begins. -/
def PreR (R : Nat → Role) (z : Int) (bx ba p : Nat) (av : Array Value) (n : Nat) (x : Cel) (W : World) (S : Nat → Prop) : Prop :=
  W.heap[bx]? = some (.cells #[.pointer (some ⟨p, 0, none⟩)] 49 (0, 0)) ∧ W.heap[ba]? = some (.cells av 27 (0, 0)) ∧ IsCel W R n z p x ∧ (∀ k, S k → R k = .no ∧ k ≠ ba) ∧ ∀ k, W.heap.size ≤ k → R k = .no

theorem rivals_any (w : World) (p : Addr) (who cell : Int) (wt at_ : Bool) :
    Calls Try.prog 24 #[.pointer (some p), accV who cell wt at_] w fun e w' => e = .returned (.func (.func 28) #[] #[.pointer (some ⟨w.heap.size, 0, none⟩), .pointer (some ⟨w.heap.size + 1, 0, none⟩)]) ∧ w' = (w.alloc (.cells #[.pointer (some p)] 49)).alloc (.cells #[.int .i64 who, .int .i64 cell, .bool wt, .bool at_] 27) := by
  unfold accV
  go_enter Try.func24, Try.ntmps24
  go_wp2
  go_ret
  exact ⟨rfl, rfl⟩
theorem and1 {k : Nat} (h : k < 4) : bits .and .i64 (k : Int) 1 = ((k % 2 : Nat) : Int) := by
  match k, h with
  | 0, _ => decide
  | 1, _ => decide
  | 2, _ => decide
  | 3, _ => decide
theorem and2 {k : Nat} (h : k < 4) : bits .and .i64 (k : Int) 2 = ((k / 2 % 2 * 2 : Nat) : Int) := by
  match k, h with
  | 0, _ => decide
  | 1, _ => decide
  | 2, _ => decide
  | 3, _ => decide
def tF (t0 t1 t2 t3 : Nat) : Nat → Nat
  | 0 => t0
  | 1 => t1
  | 2 => t2
  | _ => t3
theorem idx4 (w : World) (t0 t1 t2 t3 n : Nat) {k : Nat} (h : k < 4) : (Instr.index 53 (.agg #[.slice (some ⟨t0, 0, none⟩) n n, .slice (some ⟨t1, 0, none⟩) n n, .slice (some ⟨t2, 0, none⟩) n n, .slice (some ⟨t3, 0, none⟩) n n]) (.int .i64 (k : Int))).run Try.prog w = .ok (.slice (some ⟨tF t0 t1 t2 t3 k, 0, none⟩) n n) w := by
  match k, h with
  | 0, _ => (show _ = _); kernel_rfl
  | 1, _ => (show _ = _); kernel_rfl
  | 2, _ => (show _ = _); kernel_rfl
  | 3, _ => (show _ = _); kernel_rfl

set_option maxRecDepth 100000 in
set_option maxHeartbeats 4000000 in
theorem riv_stops (R : Nat → Role) (z : Int) (bx ba p : Nat) (who cell : Int) (wt at_ : Bool) (n : Nat) (x : Cel) (hn : n ≤ 64) (nn : Nat) (hnn : 2 ≤ nn) :
    SeqF Fence.wide nn Try.prog 28 #[.pointer (some ⟨bx, 0, none⟩), .pointer (some ⟨ba, 0, none⟩)] (fun y : Nat × Nat => #[Value.int .i64 ((iN n y.1 : Nat) : Int), .int .i64 (y.2 : Int)]) (fun _ => False)
      (PreR R z bx ba p #[.int .i64 who, .int .i64 cell, .bool wt, .bool at_] n x) (fun xs => xs = rvT who wt at_ x n 4) (fun _ => True) 1000 := by
  have hn1 : 1 ≤ nn := by omega
  have hn2 : 1 ≤ nn - 1 := by omega
  rintro l J Jx W S0 ⟨p1, p2, ⟨p3, c0, co, cc, t0, t1, t2, t3, q1, q2, q3, q4, q5, a0, a1, a2, a3⟩, p4, p5⟩ hJ hJx hlt hY h00
  have HR := Lib.hid (show RvS R z ba #[.int .i64 who, .int .i64 cell, .bool wt, .bool at_] (tF t0 t1 t2 t3) n x W S0 from ⟨p2, fun k hk => by
    match k, hk with
    | 0, _ => exact a0
    | 1, _ => exact a1
    | 2, _ => exact a2
    | 3, _ => exact a3, p4, p5⟩)
  have HJ0 := Lib.hid h00
  have HY := Lib.hid hY
  have b0 := cellOf p1 0
  have d1 := cellOf q1 1
  have d2 := cellOf q1 2
  have d3 := cellOf q1 3
  have d4 := cellOf q1 4
  simp [sl] at b0 d1 d2 d3 d4
  clear hJ hJx hlt hY h00 p1 p2 p3 p4 p5 q1 q2 q3 q4 q5 a0 a1 a2 a3
  refine callsIn_of_wp Try.func28 rfl trivial ?_ rfl
  simp only [Try.ntmps28, List.size_toArray, List.length_cons, List.length_nil, Nat.reduceAdd, Nat.reduceSub, Array.replicate_succ, Array.replicate_zero, List.push_toArray, List.append_toArray, List.nil_append, List.cons_append]
  have HZ := Lib.hid (show rvT who wt at_ x n 0 = [] from rfl)
  gi_wp2
  gi_loopw [12] (fun i wr => ∃ (k : Nat) (S : Nat → Prop), k ≤ 4 ∧ i = .int .i64 k ∧ Hid (J (rvT who wt at_ x n k) S wr) ∧ Hid (RvS R z ba #[.int .i64 who, .int .i64 cell, .bool wt, .bool at_] (tF t0 t1 t2 t3) n x wr S)) (fun i _ => 4 - (intOf i).toNat)
  case atStart => exact ⟨0, S0, by omega, rfl, HJ0, HR⟩
  case round =>
    obtain ⟨k, S, hk, rfl, hJ, hS⟩ := hrel
    clear HJ0 HR HZ
    by_cases hlt : k < 4
    · have ix := idx4 wr t0 t1 t2 t3 n hlt
      have e0 := cellOf hS.out.hb 0
      have e2 := cellOf hS.out.hb 2
      have e3 := cellOf hS.out.hb 3
      simp at e0 e2 e3
      have q4 : decide ((k : Int) < 4) = true := by simp; omega
      have m1 := and1 hlt
      have m2 := and2 hlt
      obtain ⟨u1, hu1⟩ : ∃ u1, k % 2 = u1 := ⟨_, rfl⟩
      obtain ⟨u2, hu2⟩ : ∃ u2, k / 2 % 2 * 2 = u2 := ⟨_, rfl⟩
      obtain ⟨tk, htk⟩ : ∃ tk, tF t0 t1 t2 t3 k = tk := ⟨_, rfl⟩
      rw [hu1] at m1
      rw [hu2] at m2
      rw [htk] at ix
      cases wt
      · cases at_
        · by_cases hb1 : k % 2 = 0
          · have HSK := Lib.hid (show skp false false k = true by unfold skp; simp <;> omega)
            have q1 : ((u1 : Int) == 0) = true := by simp; omega
            clear hu1 hu2
            gi_wp2
            go_roundw
            case rel => exact ⟨k + 1, S, by omega, by first | rfl | go_num, Lib.hid (by rw [rvT_snoc, HSK.out, if_pos rfl, List.append_nil]; exact hJ.out), hS⟩
            case measure => simp [intOf]; omega
          · have HSK := Lib.hid (show skp false false k = false by unfold skp; simp <;> omega)
            have q1 : ((u1 : Int) == 0) = false := by simp; omega
            clear hu1 hu2
            gi_wp2
            clear ix e0 e2 e3
            gi_loopw [35] (fun i wr => ∃ (j : Nat) (S : Nat → Prop), j ≤ n ∧ i = .int .i64 j ∧ Hid (J (rvT who false false x n k ++ rvJ who (x.t k) j) S wr) ∧ Hid (RvS R z ba #[.int .i64 who, .int .i64 cell, .bool false, .bool false] (tF t0 t1 t2 t3) n x wr S)) (fun i _ => n - (intOf i).toNat)
            case atStart => exact ⟨0, S, by omega, rfl, Lib.hid (by rw [show rvJ who (x.t k) 0 = [] from rfl, List.append_nil]; exact hJ.out), hS⟩
            case round =>
              clear hJ hS
              obtain ⟨j, S, hj, rfl, hJ, hS⟩ := hrel
              by_cases hjn : j < n
              · have x0 := (hS.out.t k hlt).2.cell0 hjn
                have e0 := cellOf hS.out.hb 0
                simp at e0
                rw [htk] at x0
                have qj : decide ((j : Int) < (n : Int)) = true := by simp; omega
                have HL := Lib.hid (show (rvT who false false x n k ++ rvJ who (x.t k) j).length < 1000 from by
                  have h1 := rvT_len who false false x n k
                  have h2 := rvJ_len who (x.t k) j
                  have h3 : k * n ≤ 3 * 64 := Nat.mul_le_mul (by omega) hn
                  rw [List.length_append]; omega)
                have HSN := Lib.hid (rvJ_snoc who (x.t k) j)
                by_cases hwho : (j : Int) = who
                · have qw : ((j : Int) != who) = false := by simpa using hwho
                  have HS2 := Lib.hid (show rvJ who (x.t k) (j + 1) = rvJ who (x.t k) j by rw [HSN.out, if_neg (by simp [hwho]), List.append_nil])
                  clear hwho HSN
                  gi_wp2
                  refine ⟨fun _ h => (by cases h), ?_⟩
                  gi_wp2
                  go_roundw
                  case rel => exact ⟨j + 1, S, by omega, by first | rfl | go_num, Lib.hid (by rw [HS2.out]; exact hJ.out), hS⟩
                  case measure => simp [intOf]; omega
                · have qw : ((j : Int) != who) = true := by simpa using hwho
                  by_cases hpos : 0 < x.t k j
                  · have qp : decide ((0 : Int) < ((x.t k j : Nat) : Int)) = true := by simp; omega
                    have qp2 : decide (0 < x.t k j) = true := by simp; omega
                    have HS2 := Lib.hid (show rvJ who (x.t k) (j + 1) = rvJ who (x.t k) j ++ [(j, x.t k j)] by rw [HSN.out, if_pos (by simp [hwho, hpos])])
                    obtain ⟨fn, tmps, assign, body, hy, hR9⟩ := HY.out _ (j, x.t k j) S wr hJ.out HL.out
                    have HR9 := Lib.hid hR9
                    have hiN : iN n j = j := if_pos hjn
                    simp only [hiN] at hy
                    clear hwho HSN hpos hR9
                    gi_wp2
                    refine HR9.out.mono ?_
                    rintro e' W3 (⟨rfl, S', hJ3, f3, hS3⟩ | ⟨rfl, S', hJx3⟩)
                    · have HJ3 := Lib.hid hJ3
                      have HD3 := Lib.hid (hS.out.step f3 hS3)
                      clear hJ3 f3 hS3 HR9
                      gi_wp2
                      go_roundw
                      case rel => exact ⟨j + 1, S', by omega, by first | rfl | go_num, Lib.hid (by rw [HS2.out, ← List.append_assoc]; exact HJ3.out), HD3⟩
                      case measure => simp [intOf]; omega
                    · gi_wp2
                      refine bodyPost_ret (v := .tuple #[]) (results_none rfl _ _ _) rfl ?_
                      exact ⟨⟨_, rfl⟩, .inr ⟨_, S', trivial, hJx3⟩⟩
                  · have qp : decide ((0 : Int) < ((x.t k j : Nat) : Int)) = false := by simp; omega
                    have qp2 : decide (0 < x.t k j) = false := by simp; omega
                    have HS2 := Lib.hid (show rvJ who (x.t k) (j + 1) = rvJ who (x.t k) j by rw [HSN.out, if_neg (by simp [hpos]), List.append_nil])
                    clear hwho HSN hpos
                    gi_wp2
                    refine ⟨fun _ h => (by cases h), ?_⟩
                    gi_wp2
                    go_roundw
                    case rel => exact ⟨j + 1, S, by omega, by first | rfl | go_num, Lib.hid (by rw [HS2.out]; exact hJ.out), hS⟩
                    case measure => simp [intOf]; omega
              · obtain rfl : j = n := by omega
                have qj : decide ((j : Int) < (j : Int)) = false := by simp
                gi_wp2
                go_roundw
                case rel => exact ⟨k + 1, S, by omega, by first | rfl | go_num, Lib.hid (by rw [rvT_snoc, HSK.out, if_neg (by simp)]; exact hJ.out), hS⟩
                case measure => simp [intOf]; omega
        · by_cases hb1 : k % 2 = 0
          · have HSK := Lib.hid (show skp false true k = true by unfold skp; simp <;> omega)
            have q1 : ((u1 : Int) == 0) = true := by simp; omega
            clear hu1 hu2
            gi_wp2
            go_roundw
            case rel => exact ⟨k + 1, S, by omega, by first | rfl | go_num, Lib.hid (by rw [rvT_snoc, HSK.out, if_pos rfl, List.append_nil]; exact hJ.out), hS⟩
            case measure => simp [intOf]; omega
          · by_cases hb2 : k / 2 % 2 = 0
            · have HSK := Lib.hid (show skp false true k = false by unfold skp; simp <;> omega)
              have q1 : ((u1 : Int) == 0) = false := by simp; omega
              have q2 : ((u2 : Int) != 0) = false := by simp; omega
              clear hu1 hu2
              gi_wp2
              clear ix e0 e2 e3
              gi_loopw [35] (fun i wr => ∃ (j : Nat) (S : Nat → Prop), j ≤ n ∧ i = .int .i64 j ∧ Hid (J (rvT who false true x n k ++ rvJ who (x.t k) j) S wr) ∧ Hid (RvS R z ba #[.int .i64 who, .int .i64 cell, .bool false, .bool true] (tF t0 t1 t2 t3) n x wr S)) (fun i _ => n - (intOf i).toNat)
              case atStart => exact ⟨0, S, by omega, rfl, Lib.hid (by rw [show rvJ who (x.t k) 0 = [] from rfl, List.append_nil]; exact hJ.out), hS⟩
              case round =>
                clear hJ hS
                obtain ⟨j, S, hj, rfl, hJ, hS⟩ := hrel
                by_cases hjn : j < n
                · have x0 := (hS.out.t k hlt).2.cell0 hjn
                  have e0 := cellOf hS.out.hb 0
                  simp at e0
                  rw [htk] at x0
                  have qj : decide ((j : Int) < (n : Int)) = true := by simp; omega
                  have HL := Lib.hid (show (rvT who false true x n k ++ rvJ who (x.t k) j).length < 1000 from by
                    have h1 := rvT_len who false true x n k
                    have h2 := rvJ_len who (x.t k) j
                    have h3 : k * n ≤ 3 * 64 := Nat.mul_le_mul (by omega) hn
                    rw [List.length_append]; omega)
                  have HSN := Lib.hid (rvJ_snoc who (x.t k) j)
                  by_cases hwho : (j : Int) = who
                  · have qw : ((j : Int) != who) = false := by simpa using hwho
                    have HS2 := Lib.hid (show rvJ who (x.t k) (j + 1) = rvJ who (x.t k) j by rw [HSN.out, if_neg (by simp [hwho]), List.append_nil])
                    clear hwho HSN
                    gi_wp2
                    refine ⟨fun _ h => (by cases h), ?_⟩
                    gi_wp2
                    go_roundw
                    case rel => exact ⟨j + 1, S, by omega, by first | rfl | go_num, Lib.hid (by rw [HS2.out]; exact hJ.out), hS⟩
                    case measure => simp [intOf]; omega
                  · have qw : ((j : Int) != who) = true := by simpa using hwho
                    by_cases hpos : 0 < x.t k j
                    · have qp : decide ((0 : Int) < ((x.t k j : Nat) : Int)) = true := by simp; omega
                      have qp2 : decide (0 < x.t k j) = true := by simp; omega
                      have HS2 := Lib.hid (show rvJ who (x.t k) (j + 1) = rvJ who (x.t k) j ++ [(j, x.t k j)] by rw [HSN.out, if_pos (by simp [hwho, hpos])])
                      obtain ⟨fn, tmps, assign, body, hy, hR9⟩ := HY.out _ (j, x.t k j) S wr hJ.out HL.out
                      have HR9 := Lib.hid hR9
                      have hiN : iN n j = j := if_pos hjn
                      simp only [hiN] at hy
                      clear hwho HSN hpos hR9
                      gi_wp2
                      refine HR9.out.mono ?_
                      rintro e' W3 (⟨rfl, S', hJ3, f3, hS3⟩ | ⟨rfl, S', hJx3⟩)
                      · have HJ3 := Lib.hid hJ3
                        have HD3 := Lib.hid (hS.out.step f3 hS3)
                        clear hJ3 f3 hS3 HR9
                        gi_wp2
                        go_roundw
                        case rel => exact ⟨j + 1, S', by omega, by first | rfl | go_num, Lib.hid (by rw [HS2.out, ← List.append_assoc]; exact HJ3.out), HD3⟩
                        case measure => simp [intOf]; omega
                      · gi_wp2
                        refine bodyPost_ret (v := .tuple #[]) (results_none rfl _ _ _) rfl ?_
                        exact ⟨⟨_, rfl⟩, .inr ⟨_, S', trivial, hJx3⟩⟩
                    · have qp : decide ((0 : Int) < ((x.t k j : Nat) : Int)) = false := by simp; omega
                      have qp2 : decide (0 < x.t k j) = false := by simp; omega
                      have HS2 := Lib.hid (show rvJ who (x.t k) (j + 1) = rvJ who (x.t k) j by rw [HSN.out, if_neg (by simp [hpos]), List.append_nil])
                      clear hwho HSN hpos
                      gi_wp2
                      refine ⟨fun _ h => (by cases h), ?_⟩
                      gi_wp2
                      go_roundw
                      case rel => exact ⟨j + 1, S, by omega, by first | rfl | go_num, Lib.hid (by rw [HS2.out]; exact hJ.out), hS⟩
                      case measure => simp [intOf]; omega
                · obtain rfl : j = n := by omega
                  have qj : decide ((j : Int) < (j : Int)) = false := by simp
                  gi_wp2
                  go_roundw
                  case rel => exact ⟨k + 1, S, by omega, by first | rfl | go_num, Lib.hid (by rw [rvT_snoc, HSK.out, if_neg (by simp)]; exact hJ.out), hS⟩
                  case measure => simp [intOf]; omega
            · have HSK := Lib.hid (show skp false true k = true by unfold skp; simp <;> omega)
              have q1 : ((u1 : Int) == 0) = false := by simp; omega
              have q2 : ((u2 : Int) != 0) = true := by simp; omega
              clear hu1 hu2
              gi_wp2
              go_roundw
              case rel => exact ⟨k + 1, S, by omega, by first | rfl | go_num, Lib.hid (by rw [rvT_snoc, HSK.out, if_pos rfl, List.append_nil]; exact hJ.out), hS⟩
              case measure => simp [intOf]; omega
      · cases at_
        · have HSK := Lib.hid (show skp true false k = false by unfold skp; simp <;> omega)
          clear hu1 hu2
          gi_wp2
          clear ix e0 e2 e3
          gi_loopw [35] (fun i wr => ∃ (j : Nat) (S : Nat → Prop), j ≤ n ∧ i = .int .i64 j ∧ Hid (J (rvT who true false x n k ++ rvJ who (x.t k) j) S wr) ∧ Hid (RvS R z ba #[.int .i64 who, .int .i64 cell, .bool true, .bool false] (tF t0 t1 t2 t3) n x wr S)) (fun i _ => n - (intOf i).toNat)
          case atStart => exact ⟨0, S, by omega, rfl, Lib.hid (by rw [show rvJ who (x.t k) 0 = [] from rfl, List.append_nil]; exact hJ.out), hS⟩
          case round =>
            clear hJ hS
            obtain ⟨j, S, hj, rfl, hJ, hS⟩ := hrel
            by_cases hjn : j < n
            · have x0 := (hS.out.t k hlt).2.cell0 hjn
              have e0 := cellOf hS.out.hb 0
              simp at e0
              rw [htk] at x0
              have qj : decide ((j : Int) < (n : Int)) = true := by simp; omega
              have HL := Lib.hid (show (rvT who true false x n k ++ rvJ who (x.t k) j).length < 1000 from by
                have h1 := rvT_len who true false x n k
                have h2 := rvJ_len who (x.t k) j
                have h3 : k * n ≤ 3 * 64 := Nat.mul_le_mul (by omega) hn
                rw [List.length_append]; omega)
              have HSN := Lib.hid (rvJ_snoc who (x.t k) j)
              by_cases hwho : (j : Int) = who
              · have qw : ((j : Int) != who) = false := by simpa using hwho
                have HS2 := Lib.hid (show rvJ who (x.t k) (j + 1) = rvJ who (x.t k) j by rw [HSN.out, if_neg (by simp [hwho]), List.append_nil])
                clear hwho HSN
                gi_wp2
                refine ⟨fun _ h => (by cases h), ?_⟩
                gi_wp2
                go_roundw
                case rel => exact ⟨j + 1, S, by omega, by first | rfl | go_num, Lib.hid (by rw [HS2.out]; exact hJ.out), hS⟩
                case measure => simp [intOf]; omega
              · have qw : ((j : Int) != who) = true := by simpa using hwho
                by_cases hpos : 0 < x.t k j
                · have qp : decide ((0 : Int) < ((x.t k j : Nat) : Int)) = true := by simp; omega
                  have qp2 : decide (0 < x.t k j) = true := by simp; omega
                  have HS2 := Lib.hid (show rvJ who (x.t k) (j + 1) = rvJ who (x.t k) j ++ [(j, x.t k j)] by rw [HSN.out, if_pos (by simp [hwho, hpos])])
                  obtain ⟨fn, tmps, assign, body, hy, hR9⟩ := HY.out _ (j, x.t k j) S wr hJ.out HL.out
                  have HR9 := Lib.hid hR9
                  have hiN : iN n j = j := if_pos hjn
                  simp only [hiN] at hy
                  clear hwho HSN hpos hR9
                  gi_wp2
                  refine HR9.out.mono ?_
                  rintro e' W3 (⟨rfl, S', hJ3, f3, hS3⟩ | ⟨rfl, S', hJx3⟩)
                  · have HJ3 := Lib.hid hJ3
                    have HD3 := Lib.hid (hS.out.step f3 hS3)
                    clear hJ3 f3 hS3 HR9
                    gi_wp2
                    go_roundw
                    case rel => exact ⟨j + 1, S', by omega, by first | rfl | go_num, Lib.hid (by rw [HS2.out, ← List.append_assoc]; exact HJ3.out), HD3⟩
                    case measure => simp [intOf]; omega
                  · gi_wp2
                    refine bodyPost_ret (v := .tuple #[]) (results_none rfl _ _ _) rfl ?_
                    exact ⟨⟨_, rfl⟩, .inr ⟨_, S', trivial, hJx3⟩⟩
                · have qp : decide ((0 : Int) < ((x.t k j : Nat) : Int)) = false := by simp; omega
                  have qp2 : decide (0 < x.t k j) = false := by simp; omega
                  have HS2 := Lib.hid (show rvJ who (x.t k) (j + 1) = rvJ who (x.t k) j by rw [HSN.out, if_neg (by simp [hpos]), List.append_nil])
                  clear hwho HSN hpos
                  gi_wp2
                  refine ⟨fun _ h => (by cases h), ?_⟩
                  gi_wp2
                  go_roundw
                  case rel => exact ⟨j + 1, S, by omega, by first | rfl | go_num, Lib.hid (by rw [HS2.out]; exact hJ.out), hS⟩
                  case measure => simp [intOf]; omega
            · obtain rfl : j = n := by omega
              have qj : decide ((j : Int) < (j : Int)) = false := by simp
              gi_wp2
              go_roundw
              case rel => exact ⟨k + 1, S, by omega, by first | rfl | go_num, Lib.hid (by rw [rvT_snoc, HSK.out, if_neg (by simp)]; exact hJ.out), hS⟩
              case measure => simp [intOf]; omega
        · by_cases hb2 : k / 2 % 2 = 0
          · have HSK := Lib.hid (show skp true true k = false by unfold skp; simp <;> omega)
            have q2 : ((u2 : Int) != 0) = false := by simp; omega
            clear hu1 hu2
            gi_wp2
            clear ix e0 e2 e3
            gi_loopw [35] (fun i wr => ∃ (j : Nat) (S : Nat → Prop), j ≤ n ∧ i = .int .i64 j ∧ Hid (J (rvT who true true x n k ++ rvJ who (x.t k) j) S wr) ∧ Hid (RvS R z ba #[.int .i64 who, .int .i64 cell, .bool true, .bool true] (tF t0 t1 t2 t3) n x wr S)) (fun i _ => n - (intOf i).toNat)
            case atStart => exact ⟨0, S, by omega, rfl, Lib.hid (by rw [show rvJ who (x.t k) 0 = [] from rfl, List.append_nil]; exact hJ.out), hS⟩
            case round =>
              clear hJ hS
              obtain ⟨j, S, hj, rfl, hJ, hS⟩ := hrel
              by_cases hjn : j < n
              · have x0 := (hS.out.t k hlt).2.cell0 hjn
                have e0 := cellOf hS.out.hb 0
                simp at e0
                rw [htk] at x0
                have qj : decide ((j : Int) < (n : Int)) = true := by simp; omega
                have HL := Lib.hid (show (rvT who true true x n k ++ rvJ who (x.t k) j).length < 1000 from by
                  have h1 := rvT_len who true true x n k
                  have h2 := rvJ_len who (x.t k) j
                  have h3 : k * n ≤ 3 * 64 := Nat.mul_le_mul (by omega) hn
                  rw [List.length_append]; omega)
                have HSN := Lib.hid (rvJ_snoc who (x.t k) j)
                by_cases hwho : (j : Int) = who
                · have qw : ((j : Int) != who) = false := by simpa using hwho
                  have HS2 := Lib.hid (show rvJ who (x.t k) (j + 1) = rvJ who (x.t k) j by rw [HSN.out, if_neg (by simp [hwho]), List.append_nil])
                  clear hwho HSN
                  gi_wp2
                  refine ⟨fun _ h => (by cases h), ?_⟩
                  gi_wp2
                  go_roundw
                  case rel => exact ⟨j + 1, S, by omega, by first | rfl | go_num, Lib.hid (by rw [HS2.out]; exact hJ.out), hS⟩
                  case measure => simp [intOf]; omega
                · have qw : ((j : Int) != who) = true := by simpa using hwho
                  by_cases hpos : 0 < x.t k j
                  · have qp : decide ((0 : Int) < ((x.t k j : Nat) : Int)) = true := by simp; omega
                    have qp2 : decide (0 < x.t k j) = true := by simp; omega
                    have HS2 := Lib.hid (show rvJ who (x.t k) (j + 1) = rvJ who (x.t k) j ++ [(j, x.t k j)] by rw [HSN.out, if_pos (by simp [hwho, hpos])])
                    obtain ⟨fn, tmps, assign, body, hy, hR9⟩ := HY.out _ (j, x.t k j) S wr hJ.out HL.out
                    have HR9 := Lib.hid hR9
                    have hiN : iN n j = j := if_pos hjn
                    simp only [hiN] at hy
                    clear hwho HSN hpos hR9
                    gi_wp2
                    refine HR9.out.mono ?_
                    rintro e' W3 (⟨rfl, S', hJ3, f3, hS3⟩ | ⟨rfl, S', hJx3⟩)
                    · have HJ3 := Lib.hid hJ3
                      have HD3 := Lib.hid (hS.out.step f3 hS3)
                      clear hJ3 f3 hS3 HR9
                      gi_wp2
                      go_roundw
                      case rel => exact ⟨j + 1, S', by omega, by first | rfl | go_num, Lib.hid (by rw [HS2.out, ← List.append_assoc]; exact HJ3.out), HD3⟩
                      case measure => simp [intOf]; omega
                    · gi_wp2
                      refine bodyPost_ret (v := .tuple #[]) (results_none rfl _ _ _) rfl ?_
                      exact ⟨⟨_, rfl⟩, .inr ⟨_, S', trivial, hJx3⟩⟩
                  · have qp : decide ((0 : Int) < ((x.t k j : Nat) : Int)) = false := by simp; omega
                    have qp2 : decide (0 < x.t k j) = false := by simp; omega
                    have HS2 := Lib.hid (show rvJ who (x.t k) (j + 1) = rvJ who (x.t k) j by rw [HSN.out, if_neg (by simp [hpos]), List.append_nil])
                    clear hwho HSN hpos
                    gi_wp2
                    refine ⟨fun _ h => (by cases h), ?_⟩
                    gi_wp2
                    go_roundw
                    case rel => exact ⟨j + 1, S, by omega, by first | rfl | go_num, Lib.hid (by rw [HS2.out]; exact hJ.out), hS⟩
                    case measure => simp [intOf]; omega
              · obtain rfl : j = n := by omega
                have qj : decide ((j : Int) < (j : Int)) = false := by simp
                gi_wp2
                go_roundw
                case rel => exact ⟨k + 1, S, by omega, by first | rfl | go_num, Lib.hid (by rw [rvT_snoc, HSK.out, if_neg (by simp)]; exact hJ.out), hS⟩
                case measure => simp [intOf]; omega
          · have HSK := Lib.hid (show skp true true k = true by unfold skp; simp <;> omega)
            have q2 : ((u2 : Int) != 0) = true := by simp; omega
            clear hu1 hu2
            gi_wp2
            go_roundw
            case rel => exact ⟨k + 1, S, by omega, by first | rfl | go_num, Lib.hid (by rw [rvT_snoc, HSK.out, if_pos rfl, List.append_nil]; exact hJ.out), hS⟩
            case measure => simp [intOf]; omega
    · obtain rfl : k = 4 := by omega
      gi_wp2
      go_end0
      exact ⟨⟨_, rfl⟩, .inl ⟨_, S, rfl, hJ.out⟩⟩
end Go.Proofs.Ytmfkomdfknflgaa
