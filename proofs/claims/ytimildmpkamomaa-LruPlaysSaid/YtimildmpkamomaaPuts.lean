/- LruPuts: the walk. -/
import Derived.Test.YtimildmpkamomaaLaw1
namespace Go.Proofs.Ytimildmpkamomaa
open Go.RowKit Go.Maps Go.ChangeShapes Go.WideShapes Go.ChangeAt Go.WideMaps Go.WideElems

/-- What a Put leaves. -/
def PutE (size : Int) (E : List Ent) (k v : Int) : List Ent := if ((rm E k ++ [(k, v)]).length : Int) ≤ size then rm E k ++ [(k, v)] else (rm E k ++ [(k, v)]).drop 1

theorem PutE_len {size : Int} {E : List Ent} (k v : Int) (_h0 : 0 ≤ size) (h : (E.length : Int) ≤ size) : ((PutE size E k v).length : Int) ≤ size := by
  unfold PutE
  split
  · assumption
  · have := rm_len E k
    rw [List.length_drop]
    simp only [List.length_append, List.length_cons, List.length_nil]
    omega
theorem UniqK.drop {E : List Ent} (h : UniqK E) (n : Nat) : UniqK (E.drop n) := by
  unfold UniqK at *
  exact h.sublist ((List.drop_sublist n E).map _)
theorem PutE_uniq {size : Int} {E : List Ent} (k v : Int) (h : UniqK E) : UniqK (PutE size E k v) := by
  unfold PutE
  split
  · exact h.snoc k v
  · exact (h.snoc k v).drop 1
theorem rm_last {F : List Ent} {k : Int} (a : Int) (h : k ∉ F.map (·.1)) : rm (F ++ [(k, a)]) k = F := by
  unfold rm
  rw [List.eraseP_append_right _ (fun p hp => by
    have : p.1 ≠ k := fun e => h (by rw [← e]; exact List.mem_map_of_mem hp)
    simpa using this)]
  simp
theorem kys_last (F : List Ent) (k a : Int) : kys (F ++ [(k, a)]).reverse = (k :: F.reverse.map (·.1)).map (Value.int .i64) := by
  unfold kys
  simp
theorem frB {w w' : World} (hb : Below w.heap.size w w') : Fr (fun _ => False) w w' := ⟨hb.os, hb.tape, hb.output, hb.size, fun k hk _ => hb.block k hk⟩
theorem Gr.not {S : Nat → Prop} {w w' : World} {k : Nat} (h : ¬ S k) (hk : k < w.heap.size) : ¬ Gr S w w' k := by
  rintro (h1 | h1)
  · exact h h1
  · omega
theorem hit_last {F : List Ent} {k : Int} (a : Int) (h : k ∉ F.map (·.1)) : hitV (F ++ [(k, a)]) k = some a := by
  have hf : fndN (F ++ [(k, a)]) k = some F.length := by
    unfold fndN
    rw [List.findIdx?_eq_some_iff_getElem]
    refine ⟨by simp, by simp, fun j hj => ?_⟩
    rw [List.getElem_append_left hj]
    have : F[j].1 ≠ k := fun e => h (by rw [← e]; exact List.mem_map_of_mem (List.getElem_mem hj))
    simpa using this
  unfold hitV
  rw [hf]
  simp
theorem PutE_form {size : Int} {E : List Ent} (k a : Int) (h : UniqK E) (hl : (E.length : Int) ≤ size) (h1 : 1 ≤ size) : ∃ F, PutE size E k a = F ++ [(k, a)] ∧ k ∉ F.map (·.1) ∧ ((F.length : Int) + 1 ≤ size) := by
  have hn := rm_not_mem h k
  have hlr := rm_len E k
  unfold PutE
  split
  · rename_i h2
    refine ⟨rm E k, rfl, hn, by simp at h2; omega⟩
  · rename_i h2
    simp only [List.length_append, List.length_cons, List.length_nil] at h2
    refine ⟨(rm E k).drop 1, ?_, fun hm => hn ?_, by rw [List.length_drop]; omega⟩
    · rw [List.drop_append_of_le_length (by omega)]
    · rw [List.map_drop] at hm
      exact List.mem_of_mem_drop hm

/-- A cache between two calls. -/
def CT (w wr : World) (b : Nat) (size : Int) (E : List Ent) : Prop := ∃ S, IsCa 44 50 wr b S size E ∧ (∀ k, S k → w.heap.size ≤ k) ∧ Below w.heap.size w wr
theorem CT.below {w wr : World} {b : Nat} {size : Int} {E : List Ent} (h : CT w wr b size E) : Below w.heap.size w wr := by obtain ⟨_, _, _, h⟩ := h; exact h
theorem CT.fr0 {w wr w' : World} {b : Nat} {size : Int} {E : List Ent} (h : CT w wr b size E) (f : Fr (fun _ => False) wr w') : CT w w' b size E := by
  obtain ⟨S, h1, h2, h3⟩ := h
  exact ⟨S, h1.fr f (by simp), h2, h3.trans (f.below h3.size (by simp))⟩
theorem CT.new (w wr : World) (n : Int) (h : Below w.heap.size w wr) : CT w (wr.alloc (.cells #[.int .i64 n, .slice none 0 0] 44)) wr.heap.size n [] :=
  ⟨_, IsCa.new 44 50 wr n, fun k e => by have := h.size; omega, h.alloc h.size _⟩
theorem CT.put {w wr : World} {b : Nat} {size : Int} {E : List Ent} (h : CT w wr b size E) (k v : Int) (hn : E.length ≤ 1400) :
    Calls Try.prog 9 #[.pointer (some ⟨b, 0, none⟩), .int .i64 k, .int .i64 v] wr fun e w' =>
      e = .returned (.tuple (if ((rm E k ++ [(k, v)]).length : Int) ≤ size then #[.int .i64 0, .bool false] else #[.int .i64 (((rm E k ++ [(k, v)])[0]?.map (·.1)).getD 0), .bool true])) ∧ CT w w' b size (PutE size E k v) := by
  obtain ⟨S, h1, h2, h3⟩ := h
  refine (Put_any b S size E k v wr h1 hn).mono ?_
  rintro e w' ⟨rfl, f, k1⟩
  exact ⟨rfl, _, k1, Gr.ge h2 h3.size, h3.trans (f.below h3.size (fun j hj e => by have := h2 j e; omega))⟩

set_option maxHeartbeats 3000000 in
set_option maxRecDepth 100000 in
theorem puts_any (size : Int) (v : Value) (l : List ActD) (k a b : Int) (w : World) (_h1 : (Lit.int .i64 size).wf = true) (hl : RowR 3 ActR w v l) (_h3 : (Lit.int .i64 k).wf = true) (_h4 : (Lit.int .i64 a).wf = true) (_h5 : (Lit.int .i64 b).wf = true) :
    Calls Try.prog 5 #[.int .i64 size, v, .int .i64 k, .int .i64 a, .int .i64 b] w fun e w' => e = .returned (.bool true) ∧ Below w.heap.size w w' := by
  obtain ⟨p, cp, rfl, g1, g2, g3⟩ := hl
  unfold maxLen at g2
  have G3 := Lib.hid g3
  clear g3
  by_cases c1 : size < 1
  · have d1 : decide (size < 1) = true := by simpa using c1
    go_enter Try.func5, Try.ntmps5
    go_wp2_with fail
    refine (alive_any _).mono ?_
    rintro e w1 ⟨rfl, b1⟩
    have B1 := Lib.hid b1
    clear b1
    go_wp2_with fail
    go_ret
    exact ⟨rfl, B1.out.below (Nat.le_refl _) (by simp)⟩
  have d1 : decide (size < 1) = false := by simp; omega
  by_cases c2 : 20 < size
  · have d2 : decide (20 < size) = true := by simpa using c2
    go_enter Try.func5, Try.ntmps5
    go_wp2_with fail
    refine (alive_any _).mono ?_
    rintro e w1 ⟨rfl, b1⟩
    have B1 := Lib.hid b1
    clear b1
    go_wp2_with fail
    go_ret
    exact ⟨rfl, B1.out.below (Nat.le_refl _) (by simp)⟩
  have d2 : decide (20 < size) = false := by simp; omega
  by_cases c3 : 60 < l.length
  · have d3 : decide ((60 : Int) < (l.length : Int)) = true := by simp; omega
    go_enter Try.func5, Try.ntmps5
    go_wp2_with fail
    refine (alive_any _).mono ?_
    rintro e w1 ⟨rfl, b1⟩
    have B1 := Lib.hid b1
    clear b1
    go_wp2_with fail
    go_ret
    exact ⟨rfl, B1.out.below (Nat.le_refl _) (by simp)⟩
  have d3 : decide ((60 : Int) < (l.length : Int)) = false := by simp; omega
  have hcs : capS size = size := by unfold capS; omega
  have NN := Lib.hid (fun W => New_any size W)
  rw [hcs] at NN
  clear hcs
  go_enter Try.func5, Try.ntmps5
  go_wp2_with fail
  refine (alive_any _).mono ?_
  rintro e w1 ⟨rfl, f1⟩
  have B1 := Lib.hid (f1.below (Nat.le_refl _) (by simp))
  clear f1
  go_wp2_with fail
  refine (NN.out _).mono ?_
  rintro e w2 ⟨rfl, rfl⟩
  have C0 := Lib.hid (CT.new w w1 size B1.out)
  generalize w1.alloc (.cells #[.int .i64 size, .slice none 0 0] 44) = w2 at *
  generalize w1.heap.size = bb at *
  clear B1 NN
  go_wp2_with fail
  go_loopw [13] (fun i wr => ∃ (j : Nat) (E : List Ent), j ≤ l.length ∧ i = .int .i64 j ∧ (E.length : Int) ≤ size ∧ Hid (UniqK E) ∧ Hid (CT w wr bb size E)) (fun i _ => l.length - (intOf i).toNat)
  case atStart => exact ⟨0, [], Nat.zero_le _, rfl, by simp only [List.length_nil]; omega, List.nodup_nil, C0.out⟩
  case round =>
    obtain ⟨j, E, hj, rfl, hEl, hU, hC⟩ := hrel
    clear C0
    by_cases hlt : j < l.length
    · obtain ⟨⟨x0, x1, x2⟩, hx⟩ : ∃ x, l[j]? = some x := ⟨l[j], by simp [hlt]⟩
      obtain ⟨g, off, cs, rfl, hg, hcl, hcc, rfl⟩ := G3.out j _ hx
      have a1 := hcc 1 (by omega)
      have a2 := hcc 2 (by omega)
      simp at a1 a2
      have y1 := (hC.out.below.cell (p := ⟨g, off + j * 3 + 1, none⟩) hg).trans a1
      have y2 := (hC.out.below.cell (p := ⟨g, off + j * 3 + 2, none⟩) hg).trans a2
      have i1 : (j : Int) < (l.length : Int) := by omega
      have PP := Lib.hid ((hC.out.fr0 (Fr.refl (fun _ => False) wr).drew).put x1 x2 (by omega))
      have HL := Lib.hid (PutE_len x1 x2 (by omega) hEl)
      have HU := Lib.hid (PutE_uniq (size := size) x1 x2 hU.out)
      clear hcc hx hcl a1 a2
      generalize PutE size E x1 x2 = E2 at *
      generalize (if ((rm E x1 ++ [(x1, x2)]).length : Int) ≤ size then #[Value.int .i64 0, .bool false] else #[.int .i64 (((rm E x1 ++ [(x1, x2)])[0]?.map (·.1)).getD 0), .bool true]) = rv at *
      go_wp2_with fail
      go_region_with (go_at_call 9; refine Calls.mono PP.out ?_; rintro e w6 ⟨rfl, k6⟩; have K6 := Lib.hid k6; clear k6)
      all_goals
        go_wp2_with fail
        go_roundw
        case rel => exact ⟨j + 1, E2, by omega, by go_num, HL.out, HU.out, K6.out⟩
        case measure => simp [intOf]; omega
    · have i1 : ¬ (j : Int) < (l.length : Int) := by omega
      obtain ⟨F, hF1, hF2, hF3⟩ := PutE_form k a hU.out hEl (by omega)
      have P1 := Lib.hid (hC.out.put k a (by omega))
      rw [hF1] at P1
      have HF2 := Lib.hid hF2
      have HRM := Lib.hid (rm_last a hF2)
      have HRM2 := Lib.hid (rm_last b hF2)
      have HHIT := Lib.hid (hit_last b hF2)
      clear hF1 hF2 hC hU
      generalize (if ((rm E k ++ [(k, a)]).length : Int) ≤ size then #[Value.int .i64 0, .bool false] else #[.int .i64 (((rm E k ++ [(k, a)])[0]?.map (·.1)).getD 0), .bool true]) = rv at *
      go_wp2_with fail
      refine P1.out.mono ?_
      rintro e w4 ⟨rfl, S, k4, hS4, b4⟩
      have P2 := Lib.hid (Keys_any bb S size _ w4 k4 (by simp; omega))
      have K4 := Lib.hid k4
      have HS4 := Lib.hid hS4
      have B4 := Lib.hid b4
      clear k4 hS4 b4 P1
      go_wp2_with fail
      refine P2.out.mono ?_
      rintro e w5 ⟨⟨sp, c, rfl, row5⟩, b5⟩
      have hLL := kys_last F k a
      have hLb := kys_last F k b
      obtain ⟨n, hn⟩ : ∃ n, n = (F ++ [(k, a)]).length := ⟨_, rfl⟩
      have hnF : n = F.length + 1 := by rw [hn]; simp
      obtain ⟨L, hL⟩ : ∃ L, L = k :: F.reverse.map (·.1) := ⟨_, rfl⟩
      have hLn : L.length = n := by rw [hL, hnF]; simp
      rw [← hn, hLL, ← hL, ← hLn] at row5
      rw [← hn]
      have R5 := RdI.of row5
      obtain ⟨g, off, cap, hv, hc1, hc2, hg, hgb, _, _⟩ := (OwnsWin.of_row row5).cells (by omega)
      cases hv
      have x0 : w5.cell? ⟨g, off + 0, none⟩ = some (.int .i64 k) := by
        obtain ⟨g', off', e, _, hc⟩ := R5 0 k (by rw [hL]; rfl)
        cases e
        exact hc
      have hnS : ¬ S g := fun e => by have := K4.out.lt g e; omega
      have X0 := Lib.hid x0
      have f45 : Fr (fun _ => False) w4 w5 := frB b5
      have K5 := Lib.hid (K4.out.fr f45 (by simp))
      have B5 := Lib.hid (B4.out.trans (b5.mono B4.out.size))
      have P3 := Lib.hid (Put_any bb S size _ k b w5 K5.out (by simp; omega))
      rw [HRM.out] at P3
      have hlF : ((F ++ [(k, b)]).length : Int) ≤ size := by simp; omega
      rw [if_pos hlF, if_pos hlF] at P3
      have R5' := Lib.hid R5
      have HLn := Lib.hid hLn
      have HLb := Lib.hid hLb
      have HLe := Lib.hid hL
      have hnn : (0 : Int) < (n : Int) := by omega
      have hnn2 : 0 < n := by omega
      rw [hLn] at hc1
      unfold maxLen at hc2
      clear R5 row5 b5 x0 K4 P2 B4 f45 hLb hLL hL hn hlF
      have HNF := Lib.hid hnF
      have hn21 : n ≤ 20 := by omega
      clear hnF hLn
      go_wp2_with fail
      refine P3.out.mono ?_
      rintro e w6 ⟨rfl, f6, k6⟩
      have P4 := Lib.hid (Get_yes bb _ size _ k b w6 k6 (by simp; have := HNF.out; omega) HHIT.out)
      rw [HRM2.out] at P4
      have F6 := Lib.hid f6
      have hnS6 := Gr.not (w := w5) (w' := w6) hnS hg
      clear f6 k6 P3
      go_wp2_with fail
      refine P4.out.mono ?_
      rintro e w7 ⟨rfl, f7, k7⟩
      have P5 := Lib.hid (Keys_any bb _ size _ w7 k7 (by simp; have := HNF.out; omega))
      have R7 := Lib.hid ((R5'.out.fr F6.out (fun g' off' e => by cases e; exact hnS)).fr f7 (fun g' off' e => by cases e; exact hnS6))
      have f57 : Fr S w5 w7 := F6.out.step f7 (fun j e => by
        rcases e with e | e
        · exact .inl e
        · exact .inr e.1)
      have B7 := Lib.hid (B5.out.trans (f57.below B5.out.size (fun j hj e => by have := HS4.out j e; omega)))
      have X7 := Lib.hid ((f57.cell (p := ⟨g, off + 0, none⟩) hg hnS).trans X0.out)
      have hg7 : g < w7.heap.size := Nat.lt_of_lt_of_le hg f57.size
      have K7 := Lib.hid k7
      have qb : (b == b) = true := by simp
      have qk : (k == k) = true := by simp
      clear f57 f7 k7 P4 B5 X0
      go_wp2_with fail
      refine P5.out.mono ?_
      rintro e w8 ⟨⟨sp8, c8, rfl, row8⟩, b8⟩
      have hn8 : (F ++ [(k, b)]).length = n := by rw [HNF.out]; simp
      rw [hn8, HLb.out, ← HLe.out, ← HLn.out] at row8
      rw [hn8]
      have R8 := RdI.of row8
      have P6 := Lib.hid (sameInts_any sp8 (some ⟨g, off, none⟩) c8 c L w8 R8 (R7.out.fr (frB b8) (by simp)) (by have := HLn.out; omega))
      rw [HLn.out] at P6
      have K8 := Lib.hid (K7.out.fr (frB b8) (by simp))
      have B8 := Lib.hid (B7.out.trans (b8.mono B7.out.size))
      have X8 := Lib.hid ((b8.cell (p := ⟨g, off + 0, none⟩) hg7).trans X7.out)
      have hg8 : g < w8.heap.size := Nat.lt_of_lt_of_le hg7 b8.size
      clear row8 R8 b8 P5 R7 K7 B7 X7 hn8
      go_wp2_with fail
      refine P6.out.mono ?_
      rintro e w9 ⟨rfl, f9⟩
      have x9 := (f9.cell (p := ⟨g, off + 0, none⟩) hg8 (by simp)).trans X8.out
      rw [Nat.add_zero] at x9
      have PL := Lib.hid (Len_any bb _ size _ w9 (K8.out.fr f9 (by simp)))
      have B9 := Lib.hid (B8.out.trans (f9.below B8.out.size (by simp)))
      have hle : ((F ++ [(k, b)]).length : Int) ≤ size := by simp; omega
      have d9 : decide (((F ++ [(k, b)]).length : Int) ≤ size) = true := by simpa using hle
      clear f9 P6 X8 B8 K8
      generalize (F ++ [(k, b)]).length = m at *
      go_wp2_with fail
      refine PL.out.mono ?_
      rintro e w10 ⟨rfl, rfl⟩
      go_wp2_with fail
      go_ret
      exact ⟨rfl, B9.out⟩
end Go.Proofs.Ytimildmpkamomaa
