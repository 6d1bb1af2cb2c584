/- A node that is handed in, opened; its slices' sizes by the form's reach. -/
import Derived.Test.YtdbhcogafhhlnaaDLaw1
import Derived.Test.YtdbhcogafhhlnaaRows2
import Derived.SliceStrings
import Derived.SizedLaws
import Derived.Deep.SlicePairs
namespace Go.Proofs.Ytdbhcogafhhlnaa
open Go.RowKit Go.Maps Go.ChangeShapes Go.WideShapes Go.ChangeAt Go.WideMaps Go.WideElems

section
variable {H : Type} {enc : TypeId × Value → H} {w : World}

theorem cls_open {n : Nat} {v : Value} {y : DataW H × List MemPlace} (h : DataW.trod enc Try.prog w 0 (fun _ => true) true n 22 [v] = some y) (hs : ∀ k ∈ y.1.weights Try.prog 22, k ≤ reachBytes) :
    ∃ (l : List ByteArray) (sp : Option Addr) (c : Nat), v = .slice sp l.length c ∧ Src w 1 sp l.length (l.map Value.string) ∧ l.length * 16 ≤ 140737488351232 := by
  rcases open_strings Try.underlying22 Try.underlying9 (by kernel_rfl) h with ⟨hcs, _⟩ | ⟨a, len, cap, ss, hcs, _, hl, hm, hz, rfl, hcell, _⟩
  · simp at hcs
    subst hcs
    exact ⟨[], none, 0, rfl, Src.none w 1, by simp⟩
  · simp at hcs
    subst hcs
    simp only [if_true] at hz
    have hbz : Try.prog.bytesOf 9 = 16 := by kernel_rfl
    have h1 := hs ((((strs (ss.take len) : List (DataW H)).length + (strs (ss.drop len) : List (DataW H)).length)) * Try.prog.bytesOf 9) (by simp [DataW.weights, Try.underlying22])
    rw [hbz] at h1
    have hl1 : (ss.take len).length = len := by rw [List.length_take]; omega
    have h2 : (strs (ss.take len) : List (DataW H)).length = len := by simp [strs]; omega
    rw [h2] at h1
    have h3 : len * 16 ≤ 140737488351232 := by unfold reachBytes at h1; omega
    refine ⟨ss.take len, some a, cap, by rw [hl1], ⟨by simp, (by intro e; cases e), fun ad e j u hj => ?_⟩, by rw [hl1]; exact h3⟩
    cases e
    rw [List.getElem?_map] at hj
    cases hq : (ss.take len)[j]? with
    | none => rw [hq] at hj; cases hj
    | some s =>
      rw [hq] at hj
      cases hj
      have hjl : j < len := by rw [← hl1]; exact (List.getElem?_eq_some_iff.1 hq).1
      rw [List.getElem?_take, if_pos hjl] at hq
      rw [hcell j (by omega), List.getD_eq_getElem?_getD, hq]
      rfl

theorem att_open {n : Nat} {v : Value} {y : DataW H × List MemPlace} (h : DataW.trod enc Try.prog w 0 (fun _ => true) true n 23 [v] = some y) (hs : ∀ k ∈ y.1.weights Try.prog 23, k ≤ reachBytes) :
    ∃ (l : List (ByteArray × ByteArray)) (sp : Option Addr) (c : Nat), v = .slice sp l.length c ∧ Src w 2 sp l.length (attL l) ∧ l.length * 32 ≤ 140737488351232 ∧ ∀ p ∈ l, p.1.size ≤ maxLen := by
  rcases Go.Deep.open_slice_pairs Try.underlying23 Try.underlying38 (by kernel_rfl) rfl rfl (by kernel_rfl) (by kernel_rfl) h with ⟨hcs, _⟩ | ⟨a, len, cap, m, n', V0, V1, D0, D1, P0, P1, hcs, _, hl, hm, hmm, rfl, hx⟩
  · simp at hcs
    subst hcs
    exact ⟨[], none, 0, rfl, Src.none w 2, by simp, by simp⟩
  · simp at hcs
    subst hcs
    simp only [if_true] at hmm
    subst hmm
    have hbz : Try.prog.bytesOf 38 = 32 := by kernel_rfl
    have h1 := hs ((len + (m - len)) * Try.prog.bytesOf 38) (by simp [DataW.weights, Try.underlying23])
    rw [hbz] at h1
    have h3 : len * 32 ≤ 140737488351232 := by unfold reachBytes at h1; omega
    obtain ⟨L, hL, hp⟩ := choose_list (n := len) (p := fun i (z : ByteArray × ByteArray) => w.cell? (a.add (i * 2)) = some (.string z.1) ∧ w.cell? (a.add (i * 2 + 1)) = some (.string z.2) ∧ z.1.size ≤ maxLen) (fun i hi => by
      obtain ⟨c0, c1, t0, t1⟩ := hx i (by omega)
      obtain ⟨s0, e0, _, z0⟩ := DataW.trod_string Try.underlying9 t0
      obtain ⟨s1, e1, _, _⟩ := DataW.trod_string Try.underlying9 t1
      simp at e0 e1
      exact ⟨(s0, s1), by rw [c0, e0], by rw [c1, e1], z0⟩)
    refine ⟨L, some a, m, by rw [hL], ⟨by rw [attL_len], (by intro e; cases e), fun ad e j u hj => ?_⟩, by rw [hL]; exact h3, fun p hm' => ?_⟩
    · cases e
      have hjl : j < L.length * 2 := by rw [← attL_len]; exact (List.getElem?_eq_some_iff.1 hj).1
      have hi : j / 2 < L.length := by omega
      obtain ⟨g0, g1, _⟩ := hp (j / 2) L[j / 2] (List.getElem?_eq_getElem hi)
      obtain ⟨k0, k1⟩ := attL_at L (j / 2) L[j / 2].1 L[j / 2].2 (List.getElem?_eq_getElem hi)
      rcases Nat.mod_two_eq_zero_or_one j with e | e
      · rw [show j / 2 * 2 = j by omega] at g0 k0
        rw [k0] at hj
        cases hj
        exact g0
      · rw [show j / 2 * 2 + 1 = j by omega] at g1 k1
        rw [k1] at hj
        cases hj
        exact g1
    · obtain ⟨i, hi, rfl⟩ := List.getElem_of_mem hm'
      exact (hp i L[i] (List.getElem?_eq_getElem hi)).2.2

def CsN (w : World) (cs : List Value) (d : NodeD) : Prop := ∃ sp c q o, cs = [.int .i64 d.par, .string d.tag, .string d.id, .slice sp d.cls.length c, .slice q d.att.length o] ∧ RdNd w d sp q
/-- A node's cells, opened. -/
theorem nodeCells_open {n : Nat} {cs : List Value} {y : DataW H × List MemPlace} (h : DataW.trod enc Try.prog w 0 (fun _ => true) true n 25 cs = some y) (hs : ∀ k ∈ y.1.weights Try.prog 25, k ≤ reachBytes) : ∃ d, CsN w cs d := by
  obtain ⟨xs, m, _, rfl, hl, hlen, hf⟩ := DataW.trod_struct Try.underlying25 h
  match xs, hlen with
  | [y0, y1, y2, y3, y4], _ =>
    have e25 : Try.prog.cellsOf 25 = 5 := by kernel_rfl
    have e3 : Try.prog.cellsOf 3 = 1 := by kernel_rfl
    have e9 : Try.prog.cellsOf 9 = 1 := by kernel_rfl
    have e22 : Try.prog.cellsOf 22 = 1 := by kernel_rfl
    have e23 : Try.prog.cellsOf 23 = 1 := by kernel_rfl
    rw [e25] at hl
    obtain ⟨c0, c1, c2, c3, c4, rfl⟩ : ∃ c0 c1 c2 c3 c4, cs = [c0, c1, c2, c3, c4] := by
      match cs, hl with
      | [c0, c1, c2, c3, c4], _ => exact ⟨c0, c1, c2, c3, c4, rfl⟩
    have h0 : DataW.trod enc Try.prog w 0 (fun _ => true) true m 3 ((([c0, c1, c2, c3, c4] : List Value).drop 0).take (Try.prog.cellsOf 3)) = some y0 := hf 0 _ rfl
    have h1 : DataW.trod enc Try.prog w 0 (fun _ => true) true m 9 ((([c0, c1, c2, c3, c4] : List Value).drop 1).take (Try.prog.cellsOf 9)) = some y1 := hf 1 _ rfl
    have h2 : DataW.trod enc Try.prog w 0 (fun _ => true) true m 9 ((([c0, c1, c2, c3, c4] : List Value).drop 2).take (Try.prog.cellsOf 9)) = some y2 := hf 2 _ rfl
    have h3 : DataW.trod enc Try.prog w 0 (fun _ => true) true m 22 ((([c0, c1, c2, c3, c4] : List Value).drop 3).take (Try.prog.cellsOf 22)) = some y3 := hf 3 _ rfl
    have h4 : DataW.trod enc Try.prog w 0 (fun _ => true) true m 23 ((([c0, c1, c2, c3, c4] : List Value).drop 4).take (Try.prog.cellsOf 23)) = some y4 := hf 4 _ rfl
    simp only [e3, e9, e22, e23, List.drop_zero, List.take_succ_cons, List.take_zero, List.drop_succ_cons] at h0 h1 h2 h3 h4
    obtain ⟨a0, ha0, _⟩ := DataW.trod_int Try.underlying3 h0
    obtain ⟨a1, ha1, _, z1⟩ := DataW.trod_string Try.underlying9 h1
    obtain ⟨a2, ha2, _, _⟩ := DataW.trod_string Try.underlying9 h2
    obtain ⟨l, sp, c, rfl, s1, s2⟩ := cls_open h3 (fun k hk => hs k (by
      simp only [DataW.weights, Try.underlying25]
      exact DataW.weights_mem_each (j := 3) rfl rfl k hk))
    obtain ⟨t, q, o, rfl, s3, s4, s5⟩ := att_open h4 (fun k hk => hs k (by
      simp only [DataW.weights, Try.underlying25]
      exact DataW.weights_mem_each (j := 4) rfl rfl k hk))
    simp at ha0 ha1 ha2
    exact ⟨⟨a0, a1, a2, l, t⟩, sp, c, q, o, by rw [ha0, ha1, ha2], ⟨s1, s3, s2, s4, z1, s5⟩⟩

/-- A node's value, opened. -/
def IsNode (w : World) (v : Value) (d : NodeD) : Prop := ∃ sp c q o, v = .agg #[.int .i64 d.par, .string d.tag, .string d.id, .slice sp d.cls.length c, .slice q d.att.length o] ∧ RdNd w d sp q
theorem node_open {v : Value} {d : DataW H} {ps : List MemPlace} {r : Reach} {b0 : Nat} (hval : Value.okWide Try.prog w r b0 25 v) (h : DataW.Trod enc Try.prog w 0 (fun _ => true) true 25 v d ps) (hs : ∀ k ∈ d.weights Try.prog 25, k ≤ reachBytes) : ∃ nd, IsNode w v nd := by
  unfold Value.okWide at hval
  rw [Try.underlying25] at hval
  obtain ⟨cs, rfl, _, _⟩ := hval
  obtain ⟨fuel, hf⟩ := h
  obtain ⟨nd, sp, c, q, o, hc, hr⟩ := nodeCells_open hf hs
  have hcs : cs.toList = _ := hc
  refine ⟨nd, sp, c, q, o, ?_, hr⟩
  congr 1
  exact Array.toList_inj.1 hcs
end
end Go.Proofs.Ytdbhcogafhhlnaa
