/- The cache's block, and the contracts of its list: find, put. -/
import Derived.Test.YtimildmpkamomaaRows
import Derived.Test.YtimildmpkamomaaPlain
import Derived.BigQuiet
import Derived.Deep.QuietTactic
namespace Go.Proofs.Ytimildmpkamomaa
open Go.RowKit Go.Maps Go.ChangeShapes Go.WideShapes Go.ChangeAt Go.WideMaps Go.WideElems

theorem info50 : (Try.prog.info? 50).map (fun i => (i.zero, i.size, i.bytes)) = some (some (.agg #[.int .i64 0, .int .i64 0]), 2, 16) := by kernel_rfl
theorem info52 : (Try.prog.info? 52).map (fun i => (i.zero, i.size, i.bytes)) = some (some (.agg #[.int .i64 0, .int .i64 0]), 2, 16) := by kernel_rfl

def ents (E : List Ent) : List Value := E.flatMap fun p => [.int .i64 p.1, .int .i64 p.2]
theorem ents_len (E : List Ent) : (ents E).length = E.length * 2 := by
  induction E with
  | nil => rfl
  | cons p r ih => simp only [ents, List.flatMap_cons, List.length_append, List.length_cons, List.length_nil] at *; rw [ih]; omega
theorem ents_append (A B : List Ent) : ents (A ++ B) = ents A ++ ents B := by simp [ents]
theorem ents_one (k v : Int) : ents [(k, v)] = [.int .i64 k, .int .i64 v] := rfl
theorem ents_cell (E : List Ent) : ∀ u ∈ ents E, u.oneCell' = true := by
  intro u hu
  unfold ents at hu
  rw [List.mem_flatMap] at hu
  obtain ⟨p, _, hu⟩ := hu
  simp only [List.mem_cons, List.not_mem_nil, or_false] at hu
  rcases hu with rfl | rfl <;> rfl
theorem ents_take (E : List Ent) (k : Nat) : (ents E).take (k * 2) = ents (E.take k) := by
  induction E generalizing k with
  | nil => simp [ents]
  | cons p r ih =>
    cases k with
    | zero => simp [ents]
    | succ k =>
      have := ih k
      simp only [ents, List.flatMap_cons, List.take_succ_cons, List.cons_append, List.nil_append] at *
      rw [show (k + 1) * 2 = k * 2 + 1 + 1 by omega, List.take_succ_cons, List.take_succ_cons, this]
theorem ents_drop (E : List Ent) (k : Nat) : (ents E).drop (k * 2) = ents (E.drop k) := by
  induction E generalizing k with
  | nil => simp [ents]
  | cons p r ih =>
    cases k with
    | zero => simp [ents]
    | succ k =>
      have := ih k
      simp only [ents, List.flatMap_cons, List.drop_succ_cons, List.cons_append, List.nil_append] at *
      rw [show (k + 1) * 2 = k * 2 + 1 + 1 by omega, List.drop_succ_cons, List.drop_succ_cons, this]
theorem ents_at (E : List Ent) (k : Nat) (hk : k < E.length) : (ents E)[k * 2]? = some (.int .i64 E[k].1) ∧ (ents E)[k * 2 + 1]? = some (.int .i64 E[k].2) := by
  induction E generalizing k with
  | nil => simp at hk
  | cons p r ih =>
    cases k with
    | zero => exact ⟨rfl, rfl⟩
    | succ k =>
      obtain ⟨a, b⟩ := ih k (by simpa using hk)
      simp only [ents, List.flatMap_cons, List.cons_append, List.nil_append, List.getElem_cons_succ] at *
      rw [show (k + 1) * 2 = k * 2 + 1 + 1 by omega]
      exact ⟨by simpa using a, by simpa using b⟩
theorem eraseIdx_eq (E : List Ent) (i : Nat) : E.eraseIdx i = E.take i ++ E.drop (i + 1) := List.eraseIdx_eq_take_drop_succ E i

/-- Block b is a cache: all of it lies in S. T: its type; e: its entries'. -/
structure IsCa (T e : TypeId) (w : World) (b : Nat) (S : Nat → Prop) (size : Int) (E : List Ent) : Prop where
  lt : ∀ k, S k → k < w.heap.size
  mem : S b
  body : ∃ sp sc, w.heap[b]? = some (.cells #[.int .i64 size, .slice sp E.length sc] T (0, 0)) ∧ OwnsWin w 0 e 2 (.slice sp E.length sc) E.length (ents E) ∧
    (∀ k, (Value.slice sp E.length sc).ownBlock = some k → S k)

theorem IsCa.fr {T e : TypeId} {S Z : Nat → Prop} {w w' : World} {b : Nat} {size : Int} {E : List Ent} (h : IsCa T e w b S size E) (f : Fr Z w w') (hd : ∀ k, S k → ¬ Z k) : IsCa T e w' b S size E := by
  obtain ⟨hl, hm, sp, sc, h1, h2, h3⟩ := h
  exact ⟨fun k hk => Nat.lt_of_lt_of_le (hl k hk) f.size, hm, sp, sc, f.heap h1 (hd b hm), h2.fr f (fun k hk => hd k (h3 k hk)), h3⟩
theorem IsCa.new (T e : TypeId) (w : World) (size : Int) : IsCa T e (w.alloc (.cells #[.int .i64 size, .slice none 0 0] T)) w.heap.size (fun k => k = w.heap.size) size [] :=
  ⟨fun k hk => by subst hk; simp, rfl, none, 0, heapNew _ _, OwnsWin.nil _ _ _ _, fun k hk => by simp [Value.ownBlock] at hk⟩

/-- A new slice is laid into a cache. -/
theorem IsCa.put {T e : TypeId} (hTe : T ≠ e) {S : Nat → Prop} {w w3 : World} {b : Nat} {size : Int} {E' : List Ent} {vOld : Value} {sp' : Option Addr} {n' sc' : Nat}
    (hlt : ∀ k, S k → k < w.heap.size) (hSb : S b) (f3 : Fr S w w3) (hn : n' = E'.length)
    (hb3 : w3.heap[b]? = some (.cells #[.int .i64 size, vOld] T (0, 0))) (hown3 : OwnsWin w3 0 e 2 (.slice sp' n' sc') n' (ents E'))
    (hloc : ∀ k, (Value.slice sp' n' sc').ownBlock = some k → S k ∨ w.heap.size ≤ k) :
    Fr S w (w3.setCell ⟨b, 1, none⟩ (.slice sp' n' sc')) ∧ IsCa T e (w3.setCell ⟨b, 1, none⟩ (.slice sp' n' sc')) b (Gr S w (w3.setCell ⟨b, 1, none⟩ (.slice sp' n' sc'))) size E' := by
  subst hn
  have f4 := f3.setCell (p := ⟨b, 1, none⟩) (.inl hSb) (.slice sp' E'.length sc')
  have hne := hown3.ne hb3 (by intro c h; cases h; exact hTe rfl)
  have fb : Fr (fun k => k = b) w3 (w3.setCell ⟨b, 1, none⟩ (.slice sp' E'.length sc')) := (Fr.refl (fun k => k = b) w3).setCell (p := ⟨b, 1, none⟩) (.inl rfl) _
  refine ⟨f4, ⟨Gr.lt hlt f4.size, .inl hSb, sp', sc', by simpa using heapSet hb3 1 (.slice sp' E'.length sc'), hown3.fr fb (fun k hk e => hne (by rw [hk, e])), fun k hk => ?_⟩⟩
  rcases hloc k hk with h | h
  · exact .inl h
  · exact .inr ⟨h, by have := (hown3.lt k hk).2; simpa [World.setCell] using this⟩

theorem fnd_head {E : List Ent} {k : Int} {i : Nat} (hi : i < E.length) (hno : ∀ j (hj : j < i), (E[j]'(by omega)).1 ≠ k) (h : E[i].1 = k) : fnd E k = i := by
  have : fndN E k = some i := by
    unfold fndN
    rw [List.findIdx?_eq_some_iff_getElem]
    exact ⟨hi, by simpa using h, fun j hj => by simpa using hno j hj⟩
  unfold fnd
  rw [this]
theorem fnd_no {E : List Ent} {k : Int} (hno : ∀ j (hj : j < E.length), E[j].1 ≠ k) : fnd E k = -1 := by
  have : fndN E k = none := by
    unfold fndN
    rw [List.findIdx?_eq_none_iff]
    intro x hx
    obtain ⟨j, hj, rfl⟩ := List.getElem_of_mem hx
    simpa using hno j hj
  unfold fnd
  rw [this]

set_option maxHeartbeats 1000000 in
set_option maxRecDepth 100000 in
theorem find_any (b : Nat) (S : Nat → Prop) (size : Int) (E : List Ent) (k : Int) (w : World) (h : IsCa 44 50 w b S size E) (hn : E.length ≤ 2000) :
    Calls Try.prog 19 #[.pointer (some ⟨b, 1, none⟩), .int .i64 k] w fun e w' => e = .returned (.int .i64 (fnd E k)) ∧ Fr (fun _ => False) w w' := by
  obtain ⟨hlt, hSb, sp, sc, hb, hrow, hSr⟩ := h
  have c1 := cellOf hb 1
  simp at c1
  have HR := Lib.hid hrow
  have HB := Lib.hid hb
  clear hb hrow hSr
  go_enter Try.func19, Try.ntmps19
  go_wp2
  go_loopw [12] (fun i wr => ∃ j : Nat, j ≤ E.length ∧ i = .int .i64 j ∧ Hid (∀ m (hm : m < E.length), m < j → E[m].1 ≠ k) ∧ Hid (Fr (fun _ => False) w wr)) (fun i _ => E.length - (intOf i).toNat)
  case atStart => exact ⟨0, Nat.zero_le _, rfl, fun m hm h => by omega, Fr.refl _ _⟩
  case round =>
    obtain ⟨j, hj, rfl, hno, hF⟩ := hrel
    by_cases hlt2 : j < E.length
    · obtain ⟨g, off, cap, hv, _, _, hg, _, hc, _⟩ := HR.out.cells (by omega)
      cases hv
      obtain ⟨a0, a1⟩ := ents_at E j hlt2
      have x0 := (hF.out.cell (p := ⟨g, off + j * 2, none⟩) hg (by simp)).trans (hc _ _ a0)
      have x1 := (hF.out.cell (p := ⟨g, off + (j * 2 + 1), none⟩) hg (by simp)).trans (hc _ _ a1)
      rw [← Nat.add_assoc] at x1
      have i1 : (j : Int) < (E.length : Int) := by omega
      clear hc a0 a1
      have HE := Lib.hid (show E[j].1 = E[j].1 from rfl)
      obtain ⟨y, hy⟩ : ∃ y, y = E[j].1 := ⟨_, rfl⟩
      rw [← hy] at x0
      generalize E[j].2 = z at *
      have HY := Lib.hid hy
      clear hy
      by_cases he : y = k
      · have q : (y == k) = true := by simp [he]
        have HQ := Lib.hid he
        clear he
        go_wp2_with fail
        go_ret
        rw [fnd_head hlt2 (fun m hm => hno.out m (by omega) hm) (by rw [← HY.out]; exact HQ.out)]
        exact ⟨rfl, (hF.out.alloc _)⟩
      · have q : (y == k) = false := by simp [he]
        have HQ := Lib.hid he
        clear he
        go_wp2_with fail
        go_roundw
        case rel => exact ⟨j + 1, by omega, by go_num, fun m hm h => by
          rcases Nat.lt_or_ge m j with h1 | h1
          · exact hno.out m hm h1
          · obtain rfl : m = j := by omega
            rw [← HY.out]; exact HQ.out, hF.out.alloc _⟩
        case measure => simp [intOf]; omega
    · have hje : j = E.length := by omega
      go_wp2_with fail
      go_ret
      rw [fnd_no (fun m hm => hno.out m hm (by omega))]
      exact ⟨rfl, hF.out⟩
end Go.Proofs.Ytimildmpkamomaa
