/- Rows of tokens in memory. No condition. -/
import Derived.Test.YtknpdkfjmhpbpaaWin
import Derived.Test.YtknpdkfjmhpbpaaSk
import Derived.Test.YtknpdkfjmhpbpaaRows2
import Derived.Lib.SmallJoins
namespace Go.Proofs.Ytknpdkfjmhpbpaa
open Go.RowKit Go.Maps Go.ChangeShapes Go.WideShapes Go.ChangeAt Go.WideMaps Go.WideElems

def tV (x : Tok) : List Value := [.int .i64 x.f0, .string x.f1, .int .i64 x.f2, .bool x.f3, .int .i64 x.f4]
def tL (ts : List Tok) : List Value := ts.flatMap tV
theorem tV_len (x : Tok) : (tV x).length = 5 := rfl
theorem tL_nil : tL [] = [] := rfl
theorem tL_cons (x : Tok) (ts : List Tok) : tL (x :: ts) = tV x ++ tL ts := rfl
theorem tL_app (a b : List Tok) : tL (a ++ b) = tL a ++ tL b := by simp [tL]
theorem tL_one (x : Tok) : tL [x] = tV x := by simp [tL]
theorem tL_len : ∀ ts : List Tok, (tL ts).length = ts.length * 5
  | [] => rfl
  | x :: ts => by rw [tL_cons, List.length_append, tL_len ts, tV_len, List.length_cons]; omega
theorem tL_at : ∀ (ts : List Tok) (i j : Nat) (x : Tok), ts[i]? = some x → j < 5 → (tL ts)[i * 5 + j]? = (tV x)[j]?
  | [], i, _, _, h, _ => by simp at h
  | y :: ts, 0, j, x, h, hj => by
    simp at h
    subst h
    rw [tL_cons, Nat.zero_mul, Nat.zero_add, List.getElem?_append_left (by rw [tV_len]; exact hj)]
  | y :: ts, i + 1, j, x, h, hj => by
    rw [tL_cons, List.getElem?_append_right (by rw [tV_len]; omega), tV_len, show (i + 1) * 5 + j - 5 = i * 5 + j by omega]
    exact tL_at ts i j x (by simpa using h) hj
theorem tL_one_cell (ts : List Tok) : ∀ u ∈ tL ts, u.oneCell' = true := by
  intro u hu
  obtain ⟨x, _, h⟩ := List.mem_flatMap.1 hu
  simp [tV] at h
  rcases h with rfl | rfl | rfl | rfl | rfl <;> rfl

/-- A slice's cells read as tokens. -/
def RdT (w : World) (p : Option Addr) (ts : List Tok) : Prop :=
  ∀ (i : Nat) x, ts[i]? = some x → x.f1.size ≤ maxLen ∧ ∃ g off, p = some ⟨g, off, none⟩ ∧ g < w.heap.size ∧ ∀ (j : Nat) u, (tV x)[j]? = some u → w.cell? ⟨g, off + i * 5 + j, none⟩ = some u
theorem RdT.nil (w : World) (p : Option Addr) : RdT w p [] := fun i x h => by simp at h
theorem RdT.step {w w' : World} {p : Option Addr} {ts : List Tok} {S : Nat → Prop} (h : RdT w p ts) (f : Fr S w w') (hS : ∀ g off, p = some ⟨g, off, none⟩ → ¬ S g) : RdT w' p ts := by
  intro i x hx
  obtain ⟨h0, g, off, hp, hg, hc⟩ := h i x hx
  exact ⟨h0, g, off, hp, Nat.lt_of_lt_of_le hg f.size, fun j u hj => (f.cell (p := ⟨g, off + i * 5 + j, none⟩) hg (hS g off hp)).trans (hc j u hj)⟩
theorem RdT.fr {w w' : World} {p : Option Addr} {ts : List Tok} (h : RdT w p ts) (f : Fr (fun _ => False) w w') : RdT w' p ts := h.step f (fun _ _ _ e => e)
theorem RdT.src {w : World} {p : Option Addr} {ts : List Tok} (h : RdT w p ts) : SrcW w 5 p ts.length (tL ts) := by
  refine ⟨tL_len ts, fun e => ?_, fun ad e j u hj => ?_⟩
  · cases ts with
    | nil => rfl
    | cons x ts =>
      obtain ⟨_, g, off, hp, _⟩ := h 0 x rfl
      rw [e] at hp
      cases hp
  · have hlt : j < ts.length * 5 := by rw [← tL_len]; exact (List.getElem?_eq_some_iff.1 hj).1
    have hi : j / 5 < ts.length := by omega
    obtain ⟨_, g, off, hp, _, hc⟩ := h (j / 5) ts[j / 5] (List.getElem?_eq_getElem hi)
    rw [hp] at e
    cases e
    rw [addOf _ _ rfl]
    have h2 := tL_at ts (j / 5) (j % 5) ts[j / 5] (List.getElem?_eq_getElem hi) (by omega)
    rw [show j / 5 * 5 + j % 5 = j by omega, hj] at h2
    have := hc (j % 5) u h2.symm
    rw [show off + j / 5 * 5 + j % 5 = off + j by omega] at this
    exact this
theorem RdT.win {w : World} {base e n c : Nat} {sp : Option Addr} {ts : List Tok} (h : OwnsWin w base e 5 (.slice sp n c) n (tL ts)) (hz : ∀ x ∈ ts, x.f1.size ≤ maxLen) : RdT w sp ts := by
  intro i x hx
  have hlt : i < ts.length := (List.getElem?_eq_some_iff.1 hx).1
  have hn : 0 < n := by
    have := h.1
    rw [tL_len] at this
    omega
  obtain ⟨g, off, cap, hv, _, _, hg, _, hcell, _⟩ := h.cells hn
  cases hv
  refine ⟨hz x (List.mem_of_getElem? hx), g, off, rfl, hg, fun j u hj => ?_⟩
  have hj5 : j < 5 := by rw [← tV_len x]; exact (List.getElem?_eq_some_iff.1 hj).1
  have := hcell (i * 5 + j) u (by rw [tL_at ts i j x hx hj5]; exact hj)
  rw [← Nat.add_assoc] at this
  exact this
theorem RdT.sizes {w : World} {p : Option Addr} {ts : List Tok} (h : RdT w p ts) : ∀ x ∈ ts, x.f1.size ≤ maxLen := by
  intro x hx
  obtain ⟨i, hi⟩ := List.mem_iff_getElem?.1 hx
  exact (h i x hi).1
/-- A part of it. -/
theorem RdT.cut {w : World} {p : Option Addr} {ts : List Tok} (h : RdT w p ts) {c i j : Nat} (hj : j ≤ ts.length) (hc : ts.length ≤ c) : RdT w (if c = i then p else p.map (·.add (i * 5))) ((ts.take j).drop i) := by
  intro k x hx
  rw [List.getElem?_drop, List.getElem?_take] at hx
  split at hx
  · obtain ⟨h0, g, off, hp, hg, hcl⟩ := h (i + k) x hx
    rw [if_neg (by omega)]
    refine ⟨h0, g, off + i * 5, by rw [hp, Option.map_some, addOf _ _ rfl], hg, fun q u hq => ?_⟩
    have := hcl q u hq
    rw [show off + i * 5 + k * 5 + q = off + (i + k) * 5 + q by omega]
    exact this
  · cases hx
/-- One token. -/
theorem RdT.at_ {w : World} {p : Option Addr} {ts : List Tok} (h : RdT w p ts) {i : Nat} {x : Tok} (hx : ts[i]? = some x) : x.f1.size ≤ maxLen ∧ ∃ g off, p = some ⟨g, off, none⟩ ∧ g < w.heap.size ∧
    w.cell? ⟨g, off + i * 5, none⟩ = some (.int .i64 x.f0) ∧ w.cell? ⟨g, off + i * 5 + 1, none⟩ = some (.string x.f1) ∧ w.cell? ⟨g, off + i * 5 + 2, none⟩ = some (.int .i64 x.f2) ∧ w.cell? ⟨g, off + i * 5 + 3, none⟩ = some (.bool x.f3) ∧ w.cell? ⟨g, off + i * 5 + 4, none⟩ = some (.int .i64 x.f4) := by
  obtain ⟨h0, g, off, hp, hg, hc⟩ := h i x hx
  exact ⟨h0, g, off, hp, hg, hc 0 _ rfl, hc 1 _ rfl, hc 2 _ rfl, hc 3 _ rfl, hc 4 _ rfl⟩
/-- Its kind alone, in whatever world since. -/
theorem RdT.kind {w : World} {p : Option Addr} {ts : List Tok} (h : RdT w p ts) {i : Nat} {x : Tok} (hx : ts[i]? = some x) : ∃ g off, p = some ⟨g, off, none⟩ ∧ w.cell? ⟨g, off + i * 5, none⟩ = some (.int .i64 x.f0) := by
  obtain ⟨_, g, off, hp, _, hc, _⟩ := h.at_ hx
  exact ⟨g, off, hp, hc⟩
end Go.Proofs.Ytknpdkfjmhpbpaa
