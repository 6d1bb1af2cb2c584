/- The reference's tree, read: is, Parent, Depth, Place, Before, Children. -/
import Derived.Test.YtdbhcogafhhlnaaDView
import Derived.Test.YtdbhcogafhhlnaaFrQ
namespace Go.Proofs.Ytdbhcogafhhlnaa.R
open Go.RowKit Go.Maps Go.ChangeShapes Go.WideShapes Go.ChangeAt Go.WideMaps Go.WideElems

theorem flat5 (css : List (List Value)) (hl : ∀ cs ∈ css, cs.length = 5) (k j : Nat) (hj : j < 5) (cs : List Value) (hk : css[k]? = some cs) : css.flatten[k * 5 + j]? = cs[j]? := by
  induction css generalizing k with
  | nil => simp at hk
  | cons a r ih =>
    have ha : a.length = 5 := hl a (by simp)
    cases k with
    | zero =>
      simp at hk
      subst hk
      rw [List.flatten_cons, List.getElem?_append_left (by omega)]
      simp
    | succ k =>
      rw [List.flatten_cons, List.getElem?_append_right (by omega), show (k + 1) * 5 + j - a.length = k * 5 + j by omega]
      exact ih (fun cs h => hl cs (by simp [h])) k (by simpa using hk)

/-- A tree, read: its two slices; each node's cells; each depth. -/
structure RV (wr : World) (tb : Nat) (ds : List NodeD) (spN : Option Addr) (cN : Nat) (spD : Option Addr) (cD : Nat) : Prop where
  c0 : wr.cell? ⟨tb, 0, none⟩ = some (.slice spN ds.length cN)
  c1 : wr.cell? ⟨tb, 1, none⟩ = some (.slice spD ds.length cD)
  nd : ∀ (k : Nat) d, ds[k]? = some d → ∃ g off sp c q o, spN = some ⟨g, off, none⟩ ∧ ds.length ≤ cN ∧ cN ≤ maxLen ∧ wr.cell? ⟨g, off + k * 5, none⟩ = some (.int .i64 d.par) ∧ wr.cell? ⟨g, off + k * 5 + 1, none⟩ = some (.string (lowS d.tag)) ∧ wr.cell? ⟨g, off + k * 5 + 2, none⟩ = some (.string d.id) ∧
    wr.cell? ⟨g, off + k * 5 + 3, none⟩ = some (.slice sp d.cls.length c) ∧ wr.cell? ⟨g, off + k * 5 + 4, none⟩ = some (.slice q d.att.length o) ∧ OwnsWin wr 0 9 1 (.slice sp d.cls.length c) d.cls.length (d.cls.map Value.string) ∧ OwnsWin wr 0 38 2 (.slice q d.att.length o) d.att.length (attL (lowA d.att))
  dp : ∀ k v, (dps ds ds.length)[k]? = some v → ∃ g off, spD = some ⟨g, off, none⟩ ∧ ds.length ≤ cD ∧ cD ≤ maxLen ∧ wr.cell? ⟨g, off + k, none⟩ = some (.int .i64 v)

theorem TS.view {w wr : World} {tb : Nat} {ds : List NodeD} (h : TS w wr tb ds ds.length ds.length) : ∃ spN cN spD cD, RV wr tb ds spN cN spD cD := by
  obtain ⟨spN, cN, spD, cD, xs, hblk, hN, ⟨css, rfl, hl, hcs⟩, hD⟩ := h.body
  rw [List.take_length] at hl hcs
  refine ⟨spN, cN, spD, cD, ?_, ?_, fun k d hk => ?_, fun k v hk => ?_⟩
  · have := cellOf hblk 0; simpa using this
  · have := cellOf hblk 1; simpa using this
  · have hkl := (List.getElem?_eq_some_iff.1 hk).1
    obtain ⟨g, off, cap, hv, h1, h2, hg, _, hcell, _⟩ := hN.cells (by omega)
    cases hv
    obtain ⟨cs, hc⟩ : ∃ cs, css[k]? = some cs := ⟨css[k]'(by rw [hl]; exact hkl), List.getElem?_eq_getElem _⟩
    have h5 : ∀ cs ∈ css, cs.length = 5 := by
      intro cs hm
      obtain ⟨i, hi, rfl⟩ := List.getElem_of_mem hm
      obtain ⟨sp, c, q, o, e, _⟩ := hcs i css[i] (ds[i]'(by omega)) (List.getElem?_eq_getElem hi) (List.getElem?_eq_getElem (by omega))
      rw [e]
      rfl
    obtain ⟨sp, c, q, o, e, o1, o2⟩ := hcs k cs d hc hk
    have at_ : ∀ j u, j < 5 → cs[j]? = some u → wr.cell? ⟨g, off + (k * 5 + j), none⟩ = some u := fun j u hj hu => hcell _ _ ((flat5 css h5 k j hj cs hc).trans hu)
    subst e
    exact ⟨g, off, sp, c, q, o, rfl, h1, h2, at_ 0 _ (by omega) rfl, at_ 1 _ (by omega) rfl, at_ 2 _ (by omega) rfl, at_ 3 _ (by omega) rfl, at_ 4 _ (by omega) rfl, o1.lower (Nat.zero_le _), o2.lower (Nat.zero_le _)⟩
  · have hkl := (List.getElem?_eq_some_iff.1 hk).1
    rw [dps_len] at hkl
    obtain ⟨g, off, cap, hv, h1, h2, hg, _, hcell, _⟩ := hD.cells (by omega)
    cases hv
    exact ⟨g, off, rfl, h1, h2, hcell k _ (by rw [List.getElem?_map, hk]; rfl)⟩
theorem RV.fr {w w' : World} {tb : Nat} {ds : List NodeD} {spN spD : Option Addr} {cN cD : Nat} (h : RV w tb ds spN cN spD cD) (f : Fr (fun _ => False) w w') : RV w' tb ds spN cN spD cD := by
  refine ⟨cellFr0 f h.c0, cellFr0 f h.c1, fun k d hk => ?_, fun k v hk => ?_⟩
  · obtain ⟨g, off, sp, c, q, o, e, a, b, h0, h1, h2, h3, h4, o1, o2⟩ := h.nd k d hk
    exact ⟨g, off, sp, c, q, o, e, a, b, cellFr0 f h0, cellFr0 f h1, cellFr0 f h2, cellFr0 f h3, cellFr0 f h4, o1.fr f (by simp), o2.fr f (by simp)⟩
  · obtain ⟨g, off, e, a, b, h0⟩ := h.dp k v hk
    exact ⟨g, off, e, a, b, cellFr0 f h0⟩

set_option maxHeartbeats 1000000 in
theorem is_yes (wr : World) (tb : Nat) (ds : List NodeD) {spN spD : Option Addr} {cN cD : Nat} (h : RV wr tb ds spN cN spD cD) (k : Nat) (hk : k < ds.length) :
    Calls Try.prog 40 #[.pointer (some ⟨tb, 0, none⟩), .int .i64 (k : Int)] wr fun en w' => en = .returned (.bool true) ∧ w' = wr := by
  have t0 := h.c0
  clear h
  generalize ds.length = n at *
  have q1 : decide ((0 : Int) ≤ (k : Int)) = true := by simp
  have q2 : decide ((k : Int) < (n : Int)) = true := by simp; omega
  have q2n : decide (k < n) = true := by simp; omega
  go_enter Try.func40, Try.ntmps40
  go_wp2_with fail
  go_ret
  exact ⟨rfl, rfl⟩
set_option maxHeartbeats 1000000 in
theorem is_no (wr : World) (tb : Nat) (ds : List NodeD) {spN spD : Option Addr} {cN cD : Nat} (h : RV wr tb ds spN cN spD cD) (e : Int) (hk : e < 0 ∨ (ds.length : Int) ≤ e) :
    Calls Try.prog 40 #[.pointer (some ⟨tb, 0, none⟩), .int .i64 e] wr fun en w' => en = .returned (.bool false) ∧ w' = wr := by
  have t0 := h.c0
  clear h
  generalize ds.length = n at *
  by_cases hn : e < 0
  · have q1 : decide (0 ≤ e) = false := by simp; omega
    go_enter Try.func40, Try.ntmps40
    go_wp2_with fail
    go_ret
    exact ⟨rfl, rfl⟩
  · have q1 : decide (0 ≤ e) = true := by simp; omega
    have q2 : decide (e < (n : Int)) = false := by simp; omega
    go_enter Try.func40, Try.ntmps40
    go_wp2_with fail
    go_ret
    exact ⟨rfl, rfl⟩
end Go.Proofs.Ytdbhcogafhhlnaa.R
