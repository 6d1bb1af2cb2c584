/- The reference's node that is being made: the steps. -/
import Derived.Test.YtdjdpfmogphoiaaNodesG
namespace Go.Proofs.Ytdjdpfmogphoiaa
open Go.RowKit Go.Maps Go.ChangeShapes Go.WideShapes Go.ChangeAt Go.WideMaps Go.WideElems

structure RT (w : World) (b nb : Nat) (wr : World) (s par : Int) (tag id : ByteArray) (cls : List ByteArray) (sp : Option Addr) (c : Nat) (vA : Value) : Prop where
  lot : IsLot 51 wr b s
  node : wr.heap[nb]? = some (.cells #[.int .i64 par, .string tag, .string id, .slice sp cls.length c, vA] 47 (0, 0))
  row : wr.ownsRow w.heap.size 9 1 (.slice sp cls.length c) cls.length (cls.map Value.string)
  fr : Fr (fun k => k = b) w wr
  hb : b < w.heap.size
  hn : w.heap.size ≤ nb

section
variable {w wr : World} {b nb : Nat} {s par : Int} {tag id : ByteArray} {cls : List ByteArray} {sp : Option Addr} {c : Nat} {vA : Value}

theorem RT.alloc (h : RT w b nb wr s par tag id cls sp c vA) (o : Obj) : RT w b nb (wr.alloc o) s par tag id cls sp c vA :=
  ⟨heapAlloc h.lot, heapAlloc h.node, ownsRow.fr h.row ((Fr.refl (fun _ => False) wr).alloc o) (by simp), h.fr.alloc o, h.hb, h.hn⟩
theorem RT.drew (h : RT w b nb wr s par tag id cls sp c vA) : RT w b nb wr.drew s par tag id cls sp c vA :=
  ⟨h.lot, h.node, h.row, h.fr.drew, h.hb, h.hn⟩
theorem RT.lotStep (h : RT w b nb wr s par tag id cls sp c vA) {w' : World} {s' : Int} (l : IsLot 51 w' b s') (f : Fr (fun k => k = b) wr w') : RT w b nb w' s' par tag id cls sp c vA := by
  have n := ownsRow.ne h.row h.lot (by intro c; simp)
  obtain ⟨h1, h3, h4, h5, h6, h8⟩ := h
  exact ⟨l, f.heap h3 (by omega), ownsRow.fr h4 f (fun j hj e => n (by subst e; exact hj.symm)), h5.trans f, h6, h8⟩
theorem RT.next (h : RT w b nb wr s par tag id cls sp c vA) (n : Int) :
    Calls Try.prog 11 #[.pointer (some ⟨b, 0, none⟩), .int .i64 n] wr fun e w' => e = .returned (.int .i64 (nxV s n)) ∧ RT w b nb w' (nxS s) par tag id cls sp c vA ∧ Fr (fun k => k = b) wr w' := by
  refine (RNext_any b s n wr h.lot).mono ?_
  rintro e w' ⟨rfl, l, f⟩
  exact ⟨rfl, h.lotStep l f, f⟩
theorem RT.setPar (h : RT w b nb wr s par tag id cls sp c vA) (p : Int) : RT w b nb (wr.setCell ⟨nb, 0, none⟩ (.int .i64 p)) s p tag id cls sp c vA := by
  have n := ownsRow.ne h.row h.node (by intro c; simp)
  obtain ⟨h1, h3, h4, h5, h6, h8⟩ := h
  exact ⟨(heapSetOther 0 _ (by omega)).trans h1, by simpa using heapSet h3 0 (.int .i64 p), ownsRow.fr h4 ((Fr.refl (fun j => j = nb) wr).setCell (p := ⟨nb, 0, none⟩) (.inl rfl) _) (fun j hj e => n (by subst e; exact hj.symm)), h5.setCell (p := ⟨nb, 0, none⟩) (.inr h8) _, h6, h8⟩
theorem RT.setTag (h : RT w b nb wr s par tag id cls sp c vA) (t : ByteArray) : RT w b nb (wr.setCell ⟨nb, 1, none⟩ (.string t)) s par t id cls sp c vA := by
  have n := ownsRow.ne h.row h.node (by intro c; simp)
  obtain ⟨h1, h3, h4, h5, h6, h8⟩ := h
  exact ⟨(heapSetOther 1 _ (by omega)).trans h1, by simpa using heapSet h3 1 (.string t), ownsRow.fr h4 ((Fr.refl (fun j => j = nb) wr).setCell (p := ⟨nb, 1, none⟩) (.inl rfl) _) (fun j hj e => n (by subst e; exact hj.symm)), h5.setCell (p := ⟨nb, 1, none⟩) (.inr h8) _, h6, h8⟩
theorem RT.setId (h : RT w b nb wr s par tag id cls sp c vA) (t : ByteArray) : RT w b nb (wr.setCell ⟨nb, 2, none⟩ (.string t)) s par tag t cls sp c vA := by
  have n := ownsRow.ne h.row h.node (by intro c; simp)
  obtain ⟨h1, h3, h4, h5, h6, h8⟩ := h
  exact ⟨(heapSetOther 2 _ (by omega)).trans h1, by simpa using heapSet h3 2 (.string t), ownsRow.fr h4 ((Fr.refl (fun j => j = nb) wr).setCell (p := ⟨nb, 2, none⟩) (.inl rfl) _) (fun j hj e => n (by subst e; exact hj.symm)), h5.setCell (p := ⟨nb, 2, none⟩) (.inr h8) _, h6, h8⟩
theorem RT.setAtt (h : RT w b nb wr s par tag id cls sp c vA) (v : Value) : RT w b nb (wr.setCell ⟨nb, 4, none⟩ v) s par tag id cls sp c v := by
  have n := ownsRow.ne h.row h.node (by intro c; simp)
  obtain ⟨h1, h3, h4, h5, h6, h8⟩ := h
  exact ⟨(heapSetOther 4 _ (by omega)).trans h1, by simpa using heapSet h3 4 v, ownsRow.fr h4 ((Fr.refl (fun j => j = nb) wr).setCell (p := ⟨nb, 4, none⟩) (.inl rfl) _) (fun j hj e => n (by subst e; exact hj.symm)), h5.setCell (p := ⟨nb, 4, none⟩) (.inr h8) _, h6, h8⟩
theorem RT.addCls (h : RT w b nb wr s par tag id cls sp c vA) {w7 : World} {sp' : Option Addr} {c' : Nat} (t : ByteArray)
    (hown : w7.ownsRow w.heap.size 9 1 (.slice sp' (cls.length + 1) c') (cls.length + 1) (cls.map Value.string ++ [.string t])) (hgrow : wr.grownBy w7 (Value.slice sp cls.length c).ownBlock) :
    RT w b nb (w7.setCell ⟨nb, 3, none⟩ (.slice sp' (cls.length + 1) c')) s par tag id (cls ++ [t]) sp' c' vA := by
  have n1 := ownsRow.ne h.row h.lot (by intro c; simp)
  have n3 := ownsRow.ne h.row h.node (by intro c; simp)
  obtain ⟨h1, h3, h4, h5, h6, h8⟩ := h
  have d7 := heapGrown hgrow h3 n3
  have n7 := ownsRow.ne hown d7 (by intro c; simp)
  have hl : (cls ++ [t]).length = cls.length + 1 := by simp
  refine ⟨(heapSetOther 3 _ (by omega)).trans (heapGrown hgrow h1 n1), ?_, ?_, (h5.grown hgrow (fun j e => .inr (h4.lt j e).1)).setCell (p := ⟨nb, 3, none⟩) (.inr h8) _, h6, h8⟩
  · rw [hl]
    simpa using heapSet d7 3 (.slice sp' (cls.length + 1) c')
  · rw [hl, List.map_append]
    exact ownsRow.fr hown ((Fr.refl (fun j => j = nb) w7).setCell (p := ⟨nb, 3, none⟩) (.inl rfl) _) (fun j hj e => n7 (by subst e; exact hj.symm))
end

theorem RT.new (w : World) (b : Nat) (s : Int) (h : IsLot 51 w b s) : RT w b w.heap.size (w.alloc (.cells #[.int .i64 (-1), .string ⟨#[]⟩, .string ⟨#[]⟩, .slice none 0 0, .slice none 0 0] 47)) s (-1) ⟨#[]⟩ ⟨#[]⟩ [] none 0 (.slice none 0 0) :=
  ⟨heapAlloc h, heapNew w _, World.ownsRow_nil _ _ _ _, (Fr.refl _ w).alloc _, ltOf h, Nat.le_refl _⟩

/-- The k-th of a slice of strings that a text writes out. -/
theorem strAt {w : World} {sb : Nat} {l : List ByteArray} {T : TypeId} (s : Int) (h : w.heap[sb]? = some (.cells (l.map Value.string).toArray T (0, 0))) (h1 : 1 ≤ l.length) : ∃ k : Nat, nxV s l.length = k ∧ k < l.length ∧ w.cell? ⟨sb, k, none⟩ = some (.string (pick l s)) := by
  have hi := nxV_in s l.length
  have hk : nxV s l.length < l.length := hi.2 (by omega)
  obtain ⟨k, hk2⟩ := Int.eq_ofNat_of_zero_le hi.1
  refine ⟨k, hk2, by omega, ?_⟩
  have hlt : k < l.length := by omega
  rw [cellOf h]
  unfold pick
  rw [hk2]
  simp [hlt]
theorem strFr {w w' : World} {b sb k : Nat} {v : Value} (f : Fr (fun j => j = b) w w') (hne : sb ≠ b) (h : w.cell? ⟨sb, k, none⟩ = some v) : w'.cell? ⟨sb, k, none⟩ = some v := by
  have hlt : sb < w.heap.size := by
    rcases Nat.lt_or_ge sb w.heap.size with hh | hh
    · exact hh
    · simp [World.cell?, Array.getElem?_eq_none hh] at h
  exact (f.cell (p := ⟨sb, k, none⟩) hlt hne).trans h
end Go.Proofs.Ytdjdpfmogphoiaa
