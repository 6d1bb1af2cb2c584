/- gen's node: what the last steps leave. -/
import Derived.Test.YtdjdpfmogphoiaaNodeG
namespace Go.Proofs.Ytdjdpfmogphoiaa
open Go.RowKit Go.Maps Go.ChangeShapes Go.WideShapes Go.ChangeAt Go.WideMaps Go.WideElems

/-- A node that is made, its attributes too. -/
structure NodeF (w : World) (b rb nb : Nat) (wr : World) (s par : Int) (tag id : ByteArray) (cls : List ByteArray) (sp : Option Addr) (c : Nat) (vA : Value) (att : List (ByteArray × ByteArray)) : Prop where
  lot : IsLot 49 wr b s
  res : wr.heap[rb]? = some Z47
  node : wr.heap[nb]? = some (.cells #[.int .i64 par, .string tag, .string id, .slice sp cls.length c, vA] 47 (0, 0))
  row : wr.ownsRow w.heap.size 9 1 (.slice sp cls.length c) cls.length (cls.map Value.string)
  att_ : IsAtt w.heap.size wr vA att
  fr : Fr (fun k => k = b) w wr
  hb : b < w.heap.size
  hr : w.heap.size ≤ rb

theorem IsAtt.keep {base : Nat} {w w' : World} {v : Value} {l : List (ByteArray × ByteArray)} (h : IsAtt base w v l) (hk : ∀ (g : Nat) (a t : ByteArray), w.heap[g]? = some (.cells #[.string a, .string t] 60 (0, 0)) → w'.heap[g]? = some (.cells #[.string a, .string t] 60 (0, 0))) : IsAtt base w' v l := by
  rcases h with h | ⟨a, t, g, h1, h2, h3, h4⟩
  · exact .inl h
  · exact .inr ⟨a, t, g, h1, h2, h3, hk g a t h4⟩

section
variable {w wr : World} {b rb nb : Nat} {s par : Int} {tag id : ByteArray} {cls : List ByteArray} {sp : Option Addr} {c : Nat}

theorem NodeT.fin0 (h : NodeT w b rb nb wr s par tag id cls sp c) : NodeF w b rb nb wr s par tag id cls sp c (.slice none 0 0) [] :=
  ⟨h.lot, h.res, h.node, h.row, .inl ⟨rfl, rfl⟩, h.fr, h.hb, h.hr⟩

theorem NodeT.fin1 (h : NodeT w b rb nb wr s par tag id cls sp c) {pb : Nat} {a x : ByteArray} (t : ByteArray) (hp : wr.heap[pb]? = some (.cells #[.string a, .string x] 60 (0, 0))) (hpb : w.heap.size ≤ pb) :
    NodeF w b rb nb (((wr.setCell ⟨pb, 1, none⟩ (.string t)).alloc (.cells #[.string a, .string t] 60)).setCell ⟨nb, 4, none⟩ (.slice (some ⟨wr.heap.size, 0, none⟩) 1 1)) s par tag id cls sp c (.slice (some ⟨wr.heap.size, 0, none⟩) 1 1) [(a, t)] := by
  have n1 := ownsRow.ne h.row hp (by intro c; simp)
  have n2 := ownsRow.ne h.row h.node (by intro c; simp)
  obtain ⟨h1, h2, h3, h4, h5, h6, h7, h8, h9⟩ := h
  have p1 : b ≠ pb := by omega
  have p2 : rb ≠ pb := by
    rintro rfl
    rw [h2] at hp
    simp [Z47] at hp
  have p3 : nb ≠ pb := by
    rintro rfl
    rw [h3] at hp
    simp at hp
  have q2 : rb ≠ nb := fun e => h9 e.symm
  have q1 : b ≠ nb := by omega
  have hs : (wr.setCell ⟨pb, 1, none⟩ (.string t)).heap.size = wr.heap.size := by simp [World.setCell]
  have a0 := heapNew (wr.setCell ⟨pb, 1, none⟩ (.string t)) (.cells #[.string a, .string t] 60)
  rw [hs] at a0
  have hnl := ltOf h3
  have hnode := heapSet (heapAlloc (o' := .cells #[.string a, .string t] 60) ((heapSetOther (w := wr) (b := pb) 1 (.string t) p3).trans h3)) 4 (.slice (some ⟨wr.heap.size, 0, none⟩) 1 1)
  refine ⟨(heapSetOther 4 _ q1).trans (heapAlloc ((heapSetOther 1 _ p1).trans h1)), (heapSetOther 4 _ q2).trans (heapAlloc ((heapSetOther 1 _ p2).trans h2)), by simpa using hnode, ?_, .inr ⟨a, t, wr.heap.size, rfl, rfl, h5.size, (heapSetOther 4 _ (by omega)).trans a0⟩, ?_, h6, h7⟩
  · have r1 := ownsRow.fr h4 (((Fr.refl (fun j => j = pb) wr).setCell (p := ⟨pb, 1, none⟩) (.inl rfl) (.string t)).alloc (.cells #[.string a, .string t] 60)) (fun j hj e => n1 (by subst e; exact hj.symm))
    exact ownsRow.fr r1 ((Fr.refl (fun j => j = nb) _).setCell (p := ⟨nb, 4, none⟩) (.inl rfl) _) (fun j hj e => n2 (by subst e; exact hj.symm))
  · exact ((h5.setCell (p := ⟨pb, 1, none⟩) (.inr hpb) (.string t)).alloc _).setCell (p := ⟨nb, 4, none⟩) (.inr h8) _

theorem NodeF.fin {vA : Value} {att : List (ByteArray × ByteArray)} (h : NodeF w b rb nb wr s par tag id cls sp c vA att) :
    let wz := ((((wr.setCell ⟨rb, 0, none⟩ (.int .i64 par)).setCell ⟨rb, 1, none⟩ (.string tag)).setCell ⟨rb, 2, none⟩ (.string id)).setCell ⟨rb, 3, none⟩ (.slice sp cls.length c)).setCell ⟨rb, 4, none⟩ vA
    wz.heap[rb]? = some (.cells #[.int .i64 par, .string tag, .string id, .slice sp cls.length c, vA] 47 (0, 0)) ∧
      wz.ownsRow w.heap.size 9 1 (.slice sp cls.length c) cls.length (cls.map Value.string) ∧ IsAtt w.heap.size wz vA att ∧ IsLot 49 wz b s ∧ Fr (fun k => k = b) w wz := by
  have n1 := ownsRow.ne h.row h.res (by intro c; simp [Z47])
  obtain ⟨h1, h2, h3, h4, h5, h6, h7, h8⟩ := h
  have f : Fr (fun j => j = rb) wr (((((wr.setCell ⟨rb, 0, none⟩ (.int .i64 par)).setCell ⟨rb, 1, none⟩ (.string tag)).setCell ⟨rb, 2, none⟩ (.string id)).setCell ⟨rb, 3, none⟩ (.slice sp cls.length c)).setCell ⟨rb, 4, none⟩ vA) :=
    (((((Fr.refl (fun j => j = rb) wr).setCell (p := ⟨rb, 0, none⟩) (.inl rfl) _).setCell (p := ⟨rb, 1, none⟩) (.inl rfl) _).setCell (p := ⟨rb, 2, none⟩) (.inl rfl) _).setCell (p := ⟨rb, 3, none⟩) (.inl rfl) _).setCell (p := ⟨rb, 4, none⟩) (.inl rfl) _
  have hr := heapSet (heapSet (heapSet (heapSet (heapSet h2 0 (.int .i64 par)) 1 (.string tag)) 2 (.string id)) 3 (.slice sp cls.length c)) 4 vA
  refine ⟨by simpa using hr, ownsRow.fr h4 f (fun j hj e => n1 (by subst e; exact hj.symm)), IsAtt.keep h5 (fun g a t hg => f.heap hg (fun e => ?_)), f.heap h1 (by omega), ?_⟩
  · subst e
    rw [h2] at hg
    simp [Z47] at hg
  · exact ((((h6.setCell (p := ⟨rb, 0, none⟩) (.inr h8) _).setCell (p := ⟨rb, 1, none⟩) (.inr h8) _).setCell (p := ⟨rb, 2, none⟩) (.inr h8) _).setCell (p := ⟨rb, 3, none⟩) (.inr h8) _).setCell (p := ⟨rb, 4, none⟩) (.inr h8) _
end
end Go.Proofs.Ytdjdpfmogphoiaa
