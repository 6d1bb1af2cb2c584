/- A node of a lot at any state: what it is, and the steps that make it. -/
import Derived.Test.YtdjdpfmogphoiaaNode
namespace Go.Proofs.Ytdjdpfmogphoiaa
open Go.RowKit Go.Maps Go.ChangeShapes Go.WideShapes Go.ChangeAt Go.WideMaps Go.WideElems

def pick (l : List ByteArray) (s : Int) : ByteArray := (l[(nxV s l.length).toNat]?).getD ⟨#[]⟩
def it (s : Int) : Nat → Int
  | 0 => s
  | k + 1 => nxS (it s k)
def lTag : List ByteArray := [⟨#[97]⟩, ⟨#[98]⟩, ⟨#[99]⟩]
def lId : List ByteArray := [⟨#[120]⟩, ⟨#[121]⟩, ⟨#[122]⟩]
def lCls : List ByteArray := [⟨#[112]⟩, ⟨#[113]⟩, ⟨#[114]⟩, ⟨#[115]⟩]
def lNam : List ByteArray := [⟨#[109]⟩, ⟨#[110]⟩]
def lTxt : List ByteArray := [⟨#[49]⟩, ⟨#[50]⟩, ⟨#[49, 32, 50]⟩, ⟨#[49, 45, 50]⟩]
def clsL (s : Int) : Nat → List ByteArray
  | 0 => []
  | k + 1 => clsL s k ++ [pick lCls (it s k)]
theorem clsL_len (s : Int) (k : Nat) : (clsL s k).length = k := by
  induction k with
  | zero => rfl
  | succ k ih => simp [clsL, ih]

/-- What a node reads as. -/
structure NodeD where
  par : Int
  tag : ByteArray
  id : ByteArray
  cls : List ByteArray
  att : List (ByteArray × ByteArray)

def g1 (s : Int) (i : Nat) : Int := if 0 < i then nxS s else s
def gPar (s : Int) (i : Nat) : Int := if 0 < i then (i : Int) - 1 - nxV s (min (i : Int) 4) else -1
def gId (s : Int) : ByteArray := if nxV s 4 = 0 then pick lId (nxS s) else ⟨#[]⟩
def g2 (s : Int) : Int := if nxV s 4 = 0 then nxS (nxS s) else nxS s
def gAtt (s : Int) : List (ByteArray × ByteArray) := if nxV s 3 = 0 then [(pick lNam (nxS s), pick lTxt (nxS (nxS s)))] else []
def g3 (s : Int) : Int := if nxV s 3 = 0 then nxS (nxS (nxS s)) else nxS s
/-- The state ahead of the classes' number; behind the classes. -/
def gC (s : Int) (i : Nat) : Int := g2 (nxS (g1 s i))
def gN (s : Int) (i : Nat) : Nat := (nxV (gC s i) 3).toNat
def gE (s : Int) (i : Nat) : Int := it (nxS (gC s i)) (gN s i)
def gNode (s : Int) (i : Nat) : NodeD := ⟨gPar s i, pick lTag (g1 s i), gId (nxS (g1 s i)), clsL (nxS (gC s i)) (gN s i), gAtt (gE s i)⟩
def gSt (s : Int) (i : Nat) : Int := g3 (gE s i)

/-- The attributes' slice: none, or one. -/
def IsAtt (base : Nat) (w : World) (v : Value) (l : List (ByteArray × ByteArray)) : Prop :=
  (l = [] ∧ v = .slice none 0 0) ∨ ∃ a t g, l = [(a, t)] ∧ v = .slice (some ⟨g, 0, none⟩) 1 1 ∧ base ≤ g ∧ w.heap[g]? = some (.cells #[.string a, .string t] 60 (0, 0))

/-- A node that is being made. -/
structure NodeT (w : World) (b rb nb : Nat) (wr : World) (s par : Int) (tag id : ByteArray) (cls : List ByteArray) (sp : Option Addr) (c : Nat) : Prop where
  lot : IsLot 49 wr b s
  res : wr.heap[rb]? = some Z47
  node : wr.heap[nb]? = some (.cells #[.int .i64 par, .string tag, .string id, .slice sp cls.length c, .slice none 0 0] 47 (0, 0))
  row : wr.ownsRow w.heap.size 9 1 (.slice sp cls.length c) cls.length (cls.map Value.string)
  fr : Fr (fun k => k = b) w wr
  hb : b < w.heap.size
  hr : w.heap.size ≤ rb
  hn : w.heap.size ≤ nb
  ne : nb ≠ rb

section
variable {w wr : World} {b rb nb : Nat} {s par : Int} {tag id : ByteArray} {cls : List ByteArray} {sp : Option Addr} {c : Nat}

theorem NodeT.alloc (h : NodeT w b rb nb wr s par tag id cls sp c) (o : Obj) : NodeT w b rb nb (wr.alloc o) s par tag id cls sp c :=
  ⟨heapAlloc h.lot, heapAlloc h.res, heapAlloc h.node, ownsRow.fr h.row ((Fr.refl (fun _ => False) wr).alloc o) (by simp), h.fr.alloc o, h.hb, h.hr, h.hn, h.ne⟩
theorem NodeT.drew (h : NodeT w b rb nb wr s par tag id cls sp c) : NodeT w b rb nb wr.drew s par tag id cls sp c :=
  ⟨h.lot, h.res, h.node, h.row, h.fr.drew, h.hb, h.hr, h.hn, h.ne⟩
/-- A step that turns the lot alone. -/
theorem NodeT.lotStep (h : NodeT w b rb nb wr s par tag id cls sp c) {w' : World} {s' : Int} (l : IsLot 49 w' b s') (f : Fr (fun k => k = b) wr w') : NodeT w b rb nb w' s' par tag id cls sp c := by
  have n := ownsRow.ne h.row h.lot (by intro c; simp)
  obtain ⟨h1, h2, h3, h4, h5, h6, h7, h8, h9⟩ := h
  exact ⟨l, f.heap h2 (by omega), f.heap h3 (by omega), ownsRow.fr h4 f (fun j hj e => n (by subst e; exact hj.symm)), h5.trans f, h6, h7, h8, h9⟩
theorem NodeT.next (h : NodeT w b rb nb wr s par tag id cls sp c) (n : Int) :
    Calls Try.prog 10 #[.pointer (some ⟨b, 0, none⟩), .int .i64 n] wr fun e w' => e = .returned (.int .i64 (nxV s n)) ∧ NodeT w b rb nb w' (nxS s) par tag id cls sp c := by
  refine (Next_any b s n wr h.lot).mono ?_
  rintro e w' ⟨rfl, l, f⟩
  exact ⟨rfl, h.lotStep l f⟩
theorem NodeT.one (h : NodeT w b rb nb wr s par tag id cls sp c) (sb : Nat) (l : List ByteArray) (T : TypeId) (hs : wr.heap[sb]? = some (.cells (l.map Value.string).toArray T (0, 0))) (hT : T ≠ 49) (h1 : 1 ≤ l.length) (h2 : l.length ≤ 2 ^ 63 - 1) :
    Calls Try.prog 24 #[.pointer (some ⟨b, 0, none⟩), .slice (some ⟨sb, 0, none⟩) l.length l.length] wr fun e w' => e = .returned (.string (pick l s)) ∧ NodeT w b rb nb w' (nxS s) par tag id cls sp c ∧ Fr (fun k => k = b) wr w' := by
  have hne : sb ≠ b := by
    rintro rfl
    have := h.lot
    unfold IsLot at this
    rw [this] at hs
    simp at hs
    exact hT hs.2.symm
  refine (one_str b sb l.length l s T wr h.lot hne hs h1 (Nat.le_refl _) h2).mono ?_
  rintro e w' ⟨t, rfl, ht, l', f⟩
  exact ⟨by unfold pick; rw [ht]; rfl, h.lotStep l' f, f⟩
theorem NodeT.setPar (h : NodeT w b rb nb wr s par tag id cls sp c) (p : Int) : NodeT w b rb nb (wr.setCell ⟨nb, 0, none⟩ (.int .i64 p)) s p tag id cls sp c := by
  have n := ownsRow.ne h.row h.node (by intro c; simp)
  obtain ⟨h1, h2, h3, h4, h5, h6, h7, h8, h9⟩ := h
  exact ⟨(heapSetOther 0 _ (by omega)).trans h1, (heapSetOther 0 _ (fun e => h9 e.symm)).trans h2, by simpa using heapSet h3 0 (.int .i64 p), ownsRow.fr h4 ((Fr.refl (fun j => j = nb) wr).setCell (p := ⟨nb, 0, none⟩) (.inl rfl) _) (fun j hj e => n (by subst e; exact hj.symm)), h5.setCell (p := ⟨nb, 0, none⟩) (.inr h8) _, h6, h7, h8, h9⟩
theorem NodeT.setTag (h : NodeT w b rb nb wr s par tag id cls sp c) (t : ByteArray) : NodeT w b rb nb (wr.setCell ⟨nb, 1, none⟩ (.string t)) s par t id cls sp c := by
  have n := ownsRow.ne h.row h.node (by intro c; simp)
  obtain ⟨h1, h2, h3, h4, h5, h6, h7, h8, h9⟩ := h
  exact ⟨(heapSetOther 1 _ (by omega)).trans h1, (heapSetOther 1 _ (fun e => h9 e.symm)).trans h2, by simpa using heapSet h3 1 (.string t), ownsRow.fr h4 ((Fr.refl (fun j => j = nb) wr).setCell (p := ⟨nb, 1, none⟩) (.inl rfl) _) (fun j hj e => n (by subst e; exact hj.symm)), h5.setCell (p := ⟨nb, 1, none⟩) (.inr h8) _, h6, h7, h8, h9⟩
theorem NodeT.setId (h : NodeT w b rb nb wr s par tag id cls sp c) (t : ByteArray) : NodeT w b rb nb (wr.setCell ⟨nb, 2, none⟩ (.string t)) s par tag t cls sp c := by
  have n := ownsRow.ne h.row h.node (by intro c; simp)
  obtain ⟨h1, h2, h3, h4, h5, h6, h7, h8, h9⟩ := h
  exact ⟨(heapSetOther 2 _ (by omega)).trans h1, (heapSetOther 2 _ (fun e => h9 e.symm)).trans h2, by simpa using heapSet h3 2 (.string t), ownsRow.fr h4 ((Fr.refl (fun j => j = nb) wr).setCell (p := ⟨nb, 2, none⟩) (.inl rfl) _) (fun j hj e => n (by subst e; exact hj.symm)), h5.setCell (p := ⟨nb, 2, none⟩) (.inr h8) _, h6, h7, h8, h9⟩
/-- A class more. -/
theorem NodeT.addCls (h : NodeT w b rb nb wr s par tag id cls sp c) {w7 : World} {sp' : Option Addr} {c' : Nat} (t : ByteArray)
    (hown : w7.ownsRow w.heap.size 9 1 (.slice sp' (cls.length + 1) c') (cls.length + 1) (cls.map Value.string ++ [.string t])) (hgrow : wr.grownBy w7 (Value.slice sp cls.length c).ownBlock) :
    NodeT w b rb nb (w7.setCell ⟨nb, 3, none⟩ (.slice sp' (cls.length + 1) c')) s par tag id (cls ++ [t]) sp' c' := by
  have n1 := ownsRow.ne h.row h.lot (by intro c; simp)
  have n2 := ownsRow.ne h.row h.res (by intro c; simp [Z47])
  have n3 := ownsRow.ne h.row h.node (by intro c; simp)
  obtain ⟨h1, h2, h3, h4, h5, h6, h7, h8, h9⟩ := h
  have d7 := heapGrown hgrow h3 n3
  have n7 := ownsRow.ne hown d7 (by intro c; simp)
  have hl : (cls ++ [t]).length = cls.length + 1 := by simp
  refine ⟨(heapSetOther 3 _ (by omega)).trans (heapGrown hgrow h1 n1), (heapSetOther 3 _ (fun e => h9 e.symm)).trans (heapGrown hgrow h2 n2), ?_, ?_, (h5.grown hgrow (fun j e => .inr (h4.lt j e).1)).setCell (p := ⟨nb, 3, none⟩) (.inr h8) _, h6, h7, h8, h9⟩
  · rw [hl]
    simpa using heapSet d7 3 (.slice sp' (cls.length + 1) c')
  · rw [hl, List.map_append]
    exact ownsRow.fr hown ((Fr.refl (fun j => j = nb) w7).setCell (p := ⟨nb, 3, none⟩) (.inl rfl) _) (fun j hj e => n7 (by subst e; exact hj.symm))
end

theorem NodeT.new (w : World) (b : Nat) (s : Int) (h : IsLot 49 w b s) : NodeT w b w.heap.size (w.heap.size + 1) ((w.alloc Z47).alloc (.cells #[.int .i64 (-1), .string ⟨#[]⟩, .string ⟨#[]⟩, .slice none 0 0, .slice none 0 0] 47)) s (-1) ⟨#[]⟩ ⟨#[]⟩ [] none 0 := by
  have hb := ltOf h
  have := heapNew (w.alloc Z47) (.cells #[.int .i64 (-1), .string ⟨#[]⟩, .string ⟨#[]⟩, .slice none 0 0, .slice none 0 0] 47)
  rw [World.size_alloc] at this
  exact ⟨heapAlloc (heapAlloc h), heapAlloc (heapNew w Z47), this, World.ownsRow_nil _ _ _ _, ((Fr.refl _ w).alloc _).alloc _, hb, Nat.le_refl _, by omega, by omega⟩
end Go.Proofs.Ytdjdpfmogphoiaa
