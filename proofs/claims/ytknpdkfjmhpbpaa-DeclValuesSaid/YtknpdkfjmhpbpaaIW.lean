/- A new row of whole numbers that a call has, between two steps. No condition. -/
import Derived.Test.YtknpdkfjmhpbpaaTk
namespace Go.Proofs.Ytknpdkfjmhpbpaa
open Go.RowKit Go.Maps Go.ChangeShapes Go.WideShapes Go.ChangeAt Go.WideMaps Go.WideElems

def iZ (l : List Int) : List Value := l.map fun x => Value.int .i64 x
theorem iZ_snoc (l : List Int) (x : Int) : iZ (l ++ [x]) = iZ l ++ [.int .i64 x] := by simp [iZ]
theorem iZ_len (l : List Int) : (iZ l).length = l.length := by simp [iZ]
/-- A row as it is read. -/
def RdZ (w : World) (p : Option Addr) (l : List Int) : Prop :=
  ∀ (k : Nat) x, l[k]? = some x → ∃ g off, p = some ⟨g, off, none⟩ ∧ g < w.heap.size ∧ w.cell? ⟨g, off + k, none⟩ = some (.int .i64 x)
theorem RdZ.win {w : World} {base e n c : Nat} {sp : Option Addr} {l : List Int} (h : OwnsWin w base e 1 (.slice sp n c) n (iZ l)) : RdZ w sp l := by
  intro k x hk
  have hlt : k < l.length := (List.getElem?_eq_some_iff.1 hk).1
  have hn : 0 < n := by
    have := h.1
    rw [iZ_len] at this
    omega
  obtain ⟨g, off, cap, hv, _, _, hg, _, hcell, _⟩ := h.cells hn
  cases hv
  exact ⟨g, off, rfl, hg, hcell k _ (by unfold iZ; rw [List.getElem?_map, hk]; rfl)⟩
theorem RdZ.fr {w w' : World} {p : Option Addr} {l : List Int} (h : RdZ w p l) (f : Fr (fun _ => False) w w') : RdZ w' p l := by
  intro k x hk
  obtain ⟨g, off, hp, hg, hc⟩ := h k x hk
  exact ⟨g, off, hp, Nat.lt_of_lt_of_le hg f.size, (f.cell (p := ⟨g, off + k, none⟩) hg (by simp)).trans hc⟩

structure IW (w : World) (l : List Int) (v : Value) (W : World) : Prop where
  row : ∃ sp c, v = .slice sp l.length c ∧ OwnsWin W w.heap.size 3 1 (.slice sp l.length c) l.length (iZ l)
  fr : Fr (fun _ => False) w W
theorem IW.nil {w W : World} (f : Fr (fun _ => False) w W) : IW w [] (.slice none 0 0) W := ⟨⟨none, 0, rfl, OwnsWin.nil _ _ _ _⟩, f⟩
theorem IW.fr0 {w W W' : World} {l : List Int} {v : Value} (h : IW w l v W) (f : Fr (fun _ => False) W W') : IW w l v W' := by
  obtain ⟨⟨sp, c, e, h1⟩, h2⟩ := h
  exact ⟨⟨sp, c, e, h1.fr f (by simp)⟩, h2.trans f⟩
theorem IW.step {w W w4 : World} {l : List Int} {x : Int} {sp sp' : Option Addr} {c c' : Nat} {Y : Obj} (hf : Fr (fun _ => False) w W) (h2 : OwnsWin W w.heap.size 3 1 (.slice sp l.length c) l.length (iZ l))
    (hown : OwnsWin w4 w.heap.size 3 1 (.slice sp' (l.length + 1) c') (l.length + 1) (iZ l ++ [.int .i64 x])) (hgrow : (W.alloc Y).grownBy w4 (Value.slice sp l.length c).ownBlock) :
    IW w (l ++ [x]) (.slice sp' (l.length + 1) c') w4 := by
  have hl : (l ++ [x]).length = l.length + 1 := by simp
  refine ⟨⟨sp', c', by rw [hl], ?_⟩, ((hf.alloc Y).grown hgrow (fun k e => .inr (h2.lt k e).1))⟩
  rw [hl, iZ_snoc]
  exact hown
/-- The last one is taken away. -/
theorem IW.pop {w W : World} {l : List Int} {n c : Nat} {sp : Option Addr} (hf : Fr (fun _ => False) w W) (h2 : OwnsWin W w.heap.size 3 1 (.slice sp l.length c) l.length (iZ l)) (hn : l.length = n + 1) : IW w l.dropLast (.slice sp n c) W := by
  have hl : l.dropLast.length = n := by rw [List.length_dropLast]; omega
  refine ⟨⟨sp, c, by rw [hl], ?_⟩, hf⟩
  have := h2.take n (by omega)
  rw [hl]
  rw [show iZ l.dropLast = (iZ l).take (n * 1) by unfold iZ; rw [List.dropLast_eq_take, List.map_take, hn, Nat.mul_one]; rfl]
  exact this
end Go.Proofs.Ytknpdkfjmhpbpaa
