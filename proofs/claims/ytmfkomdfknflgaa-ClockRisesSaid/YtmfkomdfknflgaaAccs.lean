/- A row of accesses that is handed in; reads alone and atomic accesses alone: plain. -/
import Derived.Test.YtmfkomdfknflgaaLaw1
import Derived.Test.YtmfkomdfknflgaaRows2
import Derived.Lib.SmallJoins
namespace Go.Proofs.Ytmfkomdfknflgaa
open Go.RowKit Go.Maps Go.ChangeShapes Go.WideShapes Go.ChangeAt Go.WideMaps Go.WideElems

def AccR (_w : World) (cs : List Value) (a : Acc) : Prop := cs = [.int .i64 a.who, .int .i64 a.cell, .bool a.wt, .bool a.at_] ∧ InR a.who ∧ InR a.cell
theorem inR_of {z : Int} (h : (Lit.int .i64 z).wf = true) : InR z := by simpa [InR, Lit.wf, IntKind.min, IntKind.max, IntKind.signed, IntKind.bits] using h
theorem accs_open {H : Type} {enc : TypeId × Value → H} {w : World} {v : Value} {d : DataW H} {ps : List MemPlace} {r : Reach} {b0 : Nat}
    (hval : Value.okWide Try.prog w r b0 29 v) (h : DataW.Trod enc Try.prog w 0 (fun _ => true) true 29 v d ps) : ∃ l, RowR 4 AccR w v l := by
  obtain ⟨a, n, c, rfl⟩ := okWide_slice Try.underlying29 hval
  obtain ⟨fuel, hf⟩ := h
  refine rowR_open Try.underlying29 (k := 4) (by kernel_rfl) (by omega) rfl (by simpa [Value.cells] using hf) (fun n cs y hl hy => ?_)
  obtain ⟨y0, y1, y2, y3, m, _, _, h0, h1, h2, h3⟩ := Go.Joins.trod_struct4 Try.underlying27 hy
  have e3 : Try.prog.cellsOf 3 = 1 := by kernel_rfl
  have e4 : Try.prog.cellsOf 4 = 1 := by kernel_rfl
  obtain ⟨c0, c1, c2, c3, rfl⟩ : ∃ c0 c1 c2 c3, cs = [c0, c1, c2, c3] := by
    match cs, hl with
    | [c0, c1, c2, c3], _ => exact ⟨c0, c1, c2, c3, rfl⟩
  simp only [e3, e4, List.drop_zero, List.take_succ_cons, List.take_zero, List.drop_succ_cons] at h0 h1 h2 h3
  obtain ⟨a0, ha0, _, hw0⟩ := DataW.trod_int Try.underlying3 h0
  obtain ⟨a1, ha1, _, hw1⟩ := DataW.trod_int Try.underlying3 h1
  obtain ⟨a2, ha2, _⟩ := DataW.trod_bool Try.underlying4 h2
  obtain ⟨a3, ha3, _⟩ := DataW.trod_bool Try.underlying4 h3
  simp at ha0 ha1 ha2 ha3
  exact ⟨⟨a0, a1, a2, a3⟩, by unfold AccR; rw [ha0, ha1, ha2, ha3]; exact ⟨rfl, inR_of hw0, inR_of hw1⟩⟩
/-- An access of the row, in whatever world since. -/
theorem acc_at {w : World} {p : Option Addr} {c : Nat} {l : List Acc} (h : RowR 4 AccR w (.slice p l.length c) l) {k : Nat} {a : Acc} (hk : l[k]? = some a) : InR a.who ∧ InR a.cell ∧ ∃ g off, p = some ⟨g, off, none⟩ ∧ ∀ W, Fr (fun _ => False) w W →
    W.cell? ⟨g, off + k * 4, none⟩ = some (.int .i64 a.who) ∧ W.cell? ⟨g, off + k * 4 + 1, none⟩ = some (.int .i64 a.cell) ∧ W.cell? ⟨g, off + k * 4 + 2, none⟩ = some (.bool a.wt) ∧ W.cell? ⟨g, off + k * 4 + 3, none⟩ = some (.bool a.at_) := by
  obtain ⟨p', c', e, _, _, h3⟩ := h
  cases e
  obtain ⟨g, off, cs, hp, hg, hl, hc, rfl, h1, h2⟩ := h3 k a hk
  refine ⟨h1, h2, g, off, hp, fun W f => ?_⟩
  have q : ∀ j, j < 4 → W.cell? ⟨g, off + k * 4 + j, none⟩ = [Value.int .i64 a.who, .int .i64 a.cell, .bool a.wt, .bool a.at_][j]? := fun j hj => (f.cell (p := ⟨g, off + k * 4 + j, none⟩) hg (by simp)).trans (hc j hj)
  exact ⟨q 0 (by omega), q 1 (by omega), q 2 (by omega), q 3 (by omega)⟩

/-- What no access of a kind leaves. -/
def Hush (at_ : Bool) (g : LG) : Prop := ∀ z k v, k < 4 → (if at_ then k / 2 % 2 = 0 else k % 2 = 1) → (celOf g z).t k v = 0
theorem Hush.new (at_ : Bool) (n : Nat) : Hush at_ (newG n) := fun _ _ _ _ _ => rfl
def toKind (at_ : Bool) (a : Acc) : Acc := if at_ then { a with at_ := true } else { a with wt := false }
theorem Hush.ok {at_ : Bool} {g : LG} (h : Hush at_ g) (a : Acc) : okN g (toKind at_ a) = true := by
  rw [okN_iff]
  intro k hk hs v _ _ hp
  have : (celOf g (toKind at_ a).cell).t k v = 0 := by
    refine h _ k v hk ?_
    unfold skp toKind at hs
    cases at_ with
    | true => simp at hs; simp; omega
    | false => simp at hs; simp; omega
  omega
theorem Hush.do_ {at_ : Bool} {g : LG} (h : Hush at_ g) (a : Acc) : Hush at_ (DoG g (toKind at_ a)) := by
  unfold DoG
  split
  · intro z k v hk hc
    rw [celOf_do]
    split
    · have hne : k ≠ kindN (toKind at_ a).wt (toKind at_ a).at_ := by
        unfold toKind kindN
        rintro rfl
        cases at_ with
        | true => simp at hc; split at hc <;> simp at hc
        | false => simp at hc; split at hc <;> simp at hc
      unfold celN
      simp only
      rw [upd_other _ _ hne]
      exact h _ k v hk hc
    · exact h z k v hk hc
  · exact h
theorem Hush.doB {at_ : Bool} {g : LG} (h : Hush at_ g) {a : Acc} (hi : isB g.n a.who = true) : DoB g (toKind at_ a) = true := by
  have e : (toKind at_ a).who = a.who := by unfold toKind; split <;> rfl
  unfold DoB
  rw [e, if_pos hi]
  exact h.ok a
end Go.Proofs.Ytmfkomdfknflgaa
