/- Rows of raw rules in memory. No condition. -/
import Derived.Test.YtknpdkfjmhpbpaaAt
namespace Go.Proofs.Ytknpdkfjmhpbpaa
set_option linter.unusedVariables false
open Go.RowKit Go.Maps Go.ChangeShapes Go.WideShapes Go.ChangeAt Go.WideMaps Go.WideElems

theorem info37 : (Try.prog.info? 37).map (fun i => (i.zero, i.size, i.bytes)) = some (some (.agg #[.slice none 0 0, .slice none 0 0]), 2, 48) := by kernel_rfl

/-- Rows of unlike elements lie in unlike blocks. -/
theorem OwnsWin.apart {w : World} {b1 b2 e1 e2 s1 s2 n1 n2 : Nat} {v1 v2 : Value} {xs1 xs2 : List Value} (h1 : OwnsWin w b1 e1 s1 v1 n1 xs1) (h2 : OwnsWin w b2 e2 s2 v2 n2 xs2) (he : e1 ≠ e2) {k : Nat} (hk : v1.ownBlock = some k) : v2.ownBlock ≠ some k := by
  rcases h1.2 with ⟨rfl, _⟩ | ⟨g, off, cap, cur, rfl, _, hg, _⟩
  · simp [Value.ownBlock] at hk
  · intro e
    refine h2.ne hg (fun c h => ?_) ?_
    · cases h; exact he rfl
    · rw [e, ← hk]
      simp only [Value.ownBlock] at hk ⊢
/-- A row of tokens of the call's own. -/
def OwnT (W : World) (base : Nat) (v : Value) (ts : List Tok) : Prop := ∃ sp c, v = .slice sp ts.length c ∧ OwnsWin W base 35 5 (.slice sp ts.length c) ts.length (tL ts) ∧ ∀ x ∈ ts, x.f1.size ≤ maxLen
theorem OwnT.fr {W W' : World} {base : Nat} {v : Value} {ts : List Tok} {S : Nat → Prop} (h : OwnT W base v ts) (f : Fr S W W') (hS : ∀ k, v.ownBlock = some k → ¬ S k) : OwnT W' base v ts := by
  obtain ⟨sp, c, rfl, h1, h2⟩ := h
  exact ⟨sp, c, rfl, h1.fr f hS, h2⟩
theorem OwnT.lower {W : World} {base b' : Nat} {v : Value} {ts : List Tok} (h : OwnT W b' v ts) (hb : base ≤ b') : OwnT W base v ts := by
  obtain ⟨sp, c, rfl, h1, h2⟩ := h
  exact ⟨sp, c, rfl, h1.lower hb, h2⟩
theorem OwnT.of {w W : World} {v : Value} {ts : List Tok} (h : NewT w ts v W) (hz : ∀ x ∈ ts, x.f1.size ≤ maxLen) : OwnT W w.heap.size v ts ∧ Fr (fun _ => False) w W := by
  obtain ⟨sp, c, rfl, h1, h2⟩ := h
  exact ⟨⟨sp, c, rfl, h1, hz⟩, h2⟩
theorem OwnT.rd {W : World} {base : Nat} {v : Value} {ts : List Tok} (h : OwnT W base v ts) : ∃ sp c, v = .slice sp ts.length c ∧ RdT W sp ts := by
  obtain ⟨sp, c, rfl, h1, h2⟩ := h
  exact ⟨sp, c, rfl, RdT.win h1 h2⟩
/-- The cells of raw rules. -/
def RawsIn (W : World) (base : Nat) : List Value → List RawT → Prop
  | [], [] => True
  | a :: b :: ys, x :: rs => OwnT W base a x.f0 ∧ OwnT W base b x.f1 ∧ RawsIn W base ys rs
  | _, _ => False
theorem RawsIn.fr {W W' : World} {base : Nat} {S : Nat → Prop} (f : Fr S W W') (hS : ∀ v ts, OwnT W base v ts → ∀ k, v.ownBlock = some k → ¬ S k) : ∀ {ys : List Value} {rs : List RawT}, RawsIn W base ys rs → RawsIn W' base ys rs
  | [], [], _ => trivial
  | a :: b :: ys, x :: rs, ⟨h1, h2, h3⟩ => ⟨h1.fr f (hS _ _ h1), h2.fr f (hS _ _ h2), RawsIn.fr f hS h3⟩
  | [], _ :: _, h => h.elim
  | [_], [], h => h.elim
  | [_], _ :: _, h => h.elim
  | _ :: _ :: _, [], h => h.elim
theorem RawsIn.snoc {W : World} {base : Nat} {a b : Value} {x : RawT} (h1 : OwnT W base a x.f0) (h2 : OwnT W base b x.f1) : ∀ {ys : List Value} {rs : List RawT}, RawsIn W base ys rs → RawsIn W base (ys ++ [a, b]) (rs ++ [x])
  | [], [], _ => ⟨h1, h2, trivial⟩
  | c :: d :: ys, y :: rs, ⟨h3, h4, h5⟩ => ⟨h3, h4, RawsIn.snoc h1 h2 h5⟩
  | [], _ :: _, h => h.elim
  | [_], [], h => h.elim
  | [_], _ :: _, h => h.elim
  | _ :: _ :: _, [], h => h.elim
theorem RawsIn.at_ {W : World} {base : Nat} : ∀ {ys : List Value} {rs : List RawT} {i : Nat} {x : RawT}, RawsIn W base ys rs → rs[i]? = some x → ∃ a b, ys[i * 2]? = some a ∧ ys[i * 2 + 1]? = some b ∧ OwnT W base a x.f0 ∧ OwnT W base b x.f1
  | [], [], i, x, _, h => by simp at h
  | a :: b :: ys, y :: rs, 0, x, ⟨h1, h2, _⟩, h => by
    simp at h
    subst h
    exact ⟨a, b, rfl, rfl, h1, h2⟩
  | a :: b :: ys, y :: rs, i + 1, x, ⟨_, _, h3⟩, h => by
    obtain ⟨c, d, e1, e2, h⟩ := RawsIn.at_ h3 (i := i) (x := x) (by simpa using h)
    refine ⟨c, d, ?_, ?_, h⟩
    · rw [show (i + 1) * 2 = i * 2 + 1 + 1 by omega]; simpa using e1
    · rw [show (i + 1) * 2 + 1 = i * 2 + 1 + 1 + 1 by omega]; simpa using e2
  | [], _ :: _, _, _, h, _ => h.elim
  | [_], [], _, _, h, _ => h.elim
  | [_], _ :: _, _, _, h, _ => h.elim
  | _ :: _ :: _, [], _, _, h, _ => h.elim

/-- A new row of raw rules. -/
structure RwR (w : World) (rs : List RawT) (v : Value) (W : World) : Prop where
  row : ∃ sp c ys, v = .slice sp rs.length c ∧ OwnsWin W w.heap.size 37 2 (.slice sp rs.length c) rs.length ys ∧ RawsIn W w.heap.size ys rs
  fr : Fr (fun _ => False) w W
theorem RwR.nil {w W : World} (f : Fr (fun _ => False) w W) : RwR w [] (.slice none 0 0) W := ⟨⟨none, 0, [], rfl, OwnsWin.nil _ _ _ _, trivial⟩, f⟩
theorem RwR.fr0 {w W W' : World} {rs : List RawT} {v : Value} (h : RwR w rs v W) (f : Fr (fun _ => False) W W') : RwR w rs v W' := by
  obtain ⟨⟨sp, c, ys, e, h1, h2⟩, h3⟩ := h
  exact ⟨⟨sp, c, ys, e, h1.fr f (by simp), RawsIn.fr f (fun _ _ _ _ _ e => e) h2⟩, h3.trans f⟩
theorem RwR.step {w W w4 : World} {rs : List RawT} {x : RawT} {n : Nat} {sp sp' : Option Addr} {c c' : Nat} {Y : Obj} {ys : List Value} {a b : Value} (hn : rs.length = n) (hf : Fr (fun _ => False) w W) (h2 : OwnsWin W w.heap.size 37 2 (.slice sp n c) n ys) (hin : RawsIn W w.heap.size ys rs)
    (ha : OwnT W w.heap.size a x.f0) (hb : OwnT W w.heap.size b x.f1)
    (hown : OwnsWin w4 w.heap.size 37 2 (.slice sp' (n + 1) c') (n + 1) (ys ++ [a, b])) (hgrow : (W.alloc Y).grownBy w4 (Value.slice sp n c).ownBlock) :
    RwR w (rs ++ [x]) (.slice sp' (n + 1) c') w4 := by
  have hl : (rs ++ [x]).length = n + 1 := by simp [hn]
  have g4 : Fr (fun k => (Value.slice sp n c).ownBlock = some k) W w4 := ((Fr.refl _ W).alloc Y).grown hgrow (fun k e => .inl e)
  have hS : ∀ v ts, OwnT W w.heap.size v ts → ∀ k, v.ownBlock = some k → ¬ (Value.slice sp n c).ownBlock = some k := by
    rintro v ts ⟨s1, c1, rfl, h3, _⟩ k hk
    exact h3.apart h2 (by decide) hk
  refine ⟨⟨sp', c', ys ++ [a, b], by rw [hl], by rw [hl]; exact hown, RawsIn.snoc (ha.fr g4 (hS _ _ ha)) (hb.fr g4 (hS _ _ hb)) (RawsIn.fr g4 hS hin)⟩, ((hf.alloc Y).grown hgrow (fun k e => .inr (h2.lt k e).1))⟩

theorem parV_at {ts : List Tok} {k : Nat} {x : Tok} (hx : ts[k]? = some x) : parV ts k = if x.f0 = 9 then parV ts (k + 1) else if x.f0 = 2 then parV ts (atV ts k) else if fndV ts 14 14 k < ts.length then
    ⟨(ts.take (fndV ts 14 14 k)).drop k, (ts.take (fndV ts 15 15 (fndV ts 14 14 k + 1))).drop (fndV ts 14 14 k + 1)⟩ :: parV ts (skV ts (fndV ts 14 14 k)) else [] := by
  obtain ⟨hk, e⟩ := List.getElem?_eq_some_iff.1 hx
  subst e
  rw [parV, dif_pos hk]
  split
  · rfl
  · split
    · rfl
    · split <;> rfl
theorem parV_end (ts : List Tok) : parV ts ts.length = [] := by rw [parV, dif_neg (by omega)]
end Go.Proofs.Ytknpdkfjmhpbpaa
