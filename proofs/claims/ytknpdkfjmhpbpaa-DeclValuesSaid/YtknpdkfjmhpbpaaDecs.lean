/- Rows of declarations: plain, and in memory. No condition. -/
import Derived.Test.YtknpdkfjmhpbpaaOne
namespace Go.Proofs.Ytknpdkfjmhpbpaa
set_option linter.unusedVariables false
open Go.RowKit Go.Maps Go.ChangeShapes Go.WideShapes Go.ChangeAt Go.WideMaps Go.WideElems

theorem fndV_gt (ts : List Tok) (a b : Int) (i : Nat) (hi : i < ts.length) (h : ¬ (ts[i].f0 = a ∨ ts[i].f0 = b)) : i < fndV ts a b i := by
  rw [fndV, dif_pos hi, if_neg h]
  have h1 := skV_lt ts i hi
  have h2 := fndV_ge ts a b (skV ts i) (skV_le ts i (by omega))
  omega
/-- The declarations from i on. -/
def decV (ts : List Tok) (i : Nat) : List DeclT :=
  if h : i < ts.length then
    if ts[i].f0 = 9 ∨ ts[i].f0 = 12 then decV ts (i + 1)
    else if ts[i].f0 = 2 then decV ts (atV ts i)
    else if h2 : i < fndV ts 12 12 i then
      (oneV ((ts.take (fndV ts 12 12 i)).drop i)).toList ++ decV ts (fndV ts 12 12 i)
    else []
  else []
termination_by ts.length - i
decreasing_by
  · omega
  · have := atV_lt ts i h; omega
  · omega
theorem decV_at {ts : List Tok} {k : Nat} {x : Tok} (hx : ts[k]? = some x) : decV ts k = if x.f0 = 9 ∨ x.f0 = 12 then decV ts (k + 1) else if x.f0 = 2 then decV ts (atV ts k) else
    (oneV ((ts.take (fndV ts 12 12 k)).drop k)).toList ++ decV ts (fndV ts 12 12 k) := by
  obtain ⟨hk, e⟩ := List.getElem?_eq_some_iff.1 hx
  subst e
  rw [decV, dif_pos hk]
  split
  · rfl
  · split
    · rfl
    · rw [dif_pos (fndV_gt ts 12 12 k hk (by simp; omega))]
theorem decV_end (ts : List Tok) : decV ts ts.length = [] := by rw [decV, dif_neg (by omega)]
theorem oneV_len {ts : List Tok} {D : DeclT} (h : oneV ts = some D) : D.val.length ≤ ts.length := by
  unfold oneV at h
  split at h
  · cases h
  · rename_i x r
    split at h
    · split at h
      · rename_i y q hq
        split at h
        · cases h
          have h1 := lt1_len r
          have h2 := trimT_len q
          have h3 := impV_len (trimT q)
          rw [hq] at h1
          simp at h1 ⊢
          omega
        · cases h
      · cases h
    · cases h
theorem lt1_sub (ts : List Tok) : ∀ x ∈ lt1 ts, x ∈ ts := fun x h => (List.dropWhile_suffix _).subset h
theorem trimT_sub (ts : List Tok) : ∀ x ∈ trimT ts, x ∈ ts := fun x h => by
  unfold trimT rt1 at h
  rw [List.mem_reverse] at h
  have := (List.dropWhile_suffix _).subset h
  rw [List.mem_reverse] at this
  exact lt1_sub ts x this
theorem impV_sub (V : List Tok) : ∀ x ∈ (impV V).1, x ∈ V := by
  intro x
  have a : ∀ U : List Tok, x ∈ U.dropLast → x ∈ U := fun U h => List.dropLast_subset _ h
  unfold impV
  split
  · split
    · split
      · split
        · exact fun h => a _ (trimT_sub _ _ (a _ (trimT_sub _ _ h)))
        · exact id
      · exact id
    · exact id
  · exact id
theorem oneV_sub {ts : List Tok} {D : DeclT} (h : oneV ts = some D) : ∀ x ∈ D.val, x ∈ ts := by
  unfold oneV at h
  split at h
  · cases h
  · rename_i x r
    split at h
    · split at h
      · rename_i y q hq
        split at h
        · cases h
          intro z hz
          have h1 := impV_sub _ _ hz
          have h2 := trimT_sub _ _ h1
          have h3 := lt1_sub r z (by rw [hq]; exact List.mem_cons_of_mem _ h2)
          exact List.mem_cons_of_mem _ h3
        · cases h
      · cases h
    · cases h
theorem decV_len (ts : List Tok) (i : Nat) (hi : i ≤ ts.length) : (decV ts i).length + i ≤ ts.length ∧ ∀ x ∈ decV ts i, x.val.length ≤ ts.length := by
  induction hn : ts.length - i using Nat.strongRecOn generalizing i with
  | _ n ih =>
    rw [decV]
    by_cases hlt : i < ts.length
    · rw [dif_pos hlt]
      by_cases h9 : ts[i].f0 = 9 ∨ ts[i].f0 = 12
      · rw [if_pos h9]
        have := ih _ (by omega) (i + 1) hlt rfl
        exact ⟨by omega, this.2⟩
      · rw [if_neg h9]
        by_cases h2 : ts[i].f0 = 2
        · rw [if_pos h2]
          have hv := atV_lt ts i hlt
          have := ih _ (by omega) (atV ts i) (atV_le ts i) rfl
          exact ⟨by omega, this.2⟩
        · rw [if_neg h2]
          have hg : i < fndV ts 12 12 i := fndV_gt ts 12 12 i hlt (by simp; omega)
          have hv := fndV_le ts 12 12 i
          rw [dif_pos hg]
          have := ih _ (by omega) (fndV ts 12 12 i) hv rfl
          have hc := cut_len ts i (fndV ts 12 12 i)
          cases ho : oneV ((ts.take (fndV ts 12 12 i)).drop i) with
          | none => exact ⟨by simp; omega, fun x hx => this.2 x (by simpa using hx)⟩
          | some D =>
            have hD := oneV_len ho
            refine ⟨by simp; omega, fun x hx => ?_⟩
            rcases List.mem_cons.1 (by simpa using hx) with rfl | hx
            · omega
            · exact this.2 x hx
    · rw [dif_neg hlt]
      exact ⟨by simp; omega, fun x hx => by simp at hx⟩
/-- The cells of declarations. -/
def DecsIn (W : World) (base : Nat) : List Value → List DeclT → Prop
  | [], [] => True
  | a :: b :: c :: ys, x :: rs => a = .string x.nm ∧ OwnT W base b x.val ∧ c = .bool x.imp ∧ DecsIn W base ys rs
  | _, _ => False
theorem DecsIn.fr {W W' : World} {base : Nat} {S : Nat → Prop} (f : Fr S W W') (hS : ∀ v ts, OwnT W base v ts → ∀ k, v.ownBlock = some k → ¬ S k) : ∀ {ys : List Value} {rs : List DeclT}, DecsIn W base ys rs → DecsIn W' base ys rs
  | [], [], _ => trivial
  | a :: b :: c :: ys, x :: rs, ⟨h1, h2, h4, h3⟩ => ⟨h1, h2.fr f (hS _ _ h2), h4, DecsIn.fr f hS h3⟩
  | [], _ :: _, h => h.elim
  | [_], [], h => h.elim
  | [_], _ :: _, h => h.elim
  | [_, _], [], h => h.elim
  | [_, _], _ :: _, h => h.elim
  | _ :: _ :: _ :: _, [], h => h.elim
theorem DecsIn.snoc {W : World} {base : Nat} {b : Value} {x : DeclT} (h2 : OwnT W base b x.val) : ∀ {ys : List Value} {rs : List DeclT}, DecsIn W base ys rs → DecsIn W base (ys ++ [.string x.nm, b, .bool x.imp]) (rs ++ [x])
  | [], [], _ => ⟨rfl, h2, rfl, trivial⟩
  | c :: d :: e :: ys, y :: rs, ⟨h3, h4, h6, h5⟩ => ⟨h3, h4, h6, DecsIn.snoc h2 h5⟩
  | [], _ :: _, h => h.elim
  | [_], [], h => h.elim
  | [_], _ :: _, h => h.elim
  | [_, _], [], h => h.elim
  | [_, _], _ :: _, h => h.elim
  | _ :: _ :: _ :: _, [], h => h.elim
theorem DecsIn.at_ {W : World} {base : Nat} : ∀ {ys : List Value} {rs : List DeclT} {i : Nat} {x : DeclT}, DecsIn W base ys rs → rs[i]? = some x → ∃ b, ys[i * 3]? = some (.string x.nm) ∧ ys[i * 3 + 1]? = some b ∧ ys[i * 3 + 2]? = some (.bool x.imp) ∧ OwnT W base b x.val
  | [], [], i, x, _, h => by simp at h
  | a :: b :: c :: ys, y :: rs, 0, x, ⟨h1, h2, h4, _⟩, h => by
    simp at h
    subst h
    subst h1
    subst h4
    exact ⟨b, rfl, rfl, rfl, h2⟩
  | a :: b :: c :: ys, y :: rs, i + 1, x, ⟨_, _, _, h3⟩, h => by
    obtain ⟨d, e1, e2, e3, h⟩ := DecsIn.at_ h3 (i := i) (x := x) (by simpa using h)
    refine ⟨d, ?_, ?_, ?_, h⟩
    · rw [show (i + 1) * 3 = i * 3 + 1 + 1 + 1 by omega]; simpa using e1
    · rw [show (i + 1) * 3 + 1 = i * 3 + 1 + 1 + 1 + 1 by omega]; simpa using e2
    · rw [show (i + 1) * 3 + 2 = i * 3 + 2 + 1 + 1 + 1 by omega]; simpa using e3
  | [], _ :: _, _, _, h, _ => h.elim
  | [_], [], _, _, h, _ => h.elim
  | [_], _ :: _, _, _, h, _ => h.elim
  | [_, _], [], _, _, h, _ => h.elim
  | [_, _], _ :: _, _, _, h, _ => h.elim
  | _ :: _ :: _ :: _, [], _, _, h, _ => h.elim

/-- A new row of declarations. -/
structure RwD (w : World) (rs : List DeclT) (v : Value) (W : World) : Prop where
  row : ∃ sp c ys, v = .slice sp rs.length c ∧ OwnsWin W w.heap.size 48 3 (.slice sp rs.length c) rs.length ys ∧ DecsIn W w.heap.size ys rs
  fr : Fr (fun _ => False) w W
theorem RwD.nil {w W : World} (f : Fr (fun _ => False) w W) : RwD w [] (.slice none 0 0) W := ⟨⟨none, 0, [], rfl, OwnsWin.nil _ _ _ _, trivial⟩, f⟩
theorem RwD.fr0 {w W W' : World} {rs : List DeclT} {v : Value} (h : RwD w rs v W) (f : Fr (fun _ => False) W W') : RwD w rs v W' := by
  obtain ⟨⟨sp, c, ys, e, h1, h2⟩, h3⟩ := h
  exact ⟨⟨sp, c, ys, e, h1.fr f (by simp), DecsIn.fr f (fun _ _ _ _ _ e => e) h2⟩, h3.trans f⟩
theorem RwD.step {w W w4 : World} {rs : List DeclT} {x : DeclT} {n : Nat} {sp sp' : Option Addr} {c c' : Nat} {Y : Obj} {ys : List Value} {b : Value} (hn : rs.length = n) (hf : Fr (fun _ => False) w W) (h2 : OwnsWin W w.heap.size 48 3 (.slice sp n c) n ys) (hin : DecsIn W w.heap.size ys rs)
    (hb : OwnT W w.heap.size b x.val)
    (hown : OwnsWin w4 w.heap.size 48 3 (.slice sp' (n + 1) c') (n + 1) (ys ++ [.string x.nm, b, .bool x.imp])) (hgrow : (W.alloc Y).grownBy w4 (Value.slice sp n c).ownBlock) :
    RwD w (rs ++ [x]) (.slice sp' (n + 1) c') w4 := by
  have hl : (rs ++ [x]).length = n + 1 := by simp [hn]
  have g4 : Fr (fun k => (Value.slice sp n c).ownBlock = some k) W w4 := ((Fr.refl _ W).alloc Y).grown hgrow (fun k e => .inl e)
  have hS : ∀ v ts, OwnT W w.heap.size v ts → ∀ k, v.ownBlock = some k → ¬ (Value.slice sp n c).ownBlock = some k := by
    rintro v ts ⟨s1, c1, rfl, h3, _⟩ k hk
    exact h3.apart h2 (by decide) hk
  refine ⟨⟨sp', c', ys ++ [.string x.nm, b, .bool x.imp], by rw [hl], by rw [hl]; exact hown, DecsIn.snoc (hb.fr g4 (hS _ _ hb)) (DecsIn.fr g4 hS hin)⟩, ((hf.alloc Y).grown hgrow (fun k e => .inr (h2.lt k e).1))⟩
end Go.Proofs.Ytknpdkfjmhpbpaa
