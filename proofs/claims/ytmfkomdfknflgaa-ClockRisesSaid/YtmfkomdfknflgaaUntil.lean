/- A region that draws its order and ends in one operation that waits for all others: a condition on the world is asked of all steps but that one. Of general use; no condition. -/
import Derived.OrdersHeld
namespace Go.Proofs.Ytmfkomdfknflgaa
section
variable {P : Program} {ops : Array Oper} {Q : Exit → Act → World → Prop} {md : Region.Mode} {S : World → Prop} {m : Nat}

/-- Whatever comes up next; S holds behind each operation but number m. -/
def UpTo (P : Program) (md : Region.Mode) (ops : Array Oper) (Q : Exit → Act → World → Prop) (S : World → Prop) (m : Nat) : Nat → Array Bool → Act → World → Prop
  | 0, done_, a, w => Region.ready md ops done_ = [] ∧ Q .normal a w
  | n + 1, done_, a, w => (Region.ready md ops done_ = [] → Q .normal a w) ∧
    ∀ i, i ∈ Region.ready md ops done_ → wpOp P ops Q i (fun a1 w1 => (i ≠ m → S w1) ∧ UpTo P md ops Q S m n (done_.setIfInBounds i true) a1 w1) a w
theorem UpTo.any : ∀ (n : Nat) (d : Array Bool) (a : Act) (w : World), UpTo P md ops Q S m n d a w → wpAny P md ops Q n d a w
  | 0, _, _, _, h => h
  | n + 1, _, _, _, h => ⟨h.1, fun i hi => wpOp_mono (fun a1 w1 k => UpTo.any n _ a1 w1 k.2) (h.2 i hi)⟩
/-- One waits for another. -/
def waitsOn (md : Region.Mode) (ops : Array Oper) (m i : Nat) : Bool := match ops[m]? with
  | some o => o.after.any fun e => Region.binds md e && e.on == i
  | none => false
/-- .. or for one that waits for it. -/
def lastWaits (md : Region.Mode) (ops : Array Oper) (m i : Nat) : Bool := waitsOn md ops m i || (List.range ops.size).any fun k => waitsOn md ops m k && waitsOn md ops k i
/-- What has come up came behind what it waits for. -/
def Shut (md : Region.Mode) (ops : Array Oper) (d : Array Bool) : Prop := ∀ k ok, ops[k]? = some ok → d.getD k false = true → ∀ e ∈ ok.after, Region.binds md e = true → d.getD e.on false = true
def shutB (md : Region.Mode) (ops : Array Oper) (d : Array Bool) : Bool := (List.range ops.size).all fun k => !d.getD k false || ((ops[k]?).map (·.after.all fun e => !Region.binds md e || d.getD e.on false)).getD true
theorem shut_of {d : Array Bool} (h : shutB md ops d = true) : Shut md ops d := by
  intro k ok hk hd e he hb
  unfold shutB at h
  simp only [List.all_eq_true, List.mem_range] at h
  have h1 := h k (by have := (Array.getElem?_eq_some_iff.1 hk).1; exact this)
  rw [hd, hk] at h1
  simp only [Bool.not_true, Bool.false_or, Option.map_some, Option.getD_some] at h1
  have h2 := Array.all_eq_true_iff_forall_mem.1 h1 e he
  rw [hb] at h2
  simpa using h2
theorem waitsOn_listed {k i : Nat} {d : Array Bool} (h : waitsOn md ops k i = true) (hall : ∀ o, ops[k]? = some o → ∀ e ∈ o.after, Region.binds md e = true → d.getD e.on false = true) : d.getD i false = true := by
  unfold waitsOn at h
  cases ho : ops[k]? with
  | none => rw [ho] at h; cases h
  | some o =>
    rw [ho] at h
    simp only at h
    obtain ⟨e, he, hb⟩ := Array.any_eq_true'.1 h
    simp only [Bool.and_eq_true, beq_iff_eq] at hb
    have := hall o ho e he hb.1
    rwa [hb.2] at this
theorem listed_not {i : Nat} {d : Array Bool} (h1 : d.getD i false = true) (hi : d.getD i true = false) : False := by
  rcases Nat.lt_or_ge i d.size with k | k
  · simp [k] at hi h1; rw [hi] at h1; cases h1
  · simp [Array.getElem?_eq_none k] at h1
theorem not_ready {i : Nat} {d : Array Bool} (h : lastWaits md ops m i = true) (hs : Shut md ops d) (hi : d.getD i true = false) : m ∉ Region.ready md ops d := by
  intro hm
  obtain ⟨_, o, ho, hall⟩ := mem_ready.1 hm
  have hm' : ∀ o, ops[m]? = some o → ∀ e ∈ o.after, Region.binds md e = true → d.getD e.on false = true := fun o' ho' => by rw [ho] at ho'; cases ho'; exact hall
  unfold lastWaits at h
  rcases Bool.or_eq_true_iff.1 h with h | h
  · exact listed_not (waitsOn_listed h hm') hi
  · obtain ⟨k, _, hk⟩ := List.any_eq_true.1 h
    obtain ⟨h1, h2⟩ := Bool.and_eq_true_iff.1 hk
    have hk := waitsOn_listed h1 hm'
    exact listed_not (waitsOn_listed h2 fun o ho => hs k o ho hk) hi
theorem Shut.set {j : Nat} {d : Array Bool} (hs : Shut md ops d) (hj : j ∈ Region.ready md ops d) : Shut md ops (d.setIfInBounds j true) := by
  obtain ⟨_, o, ho, hall⟩ := mem_ready.1 hj
  intro k ok hk hd e he hb
  have h1 : d.getD e.on false = true := by
    by_cases e2 : j = k
    · subst e2; rw [ho] at hk; cases hk; exact hall e he hb
    · rw [getD_set_ne false e2] at hd; exact hs k ok hk hd e he hb
  exact getD_set_true h1
theorem waits_of {i : Nat} {oj : Oper} {d : Array Bool} (hd : d.getD i true = false) (hall : ∀ e ∈ oj.after, Region.binds md e = true → d.getD e.on false = true) : ∀ e ∈ oj.after, Region.binds md e = true → e.on ≠ i := by
  intro e he hb heq
  have h1 := hall e he hb
  rw [heq] at h1
  rcases Nat.lt_or_ge i d.size with k | k
  · simp [k] at hd h1; rw [hd] at h1; cases h1
  · simp [Array.getElem?_eq_none k] at h1
theorem UpTo.first {i : Nat} {oi : Oper} {v : Value} (hi : ops[i]? = some oi) (hsel : Region.noSelect ops = true) (hm : lastWaits md ops m i = true) (him : i ≠ m)
    (hQ : ∀ c a w, Q (.panic c) (a.put oi.dst v) w → Q (.panic c) a w) :
    ∀ (n : Nat) (d : Array Bool) (a : Act) (w : World),
      (∀ j oj, ops[j]? = some oj → j ≠ i → d.getD j true = false → (∀ e ∈ oj.after, Region.binds md e = true → e.on ≠ i) → oi.apart ops oj = true) →
      Shut md ops d → i ∈ Region.ready md ops d → YieldsIf P ops S oi v a → S w → UpTo P md ops Q S m n (d.setIfInBounds i true) (a.put oi.dst v) w → UpTo P md ops Q S m (n + 1) d a w := by
  intro n
  induction n with
  | zero =>
    intro d a w _ _ hr hy hS H
    refine ⟨fun h => by (rw [h] at hr; cases hr), fun j hj => ?_⟩
    by_cases e : j = i
    · subst e; exact hy.wpOp hi hS ⟨fun _ => hS, H⟩
    · have := ready_mono hj e
      rw [H.1] at this
      cases this
  | succ n ih =>
    intro d a w hfree hsh hr hy hS H
    refine ⟨fun h => by (rw [h] at hr; cases hr), fun j hj => ?_⟩
    by_cases e : j = i
    · subst e; exact hy.wpOp hi hS ⟨fun _ => hS, H⟩
    · obtain ⟨hun, oj, hoj, hall⟩ := mem_ready.1 hj
      have hdi := (mem_ready.1 hr).1
      have hjm : j ≠ m := fun e2 => not_ready hm hsh hdi (by rw [← e2]; exact hj)
      have hno := waits_of (i := i) hdi hall
      have H2 := wpOp_putIf hoj (hfree j oj hoj e hun hno) (fun cs b => Region.noSelect_spec hsel i oi cs b hi) (fun cs b => Region.noSelect_spec hsel j oj cs b hoj) hQ hy (H.2 j (ready_mono hj e))
      refine wpOp_mono (fun a1 w1 h3 => ⟨fun _ => h3.2.1 hjm, ih (d.setIfInBounds j true) a1 w1 (fun k ok hk hki hkun hkno => hfree k ok hk hki ?_ hkno) (hsh.set hj) (ready_mono hr (Ne.symm e)) h3.1 (h3.2.1 hjm) ?_⟩) H2
      · by_cases e3 : j = k
        · subst e3; exact hun
        · rw [getD_set_ne true e3] at hkun; exact hkun
      · rw [Array.setIfInBounds_comm _ _ e]
        exact h3.2.2
/-- Take number i first. -/
theorem UpTo.take {i : Nat} {oi : Oper} {v : Value} {n : Nat} {d : Array Bool} {a : Act} {w : World} (hi : ops[i]? = some oi)
    (hsel : Region.noSelect ops = true) (hm : lastWaits md ops m i = true) (him : (i != m) = true) (hf : Region.free md ops d i = true) (hsh : shutB md ops d = true) (hr : (Region.ready md ops d).contains i = true)
    (hQ : ∀ c a w, Q (.panic c) (a.put oi.dst v) w → Q (.panic c) a w) (hw : Region.wanted oi (yielded ops a.tmps) = true) (hy : ∀ w, S w → (execOp a.eval oi).run P w = .ok (.value v) w) (hS : S w)
    (h : UpTo P md ops Q S m n (d.setIfInBounds i true) (a.put oi.dst v) w) : UpTo P md ops Q S m (n + 1) d a w :=
  UpTo.first hi hsel hm (by simpa using him) hQ n d a w (Region.free_spec hi hf) (shut_of hsh) (by simpa using hr) (.inl ⟨hw, hy⟩) hS h
/-- Number i alone may come up. -/
theorem UpTo.one {i : Nat} {oi : Oper} {n : Nat} {d : Array Bool} {a : Act} {w : World} (hi : ops[i]? = some oi) (hr : Region.ready md ops d = [i]) (hw : Region.wanted oi (yielded ops a.tmps) = true)
    (h : oi.wp P a w (fun a1 w1 => (i ≠ m → S w1) ∧ UpTo P md ops Q S m n (d.setIfInBounds i true) a1 w1) Q) : UpTo P md ops Q S m (n + 1) d a w := by
  refine ⟨fun e => by (rw [hr] at e; cases e), fun j hj => ?_⟩
  rw [hr] at hj
  obtain rfl := List.mem_singleton.1 hj
  unfold wpOp
  simp only [hi, hw, if_true]
  exact .inl h
theorem UpTo.done {n : Nat} {d : Array Bool} {a : Act} {w : World} (hr : Region.ready md ops d = []) (h : Q .normal a w) : UpTo P md ops Q S m n d a w := by
  cases n with
  | zero => exact ⟨hr, h⟩
  | succ n => exact ⟨fun _ => h, by rw [hr]; simp⟩
theorem op_k {o : Oper} {a : Act} {w : World} {T : Act → World → Prop} (h : ∀ K : Act → World → Prop, (∀ a w, T a w → K a w) → o.wp P a w K Q) : o.wp P a w T Q := h T fun _ _ h => h
theorem UpTo.region {id : Nat} {a : Act} {w : World} (hm : P.follows .mixedOrders = true) (h : UpTo P .any ops Q S m ops.size (Array.replicate ops.size false) a { w with drawn := w.drawn + 1 }) : (Code.region id ops true).wp P Q a w :=
  wp_region_any hm (UpTo.any _ _ _ _ h)
end
end Go.Proofs.Ytmfkomdfknflgaa
