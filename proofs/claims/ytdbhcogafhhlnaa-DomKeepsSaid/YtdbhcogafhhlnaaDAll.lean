/- The order of all elements: plain. One round takes the last of what is to do and lays its children upon the rest, the first one on top; all come once, each behind its parent, children in order. -/
import Derived.Test.YtdbhcogafhhlnaaDView
namespace Go.Proofs.Ytdbhcogafhhlnaa
open Go.RowKit Go.Maps Go.ChangeShapes Go.WideShapes Go.ChangeAt Go.WideMaps Go.WideElems

def kidA (ds : List NodeD) (e : Nat) : List Nat := kidN ds (e : Int) ds.length
/-- What came, and what is to do (its last comes next). -/
def allSt (ds : List NodeD) : Nat → List Nat × List Nat
  | 0 => ([], [0])
  | k + 1 => match (allSt ds k).2.getLast? with
    | none => allSt ds k
    | some e => ((allSt ds k).1 ++ [e], (allSt ds k).2.dropLast ++ (kidA ds e).reverse)
theorem allSt_some {ds : List NodeD} {k e : Nat} {s : List Nat} (h : (allSt ds k).2 = s ++ [e]) : allSt ds (k + 1) = ((allSt ds k).1 ++ [e], s ++ (kidA ds e).reverse) := by
  have : (allSt ds k).2.getLast? = some e := by rw [h]; simp
  have h2 : (allSt ds k).2.dropLast = s := by rw [h]; simp
  show (match (allSt ds k).2.getLast? with | none => allSt ds k | some e => ((allSt ds k).1 ++ [e], (allSt ds k).2.dropLast ++ (kidA ds e).reverse)) = _
  rw [this, h2]
theorem allSt_none {ds : List NodeD} {k : Nat} (h : (allSt ds k).2 = []) : allSt ds (k + 1) = allSt ds k := by
  show (match (allSt ds k).2.getLast? with | none => allSt ds k | some e => ((allSt ds k).1 ++ [e], (allSt ds k).2.dropLast ++ (kidA ds e).reverse)) = _
  rw [h]
  rfl
theorem allSt_stays {ds : List NodeD} {k : Nat} (h : (allSt ds k).2 = []) (j : Nat) : allSt ds (k + j) = allSt ds k := by
  induction j with
  | zero => rfl
  | succ j ih => rw [← Nat.add_assoc, allSt_none (by rw [ih]; exact h), ih]
def allN (ds : List NodeD) : List Nat := (allSt ds ds.length).1

structure AllI (ds : List NodeD) (o s : List Nat) : Prop where
  nd : (o ++ s).Nodup
  lt : ∀ x ∈ o ++ s, x < ds.length
  has : ∀ x, x < ds.length → x ∈ o ∨ x ∈ s ∨ (0 < x ∧ (parN ds x).toNat ∉ o)
  par : ∀ x ∈ o ++ s, x = 0 ∨ (parN ds x).toNat ∈ o
  old : ∀ x ∈ o, ∀ b, b < x → parN ds b = parN ds x → b ∈ o
  ord : o.Pairwise fun a b => parN ds a ≠ (b : Int) ∧ (parN ds a = parN ds b → a < b)
  sto : s.Pairwise fun a b => parN ds a = parN ds b → b < a

theorem kidA_mem {ds : List NodeD} {e x : Nat} (h : x ∈ kidA ds e) : x < ds.length ∧ parN ds x = (e : Int) := kidN_lt h
theorem kidA_nd (ds : List NodeD) (e : Nat) : (kidA ds e).Pairwise fun a b => a < b := List.Pairwise.filter _ List.pairwise_lt_range

theorem AllI.first {ds : List NodeD} (h0 : 0 < ds.length) : AllI ds [] [0] := by
  refine ⟨by simp, fun x hx => by simp at hx; omega, fun x hx => ?_, fun x hx => by simp at hx; exact .inl hx, fun x hx => by simp at hx, List.Pairwise.nil, by simp⟩
  rcases Nat.eq_zero_or_pos x with e | e
  · exact .inr (.inl (by simp [e]))
  · exact .inr (.inr ⟨e, by simp⟩)
theorem AllI.step {ds : List NodeD} (hg : Good ds ds.length) {o s : List Nat} {e : Nat} (h : AllI ds o (s ++ [e])) : AllI ds (o ++ [e]) (s ++ (kidA ds e).reverse) := by
  have hnd := h.nd
  rw [List.nodup_append, List.nodup_append] at hnd
  obtain ⟨no, ⟨ns, -, nse⟩, nos⟩ := hnd
  have eo : e ∉ o := fun hh => nos e hh e (by simp) rfl
  have es : e ∉ s := fun hh => nse e hh e (by simp) rfl
  have elt : e < ds.length := h.lt e (by simp)
  have tn : ∀ x, 0 < x → x < ds.length → ((parN ds x).toNat : Int) = parN ds x := fun x h0 hx => by have := (hg x hx).2 h0; omega
  -- a child of e is neither there nor to do
  have kne : ∀ x, parN ds x = (e : Int) → x ∉ o ∧ x ∉ s ∧ x ≠ e := fun x hp => by
    have aux : x ∈ o ++ (s ++ [e]) → False := fun hx => by
      have hxl := h.lt x hx
      rcases h.par x hx with h0 | h0
      · rw [h0, (hg 0 (by omega)).1 rfl] at hp; omega
      · rw [hp] at h0; exact eo (by simpa using h0)
    exact ⟨fun hx => aux (by simp [hx]), fun hx => aux (by simp [hx]), fun hx => aux (by simp [hx])⟩
  -- an elder brother of e has come
  have bro : ∀ b, b < e → parN ds b = parN ds e → b ∈ o := fun b hb hp => by
    rcases h.has b (by omega) with hh | hh | ⟨h0, hh⟩
    · exact hh
    · have hbs : b ∈ s := by
        rcases List.mem_append.1 hh with hh | hh
        · exact hh
        · simp at hh; omega
      have := (List.pairwise_append.1 h.sto).2.2 b hbs e (by simp) hp
      omega
    · rcases h.par e (by simp) with h1 | h1
      · omega
      · rw [hp] at hh; exact absurd h1 hh
  refine ⟨?_, fun x hx => ?_, fun x hx => ?_, fun x hx => ?_, fun x hx b hb hp => ?_, ?_, ?_⟩
  · rw [List.nodup_append, List.nodup_append, List.nodup_append]
    refine ⟨⟨no, by simp, fun a ha b hb => by simp at hb; subst hb; rintro rfl; exact eo ha⟩, ⟨ns, ?_, fun a ha b hb => ?_⟩, fun a ha b hb => ?_⟩
    · unfold List.Nodup
      rw [List.pairwise_reverse]
      exact (kidA_nd ds e).imp (fun h => by omega)
    · rintro rfl
      exact (kne a (kidA_mem (List.mem_reverse.1 hb)).2).2.1 ha
    · rintro rfl
      rcases List.mem_append.1 hb with hb1 | hb
      · rcases List.mem_append.1 ha with ha | ha
        · exact nos a ha a (by simp [hb1]) rfl
        · simp at ha; rw [ha] at hb1; exact es hb1
      · obtain ⟨k1, k2, k3⟩ := kne a (kidA_mem (List.mem_reverse.1 hb)).2
        rcases List.mem_append.1 ha with ha | ha
        · exact k1 ha
        · simp at ha; exact k3 ha
  · rcases List.mem_append.1 hx with hx | hx
    · exact h.lt x (by rcases List.mem_append.1 hx with hx | hx <;> simp_all)
    · rcases List.mem_append.1 hx with hx | hx
      · exact h.lt x (by simp [hx])
      · exact (kidA_mem (List.mem_reverse.1 hx)).1
  · rcases h.has x hx with hh | hh | ⟨h0, hh⟩
    · exact .inl (by simp [hh])
    · rcases List.mem_append.1 hh with hh | hh
      · exact .inr (.inl (by simp [hh]))
      · exact .inl (by simp at hh; simp [hh])
    · by_cases hp : parN ds x = (e : Int)
      · exact .inr (.inl (by rw [List.mem_append, List.mem_reverse]; exact .inr (mem_kidN hx hp)))
      · refine .inr (.inr ⟨h0, fun hm => ?_⟩)
        rcases List.mem_append.1 hm with hm | hm
        · exact hh hm
        · simp at hm
          have := tn x h0 hx
          omega
  · have old : x ∈ o ++ (s ++ [e]) → x = 0 ∨ (parN ds x).toNat ∈ o ++ [e] := fun hx => (h.par x hx).imp id (fun hh => by simp [hh])
    rcases List.mem_append.1 hx with hx | hx
    · exact old (by rcases List.mem_append.1 hx with hx | hx <;> simp_all)
    · rcases List.mem_append.1 hx with hx | hx
      · exact old (by simp [hx])
      · right
        rw [(kidA_mem (List.mem_reverse.1 hx)).2]
        simp
  · rcases List.mem_append.1 hx with hx | hx
    · simp [h.old x hx b hb hp]
    · simp at hx
      subst hx
      simp [bro b hb hp]
  · rw [List.pairwise_append]
    refine ⟨h.ord, by simp, fun a ha b hb => ?_⟩
    simp at hb
    subst hb
    refine ⟨fun hp => ?_, fun hp => ?_⟩
    · exact (kne a hp).1 ha
    · rcases Nat.lt_trichotomy a b with hh | hh | hh
      · exact hh
      · subst hh; exact absurd ha eo
      · exact absurd (h.old a ha b hh hp.symm) eo
  · rw [List.pairwise_append]
    refine ⟨(List.pairwise_append.1 h.sto).1, ?_, fun a ha b hb hp => ?_⟩
    · rw [List.pairwise_reverse]
      refine (kidA_nd ds e).imp ?_
      intro a b h _
      exact h
    · rw [(kidA_mem (List.mem_reverse.1 hb)).2] at hp
      exact absurd ha (kne a hp).2.1

theorem allI {ds : List NodeD} (hg : Good ds ds.length) (h0 : 0 < ds.length) (k : Nat) : AllI ds (allSt ds k).1 (allSt ds k).2 := by
  induction k with
  | zero => exact AllI.first h0
  | succ k ih =>
    rcases List.eq_nil_or_concat (allSt ds k).2 with e | ⟨s, e, he⟩
    · rw [allSt_none e]; exact ih
    · rw [List.concat_eq_append] at he
      rw [allSt_some he]
      rw [he] at ih
      exact ih.step hg
theorem AllI.len {ds : List NodeD} {o s : List Nat} (h : AllI ds o s) : o.length + s.length ≤ ds.length := by
  have := List.Nodup.length_le_of_subset h.nd (l₂ := List.range ds.length) (fun x hx => List.mem_range.2 (h.lt x hx))
  simpa using this
/-- At the end all have come. -/
theorem AllI.full {ds : List NodeD} (hg : Good ds ds.length) {o : List Nat} (h : AllI ds o []) : ∀ x, x < ds.length → x ∈ o := by
  intro x
  induction x using Nat.strongRecOn with
  | _ x ih =>
    intro hx
    rcases h.has x hx with hh | hh | ⟨h0, hh⟩
    · exact hh
    · simp at hh
    · have := (hg x hx).2 h0
      exact absurd (ih _ (by omega) (by omega)) hh
theorem allSt_len {ds : List NodeD} (k : Nat) (h : ∀ j, j < k → (allSt ds j).2 ≠ []) : (allSt ds k).1.length = k := by
  induction k with
  | zero => rfl
  | succ k ih =>
    rcases List.eq_nil_or_concat (allSt ds k).2 with e | ⟨s, e, he⟩
    · exact absurd e (h k (by omega))
    · rw [List.concat_eq_append] at he
      rw [allSt_some he, List.length_append, ih (fun j hj => h j (by omega))]
      rfl
/-- Nothing is to do any more: what came is all. -/
theorem all_end {ds : List NodeD} (hg : Good ds ds.length) (h0 : 0 < ds.length) {k : Nat} (hl : (allSt ds k).1.length = k) (h : (allSt ds k).2 = []) : (allSt ds k).1 = allN ds := by
  have := (allI hg h0 k).len
  unfold allN
  rw [show ds.length = k + (ds.length - k) by omega, allSt_stays h]
theorem all_done {ds : List NodeD} (hg : Good ds ds.length) (h0 : 0 < ds.length) : (allSt ds ds.length).2 = [] := by
  by_cases h : ∀ j, j < ds.length → (allSt ds j).2 ≠ []
  · have h1 := allSt_len ds.length h
    have h2 := (allI hg h0 ds.length).len
    exact List.eq_nil_of_length_eq_zero (by omega)
  · simp only [Classical.not_forall, Decidable.not_not] at h
    obtain ⟨j, hj, he⟩ := h
    rw [show ds.length = j + (ds.length - j) by omega, allSt_stays he]
    exact he
theorem allN_spec {ds : List NodeD} (hg : Good ds ds.length) (h0 : 0 < ds.length) : AllI ds (allN ds) [] := by
  have := allI hg h0 ds.length
  rw [all_done hg h0] at this
  exact this
theorem allN_len {ds : List NodeD} (hg : Good ds ds.length) (h0 : 0 < ds.length) : (allN ds).length = ds.length := by
  have h1 := (allN_spec hg h0).len
  have h2 := List.Nodup.length_le_of_subset (List.nodup_range (n := ds.length)) (l₂ := allN ds) (fun x hx => (allN_spec hg h0).full hg x (List.mem_range.1 hx))
  simp at h1 h2
  omega
end Go.Proofs.Ytdbhcogafhhlnaa
