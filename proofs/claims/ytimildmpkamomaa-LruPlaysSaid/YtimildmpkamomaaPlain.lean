/- The lists of a cache, plain: what the program keeps and what the reference keeps are one, the other way round. -/
import Derived.Test.YtimildmpkamomaaWin
namespace Go.Proofs.Ytimildmpkamomaa

abbrev Ent := Int × Int
/-- All but the first of a key. -/
def rm (E : List Ent) (k : Int) : List Ent := E.eraseP (fun p => p.1 == k)
def fndN (E : List Ent) (k : Int) : Option Nat := E.findIdx? (fun p => p.1 == k)
def fnd (E : List Ent) (k : Int) : Int := match fndN E k with | some i => i | none => -1
def UniqK (E : List Ent) : Prop := (E.map (·.1)).Nodup

theorem rm_eq (E : List Ent) (k : Int) : rm E k = match fndN E k with | some i => E.eraseIdx i | none => E := by
  unfold rm fndN
  rw [List.eraseP_eq_eraseIdx]
  cases List.findIdx? (fun p : Ent => p.1 == k) E <;> rfl

theorem fndN_some {E : List Ent} {k : Int} {i : Nat} (h : fndN E k = some i) : ∃ hi : i < E.length, E[i].1 = k := by
  unfold fndN at h
  rw [List.findIdx?_eq_some_iff_getElem] at h
  obtain ⟨hi, h1, _⟩ := h
  exact ⟨hi, by simpa using h1⟩
theorem fndN_none {E : List Ent} {k : Int} : fndN E k = none ↔ k ∉ E.map (·.1) := by
  unfold fndN
  rw [List.findIdx?_eq_none_iff]
  simp only [List.mem_map, not_exists, not_and]
  constructor
  · intro h x hx e
    have := h x hx
    simp [e] at this
  · intro h x hx
    have := h x hx
    simpa using this

theorem rm_filter {E : List Ent} (h : UniqK E) (k : Int) : rm E k = E.filter (fun p => p.1 != k) := by
  unfold rm
  induction E with
  | nil => rfl
  | cons p r ih =>
    unfold UniqK at h
    rw [List.map_cons, List.nodup_cons] at h
    by_cases e : p.1 = k
    · rw [List.eraseP_cons_of_pos (by simpa using e), List.filter_cons_of_neg (by simp [e])]
      symm
      rw [List.filter_eq_self]
      intro q hq
      have : q.1 ≠ p.1 := fun e2 => h.1 (by rw [← e2]; exact List.mem_map_of_mem hq)
      simp [← e, this]
    · rw [List.eraseP_cons_of_neg (by simpa using e), List.filter_cons_of_pos (by simp [e]), ih h.2]

theorem uniq_rm {E : List Ent} (h : UniqK E) (k : Int) : UniqK (rm E k) := by
  unfold UniqK at *
  exact h.sublist ((List.eraseP_sublist).map _)
theorem rm_not_mem {E : List Ent} (h : UniqK E) (k : Int) : k ∉ (rm E k).map (·.1) := by
  rw [rm_filter h]
  simp [List.mem_map, List.mem_filter]
theorem UniqK.snoc {E : List Ent} (h : UniqK E) (k v : Int) : UniqK (rm E k ++ [(k, v)]) := by
  unfold UniqK
  rw [List.map_append, List.nodup_append]
  refine ⟨uniq_rm h k, by simp, fun a ha b hb e => ?_⟩
  simp at hb
  rw [e.trans hb] at ha
  exact rm_not_mem h k ha
theorem UniqK.reverse {E : List Ent} (h : UniqK E) : UniqK E.reverse := by
  unfold UniqK at *
  rw [List.map_reverse]
  exact ((List.reverse_perm _).nodup_iff).2 h
theorem rm_reverse {E : List Ent} (h : UniqK E) (k : Int) : rm E.reverse k = (rm E k).reverse := by
  rw [rm_filter h, rm_filter h.reverse, List.filter_reverse]
theorem rm_len (E : List Ent) (k : Int) : (rm E k).length ≤ E.length := (List.eraseP_sublist).length_le
theorem rm_len_mem {E : List Ent} {k : Int} (h : k ∈ E.map (·.1)) : (rm E k).length + 1 = E.length := by
  unfold rm
  obtain ⟨p, hp, he⟩ := List.mem_map.1 h
  have := List.length_eraseP_of_mem hp (p := fun p : Ent => p.1 == k) (by simpa using he)
  have h0 : 0 < E.length := List.length_pos_of_mem hp
  omega
end Go.Proofs.Ytimildmpkamomaa
