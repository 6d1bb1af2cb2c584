/- The keys that were asked for last, plain. -/
import Derived.Test.YtimildmpkamomaaPuts
namespace Go.Proofs.Ytimildmpkamomaa

/-- Of a list, the newest first: each once. -/
def wl : List Int → List Int
  | [] => []
  | k :: r => k :: (wl r).filter (· != k)
theorem wl_nodup (l : List Int) : (wl l).Nodup := by
  induction l with
  | nil => exact List.nodup_nil
  | cons k r ih =>
    unfold wl
    rw [List.nodup_cons]
    exact ⟨by simp [List.mem_filter], ih.sublist List.filter_sublist⟩
/-- .. one by one. -/
def df : List Int → List Int → List Int
  | acc, [] => acc
  | acc, x :: r => df (if x ∈ acc then acc else acc ++ [x]) r
theorem df_append (acc a b : List Int) : df acc (a ++ b) = df (df acc a) b := by
  induction a generalizing acc with
  | nil => rfl
  | cons x r ih => exact ih _
theorem df_wl (acc l : List Int) : df acc l = acc ++ (wl l).filter (fun x => decide (x ∉ acc)) := by
  induction l generalizing acc with
  | nil => simp [df, wl]
  | cons x r ih =>
    unfold df wl
    rw [ih]
    by_cases h : x ∈ acc
    · rw [if_pos h, List.filter_cons_of_neg (by simpa using h), List.filter_filter]
      congr 1
      apply List.filter_congr
      intro y _
      by_cases hy : y = x
      · subst hy; simp [h]
      · simp [hy]
    · rw [if_neg h, List.filter_cons_of_pos (by simpa using h), List.filter_filter, List.append_assoc]
      congr 1
      show x :: _ = x :: _
      congr 1
      apply List.filter_congr
      intro y _
      by_cases hy : y = x
      · subst hy; simp
      · simp [hy]
theorem df_nil (l : List Int) : df [] l = wl l := by
  rw [df_wl]
  simp
theorem df_pre (acc l : List Int) : ∃ t, df acc l = acc ++ t := ⟨_, df_wl acc l⟩

theorem takeA {W : List Int} {k : Int} {n : Nat} (hn : W.Nodup) (h : k ∈ W.take n) : (W.take n).filter (· != k) = (W.filter (· != k)).take (n - 1) := by
  induction W generalizing n with
  | nil => simp at h
  | cons w r ih =>
    rw [List.nodup_cons] at hn
    cases n with
    | zero => simp at h
    | succ n =>
      rw [List.take_succ_cons] at h ⊢
      by_cases e : w = k
      · subst e
        have h1 : r.filter (· != w) = r := by
          rw [List.filter_eq_self]
          intro y hy
          have : y ≠ w := fun e => hn.1 (by rw [← e]; exact hy)
          simpa using this
        rw [List.filter_cons_of_neg (by simp), List.filter_cons_of_neg (by simp), h1, Nat.add_sub_cancel, List.filter_eq_self]
        intro y hy
        have : y ≠ w := fun e => hn.1 (by rw [← e]; exact List.mem_of_mem_take hy)
        simpa using this
      · have hk : k ∈ r.take n := by
          rcases List.mem_cons.1 h with h | h
          · exact absurd h.symm e
          · exact h
        cases n with
        | zero => simp at hk
        | succ n =>
          rw [List.filter_cons_of_pos (by simpa using e), List.filter_cons_of_pos (by simpa using e), ih hn.2 hk]
          rfl
theorem takeB {W : List Int} {k : Int} {n : Nat} (h : k ∉ W.take n) : (W.filter (· != k)).take n = W.take n := by
  induction W generalizing n with
  | nil => simp
  | cons w r ih =>
    cases n with
    | zero => simp
    | succ n =>
      rw [List.take_succ_cons] at h
      have h1 : w ≠ k := fun e => h (by rw [e]; exact List.mem_cons_self)
      rw [List.filter_cons_of_pos (by simpa using h1), List.take_succ_cons, List.take_succ_cons, ih (fun hk => h (List.mem_cons_of_mem _ hk))]

def rk (E : List Ent) : List Int := E.reverse.map (·.1)
theorem rk_len (E : List Ent) : (rk E).length = E.length := by simp [rk]
theorem rk_mem {E : List Ent} {k : Int} : k ∈ rk E ↔ k ∈ E.map (·.1) := by simp [rk]
theorem rk_snoc (E : List Ent) (k v : Int) : rk (E ++ [(k, v)]) = k :: rk E := by simp [rk]
theorem rk_rm {E : List Ent} (h : UniqK E) (k : Int) : rk (rm E k) = (rk E).filter (· != k) := by
  unfold rk
  rw [rm_filter h, ← List.filter_reverse, List.filter_map]
  rfl

theorem hit_some_mem {E : List Ent} {k v : Int} (h : hitV E k = some v) : k ∈ E.map (·.1) := by
  unfold hitV at h
  cases hf : fndN E k with
  | none => rw [hf] at h; cases h
  | some i =>
    obtain ⟨hi, he⟩ := fndN_some hf
    rw [← he]
    exact List.mem_map_of_mem (List.getElem_mem hi)
theorem hit_none_mem {E : List Ent} {k : Int} (h : hitV E k = none) : k ∉ E.map (·.1) := by
  unfold hitV at h
  cases hf : fndN E k with
  | none => exact fndN_none.1 hf
  | some i =>
    obtain ⟨hi, he⟩ := fndN_some hf
    rw [hf] at h
    simp only at h
    rw [List.getElem?_eq_getElem hi] at h
    cases h

/-- A key that is there. -/
theorem last_hit {E : List Ent} {W : List Int} {k v : Int} {n : Nat} (hu : UniqK E) (hW : W.Nodup) (h : rk E = W.take n) (hk : hitV E k = some v) : rk (rm E k ++ [(k, v)]) = (k :: W.filter (· != k)).take n := by
  have hm := rk_mem.2 (hit_some_mem hk)
  rw [rk_snoc, rk_rm hu, h]
  rw [h] at hm
  cases n with
  | zero => simp at hm
  | succ n => rw [List.take_succ_cons, takeA hW hm]; rfl

theorem rm_none {E : List Ent} {k : Int} (h : k ∉ E.map (·.1)) : rm E k = E := by
  rw [rm_eq, fndN_none.2 h]
/-- .. that is not. -/
theorem last_miss {E : List Ent} {W : List Int} {k v : Int} {n : Nat} (h : rk E = W.take n) (hl : E.length ≤ n) (hk : hitV E k = none) : rk (PutE (n : Int) E k v) = (k :: W.filter (· != k)).take n := by
  have hm := hit_none_mem hk
  have hm2 : k ∉ W.take n := by rw [← h]; exact fun e => hm (rk_mem.1 e)
  unfold PutE
  rw [rm_none hm]
  have hlen := rk_len E
  by_cases hle : ((E ++ [(k, v)]).length : Int) ≤ n
  · rw [if_pos hle, rk_snoc, h]
    simp only [List.length_append, List.length_cons, List.length_nil] at hle
    obtain ⟨m, rfl⟩ : ∃ m, n = m + 1 := ⟨n - 1, by omega⟩
    have hWl : W.length ≤ m := by
      rw [h, List.length_take] at hlen
      omega
    rw [List.take_succ_cons]
    congr 1
    rw [List.take_of_length_le (by omega)] at hm2 ⊢
    rw [List.take_of_length_le (Nat.le_trans (List.length_filter_le _ _) hWl)]
    symm
    rw [List.filter_eq_self]
    intro y hy
    have : y ≠ k := fun e => hm2 (by rw [← e]; exact hy)
    simpa using this
  · rw [if_neg hle]
    simp only [List.length_append, List.length_cons, List.length_nil] at hle
    cases E with
    | nil =>
      simp only [List.length_nil] at hle
      obtain rfl : n = 0 := by omega
      rfl
    | cons p r =>
      simp only [List.length_cons] at hle hl
      obtain ⟨m, rfl⟩ : ∃ m, n = m + 1 := ⟨n - 1, by omega⟩
      rw [List.cons_append, List.drop_succ_cons, List.drop_zero, rk_snoc, List.take_succ_cons]
      congr 1
      have h2 : rk r = W.take m := by
        have h3 : rk (p :: r) = rk r ++ [p.1] := by simp [rk]
        have h4 : (W.take (m + 1)).take m = W.take m := by rw [List.take_take]; congr 1; omega
        rw [← h4, ← h, h3, List.take_append_of_le_length (by rw [rk_len]; omega), List.take_of_length_le (by rw [rk_len]; omega)]
      rw [h2]
      exact (takeB (fun e => hm2 (by
        have : W.take m = (W.take (m + 1)).take m := by rw [List.take_take]; congr 1; omega
        rw [this] at e
        exact List.mem_of_mem_take e))).symm
theorem hit_len {E : List Ent} {k v : Int} (h : hitV E k = some v) : (rm E k ++ [(k, v)]).length = E.length := by
  have := rm_len_mem (hit_some_mem h)
  simp
  omega
end Go.Proofs.Ytimildmpkamomaa
