/- TextEnds: plain. -/
import Derived.Test.YtfgmhpdhgepalaaDoorBytes2
namespace Go.Proofs.YtfgmhpdhgepalaaDoor
open Go.Lib

/-- The line end that a number tells. -/
def tl (z : Int) : List Nat := if z % 4 = 0 then [10] else if z % 4 = 1 then [13] else if z % 4 = 2 then [12] else [13, 10]
def lns (l : List Int) : List Nat := l.flatMap fun z => 120 :: tl z
def xx : Nat → List Nat
  | 0 => []
  | n + 1 => 120 :: 10 :: xx n
theorem lns_cons (z : Int) (r : List Int) : lns (z :: r) = 120 :: (tl z ++ lns r) := by simp [lns]
theorem lns_snoc (l : List Int) (z : Int) : lns (l ++ [z]) = lns l ++ 120 :: tl z := by simp [lns]
theorem tl_cases (z : Int) : (z % 4 = 0 ∧ tl z = [10]) ∨ (z % 4 = 1 ∧ tl z = [13]) ∨ (z % 4 = 2 ∧ tl z = [12]) ∨ (z % 4 = 3 ∧ tl z = [13, 10]) := by
  unfold tl
  by_cases h0 : z % 4 = 0
  · exact .inl ⟨h0, by rw [if_pos h0]⟩
  by_cases h1 : z % 4 = 1
  · exact .inr (.inl ⟨h1, by rw [if_neg h0, if_pos h1]⟩)
  by_cases h2 : z % 4 = 2
  · exact .inr (.inr (.inl ⟨h2, by rw [if_neg h0, if_neg h1, if_pos h2]⟩))
  · exact .inr (.inr (.inr ⟨by omega, by rw [if_neg h0, if_neg h1, if_neg h2]⟩))
theorem lns_low : ∀ (l : List Int), ∀ x ∈ lns l, x < 128
  | [], x, h => by simp [lns] at h
  | z :: r, x, h => by
    rw [lns_cons] at h
    rcases List.mem_cons.1 h with rfl | h
    · omega
    rcases List.mem_append.1 h with h | h
    · rcases tl_cases z with ⟨_, e⟩ | ⟨_, e⟩ | ⟨_, e⟩ | ⟨_, e⟩ <;> rw [e] at h <;> simp at h <;> omega
    · exact lns_low r x h
theorem lns_head (l : List Int) : (lns l)[0]? ≠ some 10 := by
  cases l with
  | nil => simp [lns]
  | cons z r => rw [lns_cons]; simp
theorem lns_len : ∀ (l : List Int), (lns l).length ≤ 3 * l.length
  | [] => by simp [lns]
  | z :: r => by
    have := lns_len r
    rw [lns_cons]
    rcases tl_cases z with ⟨_, e⟩ | ⟨_, e⟩ | ⟨_, e⟩ | ⟨_, e⟩ <;> rw [e] <;> simp <;> omega
theorem rprep_lns : ∀ (l : List Int), rprep (lns l) = xx l.length
  | [] => rfl
  | z :: r => by
    have ih := rprep_lns r
    have hh := lns_head r
    rw [lns_cons, rprep_cons, if_neg (by omega), if_neg (by omega), if_neg (by omega)]
    show 120 :: rprep (tl z ++ lns r) = 120 :: 10 :: xx r.length
    rw [← ih]
    congr 1
    rcases tl_cases z with ⟨_, e⟩ | ⟨_, e⟩ | ⟨_, e⟩ | ⟨_, e⟩ <;> rw [e]
    · show rprep (10 :: lns r) = _
      rw [rprep_cons, if_neg (by omega), if_neg (by omega), if_neg (by omega)]
    · show rprep (13 :: lns r) = _
      rw [rprep_cons, if_neg (fun h => hh h.2), if_pos (by omega)]
    · show rprep (12 :: lns r) = _
      rw [rprep_cons, if_neg (by omega), if_pos (by omega)]
    · show rprep (13 :: 10 :: lns r) = _
      rw [rprep_cons, if_pos ⟨rfl, rfl⟩, rprep_cons, if_neg (by omega), if_neg (by omega), if_neg (by omega)]
theorem dec_low {a : Nat} (r : List Nat) (h : a < 128) : dec (a :: r) = (a, 1) := by
  unfold dec decodeN
  simp only [List.getD_cons_zero]
  rw [if_pos (by first | assumption | omega | (simp; omega))]
theorem pts_low : ∀ (l : List Nat), (∀ x ∈ l, x < 128) → pts l = l
  | [], _ => rfl
  | a :: r, h => by
    rw [pts_cons (by simp), dec_low r (h a (by simp))]
    show a :: pts r = _
    rw [pts_low r fun x hx => h x (by simp [hx])]
theorem prep_lns (l : List Int) : prep (lns l) = xx l.length := by
  rw [prep_ref, pts_low _ (lns_low l), rprep_lns]
theorem xx_len : ∀ n, (xx n).length = 2 * n
  | 0 => rfl
  | n + 1 => by
    have := xx_len n
    simp only [xx, List.length_cons]
    omega
theorem xx_at : ∀ (n k : Nat), k < n → (xx n)[2 * k]? = some 120 ∧ (xx n)[2 * k + 1]? = some 10
  | n + 1, 0, _ => ⟨rfl, rfl⟩
  | n + 1, k + 1, h => by
    obtain ⟨a, b⟩ := xx_at n k (by omega)
    exact ⟨by rw [show 2 * (k + 1) = 2 * k + 1 + 1 by omega]; exact a, by rw [show 2 * (k + 1) + 1 = 2 * k + 1 + 1 + 1 by omega]; exact b⟩
theorem xx_sc (n : Nat) : ∀ x ∈ xx n, x ≤ 120 := by
  induction n with
  | zero => intro x h; simp [xx] at h
  | succ n ih =>
    intro x h
    simp only [xx, List.mem_cons] at h
    rcases h with rfl | rfl | h
    · omega
    · omega
    · exact ih x h
end Go.Proofs.YtfgmhpdhgepalaaDoor
