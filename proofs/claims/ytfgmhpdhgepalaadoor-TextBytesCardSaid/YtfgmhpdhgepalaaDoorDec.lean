/- Code points of bytes: plain. -/
import Derived.Test.YtfgmhpdhgepalaaDoorBase
import Derived.Shelf.Spec.DecodeRune
namespace Go.Proofs.YtfgmhpdhgepalaaDoor
open Go.Lib

/-- The code point that begins a row of bytes, and how many bytes it has. -/
def dec (l : List Nat) : Nat × Nat := decodeN l.length (l.getD 0 0) (l.getD 1 0) (l.getD 2 0) (l.getD 3 0)
theorem decodeN_bd (n b0 b1 b2 b3 : Nat) : (decodeN n b0 b1 b2 b3).1 ≤ 1114111 ∧ 1 ≤ (decodeN n b0 b1 b2 b3).2 ∧ (decodeN n b0 b1 b2 b3).2 ≤ 4 ∧ (1 ≤ n → (decodeN n b0 b1 b2 b3).2 ≤ n) := by
  unfold decodeN
  split
  · simp only; omega
  split
  · split <;> (simp only; omega)
  split
  · split <;> (simp only; omega)
  split
  · split <;> (simp only; omega)
  · simp only; omega
theorem dec_le (l : List Nat) : (dec l).1 ≤ 1114111 := (decodeN_bd _ _ _ _ _).1
theorem dec_ge1 (l : List Nat) : 1 ≤ (dec l).2 := (decodeN_bd _ _ _ _ _).2.1
theorem dec_len {l : List Nat} (h : l ≠ []) : (dec l).2 ≤ l.length := (decodeN_bd _ _ _ _ _).2.2.2 (by
  cases l with
  | nil => exact absurd rfl h
  | cons a r => simp)
def ptsF : Nat → List Nat → List Nat
  | 0, _ => []
  | f + 1, l => if l = [] then [] else (dec l).1 :: ptsF f (l.drop (dec l).2)
theorem ptsF_more : ∀ (f g : Nat) (l : List Nat), l.length ≤ f → l.length ≤ g → ptsF f l = ptsF g l := by
  intro f
  induction f with
  | zero =>
    intro g l hf _
    obtain rfl := List.eq_nil_of_length_eq_zero (by omega : l.length = 0)
    cases g <;> simp [ptsF]
  | succ f ih =>
    intro g l hf hg
    cases g with
    | zero =>
      obtain rfl := List.eq_nil_of_length_eq_zero (by omega : l.length = 0)
      simp [ptsF]
    | succ g =>
      simp only [ptsF]
      split
      · rfl
      · rename_i hne
        have h1 := dec_ge1 l
        congr 1
        have : (l.drop (dec l).2).length ≤ l.length - 1 := by rw [List.length_drop]; omega
        exact ih g _ (by omega) (by omega)
/-- All code points of a row of bytes. -/
def pts (l : List Nat) : List Nat := ptsF l.length l
theorem pts_nil : pts [] = [] := rfl
theorem pts_cons {l : List Nat} (h : l ≠ []) : pts l = (dec l).1 :: pts (l.drop (dec l).2) := by
  have h1 := dec_ge1 l
  have h0 : 0 < l.length := by
    cases l with
    | nil => exact absurd rfl h
    | cons a r => simp
  unfold pts
  obtain ⟨m, hm⟩ : ∃ m, l.length = m + 1 := ⟨l.length - 1, by omega⟩
  rw [hm]
  simp only [ptsF]
  rw [if_neg h]
  congr 1
  exact ptsF_more _ _ _ (by rw [List.length_drop]; omega) (Nat.le_refl _)
theorem pts_len (l : List Nat) : (pts l).length ≤ l.length := by
  generalize hn : l.length = n
  induction n using Nat.strongRecOn generalizing l with
  | _ n ih =>
    by_cases h : l = []
    · subst h; simp [pts_nil]
    · rw [pts_cons h, List.length_cons]
      have h1 := dec_ge1 l
      have h2 := dec_len h
      have := ih (l.drop (dec l).2).length (by rw [List.length_drop]; omega) _ rfl
      rw [List.length_drop] at this
      omega
theorem pts_bd (l : List Nat) : ∀ x ∈ pts l, x ≤ 1114111 := by
  generalize hn : l.length = n
  induction n using Nat.strongRecOn generalizing l with
  | _ n ih =>
    by_cases h : l = []
    · subst h; simp [pts_nil]
    · rw [pts_cons h]
      intro x hx
      rcases List.mem_cons.1 hx with rfl | hx
      · exact dec_le l
      · have h1 := dec_ge1 l
        have h2 := dec_len h
        exact ih (l.drop (dec l).2).length (by rw [List.length_drop]; omega) _ rfl x hx

/-- The bytes as the library has them. -/
def baOf (l : List Nat) : ByteArray := ⟨(l.map UInt8.ofNat).toArray⟩
theorem baOf_size (l : List Nat) : (baOf l).size = l.length := by simp [baOf, ByteArray.size]
theorem baOf_get (l : List Nat) (h : ∀ x ∈ l, x < 256) (j : Nat) : ((baOf l).get! j).toNat = l.getD j 0 := by
  show (((l.map UInt8.ofNat).toArray)[j]!).toNat = _
  rw [getElem!_def, List.getElem?_toArray, List.getElem?_map, List.getD_eq_getElem?_getD]
  cases hj : l[j]? with
  | none => rfl
  | some x =>
    have := h x (List.mem_of_getElem? hj)
    simp
    omega
theorem decodeGo_of {l : List Nat} (hne : l ≠ []) (h : ∀ x ∈ l, x < 256) : decodeGo (baOf l) = dec l := by
  have h0 : l.length ≠ 0 := fun e => hne (List.eq_nil_of_length_eq_zero e)
  unfold decodeGo
  rw [if_neg (by rw [baOf_size]; exact h0), decode_at, baOf_size, baOf_get l h, baOf_get l h, baOf_get l h, baOf_get l h]
  rfl
end Go.Proofs.YtfgmhpdhgepalaaDoor
