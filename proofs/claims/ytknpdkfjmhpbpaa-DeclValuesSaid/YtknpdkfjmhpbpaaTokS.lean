/- The tokens of plain texts: letters, blanks and a few signs; plain. No condition. -/
import Derived.Test.YtknpdkfjmhpbpaaSk
namespace Go.Proofs.Ytknpdkfjmhpbpaa

def letN (c : Nat) : Bool := decide (97 ≤ c ∧ c ≤ 122 ∨ 65 ≤ c ∧ c ≤ 90)
def sgnN (c : Nat) : Int := if c = 58 then 11 else if c = 59 then 12 else if c = 123 then 14 else if c = 125 then 15 else 0
/-- The plain code points. -/
def okC (c : Nat) : Prop := letN c = true ∨ c = 32 ∨ c = 33 ∨ c = 58 ∨ c = 59 ∨ c = 123 ∨ c = 125
def bOf (l : List Nat) : ByteArray := ⟨(l.map UInt8.ofNat).toArray⟩
def wh (c : Nat) : Bool := decide (c = 32)
theorem dropWhile_len {α : Type} (p : α → Bool) : ∀ l : List α, (l.dropWhile p).length ≤ l.length
  | [] => by simp
  | x :: r => by
    rw [List.dropWhile_cons]
    split
    · have := dropWhile_len p r; simp; omega
    · exact Nat.le_refl _
def tokS (l : List Nat) : List Tok :=
  match l with
  | [] => []
  | c :: r => if c = 32 then ⟨9, ⟨#[]⟩, 0, false, 0⟩ :: tokS (r.dropWhile wh) else if letN c then ⟨1, bOf (c :: r.takeWhile letN), 0, false, 0⟩ :: tokS (r.dropWhile letN)
    else if sgnN c > 0 then ⟨sgnN c, ⟨#[]⟩, 0, false, 0⟩ :: tokS r else ⟨10, ⟨#[]⟩, 0, false, (c : Int)⟩ :: tokS r
termination_by l.length
decreasing_by
  · have := dropWhile_len wh r; simp; omega
  · have := dropWhile_len letN r; simp; omega
  · simp
  · simp
theorem tokS_nil : tokS [] = [] := by rw [tokS]
theorem tokS_cons (c : Nat) (r : List Nat) : tokS (c :: r) = if c = 32 then ⟨9, ⟨#[]⟩, 0, false, 0⟩ :: tokS (r.dropWhile wh) else if letN c then ⟨1, bOf (c :: r.takeWhile letN), 0, false, 0⟩ :: tokS (r.dropWhile letN)
    else if sgnN c > 0 then ⟨sgnN c, ⟨#[]⟩, 0, false, 0⟩ :: tokS r else ⟨10, ⟨#[]⟩, 0, false, (c : Int)⟩ :: tokS r := by rw [tokS]
theorem drop_at {l : List Nat} {k c : Nat} (h : l[k]? = some c) : l.drop k = c :: l.drop (k + 1) := by
  obtain ⟨hk, e⟩ := List.getElem?_eq_some_iff.1 h
  rw [List.drop_eq_getElem_cons hk, e]
theorem letN_32 {c : Nat} (h : letN c = true) : c ≠ 32 := by
  rintro rfl
  simp [letN] at h
theorem dw_at {p : Nat → Bool} {l : List Nat} {k c : Nat} (h : l[k]? = some c) (hp : p c = true) : (l.drop k).dropWhile p = (l.drop (k + 1)).dropWhile p := by
  rw [drop_at h, List.dropWhile_cons_of_pos hp]
theorem tw_at {p : Nat → Bool} {l : List Nat} {k c : Nat} (h : l[k]? = some c) (hp : p c = true) : (l.drop k).takeWhile p = c :: (l.drop (k + 1)).takeWhile p := by
  rw [drop_at h, List.takeWhile_cons_of_pos hp]
theorem dw_stop {p : Nat → Bool} {l : List Nat} {k : Nat} (h : ∀ c, l[k]? = some c → p c = false) : (l.drop k).dropWhile p = l.drop k ∧ (l.drop k).takeWhile p = [] := by
  cases hk : l[k]? with
  | none =>
    rw [List.drop_eq_nil_of_le (by simpa using hk)]
    exact ⟨rfl, rfl⟩
  | some c =>
    rw [drop_at hk, List.dropWhile_cons_of_neg (by simp [h c hk]), List.takeWhile_cons_of_neg (by simp [h c hk])]
    exact ⟨rfl, rfl⟩
/-- "a { b }" -/
theorem tokS_alive : tokS [97, 32, 123, 32, 98, 32, 125] = [⟨1, bOf [97], 0, false, 0⟩, ⟨9, ⟨#[]⟩, 0, false, 0⟩, ⟨14, ⟨#[]⟩, 0, false, 0⟩, ⟨9, ⟨#[]⟩, 0, false, 0⟩, ⟨1, bOf [98], 0, false, 0⟩, ⟨9, ⟨#[]⟩, 0, false, 0⟩, ⟨15, ⟨#[]⟩, 0, false, 0⟩] := by
  simp [tokS_cons, tokS_nil, letN, sgnN, wh, List.dropWhile, List.takeWhile]
end Go.Proofs.Ytknpdkfjmhpbpaa
