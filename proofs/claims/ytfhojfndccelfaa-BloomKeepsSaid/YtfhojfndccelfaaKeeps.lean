/- BloomKeeps: it returns true, and writes nothing that was there. -/
import Derived.Test.YtfhojfndccelfaaPlays
namespace Go.Proofs.Ytfhojfndccelfaa
open Go.RowKit Go.Maps Go.ChangeShapes Go.WideShapes Go.ChangeAt Go.WideMaps Go.WideElems

/-! ### plain: what is counted -/
def tch (h : Int) (j : Nat) : Int := if j = pa h ∨ j = pb h then 1 else 0
def TT : List Int → Nat → Int
  | [], _ => 0
  | h :: r, j => tch h j + TT r j
def WT (m : Int) : List (List Int) → Nat → Int
  | [], _ => 0
  | l :: r, j => m * TT l j + WT m r j

theorem tch_nn (h : Int) (j : Nat) : 0 ≤ tch h j := by unfold tch; split <;> omega
theorem TT_nn (l : List Int) (j : Nat) : 0 ≤ TT l j := by
  induction l with
  | nil => exact Int.le_refl _
  | cons h r ih => have := tch_nn h j; simp only [TT]; omega
theorem WT_nn {m : Int} (hm : 0 ≤ m) (l : List (List Int)) (j : Nat) : 0 ≤ WT m l j := by
  induction l with
  | nil => exact Int.le_refl _
  | cons h r ih => have := Int.mul_nonneg hm (TT_nn h j); simp only [WT]; omega
theorem WT_snoc (m : Int) (l : List (List Int)) (x : List Int) (j : Nat) : WT m (l ++ [x]) j = WT m l j + m * TT x j := by
  induction l with
  | nil => simp [WT]
  | cons h r ih => simp only [List.cons_append, WT, ih]; omega
theorem TT_mem {l : List Int} {h : Int} (hm : h ∈ l) {j : Nat} (hj : j = pa h ∨ j = pb h) : 1 ≤ TT l j := by
  induction l with
  | nil => simp at hm
  | cons x r ih =>
    simp only [TT]
    rcases List.mem_cons.1 hm with rfl | hm
    · have := TT_nn r j
      unfold tch; rw [if_pos hj]; omega
    · have := ih hm
      have := tch_nn x j
      omega
theorem WT_mem {m : Int} (hm : 1 ≤ m) {L : List (List Int)} {l : List Int} (hl : l ∈ L) (j : Nat) : TT l j ≤ WT m L j := by
  induction L with
  | nil => simp at hl
  | cons x r ih =>
    simp only [WT]
    have hx := TT_nn x j
    have hw := WT_nn (by omega : 0 ≤ m) r j
    have h2 : TT x j ≤ m * TT x j := by
      have := Int.mul_le_mul_of_nonneg_right hm hx
      omega
    rcases List.mem_cons.1 hl with rfl | hl
    · omega
    · have := ih hl
      omega

/-- A counter is full, or what is counted. -/
def Inv (c : Nat → Int) (T : Nat → Int) : Prop := ∀ j, 0 ≤ T j ∧ (c j = 255 ∨ c j = T j)

theorem one_at (g : Int → Int) (c : Nat → Int) (h : Int) (j : Nat) : one g c h j = if j = pa h ∨ j = pb h then g (c j) else c j := by
  unfold one upd
  by_cases e : pb h = pa h
  · simp only [e, if_true, or_self]
    split <;> simp_all
  · simp only [e, if_false]
    by_cases e1 : j = pb h
    · simp [e1, e]
    · by_cases e2 : j = pa h
      · simp [e2]
        intro e3; exact absurd e3.symm e
      · simp [e1, e2]

theorem Inv.up1 {c T : Nat → Int} (h : Inv c T) (hc : In255 c) (x : Int) : Inv (one up c x) (fun j => T j + tch x j) := by
  intro j
  obtain ⟨h0, h1⟩ := h j
  have h2 := hc j
  show 0 ≤ T j + tch x j ∧ (one up c x j = 255 ∨ one up c x j = T j + tch x j)
  rw [one_at]
  unfold tch up
  by_cases e : j = pa x ∨ j = pb x
  · rw [if_pos e, if_pos e]
    split <;> omega
  · rw [if_neg e, if_neg e]
    omega

theorem Inv.down1 {c T : Nat → Int} (h : Inv c T) (hc : In255 c) (x : Int) (hT : ∀ j, tch x j ≤ T j) : Inv (one down c x) (fun j => T j - tch x j) := by
  intro j
  obtain ⟨h0, h1⟩ := h j
  have h2 := hT j
  have h3 := hc j
  show 0 ≤ T j - tch x j ∧ (one down c x j = 255 ∨ one down c x j = T j - tch x j)
  rw [one_at]
  unfold tch at *
  unfold down
  by_cases e : j = pa x ∨ j = pb x
  · rw [if_pos e] at h2
    rw [if_pos e, if_pos e]
    split <;> omega
  · rw [if_neg e, if_neg e]
    omega

theorem Inv.ups {c T : Nat → Int} (h : Inv c T) (hc : In255 c) (l : List Int) : Inv (many up c l) (fun j => T j + TT l j) := by
  induction l generalizing c T with
  | nil => intro j; have := h j; simp only [many, List.foldl_nil, TT]; omega
  | cons x r ih =>
    have := ih (h.up1 hc x) (one_in up up_in hc x)
    intro j
    have := this j
    simp only [many, List.foldl_cons, TT] at *
    omega

theorem Inv.downs {c T : Nat → Int} (h : Inv c T) (hc : In255 c) (l : List Int) (hT : ∀ j, TT l j ≤ T j) : Inv (many down c l) (fun j => T j - TT l j) := by
  induction l generalizing c T with
  | nil => intro j; have := h j; simp only [many, List.foldl_nil, TT]; omega
  | cons x r ih =>
    have h1 := h.down1 hc x (fun j => by have := hT j; have := TT_nn r j; simp only [TT] at *; omega)
    have := ih h1 (one_in down down_in hc x) (fun j => by have := hT j; simp only [TT] at *; omega)
    intro j
    have := this j
    simp only [many, List.foldl_cons, TT] at *
    omega

theorem Inv.congr {c T T' : Nat → Int} (h : Inv c T) (e : ∀ j, T j = T' j) : Inv c T' := by
  intro j; have := h j; rw [← e j]; exact this

theorem Inv.may {c T : Nat → Int} (h : Inv c T) (x : Int) (ha : 1 ≤ T (pa x)) (hb : 1 ≤ T (pb x)) : mayB c x = true := by
  have h1 := h (pa x)
  have h2 := h (pb x)
  unfold mayB
  simp
  omega

theorem rows_open {H : Type} {enc : TypeId × Value → H} {w : World} {v : Value} {d : DataW H} {ps : List MemPlace} {r : Reach} {b0 : Nat}
    (hval : Value.okWide Try.prog w r b0 38 v) (h : DataW.Trod enc Try.prog w 0 (fun _ => true) true 38 v d ps) : ∃ l, RowR 1 (fun w cs x => ∃ v, cs = [v] ∧ IsInts .i64 w v x) w v l := by
  obtain ⟨a, n, c, rfl⟩ := okWide_slice Try.underlying38 hval
  obtain ⟨fuel, hf⟩ := h
  refine rowR_open Try.underlying38 (k := 1) (by kernel_rfl) (by omega) rfl (by simpa [Value.cells] using hf) (fun n cs y _ hy => ?_)
  obtain ⟨v, l, hv, hi⟩ := ints_trod Try.underlying31 Try.underlying3 (by kernel_rfl) hy
  exact ⟨l, v, hv, hi⟩

/-- The filter between two steps. -/
structure KF (w w' : World) (b : Nat) (c T : Nat → Int) : Prop where
  f : IsFil 26 .u8 w' b c
  inn : In255 c
  inv : Inv c T
  below : Below w.heap.size w w'

theorem KF.push {w w' : World} {b : Nat} {c T : Nat → Int} (h : KF w w' b c T) (hge : w.heap.size ≤ b) {v : Value} {l : List Int} (hl : IsInts .i64 w v l) :
    Calls Try.prog 10 #[.pointer (some ⟨b, 0, none⟩), v] w' fun e w2 => e = .returned (.tuple #[]) ∧ ∃ c2, KF w w2 b c2 (fun j => T j + TT l j) := by
  refine (Push_any b c v l w' h.f (hl.src h.below hge) h.inn).mono ?_
  rintro e w2 ⟨rfl, f, g⟩
  exact ⟨rfl, _, g, many_in up up_in h.inn l, h.inv.ups h.inn l, h.below.trans (f.below h.below.size (fun k hk e => by omega))⟩

theorem KF.pop {w w' : World} {b : Nat} {c T : Nat → Int} (h : KF w w' b c T) (hge : w.heap.size ≤ b) {v : Value} {l : List Int} (hl : IsInts .i64 w v l) (hT : ∀ j, TT l j ≤ T j) :
    Calls Try.prog 11 #[.pointer (some ⟨b, 0, none⟩), v] w' fun e w2 => e = .returned (.tuple #[]) ∧ ∃ c2, KF w w2 b c2 (fun j => T j - TT l j) := by
  refine (Pop_any b c v l w' h.f (hl.src h.below hge) h.inn).mono ?_
  rintro e w2 ⟨rfl, f, g⟩
  exact ⟨rfl, _, g, many_in down down_in h.inn l, h.inv.downs h.inn l hT, h.below.trans (f.below h.below.size (fun k hk e => by omega))⟩

theorem KF.congr {w w' : World} {b : Nat} {c T T' : Nat → Int} (h : KF w w' b c T) (e : ∀ j, T j = T' j) : KF w w' b c T' := ⟨h.f, h.inn, h.inv.congr e, h.below⟩

end Go.Proofs.Ytfhojfndccelfaa
