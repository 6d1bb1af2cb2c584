/- join: what it writes. -/
import Derived.Test.YtmfkomdfknflgaaFns
namespace Go.Proofs.Ytmfkomdfknflgaa
open Go.RowKit Go.Maps Go.ChangeShapes Go.WideShapes Go.ChangeAt Go.WideMaps Go.WideElems

def jn (f g : Nat → Nat) (k : Nat) : Nat → Nat := fun j => if j < k then max (f j) (g j) else f j
set_option maxHeartbeats 1000000 in
theorem join_any (w : World) (b n c b2 o2 c2 : Nat) (f g : Nat → Nat) (h1 : Row w b 0 n f) (h2 : Row w b2 o2 n g) (hne : b2 ≠ b) (hn : n ≤ 64) :
    Calls Try.prog 22 #[sl b 0 n c, sl b2 o2 n c2] w fun e w' => e = .returned (.tuple #[]) ∧ Row w' b 0 n (fun j => max (f j) (g j)) ∧ Fr (fun k => k = b) w w' := by
  have H1 := Lib.hid h1
  have H2 := Lib.hid h2
  clear h1 h2
  unfold sl
  go_enter Try.func22, Try.ntmps22
  go_wp2_with fail
  go_loopw [7] (fun i wr => ∃ (k : Nat), k ≤ n ∧ i = .int .i64 k ∧ Hid (Row wr b 0 n (jn f g k) ∧ Fr (fun k => k = b) w wr)) (fun i _ => n - (intOf i).toNat)
  case atStart => exact ⟨0, by omega, rfl, ⟨H1.out.congr (fun j _ => by simp [jn]), Fr.refl _ _⟩⟩
  case round =>
    obtain ⟨k, hk, rfl, hW⟩ := hrel
    by_cases hlt : k < n
    · have x0 := hW.out.1.cell0 hlt
      have x1 := (H2.out.fr hW.out.2 hne).cell hlt
      have fz := hW.out.1.frozen k
      have e0 : jn f g k k = f k := by simp [jn]
      rw [e0] at x0
      have q1 : decide ((k : Int) < (n : Int)) = true := by simp; omega
      have HS := Lib.hid (hW.out.1.set hlt (max (f k) (g k)))
      have HF := Lib.hid (hW.out.2.setCell (p := ⟨b, k, none⟩) (.inl rfl) (.int .i64 ((max (f k) (g k) : Nat) : Int)))
      have em : (((max (f k) (g k) : Nat)) : Int) = if f k < g k then ((g k : Nat) : Int) else ((f k : Nat) : Int) := by
        rw [Nat.max_def]
        by_cases h : f k < g k
        · rw [if_pos h, if_pos (by omega)]
        · rw [if_neg h]
          by_cases h2 : f k ≤ g k
          · rw [if_pos h2]; congr 1; omega
          · rw [if_neg h2]
      rw [em] at HS HF
      clear e0 em
      go_wp2_with fail
      go_region
      go_wp2_with fail
      go_roundw
      case rel =>
        refine ⟨k + 1, by omega, by first | rfl | go_num, ⟨?_, HF.out.drew⟩⟩
        refine Row.congr (show Row _ b 0 n _ from HS.out) fun j hj => ?_
        unfold upd jn
        by_cases e : j = k
        · subst e; rw [if_pos rfl, if_pos (by omega)]
        · by_cases e2 : j < k
          · rw [if_neg e, if_pos e2, if_pos (by omega)]
          · rw [if_neg e, if_neg e2, if_neg (by omega)]
      case measure => simp [intOf]; omega
    · obtain rfl : k = n := by omega
      have q1 : decide ((k : Int) < (k : Int)) = false := by simp
      go_wp2_with fail
      go_end0
      exact ⟨rfl, hW.out.1.congr (fun j hj => by unfold jn; rw [if_pos hj]), hW.out.2⟩
end Go.Proofs.Ytmfkomdfknflgaa
