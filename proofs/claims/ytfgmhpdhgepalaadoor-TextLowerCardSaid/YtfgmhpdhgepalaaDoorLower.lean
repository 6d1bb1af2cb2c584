/- TextLower: the walk. -/
import Derived.Test.YtfgmhpdhgepalaaDoorLow
import Derived.Test.YtfgmhpdhgepalaaDoorKeeps
namespace Go.Proofs.YtfgmhpdhgepalaaDoor
open Go.RowKit Go.Maps Go.ChangeShapes Go.WideShapes Go.ChangeAt Go.WideMaps Go.WideElems

theorem lowB_twice (c : UInt8) : lowB (lowB c) = lowB c := by
  by_cases h : 65 ≤ c.toNat ∧ c.toNat ≤ 90
  · have e := lowB_yes h.1 h.2
    exact lowB_no (by omega)
  · rw [lowB_no h]
    exact lowB_no h
theorem lowS_twice (s : ByteArray) : lowS (lowS s) = lowS s := by
  unfold lowS
  simp only [List.map_map]
  congr 2
  apply List.map_congr_left
  intro c _
  exact lowB_twice c
theorem lowS_size (s : ByteArray) : (lowS s).size = s.size := by
  show (s.data.toList.map lowB).toArray.size = s.data.size
  rw [List.size_toArray, List.length_map, Array.length_toList]

set_option maxHeartbeats 4000000 in
set_option maxRecDepth 100000 in
theorem lower_law (s : ByteArray) (w : World) (hT : Tabs w) (hs : s.size ≤ maxLen) :
    Calls Tryd.prog 6 #[.string s] w fun e w' => e = .returned (.bool true) ∧ Fr (fun _ => False) w w' := by
  have AL := Lib.hid (alive_any w hT)
  have hz := lowS_size s
  have P1 := Lib.hid (fun W => Lower_any s W hs)
  have P2 := Lib.hid (fun W => RLower_any s W hs)
  have P3 := Lib.hid (fun W => Lower_any (lowS s) W (by rw [hz]; exact hs))
  rw [lowS_twice] at P3
  generalize lowS s = x at *
  clear hT
  go_enter Tryd.func6, Tryd.ntmps6
  go_wp2_with fail
  rename_i KK aa
  refine AL.out.mono ?_
  rintro e w1 ⟨rfl, f1⟩
  have F1 := Lib.hid f1
  clear AL f1
  show KK _ _
  apply aa
  go_wp2_with fail
  rename_i KK2 aa2
  refine (P1.out _).mono ?_
  rintro e w2 ⟨rfl, f2⟩
  have F2 := Lib.hid (F1.out.trans f2)
  clear f2
  show KK2 _ _
  apply aa2
  clear aa2 P1
  go_wp2_with (first
    | (go_at_call 18; refine Calls.mono (P2.out _) ?_; rintro e w3 ⟨rfl, f3⟩; have F3 := Lib.hid (F2.out.trans f3); clear f3)
    | (go_at_call 17; refine Calls.mono (P3.out _) ?_; rintro e w4 ⟨rfl, f4⟩; have F4 := Lib.hid (F3.out.trans f4); clear f4))
  go_ret
  exact ⟨rfl, F4.out⟩
theorem textLower_walk (s : ByteArray) (w : World) (hT : Tabs w) (hs : s.size ≤ maxLen) : Calls Tryd.prog 6 #[.string s] w fun e w' => e = .returned (.bool true) ∧ Below w.heap.size w w' := by
  refine (lower_law s w hT hs).mono fun _ _ h => ⟨h.1, h.2.below (Nat.le_refl _) (by simp)⟩
end Go.Proofs.YtfgmhpdhgepalaaDoor
