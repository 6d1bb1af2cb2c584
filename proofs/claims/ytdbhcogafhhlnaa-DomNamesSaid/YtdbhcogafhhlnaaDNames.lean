/- DomNames: the walk. -/
import Derived.Test.YtdbhcogafhhlnaaDLaw1
import Derived.BigQuiet
import Derived.Deep.QuietTactic
import Derived.Deep.RegionLaw
import Derived.Deep.Cut
namespace Go.Proofs.Ytdbhcogafhhlnaa
open Go.RowKit Go.Maps Go.ChangeShapes Go.WideShapes Go.ChangeAt Go.WideMaps Go.WideElems

def oneD (tag id cla name value : ByteArray) : NodeD := ⟨-1, tag, id, [cla], [(name, value)]⟩
theorem new_one (tag id cla name value : ByteArray) : newR [oneD tag id cla name value] = .inr [⟨oneD tag id cla name value, [], 0, 1, -1⟩] := by
  simp [newR, runP, stepP, badP, oneD]

set_option maxHeartbeats 8000000 in
set_option maxRecDepth 100000 in
theorem names_any (tag id cla name value : ByteArray) (w : World) : Calls Try.prog 4 #[.string tag, .string id, .string cla, .string name, .string value] w fun e w' => e = .returned (.bool true) ∧ Fr (fun _ => False) w w' := by
  have AL := Lib.hid (alive_any w)
  go_enter Try.func4, Try.ntmps4
  go_wp2_with fail
  rename_i KK aa
  refine AL.out.mono ?_
  rintro e w1 ⟨rfl, f1⟩
  have F1 := Lib.hid f1
  clear AL f1
  show KK _ _
  apply aa
  by_cases c0 : (100 : Int) < (tag.size : Int)
  · have d0 : decide ((100 : Int) < (tag.size : Int)) = true := decide_eq_true c0
    go_wp2_with fail
    go_ret
    exact ⟨rfl, F1.out⟩
  have d0 : decide ((100 : Int) < (tag.size : Int)) = false := decide_eq_false c0
  by_cases c1 : (100 : Int) < (id.size : Int)
  · have d1 : decide ((100 : Int) < (id.size : Int)) = true := decide_eq_true c1
    go_wp2_with fail
    go_ret
    exact ⟨rfl, F1.out⟩
  have d1 : decide ((100 : Int) < (id.size : Int)) = false := decide_eq_false c1
  by_cases c2 : (100 : Int) < (cla.size : Int)
  · have d2 : decide ((100 : Int) < (cla.size : Int)) = true := decide_eq_true c2
    go_wp2_with fail
    go_ret
    exact ⟨rfl, F1.out⟩
  have d2 : decide ((100 : Int) < (cla.size : Int)) = false := decide_eq_false c2
  by_cases c3 : (100 : Int) < (name.size : Int)
  · have d3 : decide ((100 : Int) < (name.size : Int)) = true := decide_eq_true c3
    go_wp2_with fail
    go_ret
    exact ⟨rfl, F1.out⟩
  have d3 : decide ((100 : Int) < (name.size : Int)) = false := decide_eq_false c3
  by_cases c4 : (100 : Int) < (value.size : Int)
  · have d4 : decide ((100 : Int) < (value.size : Int)) = true := decide_eq_true c4
    go_wp2_with fail
    go_ret
    exact ⟨rfl, F1.out⟩
  have d4 : decide ((100 : Int) < (value.size : Int)) = false := decide_eq_false c4
  have B1 := heapAlloc (o' := (.cells #[.int .i64 (-1), .string tag, .string id, .slice (some ⟨w1.heap.size, 0, none⟩) 1 1, .slice (some ⟨w1.heap.size + 1, 0, none⟩) 1 1] 25)) (heapAlloc (o' := (.cells #[.string name, .string value] 38)) (heapNew w1 (.cells #[.string cla] 9)))
  have B2 := heapAlloc (o' := (.cells #[.int .i64 (-1), .string tag, .string id, .slice (some ⟨w1.heap.size, 0, none⟩) 1 1, .slice (some ⟨w1.heap.size + 1, 0, none⟩) 1 1] 25)) (heapNew (w1.alloc (.cells #[.string cla] 9)) (.cells #[.string name, .string value] 38))
  have B3 := heapNew ((w1.alloc (.cells #[.string cla] 9)).alloc (.cells #[.string name, .string value] 38)) (.cells #[.int .i64 (-1), .string tag, .string id, .slice (some ⟨w1.heap.size, 0, none⟩) 1 1, .slice (some ⟨w1.heap.size + 1, 0, none⟩) 1 1] 25)
  simp only [World.size_alloc] at B2 B3
  have N := Lib.hid (New_any [oneD tag id cla name value] (some ⟨w1.heap.size + 1 + 1, 0, none⟩) 1 (((w1.alloc (.cells #[.string cla] 9)).alloc (.cells #[.string name, .string value] 38)).alloc (.cells #[.int .i64 (-1), .string tag, .string id, .slice (some ⟨w1.heap.size, 0, none⟩) 1 1, .slice (some ⟨w1.heap.size + 1, 0, none⟩) 1 1] 25)) (fun k d hk => by
    match k, hk with
    | 0, hk =>
      cases hk
      refine ⟨w1.heap.size + 1 + 1, 0, some ⟨w1.heap.size, 0, none⟩, 1, some ⟨w1.heap.size + 1, 0, none⟩, 1, rfl, ltOf B3, cellOf B3 0, cellOf B3 1, cellOf B3 2, cellOf B3 3, cellOf B3 4, Src.one (size := 1) B1 rfl, Src.one (size := 2) B2 rfl, (by simp [oneD]), (by simp [oneD]), ?_, ?_⟩
      · show tag.size ≤ maxLen
        unfold maxLen; omega
      · intro p hp
        simp [oneD] at hp
        subst hp
        show name.size ≤ maxLen
        unfold maxLen; omega
    | k + 1, hk => simp at hk) (by simp) (by unfold maxLen; omega))
  have F3 := Lib.hid (((F1.out.alloc (.cells #[.string cla] 9)).alloc (.cells #[.string name, .string value] 38)).alloc (.cells #[.int .i64 (-1), .string tag, .string id, .slice (some ⟨w1.heap.size, 0, none⟩) 1 1, .slice (some ⟨w1.heap.size + 1, 0, none⟩) 1 1] 25))
  rw [show ([oneD tag id cla name value] : List NodeD).length = 1 from rfl] at N
  clear B1 B2 B3
  go_wp2_with fail
  refine N.out.mono ?_
  rintro e w4 ⟨f4, (⟨n, hn, -⟩ | ⟨els, tb, hn, rfl, hT, -, -⟩)⟩
  · rw [new_one] at hn; cases hn
  rw [new_one] at hn
  cases hn
  have F4 := Lib.hid (F3.out.trans f4)
  have PN := Lib.hid (fun W => num_any W 0)
  have ND := Lib.hid (Node_any _ w4 tb _ hT 0 _ (eltAt_in (k := 0) rfl) (by simp [oneD]) (by simp [oneD]))
  clear N f4 hT F3 F1
  go_wp2_with fail
  refine (PN.out _).mono ?_
  rintro e w5 ⟨rfl, rfl⟩
  go_wp2_with fail
  refine ND.out.mono ?_
  rintro e w6 ⟨sp, c, q, o, rfl, o1, o2, f6⟩
  have F6 := Lib.hid (F4.out.trans f6)
  obtain ⟨g1, off1, cp1, hv1, hc1, hc1', hg1, -, hcell1, -⟩ := o1.cells (by simp [oneD])
  obtain ⟨g2, off2, cp2, hv2, hc2, hc2', hg2, -, hcell2, -⟩ := o2.cells (by simp [oneD])
  cases hv1
  cases hv2
  have x5 := hcell1 0 (.string cla) rfl
  have x6 := hcell2 0 (.string (lowS name)) rfl
  have x7 := hcell2 1 (.string value) rfl
  simp only [oneD, List.length_cons, List.length_nil, Nat.zero_add] at hc1 hc2
  clear f6 ND PN o1 o2 hcell1 hcell2 F4
  simp only [oneD, List.length_cons, List.length_nil, Nat.zero_add]
  have AN := Lib.hid (heapNew w6 (.cells #[.int .i64 (-1), .string (lowS tag), .string id, .slice (some ⟨g1, off1, none⟩) 1 c, .slice (some ⟨g2, off2, none⟩) 1 o] 25))
  have AF := (Fr.refl (fun _ => False) w6).alloc (.cells #[.int .i64 (-1), .string (lowS tag), .string id, .slice (some ⟨g1, off1, none⟩) 1 c, .slice (some ⟨g2, off2, none⟩) 1 o] 25)
  have F7 := Lib.hid (F6.out.trans AF)
  have x5 := cellFr0 AF x5
  have x6 := cellFr0 AF x6
  have x7 := cellFr0 AF x7
  clear AF F6
  go_upto_region 8 with fail
  generalize w6.alloc (.cells #[.int .i64 (-1), .string (lowS tag), .string id, .slice (some ⟨g1, off1, none⟩) 1 c, .slice (some ⟨g2, off2, none⟩) 1 o] 25) = w7 at *
  generalize w6.heap.size = b at *
  have x1 := cellOf AN.out 1
  have x2 := cellOf AN.out 2
  have x3 := cellOf AN.out 3
  have x4 := cellOf AN.out 4
  simp at x1 x2 x3 x4
  have PT := Lib.hid (fun W => RLower_any tag W (by unfold maxLen; omega))
  have PM := Lib.hid (fun W => RLower_any name W (by unfold maxLen; omega))
  simp only [Nat.add_zero] at x5 x6 x7
  go_region_law (first
    | (go_simp; go_at_call 16; refine Calls.mono (PT.out _) ?_; rintro e wy ⟨rfl, fy⟩; have HY := Lib.hid (F7.out.trans ((Fr.refl (fun _ => False) w7).drew.trans fy)); have y1 := cellFr0 fy x1; have y2 := cellFr0 fy x2; have y3 := cellFr0 fy x3; have y4 := cellFr0 fy x4; have y5 := cellFr0 fy x5; have y6 := cellFr0 fy x6; have y7 := cellFr0 fy x7; clear fy PT)
    | (go_simp; go_at_call 16; refine Calls.mono (PM.out _) ?_; rintro e wz ⟨rfl, fz⟩; have HZ := Lib.hid (HY.out.trans fz); have z1 := cellFr0 fz y1; have z2 := cellFr0 fz y2; have z3 := cellFr0 fz y3; have z4 := cellFr0 fz y4; have z5 := cellFr0 fz y5; have z6 := cellFr0 fz y6; have z7 := cellFr0 fz y7; clear fz PM))
  all_goals
    go_wp2_with fail
    go_ret
    exact ⟨rfl, HZ.out⟩

theorem domNames_walk (tag id cla name value : ByteArray) (w : World) {P0 P1 P2 P3 P4 : Prop} (_ : P0) (_ : P1) (_ : P2) (_ : P3) (_ : P4) : Calls Try.prog 4 #[.string tag, .string id, .string cla, .string name, .string value] w fun e w' => e = .returned (.bool true) ∧ Below w.heap.size w w' :=
  (names_any tag id cla name value w).mono fun _ _ h => ⟨h.1, h.2.below (Nat.le_refl _) (by simp)⟩
end Go.Proofs.Ytdbhcogafhhlnaa
