/- SameNode. -/
import Derived.Test.YtdjdpfmogphoiaaSameN
namespace Go.Proofs.Ytdjdpfmogphoiaa
open Go.RowKit Go.Maps Go.ChangeShapes Go.WideShapes Go.ChangeAt Go.WideMaps Go.WideElems

theorem RdS.to {w w' : World} {p : Option Addr} {l : List ByteArray} (h : RdS w p l) (f : ∀ b k v, w.cell? ⟨b, k, none⟩ = some v → w'.cell? ⟨b, k, none⟩ = some v) : RdS w' p l := fun k t hk => by
  obtain ⟨b, e, hc⟩ := h k t hk
  exact ⟨b, e, f _ _ _ hc⟩

theorem cellAlloc {w : World} {b k : Nat} {v : Value} {o : Obj} (h : w.cell? ⟨b, k, none⟩ = some v) : (w.alloc o).cell? ⟨b, k, none⟩ = some v := by
  have hlt : b < w.heap.size := by
    rcases Nat.lt_or_ge b w.heap.size with hh | hh
    · exact hh
    · simp [World.cell?, Array.getElem?_eq_none hh] at h
  exact (((Fr.refl (fun _ => False) w).alloc o).cell (p := ⟨b, k, none⟩) hlt (by simp)).trans h

theorem at5 {w : World} {b : Nat} {v0 v1 v2 v3 v4 : Value} {T : TypeId} {fz : Nat × Nat} (h : w.heap[b]? = some (.cells #[v0, v1, v2, v3, v4] T fz)) :
    w.cell? ⟨b, 0, none⟩ = some v0 ∧ w.cell? ⟨b, 1, none⟩ = some v1 ∧ w.cell? ⟨b, 2, none⟩ = some v2 ∧ w.cell? ⟨b, 3, none⟩ = some v3 ∧ w.cell? ⟨b, 4, none⟩ = some v4 :=
  ⟨cellOf h 0, cellOf h 1, cellOf h 2, cellOf h 3, cellOf h 4⟩

set_option maxHeartbeats 4000000 in
set_option maxRecDepth 100000 in
theorem sameNode0 (d : NodeD) (sp1 sp2 : Option Addr) (c1 c2 : Nat) (w : World) (h1 : RdS w sp1 d.cls) (h2 : RdS w sp2 d.cls) (hn : d.cls.length ≤ 1000) :
    Calls Try.prog 22 #[.agg #[.int .i64 d.par, .string d.tag, .string d.id, .slice sp1 d.cls.length c1, .slice none 0 0], .agg #[.int .i64 d.par, .string d.tag, .string d.id, .slice sp2 d.cls.length c2, .slice none 0 0]] w fun e w' => e = .returned (.bool true) ∧ Fr (fun _ => False) w w' := by
  have F2 := Lib.hid (((Fr.refl (fun _ => False) w).alloc (.cells #[.int .i64 d.par, .string d.tag, .string d.id, .slice sp1 d.cls.length c1, .slice none 0 0] 47)).alloc (.cells #[.int .i64 d.par, .string d.tag, .string d.id, .slice sp2 d.cls.length c2, .slice none 0 0] 47))
  have P := Lib.hid (sameStrs_any sp1 sp2 c1 c2 d.cls ((w.alloc (.cells #[.int .i64 d.par, .string d.tag, .string d.id, .slice sp1 d.cls.length c1, .slice none 0 0] 47)).alloc (.cells #[.int .i64 d.par, .string d.tag, .string d.id, .slice sp2 d.cls.length c2, .slice none 0 0] 47)) (h1.to (fun b k v h => cellAlloc (cellAlloc h))) (h2.to (fun b k v h => cellAlloc (cellAlloc h))) hn)
  have hA : ((w.alloc (.cells #[.int .i64 d.par, .string d.tag, .string d.id, .slice sp1 d.cls.length c1, .slice none 0 0] 47)).alloc (.cells #[.int .i64 d.par, .string d.tag, .string d.id, .slice sp2 d.cls.length c2, .slice none 0 0] 47)).heap[w.heap.size]? = some (.cells #[.int .i64 d.par, .string d.tag, .string d.id, .slice sp1 d.cls.length c1, .slice none 0 0] 47) := heapAlloc (heapNew w _)
  have hB := heapNew (w.alloc (.cells #[.int .i64 d.par, .string d.tag, .string d.id, .slice sp1 d.cls.length c1, .slice none 0 0] 47)) (.cells #[.int .i64 d.par, .string d.tag, .string d.id, .slice sp2 d.cls.length c2, .slice none 0 0] 47)
  rw [World.size_alloc] at hB
  have A5 := Lib.hid (at5 hA)
  have B5 := Lib.hid (at5 hB)
  clear hA hB
  clear h1 h2
  generalize d.par = par at *
  generalize d.tag = tag at *
  generalize d.id = id at *
  generalize d.cls.length = len at *
  have q1 : (par != par) = false := by simp
  go_enter Try.func22, Try.ntmps22
  go_wp2_with fail
  refine P.out.mono ?_
  rintro e w' ⟨rfl, m, rfl⟩
  generalize (w.alloc (.cells #[.int .i64 par, .string tag, .string id, .slice sp1 len c1, .slice none 0 0] 47)).alloc (.cells #[.int .i64 par, .string tag, .string id, .slice sp2 len c2, .slice none 0 0] 47) = wz at *
  obtain ⟨a0, a1, a2, a3, a4⟩ := A5.out
  obtain ⟨b0, b1, b2, b3, b4⟩ := B5.out
  clear a0 a1 a2 a3 b0 b1 b2 b3 P
  have y0 : (wz.drewN m).cell? ⟨w.heap.size, 4, none⟩ = some (.slice none 0 0) := a4
  have y1 : (wz.drewN m).cell? ⟨w.heap.size + 1, 4, none⟩ = some (.slice none 0 0) := b4
  go_wp2_with fail
  clear y0 y1
  go_loopw [5] (fun i wr => ∃ (k m : Nat), k ≤ 0 ∧ i = .int .i64 k ∧ wr = wz.drewN m) (fun i _ => 0 - (intOf i).toNat)
  case atStart => exact ⟨0, m, by omega, rfl, rfl⟩
  case round =>
    obtain ⟨k, m, hk, rfl, rfl⟩ := hrel
    have y0 : (wz.drewN m).cell? ⟨w.heap.size, 4, none⟩ = some (.slice none 0 0) := a4
    have y1 : (wz.drewN m).cell? ⟨w.heap.size + 1, 4, none⟩ = some (.slice none 0 0) := b4
    clear a4 b4
    obtain rfl : k = 0 := by omega
    go_wp2_with fail
    go_ret
    exact ⟨rfl, ⟨F2.out.os, F2.out.tape, F2.out.output, F2.out.size, F2.out.block⟩⟩

set_option maxHeartbeats 4000000 in
set_option maxRecDepth 100000 in
theorem sameNode1 (d : NodeD) (sp1 sp2 : Option Addr) (c1 c2 : Nat) (w : World) (h1 : RdS w sp1 d.cls) (h2 : RdS w sp2 d.cls) (hn : d.cls.length ≤ 1000) (g1 g2 : Nat) (a t : ByteArray) (hg1 : w.heap[g1]? = some (.cells #[.string a, .string t] 60 (0, 0))) (hg2 : w.heap[g2]? = some (.cells #[.string a, .string t] 60 (0, 0))) :
    Calls Try.prog 22 #[.agg #[.int .i64 d.par, .string d.tag, .string d.id, .slice sp1 d.cls.length c1, .slice (some ⟨g1, 0, none⟩) 1 1], .agg #[.int .i64 d.par, .string d.tag, .string d.id, .slice sp2 d.cls.length c2, .slice (some ⟨g2, 0, none⟩) 1 1]] w fun e w' => e = .returned (.bool true) ∧ Fr (fun _ => False) w w' := by
  have F2 := Lib.hid (((Fr.refl (fun _ => False) w).alloc (.cells #[.int .i64 d.par, .string d.tag, .string d.id, .slice sp1 d.cls.length c1, .slice (some ⟨g1, 0, none⟩) 1 1] 47)).alloc (.cells #[.int .i64 d.par, .string d.tag, .string d.id, .slice sp2 d.cls.length c2, .slice (some ⟨g2, 0, none⟩) 1 1] 47))
  have P := Lib.hid (sameStrs_any sp1 sp2 c1 c2 d.cls ((w.alloc (.cells #[.int .i64 d.par, .string d.tag, .string d.id, .slice sp1 d.cls.length c1, .slice (some ⟨g1, 0, none⟩) 1 1] 47)).alloc (.cells #[.int .i64 d.par, .string d.tag, .string d.id, .slice sp2 d.cls.length c2, .slice (some ⟨g2, 0, none⟩) 1 1] 47)) (h1.to (fun b k v h => cellAlloc (cellAlloc h))) (h2.to (fun b k v h => cellAlloc (cellAlloc h))) hn)
  have hA : ((w.alloc (.cells #[.int .i64 d.par, .string d.tag, .string d.id, .slice sp1 d.cls.length c1, .slice (some ⟨g1, 0, none⟩) 1 1] 47)).alloc (.cells #[.int .i64 d.par, .string d.tag, .string d.id, .slice sp2 d.cls.length c2, .slice (some ⟨g2, 0, none⟩) 1 1] 47)).heap[w.heap.size]? = some (.cells #[.int .i64 d.par, .string d.tag, .string d.id, .slice sp1 d.cls.length c1, .slice (some ⟨g1, 0, none⟩) 1 1] 47) := heapAlloc (heapNew w _)
  have hB := heapNew (w.alloc (.cells #[.int .i64 d.par, .string d.tag, .string d.id, .slice sp1 d.cls.length c1, .slice (some ⟨g1, 0, none⟩) 1 1] 47)) (.cells #[.int .i64 d.par, .string d.tag, .string d.id, .slice sp2 d.cls.length c2, .slice (some ⟨g2, 0, none⟩) 1 1] 47)
  rw [World.size_alloc] at hB
  have A5 := Lib.hid (at5 hA)
  have B5 := Lib.hid (at5 hB)
  clear hA hB
  have T1 := Lib.hid (show ((w.alloc (.cells #[.int .i64 d.par, .string d.tag, .string d.id, .slice sp1 d.cls.length c1, .slice (some ⟨g1, 0, none⟩) 1 1] 47)).alloc (.cells #[.int .i64 d.par, .string d.tag, .string d.id, .slice sp2 d.cls.length c2, .slice (some ⟨g2, 0, none⟩) 1 1] 47)).cell? ⟨g1, 0, none⟩ = some (.string a) ∧ ((w.alloc (.cells #[.int .i64 d.par, .string d.tag, .string d.id, .slice sp1 d.cls.length c1, .slice (some ⟨g1, 0, none⟩) 1 1] 47)).alloc (.cells #[.int .i64 d.par, .string d.tag, .string d.id, .slice sp2 d.cls.length c2, .slice (some ⟨g2, 0, none⟩) 1 1] 47)).cell? ⟨g1, 1, none⟩ = some (.string t) from ⟨cellOf (heapAlloc (heapAlloc hg1)) 0, cellOf (heapAlloc (heapAlloc hg1)) 1⟩)
  have T2 := Lib.hid (show ((w.alloc (.cells #[.int .i64 d.par, .string d.tag, .string d.id, .slice sp1 d.cls.length c1, .slice (some ⟨g1, 0, none⟩) 1 1] 47)).alloc (.cells #[.int .i64 d.par, .string d.tag, .string d.id, .slice sp2 d.cls.length c2, .slice (some ⟨g2, 0, none⟩) 1 1] 47)).cell? ⟨g2, 0, none⟩ = some (.string a) ∧ ((w.alloc (.cells #[.int .i64 d.par, .string d.tag, .string d.id, .slice sp1 d.cls.length c1, .slice (some ⟨g1, 0, none⟩) 1 1] 47)).alloc (.cells #[.int .i64 d.par, .string d.tag, .string d.id, .slice sp2 d.cls.length c2, .slice (some ⟨g2, 0, none⟩) 1 1] 47)).cell? ⟨g2, 1, none⟩ = some (.string t) from ⟨cellOf (heapAlloc (heapAlloc hg2)) 0, cellOf (heapAlloc (heapAlloc hg2)) 1⟩)
  clear h1 h2
  generalize d.par = par at *
  generalize d.tag = tag at *
  generalize d.id = id at *
  generalize d.cls.length = len at *
  have q1 : (par != par) = false := by simp
  go_enter Try.func22, Try.ntmps22
  go_wp2_with fail
  refine P.out.mono ?_
  rintro e w' ⟨rfl, m, rfl⟩
  generalize (w.alloc (.cells #[.int .i64 par, .string tag, .string id, .slice sp1 len c1, .slice (some ⟨g1, 0, none⟩) 1 1] 47)).alloc (.cells #[.int .i64 par, .string tag, .string id, .slice sp2 len c2, .slice (some ⟨g2, 0, none⟩) 1 1] 47) = wz at *
  obtain ⟨a0, a1, a2, a3, a4⟩ := A5.out
  obtain ⟨b0, b1, b2, b3, b4⟩ := B5.out
  clear a0 a1 a2 a3 b0 b1 b2 b3 P
  have y0 : (wz.drewN m).cell? ⟨w.heap.size, 4, none⟩ = some (.slice (some ⟨g1, 0, none⟩) 1 1) := a4
  have y1 : (wz.drewN m).cell? ⟨w.heap.size + 1, 4, none⟩ = some (.slice (some ⟨g2, 0, none⟩) 1 1) := b4
  go_wp2_with fail
  clear y0 y1
  go_loopw [5] (fun i wr => ∃ (k m : Nat), k ≤ 1 ∧ i = .int .i64 k ∧ wr = wz.drewN m) (fun i _ => 1 - (intOf i).toNat)
  case atStart => exact ⟨0, m, by omega, rfl, rfl⟩
  case round =>
    obtain ⟨k, m, hk, rfl, rfl⟩ := hrel
    have y0 : (wz.drewN m).cell? ⟨w.heap.size, 4, none⟩ = some (.slice (some ⟨g1, 0, none⟩) 1 1) := a4
    have y1 : (wz.drewN m).cell? ⟨w.heap.size + 1, 4, none⟩ = some (.slice (some ⟨g2, 0, none⟩) 1 1) := b4
    clear a4 b4
    by_cases hlt : k < 1
    · obtain rfl : k = 0 := by omega
      obtain ⟨t0, t1⟩ := T1.out
      obtain ⟨u0, u1⟩ := T2.out
      have t0 : (wz.drewN m).cell? ⟨g1, 0, none⟩ = some (.string a) := t0
      have t1 : (wz.drewN m).cell? ⟨g1, 1, none⟩ = some (.string t) := t1
      have u0 : (wz.drewN m).cell? ⟨g2, 0, none⟩ = some (.string a) := u0
      have u1 : (wz.drewN m).cell? ⟨g2, 1, none⟩ = some (.string t) := u1
      have HW := Lib.hid (show ∀ n, (wz.drewN m).drewN n = wz.drewN (m + n) from fun n => World.drewN_drewN _ _ _)
      generalize wz.drewN m = w9 at *
      go_wp2_with fail
      go_quiet (fail)
      go_wp2_with fail
      go_roundw
      case rel => exact ⟨1, _, by omega, by go_num, HW.out _⟩
      case measure => simp [intOf]
    · obtain rfl : k = 1 := by omega
      go_wp2_with fail
      go_ret
      exact ⟨rfl, ⟨F2.out.os, F2.out.tape, F2.out.output, F2.out.size, F2.out.block⟩⟩

end Go.Proofs.Ytdjdpfmogphoiaa
