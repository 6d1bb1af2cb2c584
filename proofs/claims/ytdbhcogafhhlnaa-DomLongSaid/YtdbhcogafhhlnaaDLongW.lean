/- DomLong: the walk. -/
import Derived.Test.YtdbhcogafhhlnaaDLong
import Derived.OwnWalk
import Derived.IntWalk
namespace Go.Proofs.Ytdbhcogafhhlnaa
open Go.RowKit Go.Maps Go.ChangeShapes Go.WideShapes Go.ChangeAt Go.WideMaps Go.WideElems

theorem ownedAll {w : World} {base e size n c g : Nat} {A : Array Value} (h : w.ownsRow base e size (.slice (some ⟨g, 0, none⟩) n c) n A.toList) :
    ∃ cur, w.heap[g]? = some (.cells cur e (0, 0)) ∧ n * size = A.size ∧ ∀ j, j < n * size → cur[j]? = A[j]? := by
  rcases h.2 with ⟨h', _⟩ | ⟨g', cap, cur, e', hb, hg, h1, h3, h4, h5⟩
  · cases h'
  · cases e'
    refine ⟨cur, hg, by have := h.1; simpa using this.symm, fun j hj => ?_⟩
    have : (cur.toList.take (n * size))[j]? = A.toList[j]? := by rw [h5]
    rw [List.getElem?_take, if_pos hj, Array.getElem?_toList, Array.getElem?_toList] at this
    exact this

set_option maxHeartbeats 1000000 in
set_option maxRecDepth 100000 in
theorem long_any (more : Int) (w : World) : Calls Try.prog 5 #[.int .i64 more] w fun e w' => e = .returned (.bool true) ∧ Fr (fun _ => False) w w' := by
  have AL := Lib.hid (alive_any w)
  go_enter Try.func5, Try.ntmps5
  go_wp2_with fail
  rename_i KK aa
  refine AL.out.mono ?_
  rintro e w1 ⟨rfl, f1⟩
  have F1 := Lib.hid f1
  clear AL f1
  show KK _ _
  apply aa
  by_cases c0 : more < -3
  · have d0 : decide (more < -3) = true := decide_eq_true c0
    go_wp2_with fail
    go_ret
    exact ⟨rfl, F1.out⟩
  have d0 : decide (more < -3) = false := decide_eq_false c0
  by_cases c1 : 3 < more
  · have d1 : decide (3 < more) = true := decide_eq_true c1
    go_wp2_with fail
    go_ret
    exact ⟨rfl, F1.out⟩
  have d1 : decide (3 < more) = false := decide_eq_false c1
  obtain ⟨m, hm⟩ : ∃ m : Nat, 4096 + more = (m : Int) + 1 + 1 := ⟨(4094 + more).toNat, by omega⟩
  obtain ⟨i25, ha0, ha1, ha2, ha3⟩ := info_parts info25
  have hWS := F1.out.size
  go_wp2_with (at_make; refine wpList_make_full _ rfl _ _ 27 rfl w.heap.size 25 i25 _ 5 Try.underlying27 ha0 ha1 ha2 .i64 .i64 _ _ (m + 1 + 1) rfl rfl (by omega) (by omega) (by rw [ha3]; omega) (by unfold maxLen; omega) hWS ?_; intro w5 hown hgrow; have F5 := Lib.hid (F1.out.grown hgrow (by simp)); obtain ⟨cur, hcb, hcs, hcc⟩ := ownedAll hown; have HCB := Lib.hid hcb; have HCC := Lib.hid hcc; have k0 := cellOf hcb 0; have k1 := frozenOf hcb 0; rw [hcc 0 (by omega), made_at _ _ _ (by omega)] at k0; simp [Value.cells] at k0; clear hown hgrow hcb hcc)
  have hz : (Value.agg #[.int .i64 0, .string ⟨#[]⟩, .string ⟨#[]⟩, .slice none 0 0, .slice none 0 0]).cells = Z5 := by simp [Value.cells, Z5]
  have hcc := HCC.out
  rw [hz] at hcc
  have N := New_any (starD (m + 1)) (some ⟨w1.heap.size, 0, none⟩) (m + 1 + 1) (w5.setCell ⟨w1.heap.size, 0, none⟩ (.int .i64 (-1))) (star_rd (m + 1) rfl (heapSet HCB.out 0 _) hcc) (by rw [starD_len]; exact Nat.le_refl _) (by unfold maxLen; omega)
  rw [starD_len] at N
  have F6 := Lib.hid (F5.out.setCell (p := ⟨w1.heap.size, 0, none⟩) (.inr hWS) (.int .i64 (-1)))
  clear hz hcc HCC HCB k0 k1 F5 F1
  refine N.mono ?_
  rintro e w7 ⟨f7, hN⟩
  have F7 := Lib.hid (F6.out.trans f7)
  clear f7 N F6
  by_cases c2 : 0 < more
  · have d2 : decide (0 < more) = true := decide_eq_true c2
    have PN := Lib.hid (fun W => num_any W 3)
    rw [star_long (m + 1) (by omega)] at hN
    rcases hN with ⟨n, hn, rfl⟩ | ⟨els, tb, hn, -⟩
    · cases hn
      go_wp2_with fail
      refine (PN.out _).mono ?_
      rintro e w8 ⟨rfl, rfl⟩
      go_wp2_with fail
      go_ret
      exact ⟨rfl, F7.out⟩
    · cases hn
  · have d2 : decide (0 < more) = false := decide_eq_false c2
    have PN := Lib.hid (fun W => num_any W 0)
    rw [star_new (m + 1) (by omega)] at hN
    rcases hN with ⟨n, hn, rfl⟩ | ⟨els, tb, hn, rfl, hT, -, -⟩
    · cases hn
    cases hn
    have L1 := Lib.hid (Len_any _ w7 tb _ hT)
    have HT := Lib.hid hT
    clear hT
    rw [starE_len] at L1
    go_wp2_with fail
    refine (PN.out _).mono ?_
    rintro e w8 ⟨rfl, rfl⟩
    go_wp2_with fail
    refine L1.out.mono ?_
    rintro e w9 ⟨rfl, f9⟩
    have F9 := Lib.hid (F7.out.trans f9)
    have HT9 := Lib.hid (HT.out.fr0 f9)
    have C := Children_any _ w9 tb _ HT9.out 0 (by rw [star_kids]; omega)
    rw [star_kids] at C
    have C := Lib.hid C
    clear L1 f9 HT F7 PN
    go_wp2_with fail
    refine C.out.mono ?_
    rintro e w10 ⟨⟨sp, c, rfl, -⟩, f10⟩
    have F10 := Lib.hid (F9.out.trans f10)
    have P := Place_any _ w10 tb _ (HT9.out.fr0 f10) ((m : Int) + 1)
    rw [star_plc] at P
    have P := Lib.hid P
    clear f10 C HT9 F9
    go_wp2_with fail
    refine P.out.mono ?_
    rintro e w11 ⟨rfl, f11⟩
    have F11 := Lib.hid (F10.out.trans f11)
    clear f11 P F10
    go_wp2_with fail
    go_ret
    exact ⟨rfl, F11.out⟩

theorem domLong_walk (more : Int) (w : World) (_ : (Lit.int .i64 more).wf = true) : Calls Try.prog 5 #[.int .i64 more] w fun e w' => e = .returned (.bool true) ∧ Below w.heap.size w w' :=
  (long_any more w).mono fun _ _ h => ⟨h.1, h.2.below (Nat.le_refl _) (by simp)⟩
end Go.Proofs.Ytdbhcogafhhlnaa
