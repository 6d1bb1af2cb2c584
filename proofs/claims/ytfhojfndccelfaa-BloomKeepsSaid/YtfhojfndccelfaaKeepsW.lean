/- BloomKeeps: the walk. -/
import Derived.Test.YtfhojfndccelfaaKeeps
namespace Go.Proofs.Ytfhojfndccelfaa
open Go.RowKit Go.Maps Go.ChangeShapes Go.WideShapes Go.ChangeAt Go.WideMaps Go.WideElems

theorem take_full {α : Type} (l : List α) {k : Nat} (h : l.length ≤ k) : l.take k = l := List.take_of_length_le h

theorem WT_take {m : Int} {rows : List (List Int)} {k : Nat} {l : List Int} (h : rows[k]? = some l) (j : Nat) : WT m (rows.take (k + 1)) j = WT m (rows.take k) j + m * TT l j := by
  rw [take_snoc_some h, WT_snoc]

set_option maxHeartbeats 2000000 in
set_option maxRecDepth 100000 in
theorem bkeeps_any (v : Value) (rows : List (List Int)) (n many : Int) (w : World) (hl : RowR 1 (fun w cs x => ∃ v, cs = [v] ∧ IsInts .i64 w v x) w v rows) (_hn : (Lit.int .i64 n).wf = true) (_hm : (Lit.int .i64 many).wf = true) :
    Calls Try.prog 4 #[v, .int .i64 n, .int .i64 many] w fun e w' => e = .returned (.bool true) ∧ Below w.heap.size w w' := by
  obtain ⟨p, cp, rfl, h1, h2, h3⟩ := hl
  unfold maxLen at h2
  have RW := Lib.hid (show ∀ i l, rows[i]? = some l → ∃ g off v, p = some ⟨g, off, none⟩ ∧ g < w.heap.size ∧ w.cell? ⟨g, off + i, none⟩ = some v ∧ IsInts .i64 w v l by
    intro i l hx
    obtain ⟨g, off, cs, q1, q2, q3, q4, v, rfl, q5⟩ := h3 i l hx
    exact ⟨g, off, v, q1, q2, by simpa using q4 0 (by omega), q5⟩)
  clear h3
  by_cases c1 : 30 < rows.length
  · go_enter Try.func4, Try.ntmps4
    go_wp2_with fail
    refine (alive_any _).mono ?_
    rintro e w1 ⟨rfl, b1⟩
    go_wp2_with fail
    go_ret
    exact ⟨rfl, b1⟩
  by_cases c2 : n < 0
  · go_enter Try.func4, Try.ntmps4
    go_wp2_with fail
    refine (alive_any _).mono ?_
    rintro e w1 ⟨rfl, b1⟩
    go_wp2_with fail
    go_ret
    exact ⟨rfl, b1⟩
  by_cases c3 : (rows.length : Int) < n
  · go_enter Try.func4, Try.ntmps4
    go_wp2_with fail
    refine (alive_any _).mono ?_
    rintro e w1 ⟨rfl, b1⟩
    go_wp2_with fail
    go_ret
    exact ⟨rfl, b1⟩
  by_cases c4 : many < 1
  · go_enter Try.func4, Try.ntmps4
    go_wp2_with fail
    refine (alive_any _).mono ?_
    rintro e w1 ⟨rfl, b1⟩
    go_wp2_with fail
    go_ret
    exact ⟨rfl, b1⟩
  by_cases c5 : 300 < many
  · go_enter Try.func4, Try.ntmps4
    go_wp2_with fail
    refine (alive_any _).mono ?_
    rintro e w1 ⟨rfl, b1⟩
    go_wp2_with fail
    go_ret
    exact ⟨rfl, b1⟩
  obtain ⟨N, rfl⟩ := Int.eq_ofNat_of_zero_le (by omega : 0 ≤ n)
  obtain ⟨M, rfl⟩ := Int.eq_ofNat_of_zero_le (by omega : 0 ≤ many)
  have hN : N ≤ rows.length := by omega
  have hM : 1 ≤ M := by omega
  have hM2 : M ≤ 300 := by omega
  have hR : rows.length ≤ 30 := by omega
  clear c1 c2 c3 c4 c5
  have d1 : decide ((30 : Int) < (rows.length : Int)) = false := by simp; omega
  have d2 : decide ((N : Int) < 0) = false := by simp
  have d3 : decide (rows.length < N) = false := by simp; omega
  have d4 : decide ((M : Int) < 1) = false := by simp; omega
  have d5 : decide ((300 : Int) < (M : Int)) = false := by simp; omega
  have z26 := zero26
  go_enter Try.func4, Try.ntmps4
  go_wp2_with fail
  refine (alive_any _).mono ?_
  rintro e w1 ⟨rfl, b1⟩
  go_wp2_with fail
  clear z26
  have hge : w.heap.size ≤ w1.heap.size := b1.size
  have hf := fil_new 26 .u8 w1
  have K0 : KF w (w1.alloc (.cells (tab .u8 zc) 26)) w1.heap.size zc (WT M []) := ⟨hf, zc_in, fun j => ⟨Int.le_refl _, .inr rfl⟩, b1.alloc b1.size _⟩
  have HK0 := Lib.hid K0
  clear hf K0 b1
  generalize w1.alloc (.cells (tab .u8 zc) 26) = w2 at *
  generalize w1.heap.size = b at *
  go_loopw [9] (fun i wr => ∃ (k : Nat) (c : Nat → Int), k ≤ rows.length ∧ i = .int .i64 k ∧ Hid (KF w wr b c (WT M (rows.take k)))) (fun i _ => rows.length - (intOf i).toNat)
  case atStart => exact ⟨0, zc, Nat.zero_le _, rfl, HK0.out⟩
  case round =>
    obtain ⟨k, c, hk, rfl, hK⟩ := hrel
    clear HK0
    by_cases hlt : k < rows.length
    · obtain ⟨l, hx⟩ : ∃ l, rows[k]? = some l := ⟨rows[k], by simp [hlt]⟩
      obtain ⟨g, off, v2, rfl, hg, hc0, hi⟩ := RW.out k l hx
      have Hx := Lib.hid hx
      have Hi := Lib.hid hi
      obtain ⟨⟨p2, c2, e2, j1, j2, _⟩, _⟩ := hi
      subst e2
      unfold maxLen at j2
      have D0 := Lib.hid hc0
      clear hc0 hx
      have a0 := (hK.out.below.cell (p := ⟨g, off + k, none⟩) hg).trans D0.out
      by_cases hbig : 20 < l.length
      · go_wp2_with fail
        go_ret
        exact ⟨rfl, hK.out.below⟩
      go_wp2_with fail
      obtain ⟨wo, rfl⟩ : ∃ wo : World, wo = wr := ⟨_, rfl⟩
      clear a0
      go_loopw [10] (fun i wr => ∃ (q : Nat) (c2 : Nat → Int), q ≤ M ∧ i = .int .i64 q ∧ Hid (KF w wr b c2 (fun j => WT M (rows.take k) j + q * TT l j))) (fun i _ => M - (intOf i).toNat)
      case atStart => exact ⟨0, c, Nat.zero_le _, rfl, hK.out.congr (fun j => by simp)⟩
      case round =>
        obtain ⟨q, c2, hq, rfl, hK2⟩ := hrel
        clear hK
        have a0 := (hK2.out.below.cell (p := ⟨g, off + k, none⟩) hg).trans D0.out
        by_cases hlt2 : q < M
        · have PP := Lib.hid (hK2.out.push hge Hi.out)
          go_wp2_with fail
          refine PP.out.mono ?_
          rintro e w3 ⟨rfl, c3, hK3⟩
          have K3 := Lib.hid hK3
          clear hK3 PP
          go_wp2_with fail
          go_roundw
          case rel => exact ⟨q + 1, c3, by omega, by go_num, K3.out.congr (fun j => by rw [show ((q + 1 : Nat) : Int) * TT l j = q * TT l j + TT l j by rw [Int.natCast_add, Int.add_mul]; simp]; omega)⟩
          case measure => simp [intOf]; omega
        · have hqe : q = M := by omega
          subst hqe
          go_wp2_with fail
          go_roundw
          case rel => exact ⟨k + 1, c2, by omega, by go_num, hK2.out.congr (fun j => by rw [WT_take Hx.out])⟩
          case measure => simp [intOf]; omega
    · have hke : k = rows.length := by omega
      subst hke
      rw [take_full rows (Nat.le_refl _)] at hK
      obtain ⟨wo, rfl⟩ : ∃ wo : World, wo = wr := ⟨_, rfl⟩
      go_wp2_with fail
      go_loopw [11] (fun i wr => ∃ (k : Nat) (c : Nat → Int), N ≤ k ∧ k ≤ rows.length ∧ i = .int .i64 ((k : Int) - 1) ∧ Hid (KF w wr b c (WT M (rows.take k)))) (fun i _ => (intOf i + 1).toNat)
      case atStart => exact ⟨rows.length, c, hN, Nat.le_refl _, rfl, by rw [take_full rows (Nat.le_refl _)]; exact hK⟩
      case round =>
        obtain ⟨k, c3, hNk, hk2, rfl, hK3⟩ := hrel
        clear hK
        by_cases hlt3 : N < k
        · obtain ⟨k, rfl⟩ : ∃ k', k = k' + 1 := ⟨k - 1, by omega⟩
          obtain ⟨l, hx⟩ : ∃ l, rows[k]? = some l := ⟨rows[k], by simp⟩
          obtain ⟨g, off, v2, rfl, hg, hc0, hi⟩ := RW.out k l hx
          have Hx := Lib.hid hx
          have Hi := Lib.hid hi
          obtain ⟨⟨p2, c2, e2, j1, j2, _⟩, _⟩ := hi
          subst e2
          unfold maxLen at j2
          have D0 := Lib.hid hc0
          clear hc0 hx
          have ek : ((k + 1 : Nat) : Int) - 1 = (k : Int) := by omega
          rw [ek]
          clear ek
          have dk : decide (N ≤ k) = true := by simp; omega
          go_wp2_with fail
          obtain ⟨wo2, rfl⟩ : ∃ wo2 : World, wo2 = wr := ⟨_, rfl⟩
          go_loopw [12] (fun i wr => ∃ (q : Nat) (c2 : Nat → Int), q ≤ M ∧ i = .int .i64 q ∧ Hid (KF w wr b c2 (fun j => WT M (rows.take k) j + ((M : Int) - q) * TT l j))) (fun i _ => M - (intOf i).toNat)
          case atStart => exact ⟨0, c3, Nat.zero_le _, rfl, hK3.out.congr (fun j => by rw [WT_take Hx.out]; simp)⟩
          case round =>
            obtain ⟨q, c4, hq, rfl, hK4⟩ := hrel
            clear hK3
            have a0 := (hK4.out.below.cell (p := ⟨g, off + k, none⟩) hg).trans D0.out
            by_cases hlt4 : q < M
            · have PP := Lib.hid (hK4.out.pop hge Hi.out (fun j => by
                have q1 := WT_nn (m := (M : Int)) (by omega) (rows.take k) j
                have q2 := TT_nn l j
                have q3 : 1 * TT l j ≤ ((M : Int) - q) * TT l j := Int.mul_le_mul_of_nonneg_right (by omega) q2
                omega))
              go_wp2_with fail
              refine PP.out.mono ?_
              rintro e w3 ⟨rfl, c5, hK5⟩
              have K5 := Lib.hid hK5
              clear hK5 PP
              go_wp2_with fail
              go_roundw
              case rel => exact ⟨q + 1, c5, by omega, by go_num, K5.out.congr (fun j => by rw [show ((M : Int) - ((q + 1 : Nat) : Int)) * TT l j = ((M : Int) - q) * TT l j - TT l j by rw [Int.natCast_add, ← Int.sub_sub, Int.sub_mul _ ((1 : Nat) : Int)]; simp]; omega)⟩
              case measure => simp [intOf]; omega
            · have hqe : q = M := by omega
              subst hqe
              go_wp2_with fail
              go_roundw
              case rel => exact ⟨k, c4, by omega, by omega, rfl, hK4.out.congr (fun j => by simp)⟩
              case measure => simp [intOf]
        · have hke : k = N := by omega
          subst hke
          obtain ⟨wo2, rfl⟩ : ∃ wo2 : World, wo2 = wr := ⟨_, rfl⟩
          have HT := Lib.hid (show ∀ i l x, i < k → rows[i]? = some l → x ∈ l → mayB c3 x = true by
            intro i l x hik hil hxl
            have hml : l ∈ rows.take k := List.mem_iff_getElem?.2 ⟨i, by rw [List.getElem?_take, if_pos hik]; exact hil⟩
            refine hK3.out.inv.may x ?_ ?_
            · have := WT_mem (m := (M : Int)) (by omega) hml (pa x)
              have := TT_mem hxl (j := pa x) (.inl rfl)
              omega
            · have := WT_mem (m := (M : Int)) (by omega) hml (pb x)
              have := TT_mem hxl (j := pb x) (.inr rfl)
              omega)
          have ML := Lib.hid (fun x => May_any b c3 x wo2 hK3.out.f)
          have MC := Lib.hid (fun x => Count_any b c3 x wo2 hK3.out.f hK3.out.inn)
          have BW := Lib.hid hK3.out.below
          have HI := Lib.hid (show k = 0 → ∀ i, c3 i = 255 ∨ c3 i = 0 by
            intro e i
            subst e
            rcases (hK3.out.inv i).2 with h | h
            · exact .inl h
            · exact .inr (by simpa [WT] using h))
          have HB := Lib.hid hK3.out.inn
          clear hK3
          have dk2 : decide (k ≤ rows.length) = true := by simp; omega
          go_wp2_with fail
          go_loop [13] (fun i => ∃ q : Nat, q ≤ k ∧ i = .int .i64 q) (fun i => k - (intOf i).toNat)
          case atStart => exact ⟨0, Nat.zero_le _, rfl⟩
          case round =>
            obtain ⟨q, hq, rfl⟩ := hrel
            by_cases hqk : q < k
            · obtain ⟨l, hx⟩ : ∃ l, rows[q]? = some l := ⟨rows[q], by simp⟩
              obtain ⟨g, off, v2, rfl, hg, hc0, hi⟩ := RW.out q l hx
              have Hx := Lib.hid hx
              obtain ⟨⟨p2, c2, e2, j1, j2, j3⟩, _⟩ := hi
              subst e2
              unfold maxLen at j2
              have J3 := Lib.hid j3
              clear j3 hx
              have a0 := (BW.out.cell (p := ⟨g, off + q, none⟩) hg).trans hc0
              clear hc0
              have dq : decide (q < k) = true := by simp; omega
              go_wp2_with fail
              go_loop [14] (fun i => ∃ r : Nat, r ≤ l.length ∧ i = .int .i64 r) (fun i => l.length - (intOf i).toNat)
              case atStart => exact ⟨0, Nat.zero_le _, rfl⟩
              case round =>
                obtain ⟨r, hr, rfl⟩ := hrel
                by_cases hrl : r < l.length
                · obtain ⟨x, hxr⟩ : ∃ x, l[r]? = some x := ⟨l[r], by simp [hrl]⟩
                  obtain ⟨g2, off2, rfl, hg2, hc2⟩ := J3.out r x hxr
                  have a1 := (BW.out.cell (p := ⟨g2, off2 + r, none⟩) hg2).trans hc2
                  have MX := Lib.hid (ML.out x)
                  rw [HT.out q l x hqk Hx.out (List.mem_of_getElem? hxr)] at MX
                  clear hc2 hxr
                  go_wp2_with fail
                  refine MX.out.mono ?_
                  rintro e w4 ⟨rfl, rfl⟩
                  go_wp2_with fail
                  go_round
                  case rel => exact ⟨r + 1, by omega, by go_num⟩
                  case measure => simp [intOf]; omega
                · go_wp2_with fail
                  go_round
                  case rel => exact ⟨q + 1, by omega, by go_num⟩
                  case measure => simp [intOf]; omega
            · by_cases hk0 : k = 0
              · subst hk0
                by_cases hM6 : M ≤ 6
                · go_wp2_with fail
                  go_loop [15] (fun i => ∃ r : Nat, r ≤ 1024 ∧ i = .int .i64 r) (fun i => 1024 - (intOf i).toNat)
                  case atStart => exact ⟨0, Nat.zero_le _, rfl⟩
                  case round =>
                    obtain ⟨r, hr, rfl⟩ := hrel
                    by_cases hrl : r < 1024
                    · have MX := Lib.hid (MC.out (r : Nat))
                      rw [cnt_nat c3 r hrl] at MX
                      rcases HI.out (by simp) r with h | h
                      all_goals
                        rw [h] at MX
                        clear h
                        go_wp2_with fail
                        refine MX.out.mono ?_
                        rintro e w4 ⟨rfl, rfl⟩
                        go_wp2_with fail
                        go_round
                        case rel => exact ⟨r + 1, by omega, by go_num⟩
                        case measure => simp [intOf]; omega
                    · go_wp2_with fail
                      go_ret
                      exact ⟨rfl, BW.out⟩
                · have hM7 : ¬ M ≤ 6 := hM6
                  go_wp2_with fail
                  go_ret
                  exact ⟨rfl, BW.out⟩
              · have hk1 : ((k : Int) == 0) = false := by rw [beq_eq_false_iff_ne]; omega
                go_wp2_with fail
                go_ret
                exact ⟨rfl, BW.out⟩

end Go.Proofs.Ytfhojfndccelfaa
