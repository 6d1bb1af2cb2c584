/- The reference's point (printed by mkpoint.py). -/
import Derived.Test.YtfgmhpdhgepalaaDoorKeeps
import Derived.Laws.BitsLemmas
namespace Go.Proofs.YtfgmhpdhgepalaaDoor
open Go.RowKit Go.Shelf Go.Maps Go.ChangeShapes Go.WideShapes Go.ChangeAt Go.WideMaps Go.WideElems

theorem i64_and3 (n : Int) : bits .and .i64 n 3 = n % 4 := by
  have h : (BitVec.ofInt 64 3).toNat = 2 ^ 2 - 1 := by decide
  have key : (BitVec.ofInt 64 n &&& BitVec.ofInt 64 3).toNat = (n % ((2 ^ 64 : Nat) : Int)).toNat % 2 ^ 2 := by
    rw [BitVec.toNat_and, BitVec.toNat_ofInt, h, Nat.and_two_pow_sub_one_eq_mod]
  show IntKind.i64.wrap ((BitVec.ofInt 64 n &&& BitVec.ofInt 64 3).toNat : Nat) = n % 4
  rw [key, IntKind.wrap_i64]
  omega
theorem i64_and7 (n : Int) : bits .and .i64 n 7 = n % 8 := by
  have h : (BitVec.ofInt 64 7).toNat = 2 ^ 3 - 1 := by decide
  have key : (BitVec.ofInt 64 n &&& BitVec.ofInt 64 7).toNat = (n % ((2 ^ 64 : Nat) : Int)).toNat % 2 ^ 3 := by
    rw [BitVec.toNat_and, BitVec.toNat_ofInt, h, Nat.and_two_pow_sub_one_eq_mod]
  show IntKind.i64.wrap ((BitVec.ofInt 64 n &&& BitVec.ofInt 64 7).toNat : Nat) = n % 8
  rw [key, IntKind.wrap_i64]
  omega
theorem i64_and15 (n : Int) : bits .and .i64 n 15 = n % 16 := by
  have h : (BitVec.ofInt 64 15).toNat = 2 ^ 4 - 1 := by decide
  have key : (BitVec.ofInt 64 n &&& BitVec.ofInt 64 15).toNat = (n % ((2 ^ 64 : Nat) : Int)).toNat % 2 ^ 4 := by
    rw [BitVec.toNat_and, BitVec.toNat_ofInt, h, Nat.and_two_pow_sub_one_eq_mod]
  show IntKind.i64.wrap ((BitVec.ofInt 64 n &&& BitVec.ofInt 64 15).toNat : Nat) = n % 16
  rw [key, IntKind.wrap_i64]
  omega
theorem i64_and31 (n : Int) : bits .and .i64 n 31 = n % 32 := by
  have h : (BitVec.ofInt 64 31).toNat = 2 ^ 5 - 1 := by decide
  have key : (BitVec.ofInt 64 n &&& BitVec.ofInt 64 31).toNat = (n % ((2 ^ 64 : Nat) : Int)).toNat % 2 ^ 5 := by
    rw [BitVec.toNat_and, BitVec.toNat_ofInt, h, Nat.and_two_pow_sub_one_eq_mod]
  show IntKind.i64.wrap ((BitVec.ofInt 64 n &&& BitVec.ofInt 64 31).toNat : Nat) = n % 32
  rw [key, IntKind.wrap_i64]
  omega
theorem i64_and63 (n : Int) : bits .and .i64 n 63 = n % 64 := by
  have h : (BitVec.ofInt 64 63).toNat = 2 ^ 6 - 1 := by decide
  have key : (BitVec.ofInt 64 n &&& BitVec.ofInt 64 63).toNat = (n % ((2 ^ 64 : Nat) : Int)).toNat % 2 ^ 6 := by
    rw [BitVec.toNat_and, BitVec.toNat_ofInt, h, Nat.and_two_pow_sub_one_eq_mod]
  show IntKind.i64.wrap ((BitVec.ofInt 64 n &&& BitVec.ofInt 64 63).toNat : Nat) = n % 64
  rw [key, IntKind.wrap_i64]
  omega

def rightB (c : Int) : Bool := decide (0 ≤ c ∧ c ≤ 1114111 ∧ (c < 55296 ∨ 57343 < c))
theorem right_any (c : Int) (w : World) : Calls Tryd.prog 27 #[.int .i64 c] w fun e w' => e = .returned (.bool (rightB c)) ∧ Fr (fun _ => False) w w' := by
  unfold rightB
  go_enter Tryd.func27, Tryd.ntmps27
  by_cases h0 : (0 : Int) ≤ c
  · by_cases h1 : c ≤ 1114111
    · by_cases h2 : c < 55296
      · go_wp2_with fail
        go_ret
        exact ⟨by first | (congr 2; done) | (congr 2; first | (simp; done) | (simp; omega)), Fr.refl _ _⟩
      · by_cases h3 : 57343 < c
        · go_wp2_with fail
          go_ret
          exact ⟨by first | (congr 2; done) | (congr 2; first | (simp; done) | (simp; omega)), Fr.refl _ _⟩
        · go_wp2_with fail
          go_ret
          exact ⟨by first | (congr 2; done) | (congr 2; first | (simp; done) | (simp; omega)), Fr.refl _ _⟩
    · go_wp2_with fail
      go_ret
      exact ⟨by first | (congr 2; done) | (congr 2; first | (simp; done) | (simp; omega)), Fr.refl _ _⟩
  · go_wp2_with fail
    go_ret
    exact ⟨by first | (congr 2; done) | (congr 2; first | (simp; done) | (simp; omega)), Fr.refl _ _⟩

theorem dN_bad (n x b1 b2 b3 : Nat) (hx : 128 ≤ x) (h2 : ¬ (x / 32 = 6 ∧ (1 < n ∧ b1 / 64 = 2) ∧ 128 ≤ x % 32 * 64 + b1 % 64)) 
  (h3 : ¬ (x / 16 = 14 ∧ (1 < n ∧ b1 / 64 = 2) ∧ (2 < n ∧ b2 / 64 = 2) ∧ (x % 16 * 4096 + b1 % 64 * 64 + b2 % 64 ≥ 2048 ∧ (x % 16 * 4096 + b1 % 64 * 64 + b2 % 64 < 55296 ∨ (57344 ≤ x % 16 * 4096 + b1 % 64 * 64 + b2 % 64)))))
  (h4 : ¬ (x / 8 = 30 ∧ (1 < n ∧ b1 / 64 = 2) ∧ (2 < n ∧ b2 / 64 = 2) ∧ (3 < n ∧ b3 / 64 = 2) ∧ (x % 8 * 262144 + b1 % 64 * 4096 + b2 % 64 * 64 + b3 % 64 ≥ 65536 ∧ x % 8 * 262144 + b1 % 64 * 4096 + b2 % 64 * 64 + b3 % 64 ≤ 1114111))) :
  Lib.decodeN n x b1 b2 b3 = (65533, 1) := by
  unfold Lib.decodeN
  rw [if_neg (by omega)]
  by_cases k2 : x / 32 = 6 ∧ (1 < n ∧ b1 / 64 = 2)
  · rw [if_pos k2, if_neg (by omega)]
  rw [if_neg k2]
  by_cases k3 : x / 16 = 14 ∧ (1 < n ∧ b1 / 64 = 2) ∧ (2 < n ∧ b2 / 64 = 2)
  · rw [if_pos k3, if_neg (by omega)]
  rw [if_neg k3]
  by_cases k4 : x / 8 = 30 ∧ (1 < n ∧ b1 / 64 = 2) ∧ (2 < n ∧ b2 / 64 = 2) ∧ (3 < n ∧ b3 / 64 = 2)
  · rw [if_pos k4, if_neg (by omega)]
  rw [if_neg k4]
theorem dN_2 (n x b1 b2 b3 C : Nat) (h : x / 32 = 6) (hn : 1 < n) (h1 : b1 / 64 = 2) (hC : C = x % 32 * 64 + b1 % 64) (hl : 128 ≤ C) : Lib.decodeN n x b1 b2 b3 = (C, 2) := by
  unfold Lib.decodeN
  rw [if_neg (by omega), if_pos ⟨h, hn, h1⟩, if_pos (by omega), hC]
theorem dN_3 (n x b1 b2 b3 C : Nat) (h : x / 16 = 14) (hn : 2 < n) (h1 : b1 / 64 = 2) (h2 : b2 / 64 = 2) (hC : C = x % 16 * 4096 + b1 % 64 * 64 + b2 % 64) (hl : 2048 ≤ C) (hr : C < 55296 ∨ 57343 < C) : Lib.decodeN n x b1 b2 b3 = (C, 3) := by
  unfold Lib.decodeN
  rw [if_neg (by omega), if_neg (by omega), if_pos ⟨h, ⟨by omega, h1⟩, hn, h2⟩, if_pos (by omega), hC]
theorem dN_4 (n x b1 b2 b3 C : Nat) (h : x / 8 = 30) (hn : 3 < n) (h1 : b1 / 64 = 2) (h2 : b2 / 64 = 2) (h3 : b3 / 64 = 2) (hC : C = x % 8 * 262144 + b1 % 64 * 4096 + b2 % 64 * 64 + b3 % 64) (hl : 65536 ≤ C) (hr : C ≤ 1114111) : Lib.decodeN n x b1 b2 b3 = (C, 4) := by
  unfold Lib.decodeN
  rw [if_neg (by omega), if_neg (by omega), if_neg (by omega), if_pos ⟨h, ⟨by omega, h1⟩, ⟨by omega, h2⟩, hn, h3⟩, if_pos (by omega), hC]

theorem dec_of (l : List Nat) : dec l = Lib.decodeN l.length (l.getD 0 0) (l.getD 1 0) (l.getD 2 0) (l.getD 3 0) := rfl
theorem getD_of {l : List Nat} {k x : Nat} (h : l[k]? = some x) : l.getD k 0 = x := by rw [List.getD_eq_getElem?_getD, h]; rfl

set_option maxHeartbeats 4000000 in
set_option maxRecDepth 100000 in
theorem rpoint_2 (w : World) (g off c : Nat) (l : List Nat) (x : Nat) (h0 : l[0]? = some x) (hb : ∀ y ∈ l, y < 256) (hr : RdB w (some ⟨g, off, none⟩) l) (hlo : 194 ≤ x) (hhi : x < 224) :
    Calls Tryd.prog 22 #[.slice (some ⟨g, off, none⟩) l.length c] w fun e w' => e = .returned (.tuple #[.int .i64 ((dec l).1 : Int), .int .i64 ((dec l).2 : Int)]) ∧ Fr (fun _ => False) w w' := by
  have CB := Lib.hid (show ∀ (k y : Nat), l[k]? = some y → w.cell? ⟨g, off + k, none⟩ = some (.int .u8 (y : Int)) from fun k y hk => by
    obtain ⟨g', o', e, hc⟩ := hr k y hk
    cases e
    exact hc)
  have HBY := Lib.hid (show ∀ (k y : Nat), l[k]? = some y → y < 256 from fun k y hk => hb y (List.mem_of_getElem? hk))
  have x0 := CB.out 0 x h0
  rw [Nat.add_zero] at x0
  have hx256 := HBY.out 0 x h0
  have HD := Lib.hid (dec_of l)
  rw [getD_of h0] at HD
  clear hr hb
  generalize hdd : dec l = dd at *
  clear hdd
  have hlen0 : 0 < l.length := (List.getElem?_eq_some_iff.1 h0).1
  clear h0
  have a0 := i64_and31 (x : Int)
  obtain ⟨c0, hc0⟩ : ∃ c0 : Nat, c0 = x % 32 := ⟨_, rfl⟩
  rw [show (x : Int) % 32 = (c0 : Int) by omega] at a0
  have HC0 := Lib.hid hc0
  have bc0 : c0 < 32 := by omega
  clear hc0
  have e1 : ¬ ((x : Int) < 128) := by omega

  have f194 : (194 : Int) ≤ (x : Int) := by omega
  have f194b : (x : Int) < 224 := by omega
  by_cases hn : l.length < 2
  · have HD2 := Lib.hid (HD.out.trans (dN_bad _ _ _ _ _ (by omega) (by omega) (by omega) (by omega)))
    have i0 : (l.length : Int) < 2 := by omega
    clear HD HC0 CB HBY
    go_enter Tryd.func22, Tryd.ntmps22
    go_wp2_with fail
    go_ret2
    exact ⟨by rw [HD2.out]; rfl, Fr.refl _ _⟩
  obtain ⟨b1, g1⟩ : ∃ y, l[1]? = some y := ⟨l[1]'(by omega), List.getElem?_eq_getElem (by omega)⟩
  have x1 := CB.out 1 b1 g1
  have y1 := HBY.out 1 b1 g1
  rw [getD_of g1] at HD
  clear g1
  have a1 := i64_and63 (b1 : Int)
  obtain ⟨m1, hm1⟩ : ∃ z : Nat, z = b1 % 64 := ⟨_, rfl⟩
  rw [show (b1 : Int) % 64 = (m1 : Int) by omega] at a1
  have HM1 := Lib.hid hm1
  have bm1 : m1 < 64 := by omega
  clear hm1
  clear CB HBY
  have i0 : ¬ ((l.length : Int) < 2) := by omega
  go_enter Tryd.func22, Tryd.ntmps22
  go_wp2_with fail
  go_loopw [7, 8, 9] (fun cc i _ wr => ((i = .int .i64 1 ∧ cc = .int .i64 (c0 : Int)) ∨ (i = .int .i64 2 ∧ cc = .int .i64 ((c0 : Int) * 64 + (m1 : Int)) ∧ (128 ≤ b1 ∧ b1 ≤ 191))) ∧ wr = w) (fun _ i _ _ => 2 - (intOf i).toNat)
  case atStart => exact ⟨.inl ⟨rfl, rfl⟩, rfl⟩
  case round =>
    obtain ⟨hrel, rfl⟩ := hrel
    rcases hrel with ⟨rfl, rfl⟩ | ⟨rfl, rfl, q1⟩
    · by_cases p1 : b1 < 128
      · have d1 : ((b1 : Int) < 128) := by omega
        have HD2 := Lib.hid (HD.out.trans (dN_bad _ _ _ _ _ (by omega) (by omega) (by omega) (by omega)))
        clear HD
        go_wp2_with fail
        go_ret2
        exact ⟨by rw [HD2.out]; rfl, Fr.refl _ _⟩
      · have d1 : ¬ ((b1 : Int) < 128) := by omega
        by_cases p2 : 191 < b1
        · have d2 : (191 : Int) < (b1 : Int) := by omega
          have HD2 := Lib.hid (HD.out.trans (dN_bad _ _ _ _ _ (by omega) (by omega) (by omega) (by omega)))
          clear HD
          go_wp2_with fail
          go_ret2
          exact ⟨by rw [HD2.out]; rfl, Fr.refl _ _⟩
        · have d2 : ¬ ((191 : Int) < (b1 : Int)) := by omega
          go_wp2_with fail
          go_roundw
          case rel => exact ⟨.inr ⟨by first | rfl | go_num, by first | rfl | go_num, ⟨by omega, by omega⟩⟩, by first | rfl | trivial⟩
          case measure => simp [intOf]
    · obtain ⟨C, hC⟩ : ∃ C : Nat, C = ((c0 : Nat) * 64 + (m1 : Nat)) := ⟨_, rfl⟩
      have hCi : ((c0 : Int) * 64 + (m1 : Int)) = (C : Int) := by omega
      by_cases r1 : C < 128
      · have d1 : ((c0 : Int) * 64 + (m1 : Int)) < 128 := by omega
        have HD2 := Lib.hid (HD.out.trans (by have := HC0.out; have := HM1.out; exact dN_bad _ _ _ _ _ (by omega) (by omega) (by omega) (by omega)))
        clear HD hC hCi
        go_wp2_with fail
        go_ret2
        exact ⟨by rw [HD2.out]; rfl, Fr.refl _ _⟩
      have d1 : ¬ (((c0 : Int) * 64 + (m1 : Int)) < 128) := by omega
      by_cases r2 : rightB ((c0 : Int) * 64 + (m1 : Int)) = true
      · have r3 := of_decide_eq_true (show decide _ = true from r2)
        have HD2 := Lib.hid (HD.out.trans (by have := HC0.out; have := HM1.out; exact dN_2 _ _ _ _ _ C (by omega) (by omega) (by omega) (by omega) (by omega) ))
        have R := Lib.hid (right_any ((c0 : Int) * 64 + (m1 : Int)) wr)
        rw [r2] at R
        have HCI := Lib.hid hCi
        clear HD hC hCi r2 r3
        go_wp2_with (go_at_call 27; refine Calls.mono R.out ?_; rintro e w2 ⟨rfl, f2⟩; have F2 := Lib.hid f2; clear f2)
        go_ret2
        exact ⟨by rw [HD2.out, HCI.out]; rfl, F2.out⟩
      · have r4 : rightB ((c0 : Int) * 64 + (m1 : Int)) = false := by simpa using r2
        have r3 := of_decide_eq_false (show decide _ = false from r4)
        have HD2 := Lib.hid (HD.out.trans (by have := HC0.out; have := HM1.out; exact dN_bad _ _ _ _ _ (by omega) (by omega) (by omega) (by omega)))
        have R := Lib.hid (right_any ((c0 : Int) * 64 + (m1 : Int)) wr)
        rw [r4] at R
        clear HD hC hCi r2 r3 r4
        go_wp2_with (go_at_call 27; refine Calls.mono R.out ?_; rintro e w2 ⟨rfl, f2⟩; have F2 := Lib.hid f2; clear f2)
        go_ret2
        exact ⟨by rw [HD2.out]; rfl, F2.out⟩
set_option maxHeartbeats 4000000 in
set_option maxRecDepth 100000 in
theorem rpoint_3 (w : World) (g off c : Nat) (l : List Nat) (x : Nat) (h0 : l[0]? = some x) (hb : ∀ y ∈ l, y < 256) (hr : RdB w (some ⟨g, off, none⟩) l) (hlo : 224 ≤ x) (hhi : x < 240) :
    Calls Tryd.prog 22 #[.slice (some ⟨g, off, none⟩) l.length c] w fun e w' => e = .returned (.tuple #[.int .i64 ((dec l).1 : Int), .int .i64 ((dec l).2 : Int)]) ∧ Fr (fun _ => False) w w' := by
  have CB := Lib.hid (show ∀ (k y : Nat), l[k]? = some y → w.cell? ⟨g, off + k, none⟩ = some (.int .u8 (y : Int)) from fun k y hk => by
    obtain ⟨g', o', e, hc⟩ := hr k y hk
    cases e
    exact hc)
  have HBY := Lib.hid (show ∀ (k y : Nat), l[k]? = some y → y < 256 from fun k y hk => hb y (List.mem_of_getElem? hk))
  have x0 := CB.out 0 x h0
  rw [Nat.add_zero] at x0
  have hx256 := HBY.out 0 x h0
  have HD := Lib.hid (dec_of l)
  rw [getD_of h0] at HD
  clear hr hb
  generalize hdd : dec l = dd at *
  clear hdd
  have hlen0 : 0 < l.length := (List.getElem?_eq_some_iff.1 h0).1
  clear h0
  have a0 := i64_and15 (x : Int)
  obtain ⟨c0, hc0⟩ : ∃ c0 : Nat, c0 = x % 16 := ⟨_, rfl⟩
  rw [show (x : Int) % 16 = (c0 : Int) by omega] at a0
  have HC0 := Lib.hid hc0
  have bc0 : c0 < 16 := by omega
  clear hc0
  have e1 : ¬ ((x : Int) < 128) := by omega

  have f194 : (194 : Int) ≤ (x : Int) := by omega
  have f194b : ¬ ((x : Int) < 224) := by omega
  have f224 : (224 : Int) ≤ (x : Int) := by omega
  have f224b : (x : Int) < 240 := by omega
  by_cases hn : l.length < 3
  · have HD2 := Lib.hid (HD.out.trans (dN_bad _ _ _ _ _ (by omega) (by omega) (by omega) (by omega)))
    have i0 : (l.length : Int) < 3 := by omega
    clear HD HC0 CB HBY
    go_enter Tryd.func22, Tryd.ntmps22
    go_wp2_with fail
    go_ret2
    exact ⟨by rw [HD2.out]; rfl, Fr.refl _ _⟩
  obtain ⟨b1, g1⟩ : ∃ y, l[1]? = some y := ⟨l[1]'(by omega), List.getElem?_eq_getElem (by omega)⟩
  have x1 := CB.out 1 b1 g1
  have y1 := HBY.out 1 b1 g1
  rw [getD_of g1] at HD
  clear g1
  have a1 := i64_and63 (b1 : Int)
  obtain ⟨m1, hm1⟩ : ∃ z : Nat, z = b1 % 64 := ⟨_, rfl⟩
  rw [show (b1 : Int) % 64 = (m1 : Int) by omega] at a1
  have HM1 := Lib.hid hm1
  have bm1 : m1 < 64 := by omega
  clear hm1
  obtain ⟨b2, g2⟩ : ∃ y, l[2]? = some y := ⟨l[2]'(by omega), List.getElem?_eq_getElem (by omega)⟩
  have x2 := CB.out 2 b2 g2
  have y2 := HBY.out 2 b2 g2
  rw [getD_of g2] at HD
  clear g2
  have a2 := i64_and63 (b2 : Int)
  obtain ⟨m2, hm2⟩ : ∃ z : Nat, z = b2 % 64 := ⟨_, rfl⟩
  rw [show (b2 : Int) % 64 = (m2 : Int) by omega] at a2
  have HM2 := Lib.hid hm2
  have bm2 : m2 < 64 := by omega
  clear hm2
  clear CB HBY
  have i0 : ¬ ((l.length : Int) < 3) := by omega
  go_enter Tryd.func22, Tryd.ntmps22
  go_wp2_with fail
  go_loopw [7, 8, 9] (fun cc i _ wr => ((i = .int .i64 1 ∧ cc = .int .i64 (c0 : Int)) ∨ (i = .int .i64 2 ∧ cc = .int .i64 ((c0 : Int) * 64 + (m1 : Int)) ∧ (128 ≤ b1 ∧ b1 ≤ 191)) ∨ (i = .int .i64 3 ∧ cc = .int .i64 (((c0 : Int) * 64 + (m1 : Int)) * 64 + (m2 : Int)) ∧ (128 ≤ b1 ∧ b1 ≤ 191) ∧ (128 ≤ b2 ∧ b2 ≤ 191))) ∧ wr = w) (fun _ i _ _ => 3 - (intOf i).toNat)
  case atStart => exact ⟨.inl ⟨rfl, rfl⟩, rfl⟩
  case round =>
    obtain ⟨hrel, rfl⟩ := hrel
    rcases hrel with ⟨rfl, rfl⟩ | ⟨rfl, rfl, q1⟩ | ⟨rfl, rfl, q1, q2⟩
    · by_cases p1 : b1 < 128
      · have d1 : ((b1 : Int) < 128) := by omega
        have HD2 := Lib.hid (HD.out.trans (dN_bad _ _ _ _ _ (by omega) (by omega) (by omega) (by omega)))
        clear HD
        go_wp2_with fail
        go_ret2
        exact ⟨by rw [HD2.out]; rfl, Fr.refl _ _⟩
      · have d1 : ¬ ((b1 : Int) < 128) := by omega
        by_cases p2 : 191 < b1
        · have d2 : (191 : Int) < (b1 : Int) := by omega
          have HD2 := Lib.hid (HD.out.trans (dN_bad _ _ _ _ _ (by omega) (by omega) (by omega) (by omega)))
          clear HD
          go_wp2_with fail
          go_ret2
          exact ⟨by rw [HD2.out]; rfl, Fr.refl _ _⟩
        · have d2 : ¬ ((191 : Int) < (b1 : Int)) := by omega
          go_wp2_with fail
          go_roundw
          case rel => exact ⟨.inr (.inl ⟨by first | rfl | go_num, by first | rfl | go_num, ⟨by omega, by omega⟩⟩), by first | rfl | trivial⟩
          case measure => simp [intOf]
    · by_cases p1 : b2 < 128
      · have d1 : ((b2 : Int) < 128) := by omega
        have HD2 := Lib.hid (HD.out.trans (dN_bad _ _ _ _ _ (by omega) (by omega) (by omega) (by omega)))
        clear HD
        go_wp2_with fail
        go_ret2
        exact ⟨by rw [HD2.out]; rfl, Fr.refl _ _⟩
      · have d1 : ¬ ((b2 : Int) < 128) := by omega
        by_cases p2 : 191 < b2
        · have d2 : (191 : Int) < (b2 : Int) := by omega
          have HD2 := Lib.hid (HD.out.trans (dN_bad _ _ _ _ _ (by omega) (by omega) (by omega) (by omega)))
          clear HD
          go_wp2_with fail
          go_ret2
          exact ⟨by rw [HD2.out]; rfl, Fr.refl _ _⟩
        · have d2 : ¬ ((191 : Int) < (b2 : Int)) := by omega
          go_wp2_with fail
          go_roundw
          case rel => exact ⟨.inr (.inr ⟨by first | rfl | go_num, by first | rfl | go_num, q1, ⟨by omega, by omega⟩⟩), by first | rfl | trivial⟩
          case measure => simp [intOf]
    · obtain ⟨C, hC⟩ : ∃ C : Nat, C = (((c0 : Nat) * 64 + (m1 : Nat)) * 64 + (m2 : Nat)) := ⟨_, rfl⟩
      have hCi : (((c0 : Int) * 64 + (m1 : Int)) * 64 + (m2 : Int)) = (C : Int) := by omega
      by_cases r1 : C < 2048
      · have d1 : (((c0 : Int) * 64 + (m1 : Int)) * 64 + (m2 : Int)) < 2048 := by omega
        have HD2 := Lib.hid (HD.out.trans (by have := HC0.out; have := HM1.out; have := HM2.out; exact dN_bad _ _ _ _ _ (by omega) (by omega) (by omega) (by omega)))
        clear HD hC hCi
        go_wp2_with fail
        go_ret2
        exact ⟨by rw [HD2.out]; rfl, Fr.refl _ _⟩
      have d1 : ¬ ((((c0 : Int) * 64 + (m1 : Int)) * 64 + (m2 : Int)) < 2048) := by omega
      by_cases r2 : rightB (((c0 : Int) * 64 + (m1 : Int)) * 64 + (m2 : Int)) = true
      · have r3 := of_decide_eq_true (show decide _ = true from r2)
        have HD2 := Lib.hid (HD.out.trans (by have := HC0.out; have := HM1.out; have := HM2.out; exact dN_3 _ _ _ _ _ C (by omega) (by omega) (by omega) (by omega) (by omega) (by omega) (by omega) ))
        have R := Lib.hid (right_any (((c0 : Int) * 64 + (m1 : Int)) * 64 + (m2 : Int)) wr)
        rw [r2] at R
        have HCI := Lib.hid hCi
        clear HD hC hCi r2 r3
        go_wp2_with (go_at_call 27; refine Calls.mono R.out ?_; rintro e w2 ⟨rfl, f2⟩; have F2 := Lib.hid f2; clear f2)
        go_ret2
        exact ⟨by rw [HD2.out, HCI.out]; rfl, F2.out⟩
      · have r4 : rightB (((c0 : Int) * 64 + (m1 : Int)) * 64 + (m2 : Int)) = false := by simpa using r2
        have r3 := of_decide_eq_false (show decide _ = false from r4)
        have HD2 := Lib.hid (HD.out.trans (by have := HC0.out; have := HM1.out; have := HM2.out; exact dN_bad _ _ _ _ _ (by omega) (by omega) (by omega) (by omega)))
        have R := Lib.hid (right_any (((c0 : Int) * 64 + (m1 : Int)) * 64 + (m2 : Int)) wr)
        rw [r4] at R
        clear HD hC hCi r2 r3 r4
        go_wp2_with (go_at_call 27; refine Calls.mono R.out ?_; rintro e w2 ⟨rfl, f2⟩; have F2 := Lib.hid f2; clear f2)
        go_ret2
        exact ⟨by rw [HD2.out]; rfl, F2.out⟩
set_option maxHeartbeats 4000000 in
set_option maxRecDepth 100000 in
theorem rpoint_4 (w : World) (g off c : Nat) (l : List Nat) (x : Nat) (h0 : l[0]? = some x) (hb : ∀ y ∈ l, y < 256) (hr : RdB w (some ⟨g, off, none⟩) l) (hlo : 240 ≤ x) (hhi : x < 245) :
    Calls Tryd.prog 22 #[.slice (some ⟨g, off, none⟩) l.length c] w fun e w' => e = .returned (.tuple #[.int .i64 ((dec l).1 : Int), .int .i64 ((dec l).2 : Int)]) ∧ Fr (fun _ => False) w w' := by
  have CB := Lib.hid (show ∀ (k y : Nat), l[k]? = some y → w.cell? ⟨g, off + k, none⟩ = some (.int .u8 (y : Int)) from fun k y hk => by
    obtain ⟨g', o', e, hc⟩ := hr k y hk
    cases e
    exact hc)
  have HBY := Lib.hid (show ∀ (k y : Nat), l[k]? = some y → y < 256 from fun k y hk => hb y (List.mem_of_getElem? hk))
  have x0 := CB.out 0 x h0
  rw [Nat.add_zero] at x0
  have hx256 := HBY.out 0 x h0
  have HD := Lib.hid (dec_of l)
  rw [getD_of h0] at HD
  clear hr hb
  generalize hdd : dec l = dd at *
  clear hdd
  have hlen0 : 0 < l.length := (List.getElem?_eq_some_iff.1 h0).1
  clear h0
  have a0 := i64_and7 (x : Int)
  obtain ⟨c0, hc0⟩ : ∃ c0 : Nat, c0 = x % 8 := ⟨_, rfl⟩
  rw [show (x : Int) % 8 = (c0 : Int) by omega] at a0
  have HC0 := Lib.hid hc0
  have bc0 : c0 < 8 := by omega
  clear hc0
  have e1 : ¬ ((x : Int) < 128) := by omega

  have f194 : (194 : Int) ≤ (x : Int) := by omega
  have f194b : ¬ ((x : Int) < 224) := by omega
  have f224 : (224 : Int) ≤ (x : Int) := by omega
  have f224b : ¬ ((x : Int) < 240) := by omega
  have f240 : (240 : Int) ≤ (x : Int) := by omega
  have f240b : (x : Int) < 245 := by omega
  by_cases hn : l.length < 4
  · have HD2 := Lib.hid (HD.out.trans (dN_bad _ _ _ _ _ (by omega) (by omega) (by omega) (by omega)))
    have i0 : (l.length : Int) < 4 := by omega
    clear HD HC0 CB HBY
    go_enter Tryd.func22, Tryd.ntmps22
    go_wp2_with fail
    go_ret2
    exact ⟨by rw [HD2.out]; rfl, Fr.refl _ _⟩
  obtain ⟨b1, g1⟩ : ∃ y, l[1]? = some y := ⟨l[1]'(by omega), List.getElem?_eq_getElem (by omega)⟩
  have x1 := CB.out 1 b1 g1
  have y1 := HBY.out 1 b1 g1
  rw [getD_of g1] at HD
  clear g1
  have a1 := i64_and63 (b1 : Int)
  obtain ⟨m1, hm1⟩ : ∃ z : Nat, z = b1 % 64 := ⟨_, rfl⟩
  rw [show (b1 : Int) % 64 = (m1 : Int) by omega] at a1
  have HM1 := Lib.hid hm1
  have bm1 : m1 < 64 := by omega
  clear hm1
  obtain ⟨b2, g2⟩ : ∃ y, l[2]? = some y := ⟨l[2]'(by omega), List.getElem?_eq_getElem (by omega)⟩
  have x2 := CB.out 2 b2 g2
  have y2 := HBY.out 2 b2 g2
  rw [getD_of g2] at HD
  clear g2
  have a2 := i64_and63 (b2 : Int)
  obtain ⟨m2, hm2⟩ : ∃ z : Nat, z = b2 % 64 := ⟨_, rfl⟩
  rw [show (b2 : Int) % 64 = (m2 : Int) by omega] at a2
  have HM2 := Lib.hid hm2
  have bm2 : m2 < 64 := by omega
  clear hm2
  obtain ⟨b3, g3⟩ : ∃ y, l[3]? = some y := ⟨l[3]'(by omega), List.getElem?_eq_getElem (by omega)⟩
  have x3 := CB.out 3 b3 g3
  have y3 := HBY.out 3 b3 g3
  rw [getD_of g3] at HD
  clear g3
  have a3 := i64_and63 (b3 : Int)
  obtain ⟨m3, hm3⟩ : ∃ z : Nat, z = b3 % 64 := ⟨_, rfl⟩
  rw [show (b3 : Int) % 64 = (m3 : Int) by omega] at a3
  have HM3 := Lib.hid hm3
  have bm3 : m3 < 64 := by omega
  clear hm3
  clear CB HBY
  have i0 : ¬ ((l.length : Int) < 4) := by omega
  go_enter Tryd.func22, Tryd.ntmps22
  go_wp2_with fail
  go_loopw [7, 8, 9] (fun cc i _ wr => ((i = .int .i64 1 ∧ cc = .int .i64 (c0 : Int)) ∨ (i = .int .i64 2 ∧ cc = .int .i64 ((c0 : Int) * 64 + (m1 : Int)) ∧ (128 ≤ b1 ∧ b1 ≤ 191)) ∨ (i = .int .i64 3 ∧ cc = .int .i64 (((c0 : Int) * 64 + (m1 : Int)) * 64 + (m2 : Int)) ∧ (128 ≤ b1 ∧ b1 ≤ 191) ∧ (128 ≤ b2 ∧ b2 ≤ 191)) ∨ (i = .int .i64 4 ∧ cc = .int .i64 ((((c0 : Int) * 64 + (m1 : Int)) * 64 + (m2 : Int)) * 64 + (m3 : Int)) ∧ (128 ≤ b1 ∧ b1 ≤ 191) ∧ (128 ≤ b2 ∧ b2 ≤ 191) ∧ (128 ≤ b3 ∧ b3 ≤ 191))) ∧ wr = w) (fun _ i _ _ => 4 - (intOf i).toNat)
  case atStart => exact ⟨.inl ⟨rfl, rfl⟩, rfl⟩
  case round =>
    obtain ⟨hrel, rfl⟩ := hrel
    rcases hrel with ⟨rfl, rfl⟩ | ⟨rfl, rfl, q1⟩ | ⟨rfl, rfl, q1, q2⟩ | ⟨rfl, rfl, q1, q2, q3⟩
    · by_cases p1 : b1 < 128
      · have d1 : ((b1 : Int) < 128) := by omega
        have HD2 := Lib.hid (HD.out.trans (dN_bad _ _ _ _ _ (by omega) (by omega) (by omega) (by omega)))
        clear HD
        go_wp2_with fail
        go_ret2
        exact ⟨by rw [HD2.out]; rfl, Fr.refl _ _⟩
      · have d1 : ¬ ((b1 : Int) < 128) := by omega
        by_cases p2 : 191 < b1
        · have d2 : (191 : Int) < (b1 : Int) := by omega
          have HD2 := Lib.hid (HD.out.trans (dN_bad _ _ _ _ _ (by omega) (by omega) (by omega) (by omega)))
          clear HD
          go_wp2_with fail
          go_ret2
          exact ⟨by rw [HD2.out]; rfl, Fr.refl _ _⟩
        · have d2 : ¬ ((191 : Int) < (b1 : Int)) := by omega
          go_wp2_with fail
          go_roundw
          case rel => exact ⟨.inr (.inl ⟨by first | rfl | go_num, by first | rfl | go_num, ⟨by omega, by omega⟩⟩), by first | rfl | trivial⟩
          case measure => simp [intOf]
    · by_cases p1 : b2 < 128
      · have d1 : ((b2 : Int) < 128) := by omega
        have HD2 := Lib.hid (HD.out.trans (dN_bad _ _ _ _ _ (by omega) (by omega) (by omega) (by omega)))
        clear HD
        go_wp2_with fail
        go_ret2
        exact ⟨by rw [HD2.out]; rfl, Fr.refl _ _⟩
      · have d1 : ¬ ((b2 : Int) < 128) := by omega
        by_cases p2 : 191 < b2
        · have d2 : (191 : Int) < (b2 : Int) := by omega
          have HD2 := Lib.hid (HD.out.trans (dN_bad _ _ _ _ _ (by omega) (by omega) (by omega) (by omega)))
          clear HD
          go_wp2_with fail
          go_ret2
          exact ⟨by rw [HD2.out]; rfl, Fr.refl _ _⟩
        · have d2 : ¬ ((191 : Int) < (b2 : Int)) := by omega
          go_wp2_with fail
          go_roundw
          case rel => exact ⟨.inr (.inr (.inl ⟨by first | rfl | go_num, by first | rfl | go_num, q1, ⟨by omega, by omega⟩⟩)), by first | rfl | trivial⟩
          case measure => simp [intOf]
    · by_cases p1 : b3 < 128
      · have d1 : ((b3 : Int) < 128) := by omega
        have HD2 := Lib.hid (HD.out.trans (dN_bad _ _ _ _ _ (by omega) (by omega) (by omega) (by omega)))
        clear HD
        go_wp2_with fail
        go_ret2
        exact ⟨by rw [HD2.out]; rfl, Fr.refl _ _⟩
      · have d1 : ¬ ((b3 : Int) < 128) := by omega
        by_cases p2 : 191 < b3
        · have d2 : (191 : Int) < (b3 : Int) := by omega
          have HD2 := Lib.hid (HD.out.trans (dN_bad _ _ _ _ _ (by omega) (by omega) (by omega) (by omega)))
          clear HD
          go_wp2_with fail
          go_ret2
          exact ⟨by rw [HD2.out]; rfl, Fr.refl _ _⟩
        · have d2 : ¬ ((191 : Int) < (b3 : Int)) := by omega
          go_wp2_with fail
          go_roundw
          case rel => exact ⟨.inr (.inr (.inr ⟨by first | rfl | go_num, by first | rfl | go_num, q1, q2, ⟨by omega, by omega⟩⟩)), by first | rfl | trivial⟩
          case measure => simp [intOf]
    · obtain ⟨C, hC⟩ : ∃ C : Nat, C = ((((c0 : Nat) * 64 + (m1 : Nat)) * 64 + (m2 : Nat)) * 64 + (m3 : Nat)) := ⟨_, rfl⟩
      have hCi : ((((c0 : Int) * 64 + (m1 : Int)) * 64 + (m2 : Int)) * 64 + (m3 : Int)) = (C : Int) := by omega
      by_cases r1 : C < 65536
      · have d1 : ((((c0 : Int) * 64 + (m1 : Int)) * 64 + (m2 : Int)) * 64 + (m3 : Int)) < 65536 := by omega
        have HD2 := Lib.hid (HD.out.trans (by have := HC0.out; have := HM1.out; have := HM2.out; have := HM3.out; exact dN_bad _ _ _ _ _ (by omega) (by omega) (by omega) (by omega)))
        clear HD hC hCi
        go_wp2_with fail
        go_ret2
        exact ⟨by rw [HD2.out]; rfl, Fr.refl _ _⟩
      have d1 : ¬ (((((c0 : Int) * 64 + (m1 : Int)) * 64 + (m2 : Int)) * 64 + (m3 : Int)) < 65536) := by omega
      by_cases r2 : rightB ((((c0 : Int) * 64 + (m1 : Int)) * 64 + (m2 : Int)) * 64 + (m3 : Int)) = true
      · have r3 := of_decide_eq_true (show decide _ = true from r2)
        have HD2 := Lib.hid (HD.out.trans (by have := HC0.out; have := HM1.out; have := HM2.out; have := HM3.out; exact dN_4 _ _ _ _ _ C (by omega) (by omega) (by omega) (by omega) (by omega) (by omega) (by omega) (by omega) ))
        have R := Lib.hid (right_any ((((c0 : Int) * 64 + (m1 : Int)) * 64 + (m2 : Int)) * 64 + (m3 : Int)) wr)
        rw [r2] at R
        have HCI := Lib.hid hCi
        clear HD hC hCi r2 r3
        go_wp2_with (go_at_call 27; refine Calls.mono R.out ?_; rintro e w2 ⟨rfl, f2⟩; have F2 := Lib.hid f2; clear f2)
        go_ret2
        exact ⟨by rw [HD2.out, HCI.out]; rfl, F2.out⟩
      · have r4 : rightB ((((c0 : Int) * 64 + (m1 : Int)) * 64 + (m2 : Int)) * 64 + (m3 : Int)) = false := by simpa using r2
        have r3 := of_decide_eq_false (show decide _ = false from r4)
        have HD2 := Lib.hid (HD.out.trans (by have := HC0.out; have := HM1.out; have := HM2.out; have := HM3.out; exact dN_bad _ _ _ _ _ (by omega) (by omega) (by omega) (by omega)))
        have R := Lib.hid (right_any ((((c0 : Int) * 64 + (m1 : Int)) * 64 + (m2 : Int)) * 64 + (m3 : Int)) wr)
        rw [r4] at R
        clear HD hC hCi r2 r3 r4
        go_wp2_with (go_at_call 27; refine Calls.mono R.out ?_; rintro e w2 ⟨rfl, f2⟩; have F2 := Lib.hid f2; clear f2)
        go_ret2
        exact ⟨by rw [HD2.out]; rfl, F2.out⟩
set_option maxHeartbeats 4000000 in
set_option maxRecDepth 100000 in
theorem rpoint_any (w : World) (g off c : Nat) (l : List Nat) (hne : l ≠ []) (hb : ∀ y ∈ l, y < 256) (hr : RdB w (some ⟨g, off, none⟩) l) :
    Calls Tryd.prog 22 #[.slice (some ⟨g, off, none⟩) l.length c] w fun e w' => e = .returned (.tuple #[.int .i64 ((dec l).1 : Int), .int .i64 ((dec l).2 : Int)]) ∧ Fr (fun _ => False) w w' := by
  have hlen := List.length_pos_iff.2 hne
  obtain ⟨x, h0⟩ : ∃ x, l[0]? = some x := ⟨l[0], List.getElem?_eq_getElem hlen⟩
  have hx256 := hb x (List.mem_of_getElem? h0)
  by_cases k2 : 194 ≤ x ∧ x < 224
  · exact rpoint_2 w g off c l x h0 hb hr k2.1 k2.2
  by_cases k3 : 224 ≤ x ∧ x < 240
  · exact rpoint_3 w g off c l x h0 hb hr k3.1 k3.2
  by_cases k4 : 240 ≤ x ∧ x < 245
  · exact rpoint_4 w g off c l x h0 hb hr k4.1 k4.2
  have HD := Lib.hid (dec_of l)
  rw [getD_of h0] at HD
  obtain ⟨g', o', e, x0⟩ := hr 0 x h0
  cases e
  rw [Nat.add_zero] at x0
  clear hr hb h0 hne
  have i0 : (0 : Int) < (l.length : Int) := by omega
  by_cases k1 : x < 128
  · have HD2 := Lib.hid (HD.out.trans (show _ = (x, 1) by unfold Lib.decodeN; rw [if_pos k1]))
    have e1 : (x : Int) < 128 := by omega
    generalize dec l = dd at *
    clear HD
    go_enter Tryd.func22, Tryd.ntmps22
    go_wp2_with fail
    go_ret2
    exact ⟨by rw [HD2.out]; rfl, Fr.refl _ _⟩
  · have HD2 := Lib.hid (HD.out.trans (dN_bad _ _ _ _ _ (by omega) (by omega) (by omega) (by omega)))
    have e1 : ¬ ((x : Int) < 128) := by omega
    generalize dec l = dd at *
    clear HD
    by_cases j1 : x < 194
    · have e2 : ¬ ((194 : Int) ≤ (x : Int)) := by omega
      have e3 : ¬ ((224 : Int) ≤ (x : Int)) := by omega
      have e4 : ¬ ((240 : Int) ≤ (x : Int)) := by omega
      go_enter Tryd.func22, Tryd.ntmps22
      go_wp2_with fail
      go_ret2
      exact ⟨by rw [HD2.out]; rfl, Fr.refl _ _⟩
    · have e2 : (194 : Int) ≤ (x : Int) := by omega
      have e3 : (224 : Int) ≤ (x : Int) := by omega
      have e4 : (240 : Int) ≤ (x : Int) := by omega
      have e5 : ¬ ((x : Int) < 224) := by omega
      have e6 : ¬ ((x : Int) < 240) := by omega
      have e7 : ¬ ((x : Int) < 245) := by omega
      go_enter Tryd.func22, Tryd.ntmps22
      go_wp2_with fail
      go_ret2
      exact ⟨by rw [HD2.out]; rfl, Fr.refl _ _⟩

end Go.Proofs.YtfgmhpdhgepalaaDoor
