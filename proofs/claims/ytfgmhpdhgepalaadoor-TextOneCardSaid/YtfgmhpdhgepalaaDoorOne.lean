/- TextOne: the walk (printed by mkone.py). -/
import Derived.Test.YtfgmhpdhgepalaaDoorLines
namespace Go.Proofs.YtfgmhpdhgepalaaDoor
open Go.RowKit Go.Shelf Go.Maps Go.ChangeShapes Go.WideShapes Go.ChangeAt Go.WideMaps Go.WideElems

theorem pts_step {a : Nat} {r : List Nat} (h : dec (a :: r) = (65533, 1)) : pts (a :: r) = 65533 :: pts r := by
  rw [pts_cons (by simp), h]
  rfl
theorem pts_1 {a : Nat} (h : 128 ≤ a) : pts [a] = [65533] := by
  rw [pts_step (dN_bad _ _ _ _ _ h (by simp) (by simp) (by simp))]
  rfl
theorem pts_2 {a b : Nat} (h : 128 ≤ a) (h2 : a / 32 ≠ 6) (hb : 128 ≤ b) : pts [a, b] = [65533, 65533] := by
  rw [pts_step (dN_bad _ _ _ _ _ h (by simp only [List.getD_cons_zero]; omega) (by simp) (by simp)), pts_1 hb]
theorem pts_3 {a b d : Nat} (h : 128 ≤ a) (h2 : a / 32 ≠ 6) (h3 : a / 16 ≠ 14) (hb : 128 ≤ b) (hb2 : b / 32 ≠ 6) (hd : 128 ≤ d) : pts [a, b, d] = [65533, 65533, 65533] := by
  rw [pts_step (dN_bad _ _ _ _ _ h (by simp only [List.getD_cons_zero]; omega) (by simp only [List.getD_cons_zero]; omega) (by simp)), pts_2 hb hb2 hd]
theorem cut_pts {c : Nat} (h : Sc c) (k : Nat) (hk : k < (enc (c : Int)).length) : pts ((enc (c : Int)).take k) = List.replicate k 65533 := by
  obtain ⟨h1, h2⟩ := h
  by_cases k1 : c ≤ 127
  · rw [enc1 k1] at hk ⊢
    obtain rfl : k = 0 := by simp at hk; omega
    rfl
  by_cases k2 : c ≤ 2047
  · rw [enc2 (by omega) k2] at hk ⊢
    simp only [List.length_cons, List.length_nil] at hk
    match k, hk with
    | 0, _ => rfl
    | 1, _ => exact pts_1 (by omega)
  by_cases k3 : c ≤ 65535
  · rw [enc3 (by omega)] at hk ⊢
    simp only [List.length_cons, List.length_nil] at hk
    match k, hk with
    | 0, _ => rfl
    | 1, _ => exact pts_1 (by omega)
    | 2, _ => exact pts_2 (by omega) (by omega) (by omega)
  · rw [enc4 (by omega) h1] at hk ⊢
    simp only [List.length_cons, List.length_nil] at hk
    match k, hk with
    | 0, _ => rfl
    | 1, _ => exact pts_1 (by omega)
    | 2, _ => exact pts_2 (by omega) (by omega) (by omega)
    | 3, _ => exact pts_3 (by omega) (by omega) (by omega) (by omega) (by omega) (by omega)
theorem encs_one (c : Nat) : encs (zs [c]) = enc (c : Int) := by simp [encs, zs]
theorem enc_n (c : Nat) (h : Sc c) : (enc (c : Int)).length = if c ≤ 127 then 1 else if c ≤ 2047 then 2 else if c ≤ 65535 then 3 else 4 := by
  obtain ⟨h1, h2⟩ := h
  by_cases k1 : c ≤ 127
  · rw [enc1 k1, if_pos k1]; rfl
  by_cases k2 : c ≤ 2047
  · rw [enc2 (by omega) k2, if_neg k1, if_pos k2]; rfl
  by_cases k3 : c ≤ 65535
  · rw [enc3 (by omega), if_neg k1, if_neg k2, if_pos k3]; rfl
  · rw [enc4 (by omega) h1, if_neg k1, if_neg k2, if_neg k3]; rfl

theorem one_19 {W : World} {s : Option Addr} {c N : Nat} (hN : (enc (c : Int)).length = N) (hc : c ≤ 1114111) (h : RdN W s [c]) :
    Calls Tryd.prog 19 #[.slice s 1 1] W (fun e w' => ∃ sp cc, e = .returned (.slice sp N cc) ∧ OwnsWin w' W.heap.size 5 1 (.slice sp N cc) N (bR (enc (c : Int))) ∧ Fr (fun _ => False) W w') := by
  subst hN
  have := Bytes_nat W s 1 [c] h (by simp; omega) (by simp)
  unfold NewB at this
  rw [encs_one] at this
  exact this
theorem one_a {w W : World} {sp : Option Addr} {cc B c N : Nat} (hT : Tabs w) (hs : Sc c) (hN : (enc (c : Int)).length = N) (f : Fr (fun _ => False) w W) (h : OwnsWin W B 5 1 (.slice sp N cc) N (bR (enc (c : Int)))) :
    Calls Tryd.prog 13 #[.slice sp N cc] W (fun e w' => ∃ s k, e = .returned (.slice s 1 k) ∧ RdN w' s [c] ∧ Fr (fun _ => False) W w') := by
  subst hN
  have h4 := (enc_len (c : Int)).2
  obtain ⟨c1, c2⟩ := h.capLe rfl
  refine (Points_any W sp cc _ (tabs_fr hT f) (enc_byte _) (RdB.win h) c1 c2 (by omega)).mono ?_
  rintro e w' ⟨s, k, rfl, o1, f1⟩
  have e1 : pts (enc (c : Int)) = [c] := by rw [← encs_one]; exact pts_encs [c] (by intro x hx; simp at hx; subst hx; exact hs)
  rw [e1] at o1 ⊢
  exact ⟨s, k, rfl, RdN.win o1, f1⟩
theorem one_b {w W : World} {sp : Option Addr} {cc B c N K : Nat} (hT : Tabs w) (hs : Sc c) (hN : (enc (c : Int)).length = N) (hK : K < N) (f : Fr (fun _ => False) w W) (h : OwnsWin W B 5 1 (.slice sp N cc) N (bR (enc (c : Int)))) :
    Calls Tryd.prog 13 #[.slice sp K cc] W (fun e w' => ∃ s k, e = .returned (.slice s K k) ∧ RdN w' s (List.replicate K 65533) ∧ Fr (fun _ => False) W w') := by
  subst hN
  have h4 := (enc_len (c : Int)).2
  obtain ⟨c1, c2⟩ := h.capLe rfl
  have hr : RdB W sp ((enc (c : Int)).take K) := by
    intro j x hj
    refine RdB.win h j x ?_
    rw [List.getElem?_take] at hj
    split at hj
    · exact hj
    · cases hj
  have hl : ((enc (c : Int)).take K).length = K := by rw [List.length_take]; omega
  have := Points_any W sp cc _ (tabs_fr hT f) (fun x hx => enc_byte _ x (List.mem_of_mem_take hx)) hr (by rw [hl]; omega) c2 (by rw [hl]; omega)
  rw [hl] at this
  refine this.mono ?_
  rintro e w' ⟨s, k, rfl, o1, f1⟩
  rw [cut_pts hs K hK] at o1 ⊢
  refine ⟨s, k, by rw [List.length_replicate], RdN.win o1, f1⟩
theorem rdN_one (w : World) (c : Nat) : RdN (w.alloc (.cells #[.int .i64 (c : Int)] 3)) (some ⟨w.heap.size, 0, none⟩) [c] := by
  intro k x hk
  match k, hk with
  | 0, hk =>
    cases hk
    exact ⟨w.heap.size, 0, rfl, by rw [cellOf (heapNew w _)]; rfl⟩
  | k + 1, hk => simp at hk

set_option maxHeartbeats 4000000 in
set_option maxRecDepth 100000 in
theorem one_1 (c u : Nat) (w : World) (hT : Tabs w) (hlo : 0 ≤ c) (hhi : c ≤ 127) (hu : (u : Int) ≤ 9223372036854775807) :
    Calls Tryd.prog 10 #[.int .i64 (c : Int), .int .i64 (u : Int)] w fun e w' => e = .returned (.bool true) ∧ Fr (fun _ => False) w w' := by
  have AL := Lib.hid (alive_any w hT)
  have HT := Lib.hid hT
  clear hT
  have HS := Lib.hid (show Sc c from ⟨by omega, by omega⟩)
  have HN := Lib.hid (show (enc (c : Int)).length = 1 by rw [enc_n c HS.out]; rw [if_pos (by omega)])
  obtain ⟨K, hK⟩ : ∃ K : Nat, K = u % 1 := ⟨_, rfl⟩
  have hK1 : K < 1 := by omega
  have hK2 : (u : Int).tmod 1 = (K : Int) := by rw [Int.tmod_eq_emod_of_nonneg (by omega)]; omega
  have hK3 : (u : Int) % 1 = (K : Int) := by omega
  have HC := Lib.hid (show c ≤ 1114111 by omega)
  clear hK
  have q1 : decide ((c : Int) < 0) = false := decide_eq_false (by omega)
  have q2 : decide ((1114111 : Int) < (c : Int)) = false := decide_eq_false (by omega)
  have q4 : decide ((u : Int) < 0) = false := decide_eq_false (by omega)
  have g127 : ¬ ((127 : Int) < (c : Int)) := by omega
  have g2047 : ¬ ((2047 : Int) < (c : Int)) := by omega
  have g65535 : ¬ ((65535 : Int) < (c : Int)) := by omega
  have q3 : decide ((55296 : Int) ≤ (c : Int)) = false := decide_eq_false (by omega)
  go_enter Tryd.func10, Tryd.ntmps10
  go_wp2_with fail
  rename_i KK aa
  refine AL.out.mono ?_
  rintro e w1 ⟨rfl, f1⟩
  have F1 := Lib.hid f1
  clear AL f1
  show KK _ _
  apply aa
  clear aa
  go_wp2_with (go_at_call 19; refine Calls.mono (one_19 HN.out HC.out (rdN_one _ _)) ?_; rintro e w2 ⟨sp, cc, rfl, o2, f2⟩; have F2 := Lib.hid ((F1.out.alloc _).trans f2); obtain ⟨g, off, cap, hv, hcc, -⟩ := o2.cells (by omega); cases hv; have O2 := Lib.hid o2; clear f2 o2)
  rename_i KK3 aa3
  refine (one_a HT.out HS.out HN.out F2.out O2.out).mono ?_
  rintro e w3 ⟨s3, k3, rfl, r3, f3⟩
  have F3 := Lib.hid (F2.out.trans f3)
  have O3 := Lib.hid (O2.out.fr f3 (by simp))
  have R3 := Lib.hid r3
  clear f3 r3 O2 F2
  show KK3 _ _
  apply aa3
  clear aa3
  have hKc : (K : Int) ≤ (cc : Int) := by omega
  have hKc2 : K ≤ cc := by omega
  go_wp2_with fail
  rename_i KK4 aa4
  refine (one_b HT.out HS.out HN.out hK1 F3.out O3.out).mono ?_
  rintro e w4 ⟨s4, k4, rfl, r4, f4⟩
  have F4 := Lib.hid (F3.out.trans f4)
  have R4 := Lib.hid r4
  obtain ⟨g3, o3, rfl, c3⟩ := (R3.out.fr f4) 0 c rfl
  rw [Nat.add_zero] at c3
  clear f4 r4 R3 O3 F3
  show KK4 _ _
  apply aa4
  clear aa4
  go_wp2_with fail
  go_loopw [11] (fun i wr => ∃ (k : Nat), k ≤ K ∧ i = .int .i64 k ∧ wr = w4) (fun i _ => K - (intOf i).toNat)
  case atStart => exact ⟨0, by omega, rfl, by first | rfl | trivial⟩
  case round =>
    obtain ⟨k, hk, rfl, rfl⟩ := hrel
    by_cases hlt : k < K
    · obtain ⟨g5, o5, rfl, x0⟩ := R4.out k 65533 (by rw [List.getElem?_replicate, if_pos hlt])
      have i1 : (k : Int) < (K : Int) := by omega
      go_wp2_with fail
      go_roundw
      case rel => exact ⟨k + 1, by omega, by first | rfl | go_num, by first | rfl | trivial⟩
      case measure => simp [intOf]; omega
    · obtain rfl : k = K := by omega
      have i1 : ¬ ((k : Int) < (k : Int)) := by omega
      go_wp2_with fail
      go_ret
      exact ⟨rfl, F4.out⟩

set_option maxHeartbeats 4000000 in
set_option maxRecDepth 100000 in
theorem one_2 (c u : Nat) (w : World) (hT : Tabs w) (hlo : 128 ≤ c) (hhi : c ≤ 2047) (hu : (u : Int) ≤ 9223372036854775807) :
    Calls Tryd.prog 10 #[.int .i64 (c : Int), .int .i64 (u : Int)] w fun e w' => e = .returned (.bool true) ∧ Fr (fun _ => False) w w' := by
  have AL := Lib.hid (alive_any w hT)
  have HT := Lib.hid hT
  clear hT
  have HS := Lib.hid (show Sc c from ⟨by omega, by omega⟩)
  have HN := Lib.hid (show (enc (c : Int)).length = 2 by rw [enc_n c HS.out]; rw [if_neg (by omega), if_pos (by omega)])
  obtain ⟨K, hK⟩ : ∃ K : Nat, K = u % 2 := ⟨_, rfl⟩
  have hK1 : K < 2 := by omega
  have hK2 : (u : Int).tmod 2 = (K : Int) := by rw [Int.tmod_eq_emod_of_nonneg (by omega)]; omega
  have hK3 : (u : Int) % 2 = (K : Int) := by omega
  have HC := Lib.hid (show c ≤ 1114111 by omega)
  clear hK
  have q1 : decide ((c : Int) < 0) = false := decide_eq_false (by omega)
  have q2 : decide ((1114111 : Int) < (c : Int)) = false := decide_eq_false (by omega)
  have q4 : decide ((u : Int) < 0) = false := decide_eq_false (by omega)
  have g127 : (127 : Int) < (c : Int) := by omega
  have g2047 : ¬ ((2047 : Int) < (c : Int)) := by omega
  have g65535 : ¬ ((65535 : Int) < (c : Int)) := by omega
  have q3 : decide ((55296 : Int) ≤ (c : Int)) = false := decide_eq_false (by omega)
  go_enter Tryd.func10, Tryd.ntmps10
  go_wp2_with fail
  rename_i KK aa
  refine AL.out.mono ?_
  rintro e w1 ⟨rfl, f1⟩
  have F1 := Lib.hid f1
  clear AL f1
  show KK _ _
  apply aa
  clear aa
  go_wp2_with (go_at_call 19; refine Calls.mono (one_19 HN.out HC.out (rdN_one _ _)) ?_; rintro e w2 ⟨sp, cc, rfl, o2, f2⟩; have F2 := Lib.hid ((F1.out.alloc _).trans f2); obtain ⟨g, off, cap, hv, hcc, -⟩ := o2.cells (by omega); cases hv; have O2 := Lib.hid o2; clear f2 o2)
  rename_i KK3 aa3
  refine (one_a HT.out HS.out HN.out F2.out O2.out).mono ?_
  rintro e w3 ⟨s3, k3, rfl, r3, f3⟩
  have F3 := Lib.hid (F2.out.trans f3)
  have O3 := Lib.hid (O2.out.fr f3 (by simp))
  have R3 := Lib.hid r3
  clear f3 r3 O2 F2
  show KK3 _ _
  apply aa3
  clear aa3
  have hKc : (K : Int) ≤ (cc : Int) := by omega
  have hKc2 : K ≤ cc := by omega
  go_wp2_with fail
  rename_i KK4 aa4
  refine (one_b HT.out HS.out HN.out hK1 F3.out O3.out).mono ?_
  rintro e w4 ⟨s4, k4, rfl, r4, f4⟩
  have F4 := Lib.hid (F3.out.trans f4)
  have R4 := Lib.hid r4
  obtain ⟨g3, o3, rfl, c3⟩ := (R3.out.fr f4) 0 c rfl
  rw [Nat.add_zero] at c3
  clear f4 r4 R3 O3 F3
  show KK4 _ _
  apply aa4
  clear aa4
  go_wp2_with fail
  go_loopw [11] (fun i wr => ∃ (k : Nat), k ≤ K ∧ i = .int .i64 k ∧ wr = w4) (fun i _ => K - (intOf i).toNat)
  case atStart => exact ⟨0, by omega, rfl, by first | rfl | trivial⟩
  case round =>
    obtain ⟨k, hk, rfl, rfl⟩ := hrel
    by_cases hlt : k < K
    · obtain ⟨g5, o5, rfl, x0⟩ := R4.out k 65533 (by rw [List.getElem?_replicate, if_pos hlt])
      have i1 : (k : Int) < (K : Int) := by omega
      go_wp2_with fail
      go_roundw
      case rel => exact ⟨k + 1, by omega, by first | rfl | go_num, by first | rfl | trivial⟩
      case measure => simp [intOf]; omega
    · obtain rfl : k = K := by omega
      have i1 : ¬ ((k : Int) < (k : Int)) := by omega
      go_wp2_with fail
      go_ret
      exact ⟨rfl, F4.out⟩

set_option maxHeartbeats 4000000 in
set_option maxRecDepth 100000 in
theorem one_3 (c u : Nat) (w : World) (hT : Tabs w) (hlo : 2048 ≤ c) (hhi : c ≤ 55295) (hu : (u : Int) ≤ 9223372036854775807) :
    Calls Tryd.prog 10 #[.int .i64 (c : Int), .int .i64 (u : Int)] w fun e w' => e = .returned (.bool true) ∧ Fr (fun _ => False) w w' := by
  have AL := Lib.hid (alive_any w hT)
  have HT := Lib.hid hT
  clear hT
  have HS := Lib.hid (show Sc c from ⟨by omega, by omega⟩)
  have HN := Lib.hid (show (enc (c : Int)).length = 3 by rw [enc_n c HS.out]; rw [if_neg (by omega), if_neg (by omega), if_pos (by omega)])
  obtain ⟨K, hK⟩ : ∃ K : Nat, K = u % 3 := ⟨_, rfl⟩
  have hK1 : K < 3 := by omega
  have hK2 : (u : Int).tmod 3 = (K : Int) := by rw [Int.tmod_eq_emod_of_nonneg (by omega)]; omega
  have hK3 : (u : Int) % 3 = (K : Int) := by omega
  have HC := Lib.hid (show c ≤ 1114111 by omega)
  clear hK
  have q1 : decide ((c : Int) < 0) = false := decide_eq_false (by omega)
  have q2 : decide ((1114111 : Int) < (c : Int)) = false := decide_eq_false (by omega)
  have q4 : decide ((u : Int) < 0) = false := decide_eq_false (by omega)
  have g127 : (127 : Int) < (c : Int) := by omega
  have g2047 : (2047 : Int) < (c : Int) := by omega
  have g65535 : ¬ ((65535 : Int) < (c : Int)) := by omega
  have q3 : decide ((55296 : Int) ≤ (c : Int)) = false := decide_eq_false (by omega)
  go_enter Tryd.func10, Tryd.ntmps10
  go_wp2_with fail
  rename_i KK aa
  refine AL.out.mono ?_
  rintro e w1 ⟨rfl, f1⟩
  have F1 := Lib.hid f1
  clear AL f1
  show KK _ _
  apply aa
  clear aa
  go_wp2_with (go_at_call 19; refine Calls.mono (one_19 HN.out HC.out (rdN_one _ _)) ?_; rintro e w2 ⟨sp, cc, rfl, o2, f2⟩; have F2 := Lib.hid ((F1.out.alloc _).trans f2); obtain ⟨g, off, cap, hv, hcc, -⟩ := o2.cells (by omega); cases hv; have O2 := Lib.hid o2; clear f2 o2)
  rename_i KK3 aa3
  refine (one_a HT.out HS.out HN.out F2.out O2.out).mono ?_
  rintro e w3 ⟨s3, k3, rfl, r3, f3⟩
  have F3 := Lib.hid (F2.out.trans f3)
  have O3 := Lib.hid (O2.out.fr f3 (by simp))
  have R3 := Lib.hid r3
  clear f3 r3 O2 F2
  show KK3 _ _
  apply aa3
  clear aa3
  have hKc : (K : Int) ≤ (cc : Int) := by omega
  have hKc2 : K ≤ cc := by omega
  go_wp2_with fail
  rename_i KK4 aa4
  refine (one_b HT.out HS.out HN.out hK1 F3.out O3.out).mono ?_
  rintro e w4 ⟨s4, k4, rfl, r4, f4⟩
  have F4 := Lib.hid (F3.out.trans f4)
  have R4 := Lib.hid r4
  obtain ⟨g3, o3, rfl, c3⟩ := (R3.out.fr f4) 0 c rfl
  rw [Nat.add_zero] at c3
  clear f4 r4 R3 O3 F3
  show KK4 _ _
  apply aa4
  clear aa4
  go_wp2_with fail
  go_loopw [11] (fun i wr => ∃ (k : Nat), k ≤ K ∧ i = .int .i64 k ∧ wr = w4) (fun i _ => K - (intOf i).toNat)
  case atStart => exact ⟨0, by omega, rfl, by first | rfl | trivial⟩
  case round =>
    obtain ⟨k, hk, rfl, rfl⟩ := hrel
    by_cases hlt : k < K
    · obtain ⟨g5, o5, rfl, x0⟩ := R4.out k 65533 (by rw [List.getElem?_replicate, if_pos hlt])
      have i1 : (k : Int) < (K : Int) := by omega
      go_wp2_with fail
      go_roundw
      case rel => exact ⟨k + 1, by omega, by first | rfl | go_num, by first | rfl | trivial⟩
      case measure => simp [intOf]; omega
    · obtain rfl : k = K := by omega
      have i1 : ¬ ((k : Int) < (k : Int)) := by omega
      go_wp2_with fail
      go_ret
      exact ⟨rfl, F4.out⟩

set_option maxHeartbeats 4000000 in
set_option maxRecDepth 100000 in
theorem one_3h (c u : Nat) (w : World) (hT : Tabs w) (hlo : 57344 ≤ c) (hhi : c ≤ 65535) (hu : (u : Int) ≤ 9223372036854775807) :
    Calls Tryd.prog 10 #[.int .i64 (c : Int), .int .i64 (u : Int)] w fun e w' => e = .returned (.bool true) ∧ Fr (fun _ => False) w w' := by
  have AL := Lib.hid (alive_any w hT)
  have HT := Lib.hid hT
  clear hT
  have HS := Lib.hid (show Sc c from ⟨by omega, by omega⟩)
  have HN := Lib.hid (show (enc (c : Int)).length = 3 by rw [enc_n c HS.out]; rw [if_neg (by omega), if_neg (by omega), if_pos (by omega)])
  obtain ⟨K, hK⟩ : ∃ K : Nat, K = u % 3 := ⟨_, rfl⟩
  have hK1 : K < 3 := by omega
  have hK2 : (u : Int).tmod 3 = (K : Int) := by rw [Int.tmod_eq_emod_of_nonneg (by omega)]; omega
  have hK3 : (u : Int) % 3 = (K : Int) := by omega
  have HC := Lib.hid (show c ≤ 1114111 by omega)
  clear hK
  have q1 : decide ((c : Int) < 0) = false := decide_eq_false (by omega)
  have q2 : decide ((1114111 : Int) < (c : Int)) = false := decide_eq_false (by omega)
  have q4 : decide ((u : Int) < 0) = false := decide_eq_false (by omega)
  have g127 : (127 : Int) < (c : Int) := by omega
  have g2047 : (2047 : Int) < (c : Int) := by omega
  have g65535 : ¬ ((65535 : Int) < (c : Int)) := by omega
  have q3 : decide ((55296 : Int) ≤ (c : Int)) = true := decide_eq_true (by omega)
  have q5 : decide ((c : Int) ≤ 57343) = false := decide_eq_false (by omega)
  go_enter Tryd.func10, Tryd.ntmps10
  go_wp2_with fail
  rename_i KK aa
  refine AL.out.mono ?_
  rintro e w1 ⟨rfl, f1⟩
  have F1 := Lib.hid f1
  clear AL f1
  show KK _ _
  apply aa
  clear aa
  go_wp2_with (go_at_call 19; refine Calls.mono (one_19 HN.out HC.out (rdN_one _ _)) ?_; rintro e w2 ⟨sp, cc, rfl, o2, f2⟩; have F2 := Lib.hid ((F1.out.alloc _).trans f2); obtain ⟨g, off, cap, hv, hcc, -⟩ := o2.cells (by omega); cases hv; have O2 := Lib.hid o2; clear f2 o2)
  rename_i KK3 aa3
  refine (one_a HT.out HS.out HN.out F2.out O2.out).mono ?_
  rintro e w3 ⟨s3, k3, rfl, r3, f3⟩
  have F3 := Lib.hid (F2.out.trans f3)
  have O3 := Lib.hid (O2.out.fr f3 (by simp))
  have R3 := Lib.hid r3
  clear f3 r3 O2 F2
  show KK3 _ _
  apply aa3
  clear aa3
  have hKc : (K : Int) ≤ (cc : Int) := by omega
  have hKc2 : K ≤ cc := by omega
  go_wp2_with fail
  rename_i KK4 aa4
  refine (one_b HT.out HS.out HN.out hK1 F3.out O3.out).mono ?_
  rintro e w4 ⟨s4, k4, rfl, r4, f4⟩
  have F4 := Lib.hid (F3.out.trans f4)
  have R4 := Lib.hid r4
  obtain ⟨g3, o3, rfl, c3⟩ := (R3.out.fr f4) 0 c rfl
  rw [Nat.add_zero] at c3
  clear f4 r4 R3 O3 F3
  show KK4 _ _
  apply aa4
  clear aa4
  go_wp2_with fail
  go_loopw [11] (fun i wr => ∃ (k : Nat), k ≤ K ∧ i = .int .i64 k ∧ wr = w4) (fun i _ => K - (intOf i).toNat)
  case atStart => exact ⟨0, by omega, rfl, by first | rfl | trivial⟩
  case round =>
    obtain ⟨k, hk, rfl, rfl⟩ := hrel
    by_cases hlt : k < K
    · obtain ⟨g5, o5, rfl, x0⟩ := R4.out k 65533 (by rw [List.getElem?_replicate, if_pos hlt])
      have i1 : (k : Int) < (K : Int) := by omega
      go_wp2_with fail
      go_roundw
      case rel => exact ⟨k + 1, by omega, by first | rfl | go_num, by first | rfl | trivial⟩
      case measure => simp [intOf]; omega
    · obtain rfl : k = K := by omega
      have i1 : ¬ ((k : Int) < (k : Int)) := by omega
      go_wp2_with fail
      go_ret
      exact ⟨rfl, F4.out⟩

set_option maxHeartbeats 4000000 in
set_option maxRecDepth 100000 in
theorem one_4 (c u : Nat) (w : World) (hT : Tabs w) (hlo : 65536 ≤ c) (hhi : c ≤ 1114111) (hu : (u : Int) ≤ 9223372036854775807) :
    Calls Tryd.prog 10 #[.int .i64 (c : Int), .int .i64 (u : Int)] w fun e w' => e = .returned (.bool true) ∧ Fr (fun _ => False) w w' := by
  have AL := Lib.hid (alive_any w hT)
  have HT := Lib.hid hT
  clear hT
  have HS := Lib.hid (show Sc c from ⟨by omega, by omega⟩)
  have HN := Lib.hid (show (enc (c : Int)).length = 4 by rw [enc_n c HS.out]; rw [if_neg (by omega), if_neg (by omega), if_neg (by omega)])
  obtain ⟨K, hK⟩ : ∃ K : Nat, K = u % 4 := ⟨_, rfl⟩
  have hK1 : K < 4 := by omega
  have hK2 : (u : Int).tmod 4 = (K : Int) := by rw [Int.tmod_eq_emod_of_nonneg (by omega)]; omega
  have hK3 : (u : Int) % 4 = (K : Int) := by omega
  have HC := Lib.hid (show c ≤ 1114111 by omega)
  clear hK
  have q1 : decide ((c : Int) < 0) = false := decide_eq_false (by omega)
  have q2 : decide ((1114111 : Int) < (c : Int)) = false := decide_eq_false (by omega)
  have q4 : decide ((u : Int) < 0) = false := decide_eq_false (by omega)
  have g127 : (127 : Int) < (c : Int) := by omega
  have g2047 : (2047 : Int) < (c : Int) := by omega
  have g65535 : (65535 : Int) < (c : Int) := by omega
  have q3 : decide ((55296 : Int) ≤ (c : Int)) = true := decide_eq_true (by omega)
  have q5 : decide ((c : Int) ≤ 57343) = false := decide_eq_false (by omega)
  go_enter Tryd.func10, Tryd.ntmps10
  go_wp2_with fail
  rename_i KK aa
  refine AL.out.mono ?_
  rintro e w1 ⟨rfl, f1⟩
  have F1 := Lib.hid f1
  clear AL f1
  show KK _ _
  apply aa
  clear aa
  go_wp2_with (go_at_call 19; refine Calls.mono (one_19 HN.out HC.out (rdN_one _ _)) ?_; rintro e w2 ⟨sp, cc, rfl, o2, f2⟩; have F2 := Lib.hid ((F1.out.alloc _).trans f2); obtain ⟨g, off, cap, hv, hcc, -⟩ := o2.cells (by omega); cases hv; have O2 := Lib.hid o2; clear f2 o2)
  rename_i KK3 aa3
  refine (one_a HT.out HS.out HN.out F2.out O2.out).mono ?_
  rintro e w3 ⟨s3, k3, rfl, r3, f3⟩
  have F3 := Lib.hid (F2.out.trans f3)
  have O3 := Lib.hid (O2.out.fr f3 (by simp))
  have R3 := Lib.hid r3
  clear f3 r3 O2 F2
  show KK3 _ _
  apply aa3
  clear aa3
  have hKc : (K : Int) ≤ (cc : Int) := by omega
  have hKc2 : K ≤ cc := by omega
  go_wp2_with fail
  rename_i KK4 aa4
  refine (one_b HT.out HS.out HN.out hK1 F3.out O3.out).mono ?_
  rintro e w4 ⟨s4, k4, rfl, r4, f4⟩
  have F4 := Lib.hid (F3.out.trans f4)
  have R4 := Lib.hid r4
  obtain ⟨g3, o3, rfl, c3⟩ := (R3.out.fr f4) 0 c rfl
  rw [Nat.add_zero] at c3
  clear f4 r4 R3 O3 F3
  show KK4 _ _
  apply aa4
  clear aa4
  go_wp2_with fail
  go_loopw [11] (fun i wr => ∃ (k : Nat), k ≤ K ∧ i = .int .i64 k ∧ wr = w4) (fun i _ => K - (intOf i).toNat)
  case atStart => exact ⟨0, by omega, rfl, by first | rfl | trivial⟩
  case round =>
    obtain ⟨k, hk, rfl, rfl⟩ := hrel
    by_cases hlt : k < K
    · obtain ⟨g5, o5, rfl, x0⟩ := R4.out k 65533 (by rw [List.getElem?_replicate, if_pos hlt])
      have i1 : (k : Int) < (K : Int) := by omega
      go_wp2_with fail
      go_roundw
      case rel => exact ⟨k + 1, by omega, by first | rfl | go_num, by first | rfl | trivial⟩
      case measure => simp [intOf]; omega
    · obtain rfl : k = K := by omega
      have i1 : ¬ ((k : Int) < (k : Int)) := by omega
      go_wp2_with fail
      go_ret
      exact ⟨rfl, F4.out⟩

theorem textOne_walk (a b : Int) (w : World) (hT : Tabs w) (_ : (Lit.int .i64 a).wf = true) (w1 : (Lit.int .i64 b).wf = true) :
    Calls Tryd.prog 10 #[.int .i64 a, .int .i64 b] w fun e w' => e = .returned (.bool true) ∧ Below w.heap.size w w' := by
  have hb : -9223372036854775808 ≤ b ∧ b ≤ 9223372036854775807 := by simpa [Lit.wf, IntKind.min, IntKind.max, IntKind.signed, IntKind.bits] using w1
  clear w1
  suffices H : Calls Tryd.prog 10 #[.int .i64 a, .int .i64 b] w fun e w' => e = .returned (.bool true) ∧ Fr (fun _ => False) w w' from
    H.mono fun _ _ h => ⟨h.1, h.2.below (Nat.le_refl _) (by simp)⟩
  by_cases h0 : a < 0
  · have d0 : decide (a < 0) = true := decide_eq_true (by omega)
    have AL := Lib.hid (alive_any w hT)
    have HT := Lib.hid hT
    clear hT
    go_enter Tryd.func10, Tryd.ntmps10
    go_wp2_with fail
    rename_i KK aa
    refine AL.out.mono ?_
    rintro e w1 ⟨rfl, f1⟩
    have F1 := Lib.hid f1
    clear AL f1
    show KK _ _
    apply aa
    clear aa
    go_wp2_with fail
    go_ret
    exact ⟨rfl, F1.out⟩
  by_cases h1 : 1114111 < a
  · have d0 : decide (a < 0) = false := decide_eq_false (by omega)
    have d1 : decide (1114111 < a) = true := decide_eq_true (by omega)
    have AL := Lib.hid (alive_any w hT)
    have HT := Lib.hid hT
    clear hT
    go_enter Tryd.func10, Tryd.ntmps10
    go_wp2_with fail
    rename_i KK aa
    refine AL.out.mono ?_
    rintro e w1 ⟨rfl, f1⟩
    have F1 := Lib.hid f1
    clear AL f1
    show KK _ _
    apply aa
    clear aa
    go_wp2_with fail
    go_ret
    exact ⟨rfl, F1.out⟩
  by_cases h2 : 55296 ≤ a ∧ a ≤ 57343
  · have d0 : decide (a < 0) = false := decide_eq_false (by omega)
    have d1 : decide (1114111 < a) = false := decide_eq_false (by omega)
    have d2 : decide (55296 ≤ a) = true := decide_eq_true (by omega)
    have d3 : decide (a ≤ 57343) = true := decide_eq_true (by omega)
    have AL := Lib.hid (alive_any w hT)
    have HT := Lib.hid hT
    clear hT
    go_enter Tryd.func10, Tryd.ntmps10
    go_wp2_with fail
    rename_i KK aa
    refine AL.out.mono ?_
    rintro e w1 ⟨rfl, f1⟩
    have F1 := Lib.hid f1
    clear AL f1
    show KK _ _
    apply aa
    clear aa
    go_wp2_with fail
    go_ret
    exact ⟨rfl, F1.out⟩
  by_cases h3 : b < 0 ∧ a < 55296
  · have d0 : decide (a < 0) = false := decide_eq_false (by omega)
    have d1 : decide (1114111 < a) = false := decide_eq_false (by omega)
    have d2 : decide (55296 ≤ a) = false := decide_eq_false (by omega)
    have d3 : decide (b < 0) = true := decide_eq_true (by omega)
    have AL := Lib.hid (alive_any w hT)
    have HT := Lib.hid hT
    clear hT
    go_enter Tryd.func10, Tryd.ntmps10
    go_wp2_with fail
    rename_i KK aa
    refine AL.out.mono ?_
    rintro e w1 ⟨rfl, f1⟩
    have F1 := Lib.hid f1
    clear AL f1
    show KK _ _
    apply aa
    clear aa
    go_wp2_with fail
    go_ret
    exact ⟨rfl, F1.out⟩
  by_cases h4 : b < 0
  · have d0 : decide (a < 0) = false := decide_eq_false (by omega)
    have d1 : decide (1114111 < a) = false := decide_eq_false (by omega)
    have d2 : decide (55296 ≤ a) = true := decide_eq_true (by omega)
    have d3 : decide (a ≤ 57343) = false := decide_eq_false (by omega)
    have d4 : decide (b < 0) = true := decide_eq_true (by omega)
    have AL := Lib.hid (alive_any w hT)
    have HT := Lib.hid hT
    clear hT
    go_enter Tryd.func10, Tryd.ntmps10
    go_wp2_with fail
    rename_i KK aa
    refine AL.out.mono ?_
    rintro e w1 ⟨rfl, f1⟩
    have F1 := Lib.hid f1
    clear AL f1
    show KK _ _
    apply aa
    clear aa
    go_wp2_with fail
    go_ret
    exact ⟨rfl, F1.out⟩
  obtain ⟨c, rfl⟩ := Int.eq_ofNat_of_zero_le (show 0 ≤ a by omega)
  obtain ⟨u, rfl⟩ := Int.eq_ofNat_of_zero_le (show 0 ≤ b by omega)
  by_cases k1 : c ≤ 127
  · exact one_1 c u w hT (by omega) k1 hb.2
  by_cases k2 : c ≤ 2047
  · exact one_2 c u w hT (by omega) k2 hb.2
  by_cases k3 : c ≤ 55295
  · exact one_3 c u w hT (by omega) k3 hb.2
  by_cases k4 : c ≤ 65535
  · exact one_3h c u w hT (by omega) k4 hb.2
  · exact one_4 c u w hT (by omega) (by omega) hb.2
end Go.Proofs.YtfgmhpdhgepalaaDoor
