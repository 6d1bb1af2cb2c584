/- The reference's Hold, Release, Get, Live. -/
import Derived.Test.YtpjijcpbmljanaaMore
namespace Go.Proofs.Ytpjijcpbmljanaa
open Go.RowKit Go.Maps Go.ChangeShapes Go.WideShapes Go.ChangeAt Go.WideMaps Go.WideElems

set_option maxHeartbeats 1000000 in
set_option maxRecDepth 100000 in
theorem add_any (b : Nat) (S : Nat → Prop) (L : List Item) (i d : Int) (w : World) (h : IsRef w b S L) (hn : L.length ≤ 1000) (hbd : Bd L 1000) (hd : -1 ≤ d ∧ d ≤ 1) :
    Calls Try.prog 21 #[.pointer (some ⟨b, 0, none⟩), .int .i64 i, .int .i64 d] w fun e w' => e = .returned (.int .i64 (errOf L i)) ∧ Fr S w w' ∧ IsRef w' b S (if 0 < cntL L i then bump L i d else L) := by
  have H := Lib.hid (RCount_any b S L i w h hn)
  have hcb := hbd.cnt (by omega) i
  by_cases hp : 0 < cntL L i
  · rw [if_pos hp, show errOf L i = 0 by unfold errOf; rw [if_pos hp]]
    have hi : 0 ≤ i ∧ i < L.length := by
      rcases Decidable.em (0 ≤ i ∧ i < L.length) with h | h
      · exact h
      · rw [cntL_no (by omega)] at hp; omega
    obtain ⟨k, rfl⟩ := Int.eq_ofNat_of_zero_le hi.1
    have hk : k < L.length := by omega
    rw [cntL_nat hk] at hp H hcb
    rw [bump_nat hk]
    obtain ⟨hlt, hSb, sp, sc, hb, hrow, hSr⟩ := h
    obtain ⟨g, rfl, hc, hfz⟩ := cells_of hrow k hk
    have hSg : S g := hSr g rfl
    have hb' := heapDrew hb
    have hrow' : w.drew.ownsRow 0 52 9 (.slice (some ⟨g, 0, none⟩) L.length sc) L.length (flat L) := hrow
    have E := Lib.hid (Rbump_end w.drew b S L g sc k hk (L[k].2 + d) hlt hSb hb' hrow' hSg)
    have FD := Lib.hid ((Fr.refl S w).drew)
    have c0 := cellOf hb 0
    simp at c0
    have c8 := hc 8 (by omega)
    rw [show (itemL L[k])[8]? = some (.int .i64 L[k].2) from rfl] at c8
    have f8 := hfz (k * 9 + 8)
    have hk0 : (k : Int) < (L.length : Int) := by omega
    generalize L[k].2 = n at *
    have hne : (n == 0) = false := by rw [beq_eq_false_iff_ne]; omega
    have hwr : IntKind.i64.wrap (n + d) = n + d := IntWalk.i64_in _ (by omega)
    obtain ⟨hd0, hd1⟩ := hd
    clear hc hfz hrow hrow' hb hb' hi hlt hSr hbd
    go_enter Try.func21, Try.ntmps21
    go_wp2_with fail
    refine H.out.mono ?_
    rintro e w' ⟨rfl, rfl⟩
    go_wp2_with fail
    go_still_tail 17, (by kernel_rfl)
    change wpList _ _ _ _ _ w.drew
    have c8' : w.drew.cell? ⟨g, k * 9 + 8, none⟩ = some (.int .i64 n) := c8
    have f8' : w.drew.frozen? ⟨g, k * 9 + 8, none⟩ = false := f8
    clear c0 c8 f8 hwr
    generalize w.drew = w2 at *
    go_wp2_with fail
    go_ret
    exact ⟨rfl, FD.out.trans (E.out.1.mono (fun _ _ h => h)), E.out.2⟩
  · rw [if_neg hp, show errOf L i = 6 by unfold errOf; rw [if_neg hp]]
    have h0 : cntL L i = 0 := by omega
    rw [h0] at H
    have Hh := Lib.hid h
    clear h hp hbd h0 hcb hd
    go_enter Try.func21, Try.ntmps21
    go_wp2_with fail
    refine H.out.mono ?_
    rintro e w' ⟨rfl, rfl⟩
    go_wp2_with fail
    go_ret
    exact ⟨rfl, Fr.refl _ _, Hh.out⟩

theorem RHold_any (b : Nat) (S : Nat → Prop) (L : List Item) (i : Int) (w : World) (h : IsRef w b S L) (hn : L.length ≤ 1000) (hbd : Bd L 1000) :
    Calls Try.prog 11 #[.pointer (some ⟨b, 0, none⟩), .int .i64 i] w fun e w' => e = .returned (.int .i64 (errOf L i)) ∧ Fr S w w' ∧ IsRef w' b S (if 0 < cntL L i then bump L i 1 else L) := by
  have H := Lib.hid (add_any b S L i 1 w h hn hbd (by omega))
  clear h hn hbd
  generalize (if 0 < cntL L i then bump L i 1 else L) = L2 at *
  go_enter Try.func11, Try.ntmps11
  go_wp2_with fail
  refine H.out.mono ?_
  rintro e w' ⟨rfl, h1, h2⟩
  have H1 := Lib.hid h1
  have H2 := Lib.hid h2
  clear h1 h2 H
  go_wp2_with fail
  go_ret
  exact ⟨rfl, H1.out, H2.out⟩

theorem RRelease_any (b : Nat) (S : Nat → Prop) (L : List Item) (i : Int) (w : World) (h : IsRef w b S L) (hn : L.length ≤ 1000) (hbd : Bd L 1000) :
    Calls Try.prog 13 #[.pointer (some ⟨b, 0, none⟩), .int .i64 i] w fun e w' => e = .returned (.int .i64 (errOf L i)) ∧ Fr S w w' ∧ IsRef w' b S (if 0 < cntL L i then bump L i (-1) else L) := by
  have H := Lib.hid (add_any b S L i (-1) w h hn hbd (by omega))
  clear h hn hbd
  generalize (if 0 < cntL L i then bump L i (-1) else L) = L2 at *
  go_enter Try.func13, Try.ntmps13
  go_wp2_with fail
  refine H.out.mono ?_
  rintro e w' ⟨rfl, h1, h2⟩
  have H1 := Lib.hid h1
  have H2 := Lib.hid h2
  clear h1 h2 H
  go_wp2_with fail
  go_ret
  exact ⟨rfl, H1.out, H2.out⟩

set_option maxHeartbeats 400000 in
theorem RGet_any (b : Nat) (S : Nat → Prop) (L : List Item) (i : Int) (w : World) (h : IsRef w b S L) (hn : L.length ≤ 1000) (hbd : Bd L 1000) :
    Calls Try.prog 15 #[.pointer (some ⟨b, 0, none⟩), .int .i64 i] w fun e w' => e = .returned (.tuple #[.agg (stL (getX L i)).toArray, .int .i64 (errOf L i)]) ∧ Fr (fun _ => False) w w' := by
  have H := Lib.hid (fun A => RCount_any b S L i (w.alloc A) (h.fr ((Fr.refl (fun _ => False) w).alloc A) (by simp)) hn)
  have hcb := hbd.cnt (by omega) i
  by_cases hp : 0 < cntL L i
  · have hi : 0 ≤ i ∧ i < L.length := by
      rcases Decidable.em (0 ≤ i ∧ i < L.length) with h | h
      · exact h
      · rw [cntL_no (by omega)] at hp; omega
    rw [show errOf L i = 0 by unfold errOf; rw [if_pos hp]]
    obtain ⟨k, rfl⟩ := Int.eq_ofNat_of_zero_le hi.1
    have hk : k < L.length := by omega
    rw [cntL_nat hk] at hp H hcb
    rw [getX_nat hk hp]
    obtain ⟨hlt, hSb, sp, sc, hb, hrow, hSr⟩ := h
    obtain ⟨g, rfl, hc, hfz⟩ := cells_of hrow k hk
    have hbl := ltOf hb
    have hgl : g < w.heap.size := hlt g (hSr g rfl)
    have c0 := cellOf hb 0
    simp at c0
    have x0 := hc 0 (by omega)
    have x1 := hc 1 (by omega)
    have x2 := hc 2 (by omega)
    have x3 := hc 3 (by omega)
    have x4 := hc 4 (by omega)
    have x5 := hc 5 (by omega)
    have x6 := hc 6 (by omega)
    have x7 := hc 7 (by omega)
    simp only [itemL, stL, List.cons_append, List.nil_append, List.getElem?_cons_zero, List.getElem?_cons_succ, Nat.add_zero] at x0 x1 x2 x3 x4 x5 x6 x7
    have hk0 : (k : Int) < (L.length : Int) := by omega
    generalize L[k].1 = x at *
    generalize L[k].2 = n at *
    have hne : (n == 0) = false := by rw [beq_eq_false_iff_ne]; omega
    clear hc hfz hrow hb hi hlt hSr hp hbd hcb
    unfold stL
    go_enter Try.func15, Try.ntmps15
    go_wp2_with fail
    refine (H.out _).mono ?_
    rintro e w' ⟨rfl, rfl⟩
    go_wp2_with fail
    exact bodyPost_ret (v := .tuple #[.agg #[.int .i64 (x 0), .int .i64 (x 1), .int .i64 (x 2), .int .i64 (x 3), .int .i64 (x 4), .int .i64 (x 5), .int .i64 (x 6), .int .i64 (x 7)], .int .i64 0]) (by simp [results, Try.results15, go_sem]) rfl ⟨rfl, (Fr.refl _ _).alloc _⟩
  · have h0 : cntL L i = 0 := by omega
    rw [h0] at H
    rw [show errOf L i = 6 by unfold errOf; rw [if_neg hp], show getX L i = fun _ => 0 by unfold getX; rw [if_neg hp]]
    clear h hp hbd hcb h0
    unfold stL
    go_enter Try.func15, Try.ntmps15
    go_wp2_with fail
    refine (H.out _).mono ?_
    rintro e w' ⟨rfl, rfl⟩
    go_wp2_with fail
    exact bodyPost_ret (v := .tuple #[.agg #[.int .i64 0, .int .i64 0, .int .i64 0, .int .i64 0, .int .i64 0, .int .i64 0, .int .i64 0, .int .i64 0], .int .i64 6]) (by simp [results, Try.results15, go_sem]) rfl ⟨rfl, (Fr.refl _ _).alloc _⟩

/-- How many are held. -/
def liveOf : List Item → Int
  | [] => 0
  | p :: r => (if 0 < p.2 then 1 else 0) + liveOf r

theorem liveOf_snoc (L : List Item) (p : Item) : liveOf (L ++ [p]) = liveOf L + if 0 < p.2 then 1 else 0 := by
  induction L with
  | nil => simp [liveOf]
  | cons q r ih => simp only [List.cons_append, liveOf, ih]; omega
theorem liveOf_bd (L : List Item) : 0 ≤ liveOf L ∧ liveOf L ≤ L.length := by
  induction L with
  | nil => simp [liveOf]
  | cons q r ih => simp only [liveOf, List.length_cons]; split <;> omega
theorem liveOf_set (L : List Item) (k : Nat) (hk : k < L.length) (p : Item) : liveOf (L.set k p) = liveOf L - (if 0 < L[k].2 then 1 else 0) + if 0 < p.2 then 1 else 0 := by
  induction L generalizing k with
  | nil => simp at hk
  | cons q r ih =>
    cases k with
    | zero => simp only [List.set_cons_zero, liveOf, List.getElem_cons_zero]; omega
    | succ k => simp only [List.set_cons_succ, liveOf, List.getElem_cons_succ]; rw [ih k (by simpa using hk)]; omega

theorem RLive_any (b : Nat) (S : Nat → Prop) (L : List Item) (w : World) (h : IsRef w b S L) (hn : L.length ≤ 1000) :
    Calls Try.prog 19 #[.pointer (some ⟨b, 0, none⟩)] w fun e w' => e = .returned (.int .i64 (liveOf L)) ∧ w = w' := by
  obtain ⟨_, _, sp, sc, hb, hrow, _⟩ := h
  have c0 := cellOf hb 0
  simp at c0
  have HC := Lib.hid (fun k hk => cells_of hrow k hk)
  clear hb hrow
  go_enter Try.func19, Try.ntmps19
  go_wp2
  go_loop [3, 4] (fun s i => ∃ k : Nat, k ≤ L.length ∧ i = .int .i64 k ∧ s = .int .i64 (liveOf (L.take k))) (fun _ i => L.length - (intOf i).toNat)
  case atStart => exact ⟨0, Nat.zero_le _, rfl, rfl⟩
  case round =>
    obtain ⟨k, hk, rfl, rfl⟩ := hrel
    by_cases hlt : k < L.length
    · obtain ⟨g, rfl, hc, _⟩ := HC.out k hlt
      have c8 := hc 8 (by omega)
      rw [show (itemL L[k])[8]? = some (.int .i64 L[k].2) from rfl] at c8
      have hbd := liveOf_bd (L.take k)
      have hlen : (L.take k).length ≤ k := List.length_take_le _ _
      have HS := Lib.hid (show liveOf (L.take (k + 1)) = liveOf (L.take k) + if 0 < L[k].2 then 1 else 0 by
        rw [List.take_add_one, List.getElem?_eq_getElem hlt]; exact liveOf_snoc _ _)
      generalize L[k].2 = n at *
      generalize liveOf (L.take k) = z at *
      clear hc
      by_cases hp : 0 < n
      · have Hp := Lib.hid hp
        go_wp2_with fail
        go_round
        case rel => exact ⟨k + 1, by omega, by go_num, by rw [HS.out, if_pos Hp.out]⟩
        case measure => simp [intOf]; omega
      · have Hp := Lib.hid hp
        go_wp2_with fail
        go_round
        case rel => exact ⟨k + 1, by omega, by go_num, by rw [HS.out, if_neg Hp.out]; simp⟩
        case measure => simp [intOf]; omega
    · have hke : k = L.length := by omega
      subst hke
      rw [List.take_length]
      go_wp2_with fail
      go_ret
      exact ⟨rfl, rfl⟩

end Go.Proofs.Ytpjijcpbmljanaa
