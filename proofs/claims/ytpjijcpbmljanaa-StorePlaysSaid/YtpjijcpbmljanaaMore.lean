/- Release, Get, Live; the reference's. -/
import Derived.Test.YtpjijcpbmljanaaFns
namespace Go.Proofs.Ytpjijcpbmljanaa
open Go.RowKit Go.Maps Go.ChangeShapes Go.WideShapes Go.ChangeAt Go.WideMaps Go.WideElems

theorem IsSto.setLive {w : World} {b : Nat} {S : Nat → Prop} {L : List Item} {live : Int} (h : IsSto w b S L live) (n : Int) :
    Fr S w (w.setCell ⟨b, 1, none⟩ (.int .i64 n)) ∧ IsSto (w.setCell ⟨b, 1, none⟩ (.int .i64 n)) b S L n := by
  obtain ⟨hlt, hSb, sp, sc, hb, hrow, hSr⟩ := h
  have hne : some b ≠ (Value.slice sp L.length sc).ownBlock := ownsRow.ne hrow hb (by intro c; simp)
  refine ⟨(Fr.refl S w).setCell (.inl hSb) _, fun k hk => by have := hlt k hk; simpa [World.setCell] using this, hSb, sp, sc, ?_, ?_, hSr⟩
  · have := heapSet hb 1 (.int .i64 n)
    simpa using this
  · exact ownsRow.fr hrow ((Fr.refl (fun k => k = b) w).setCell (p := ⟨b, 1, none⟩) (.inl rfl) _) (fun k hk e => hne (by rw [hk, e]))

set_option maxHeartbeats 400000 in
theorem Release_any (b : Nat) (S : Nat → Prop) (L : List Item) (live : Int) (i : Int) (w : World) (h : IsSto w b S L live) (hn : L.length ≤ 1000) (hbd : Bd L 1000) (hl0 : -1000 ≤ live) (hl1 : live ≤ 1000) :
    Calls Try.prog 12 #[.pointer (some ⟨b, 0, none⟩), .int .i64 i] w fun e w' => e = .returned (.int .i64 (errOf L i)) ∧ Fr S w w' ∧ IsSto w' b S (if 0 < cntL L i then bump L i (-1) else L) (if cntL L i = 1 then live - 1 else live) := by
  have H := Lib.hid (is_any b S L live i w h hn)
  by_cases hp : 0 < cntL L i
  · have hp1 : decide (0 < cntL L i) = true := by simpa using hp
    rw [hp1] at H
    rw [if_pos hp, show errOf L i = 0 by unfold errOf; rw [if_pos hp]]
    have hi : 0 ≤ i ∧ i < L.length := by
      rcases Decidable.em (0 ≤ i ∧ i < L.length) with h | h
      · exact h
      · rw [cntL_no (by omega)] at hp; omega
    obtain ⟨k, rfl⟩ := Int.eq_ofNat_of_zero_le hi.1
    have hk : k < L.length := by omega
    rw [cntL_nat hk] at hp
    rw [bump_nat hk, cntL_nat hk]
    have hbk := hbd _ (List.getElem_mem hk)
    obtain ⟨hlt, hSb, sp, sc, hb, hrow, hSr⟩ := h
    obtain ⟨g, rfl, hc, hfz⟩ := cells_of hrow k hk
    have hSg : S g := hSr g rfl
    have hgb : b ≠ g := by
      intro e
      have := ownsRow.ne hrow hb (by intro c; simp)
      simp [Value.ownBlock] at this
      exact this e
    have E := Lib.hid (bump_end w b S L live g sc k hk (L[k].2 + -1) hlt hSb hb hrow hSg)
    have c0 := cellOf hb 0
    have c1 := cellOf hb 1
    have f1 := frozenOf hb 1
    simp at c0 c1
    have c8 := hc 8 (by omega)
    rw [show (itemL L[k])[8]? = some (.int .i64 L[k].2) from rfl] at c8
    have f8 := hfz (k * 9 + 8)
    have hk0 : (k : Int) < (L.length : Int) := by omega
    obtain ⟨n, hn2⟩ : ∃ n, n = L[k].2 := ⟨_, rfl⟩
    rw [← hn2] at hbk c8 hp E ⊢
    rw [show n + -1 = n - 1 by omega] at E ⊢
    have Hn2 := Lib.hid hn2
    clear hc hfz hrow hb hi hlt hSr hbd hp1 hn2
    by_cases h1 : n = 1
    · subst h1
      rw [if_pos rfl]
      go_enter Try.func12, Try.ntmps12
      go_wp2_with fail
      refine H.out.mono ?_
      rintro e w' ⟨rfl, rfl⟩
      go_wp2_with fail
      go_ret
      obtain ⟨q1, q2⟩ := E.out
      obtain ⟨q3, q4⟩ := q2.setLive (live - 1)
      exact ⟨rfl, q1.trans q3, q4⟩
    · rw [if_neg h1]
      have h2 : ((n - 1 : Int) == 0) = false := by rw [beq_eq_false_iff_ne]; omega
      have hn3 : 2 ≤ n := by omega
      clear h1
      go_enter Try.func12, Try.ntmps12
      go_wp2_with fail
      refine H.out.mono ?_
      rintro e w' ⟨rfl, rfl⟩
      go_wp2_with fail
      go_ret
      exact ⟨rfl, E.out.1, E.out.2⟩
  · have hp1 : decide (0 < cntL L i) = false := by simpa using hp
    rw [hp1] at H
    rw [if_neg hp, if_neg (by omega), show errOf L i = 6 by unfold errOf; rw [if_neg hp]]
    have Hh := Lib.hid h
    clear h hp hp1 hbd
    go_enter Try.func12, Try.ntmps12
    go_wp2_with fail
    refine H.out.mono ?_
    rintro e w' ⟨rfl, rfl⟩
    go_wp2_with fail
    go_ret
    exact ⟨rfl, Fr.refl _ _, Hh.out⟩

def getX (L : List Item) (i : Int) : Nat → Int := if 0 < cntL L i then (L.getD i.toNat zi).1 else fun _ => 0

theorem getX_nat {L : List Item} {k : Nat} (hk : k < L.length) (hp : 0 < L[k].2) : getX L (k : Nat) = L[k].1 := by
  unfold getX; rw [cntL_nat hk, if_pos hp, Int.toNat_natCast]; simp [hk]

set_option maxHeartbeats 400000 in
theorem Get_any (b : Nat) (S : Nat → Prop) (L : List Item) (live : Int) (i : Int) (w : World) (h : IsSto w b S L live) (hn : L.length ≤ 1000) :
    Calls Try.prog 14 #[.pointer (some ⟨b, 0, none⟩), .int .i64 i] w fun e w' => e = .returned (.tuple #[.agg (stL (getX L i)).toArray, .int .i64 (errOf L i)]) ∧ Fr (fun _ => False) w w' := by
  have H := Lib.hid (fun A => is_any b S L live i (w.alloc A) (h.fr ((Fr.refl (fun _ => False) w).alloc A) (by simp)) hn)
  by_cases hp : 0 < cntL L i
  · have hp1 : decide (0 < cntL L i) = true := by simpa using hp
    rw [hp1] at H
    have hi : 0 ≤ i ∧ i < L.length := by
      rcases Decidable.em (0 ≤ i ∧ i < L.length) with h | h
      · exact h
      · rw [cntL_no (by omega)] at hp; omega
    rw [show errOf L i = 0 by unfold errOf; rw [if_pos hp]]
    obtain ⟨k, rfl⟩ := Int.eq_ofNat_of_zero_le hi.1
    have hk : k < L.length := by omega
    rw [cntL_nat hk] at hp
    rw [getX_nat hk hp]
    obtain ⟨hlt, hSb, sp, sc, hb, hrow, hSr⟩ := h
    obtain ⟨g, rfl, hc, hfz⟩ := cells_of hrow k hk
    have hbl := ltOf hb
    have hgl : g < w.heap.size := hlt g (hSr g rfl)
    have c0 := cellOf hb 0
    simp at c0
    have x0 := hc 0 (by omega)
    have x1 := hc 1 (by omega)
    have x2 := hc 2 (by omega)
    have x3 := hc 3 (by omega)
    have x4 := hc 4 (by omega)
    have x5 := hc 5 (by omega)
    have x6 := hc 6 (by omega)
    have x7 := hc 7 (by omega)
    simp only [itemL, stL, List.cons_append, List.nil_append, List.getElem?_cons_zero, List.getElem?_cons_succ, Nat.add_zero] at x0 x1 x2 x3 x4 x5 x6 x7
    have hk0 : (k : Int) < (L.length : Int) := by omega
    generalize L[k].1 = x at *
    clear hc hfz hrow hb hi hlt hSr hp1 hp
    unfold stL
    go_enter Try.func14, Try.ntmps14
    go_wp2_with fail
    refine (H.out _).mono ?_
    rintro e w' ⟨rfl, rfl⟩
    go_wp2_with fail
    exact bodyPost_ret (v := .tuple #[.agg #[.int .i64 (x 0), .int .i64 (x 1), .int .i64 (x 2), .int .i64 (x 3), .int .i64 (x 4), .int .i64 (x 5), .int .i64 (x 6), .int .i64 (x 7)], .int .i64 0]) (by simp [results, Try.results14, go_sem]) rfl ⟨rfl, (Fr.refl _ _).alloc _⟩
  · have hp1 : decide (0 < cntL L i) = false := by simpa using hp
    rw [hp1] at H
    rw [show errOf L i = 6 by unfold errOf; rw [if_neg hp], show getX L i = fun _ => 0 by unfold getX; rw [if_neg hp]]
    clear h hp hp1
    unfold stL
    go_enter Try.func14, Try.ntmps14
    go_wp2_with fail
    refine (H.out _).mono ?_
    rintro e w' ⟨rfl, rfl⟩
    go_wp2_with fail
    exact bodyPost_ret (v := .tuple #[.agg #[.int .i64 0, .int .i64 0, .int .i64 0, .int .i64 0, .int .i64 0, .int .i64 0, .int .i64 0, .int .i64 0], .int .i64 6]) (by simp [results, Try.results14, go_sem]) rfl ⟨rfl, (Fr.refl _ _).alloc _⟩

theorem Live_any (b : Nat) (S : Nat → Prop) (L : List Item) (live : Int) (w : World) (h : IsSto w b S L live) :
    Calls Try.prog 18 #[.pointer (some ⟨b, 0, none⟩)] w fun e w' => e = .returned (.int .i64 live) ∧ w = w' := by
  obtain ⟨_, _, sp, sc, hb, _, _⟩ := h
  have c1 := cellOf hb 1
  simp at c1
  clear hb
  go_enter Try.func18, Try.ntmps18
  go_wp2
  go_ret
  exact ⟨rfl, rfl⟩

theorem num_any (n : Int) (w : World) : Calls Try.prog 9 #[.int .i64 n] w fun e w' => e = .returned (.int .i64 n) ∧ w = w' := by
  go_enter Try.func9, Try.ntmps9
  go_wp2
  go_ret
  exact ⟨rfl, rfl⟩

end Go.Proofs.Ytpjijcpbmljanaa
