/- The contracts of the other methods, of the store and of the reference. -/
import Derived.Test.YtpjijcpbmljanaaNew
namespace Go.Proofs.Ytpjijcpbmljanaa
open Go.RowKit Go.Maps Go.ChangeShapes Go.WideShapes Go.ChangeAt Go.WideMaps Go.WideElems

abbrev Item := (Nat → Int) × Int
def zi : Item := (fun _ => 0, 0)
def cntL (L : List Item) (i : Int) : Int := if 0 ≤ i ∧ i < L.length then (L.getD i.toNat zi).2 else 0
def bump (L : List Item) (i : Int) (d : Int) : List Item := if 0 ≤ i ∧ i < L.length then L.set i.toNat ((L.getD i.toNat zi).1, (L.getD i.toNat zi).2 + d) else L

theorem cntL_nat {L : List Item} {k : Nat} (hk : k < L.length) : cntL L (k : Nat) = L[k].2 := by
  unfold cntL; rw [if_pos (by omega), Int.toNat_natCast]; simp [hk]
theorem cntL_no {L : List Item} {i : Int} (h : i < 0 ∨ (L.length : Int) ≤ i) : cntL L i = 0 := by
  unfold cntL; rw [if_neg (by omega)]
theorem bump_nat {L : List Item} {k : Nat} (hk : k < L.length) (d : Int) : bump L (k : Nat) d = L.set k (L[k].1, L[k].2 + d) := by
  unfold bump; rw [if_pos (by omega), Int.toNat_natCast]; simp [hk]
theorem bump_len (L : List Item) (i d : Int) : (bump L i d).length = L.length := by
  unfold bump; split <;> simp

/-- All counts lie between 0 and m. -/
def Bd (L : List Item) (m : Int) : Prop := ∀ p ∈ L, 0 ≤ p.2 ∧ p.2 ≤ m
theorem Bd.cnt {L : List Item} {m : Int} (h : Bd L m) (hm : 0 ≤ m) (i : Int) : 0 ≤ cntL L i ∧ cntL L i ≤ m := by
  by_cases hi : 0 ≤ i ∧ i < L.length
  · obtain ⟨k, rfl⟩ := Int.eq_ofNat_of_zero_le hi.1
    rw [cntL_nat (by omega)]
    exact h _ (List.getElem_mem _)
  · rw [cntL_no (by omega)]; omega

theorem cells_of {w : World} {e : TypeId} {sp : Option Addr} {sc : Nat} {L : List Item} (h : w.ownsRow 0 e 9 (.slice sp L.length sc) L.length (flat L)) (k : Nat) (hk : k < L.length) :
    ∃ g, sp = some ⟨g, 0, none⟩ ∧ (∀ j, j < 9 → w.cell? ⟨g, k * 9 + j, none⟩ = (itemL L[k])[j]?) ∧ ∀ j, w.frozen? ⟨g, j, none⟩ = false := by
  rcases h.2 with ⟨e1, h0⟩ | ⟨g, cap, cur, e1, _⟩
  · omega
  · cases e1
    exact ⟨g, rfl, fun j hj => by rw [h.cellAt (k * 9 + j) (by omega)]; exact flat_at L k j hk hj, fun j => h.frozenAt j⟩

theorem Count_any (b : Nat) (S : Nat → Prop) (L : List Item) (live : Int) (i : Int) (w : World) (h : IsSto w b S L live) (_hn : L.length ≤ 1000) :
    Calls Try.prog 16 #[.pointer (some ⟨b, 0, none⟩), .int .i64 i] w fun e w' => e = .returned (.int .i64 (cntL L i)) ∧ w = w' := by
  obtain ⟨_, _, sp, sc, hb, hrow, _⟩ := h
  have c0 := cellOf hb 0
  simp at c0
  by_cases h0 : i < 0
  · rw [cntL_no (.inl h0)]
    clear hb hrow
    go_enter Try.func16, Try.ntmps16
    go_wp2
    go_ret
    exact ⟨rfl, rfl⟩
  · by_cases h1 : (L.length : Int) ≤ i
    · rw [cntL_no (.inr h1)]
      clear hb hrow
      go_enter Try.func16, Try.ntmps16
      go_wp2
      go_ret
      exact ⟨rfl, rfl⟩
    · obtain ⟨k, rfl⟩ := Int.eq_ofNat_of_zero_le (by omega : 0 ≤ i)
      have hk : k < L.length := by omega
      obtain ⟨g, rfl, hc, _⟩ := cells_of hrow k hk
      have c8 := hc 8 (by omega)
      rw [show (itemL L[k])[8]? = some (.int .i64 L[k].2) from rfl] at c8
      rw [cntL_nat hk]
      generalize L[k].2 = n at *
      clear hc hrow hb h0 h1
      go_enter Try.func16, Try.ntmps16
      go_wp2
      go_ret
      exact ⟨rfl, rfl⟩

/-- What a write of one count leaves. -/
theorem bump_end (w : World) (b : Nat) (S : Nat → Prop) (L : List Item) (live : Int) (g sc k : Nat) (hk : k < L.length) (n : Int) (hlt : ∀ k, S k → k < w.heap.size) (hSb : S b)
    (hb : w.heap[b]? = some (.cells #[.slice (some ⟨g, 0, none⟩) L.length sc, .int .i64 live] 26 (0, 0))) (hrow : w.ownsRow 0 50 9 (.slice (some ⟨g, 0, none⟩) L.length sc) L.length (flat L)) (hSg : S g) :
    Fr S w (w.setCell ⟨g, k * 9 + 8, none⟩ (.int .i64 n)) ∧ IsSto (w.setCell ⟨g, k * 9 + 8, none⟩ (.int .i64 n)) b S (L.set k (L[k].1, n)) live := by
  have hgb : b ≠ g := by
    intro e
    have := ownsRow.ne hrow hb (by intro c; simp)
    simp [Value.ownBlock] at this
    exact this e
  obtain ⟨h1, _⟩ := hrow.stored (k * 9 + 8) (.int .i64 n)
  rw [flat_set L k hk n] at h1
  have hln : (L.set k (L[k].1, n)).length = L.length := by simp
  refine ⟨(Fr.refl S w).setCell (.inl hSg) _, fun k hk => by have := hlt k hk; simpa [World.setCell] using this, hSb, some ⟨g, 0, none⟩, sc, ?_, ?_, ?_⟩
  · rw [hln, heapSetOther _ _ hgb]; exact hb
  · rw [hln]; exact h1
  · intro j hj; rw [hln] at hj; simp [Value.ownBlock] at hj; subst hj; exact hSg

theorem RCount_any (b : Nat) (S : Nat → Prop) (L : List Item) (i : Int) (w : World) (h : IsRef w b S L) (_hn : L.length ≤ 1000) :
    Calls Try.prog 17 #[.pointer (some ⟨b, 0, none⟩), .int .i64 i] w fun e w' => e = .returned (.int .i64 (cntL L i)) ∧ w = w' := by
  obtain ⟨_, _, sp, sc, hb, hrow, _⟩ := h
  have c0 := cellOf hb 0
  simp at c0
  by_cases h0 : i < 0
  · rw [cntL_no (.inl h0)]
    clear hb hrow
    go_enter Try.func17, Try.ntmps17
    go_wp2
    go_ret
    exact ⟨rfl, rfl⟩
  · by_cases h1 : (L.length : Int) ≤ i
    · rw [cntL_no (.inr h1)]
      clear hb hrow
      go_enter Try.func17, Try.ntmps17
      go_wp2
      go_ret
      exact ⟨rfl, rfl⟩
    · obtain ⟨k, rfl⟩ := Int.eq_ofNat_of_zero_le (by omega : 0 ≤ i)
      have hk : k < L.length := by omega
      obtain ⟨g, rfl, hc, _⟩ := cells_of hrow k hk
      have c8 := hc 8 (by omega)
      rw [show (itemL L[k])[8]? = some (.int .i64 L[k].2) from rfl] at c8
      rw [cntL_nat hk]
      generalize L[k].2 = n at *
      clear hc hrow hb h0 h1
      go_enter Try.func17, Try.ntmps17
      go_wp2
      go_ret
      exact ⟨rfl, rfl⟩

/-- What a write of one count leaves. -/
theorem Rbump_end (w : World) (b : Nat) (S : Nat → Prop) (L : List Item) (g sc k : Nat) (hk : k < L.length) (n : Int) (hlt : ∀ k, S k → k < w.heap.size) (hSb : S b)
    (hb : w.heap[b]? = some (.cells #[.slice (some ⟨g, 0, none⟩) L.length sc] 30 (0, 0))) (hrow : w.ownsRow 0 52 9 (.slice (some ⟨g, 0, none⟩) L.length sc) L.length (flat L)) (hSg : S g) :
    Fr S w (w.setCell ⟨g, k * 9 + 8, none⟩ (.int .i64 n)) ∧ IsRef (w.setCell ⟨g, k * 9 + 8, none⟩ (.int .i64 n)) b S (L.set k (L[k].1, n)) := by
  have hgb : b ≠ g := by
    intro e
    have := ownsRow.ne hrow hb (by intro c; simp)
    simp [Value.ownBlock] at this
    exact this e
  obtain ⟨h1, _⟩ := hrow.stored (k * 9 + 8) (.int .i64 n)
  rw [flat_set L k hk n] at h1
  have hln : (L.set k (L[k].1, n)).length = L.length := by simp
  refine ⟨(Fr.refl S w).setCell (.inl hSg) _, fun k hk => by have := hlt k hk; simpa [World.setCell] using this, hSb, some ⟨g, 0, none⟩, sc, ?_, ?_, ?_⟩
  · rw [hln, heapSetOther _ _ hgb]; exact hb
  · rw [hln]; exact h1
  · intro j hj; rw [hln] at hj; simp [Value.ownBlock] at hj; subst hj; exact hSg

theorem is_any (b : Nat) (S : Nat → Prop) (L : List Item) (live : Int) (i : Int) (w : World) (h : IsSto w b S L live) (hn : L.length ≤ 1000) :
    Calls Try.prog 20 #[.pointer (some ⟨b, 0, none⟩), .int .i64 i] w fun e w' => e = .returned (.bool (decide (0 < cntL L i))) ∧ w = w' := by
  have H := Lib.hid (Count_any b S L live i w h hn)
  generalize cntL L i = n at *
  clear h hn
  go_enter Try.func20, Try.ntmps20
  go_wp2_with fail
  refine H.out.mono ?_
  rintro e w' ⟨rfl, rfl⟩
  go_wp2_with fail
  go_ret
  exact ⟨rfl, rfl⟩

/-- The errors' numbers. -/
def errOf (L : List Item) (i : Int) : Int := if 0 < cntL L i then 0 else 6

set_option maxHeartbeats 400000 in
theorem Hold_any (b : Nat) (S : Nat → Prop) (L : List Item) (live : Int) (i : Int) (w : World) (h : IsSto w b S L live) (hn : L.length ≤ 1000) (hbd : Bd L 1000) :
    Calls Try.prog 10 #[.pointer (some ⟨b, 0, none⟩), .int .i64 i] w fun e w' => e = .returned (.int .i64 (errOf L i)) ∧ Fr S w w' ∧ IsSto w' b S (if 0 < cntL L i then bump L i 1 else L) live := by
  have H := Lib.hid (is_any b S L live i w h hn)
  by_cases hp : 0 < cntL L i
  · have hp1 : decide (0 < cntL L i) = true := by simpa using hp
    rw [hp1] at H
    rw [if_pos hp, show errOf L i = 0 by unfold errOf; rw [if_pos hp]]
    have hi : 0 ≤ i ∧ i < L.length := by
      rcases Decidable.em (0 ≤ i ∧ i < L.length) with h | h
      · exact h
      · rw [cntL_no (by omega)] at hp; omega
    obtain ⟨k, rfl⟩ := Int.eq_ofNat_of_zero_le hi.1
    have hk : k < L.length := by omega
    rw [cntL_nat hk] at hp
    rw [bump_nat hk]
    have hbk := hbd _ (List.getElem_mem hk)
    obtain ⟨hlt, hSb, sp, sc, hb, hrow, hSr⟩ := h
    obtain ⟨g, rfl, hc, hfz⟩ := cells_of hrow k hk
    have hSg : S g := hSr g rfl
    have E := Lib.hid (bump_end w b S L live g sc k hk (L[k].2 + 1) hlt hSb hb hrow hSg)
    have c0 := cellOf hb 0
    simp at c0
    have c8 := hc 8 (by omega)
    rw [show (itemL L[k])[8]? = some (.int .i64 L[k].2) from rfl] at c8
    have f8 := hfz (k * 9 + 8)
    have hk0 : (k : Int) < (L.length : Int) := by omega
    generalize L[k].2 = n at *
    clear hc hfz hrow hb hi hlt hSr hbd hp1
    go_enter Try.func10, Try.ntmps10
    go_wp2_with fail
    refine H.out.mono ?_
    rintro e w' ⟨rfl, rfl⟩
    go_wp2_with fail
    go_ret
    exact ⟨rfl, E.out.1, E.out.2⟩
  · have hp1 : decide (0 < cntL L i) = false := by simpa using hp
    rw [hp1] at H
    rw [if_neg hp, show errOf L i = 6 by unfold errOf; rw [if_neg hp]]
    have Hh := Lib.hid h
    clear h hp hp1 hbd
    go_enter Try.func10, Try.ntmps10
    go_wp2_with fail
    refine H.out.mono ?_
    rintro e w' ⟨rfl, rfl⟩
    go_wp2_with fail
    go_ret
    exact ⟨rfl, Fr.refl _ _, Hh.out⟩

end Go.Proofs.Ytpjijcpbmljanaa
