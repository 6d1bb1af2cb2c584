/- alive, the reference's Of, and the law AtomEach. -/
import Derived.Test.YtplbbfpkmhediaaFns
namespace Go.Proofs.Ytplbbfpkmhediaa
open Go.RowKit Go.Maps Go.ChangeShapes Go.WideShapes Go.ChangeAt Go.WideMaps Go.WideElems

theorem ROf_any (b : Nat) (S : Nat → Prop) (xs : List ByteArray) (s : ByteArray) (w : World) (ht : IsRef w b S xs) (hn : xs.length ≤ 1000) :
    Calls Try.prog 10 #[.pointer (some ⟨b, 0, none⟩), .string s] w fun e w' => e = .returned (.tuple #[.int .i64 ((ins xs s).idxOf s : Nat), .bool true]) ∧ Fr S w w' ∧ IsRef w' b (Gr S w w') (ins xs s) := by
  have hf := Lib.hid (RFind_any b S xs s w ht hn)
  obtain ⟨i0, hi, hz0, hz1, hz2⟩ := info_parts info9
  have Hht := Lib.hid ht
  obtain ⟨hlt, hSb, sp, sc, hb, hrow, hSr⟩ := ht
  by_cases hin : s ∈ xs
  · have e : ins xs s = xs := by simp [ins, hin]
    have e2 : (decide (s ∈ xs)) = true := by simpa using hin
    rw [e]
    clear hb hrow hSr hlt
    have E2 := Lib.hid e2
    clear e2 hin
    go_enter Try.func10, Try.ntmps10
    go_wp2_with fail
    refine hf.out.mono ?_
    rintro e w' ⟨rfl, rfl⟩
    rw [E2.out]
    go_wp2_with fail
    go_ret2
    have hin : s ∈ xs := by simpa using E2.out
    refine ⟨by simp [fnd, hin], Fr.refl _ _, ?_⟩
    obtain ⟨hl, hm, sp, sc, h1, h2, h3⟩ := Hht.out
    exact ⟨Gr.lt hl (Nat.le_refl _), .inl hm, sp, sc, h1, h2, fun k hk => .inl (h3 k hk)⟩
  · have e : ins xs s = xs ++ [s] := by simp [ins, hin]
    have e2 : (decide (s ∈ xs)) = false := by simpa using hin
    rw [e, idxOf_snoc_new hin]
    have hge : decide ((65536 : Int) ≤ (xs.length : Int)) = false := by simp; omega
    have hrb : some b ≠ (Value.slice sp xs.length sc).ownBlock := ownsRow.ne hrow hb (by intro c; simp)
    have E2 := Lib.hid e2
    clear e2 hin e
    have c0 := cellOf hb 0
    have f1 := frozenOf hb 0
    simp at c0
    go_enter Try.func10, Try.ntmps10
    go_wp2_with fail
    refine hf.out.mono ?_
    rintro e w' ⟨rfl, rfl⟩
    rw [E2.out]
    go_wp2_with (first
      | (at_builtin; refine wpList_append_own_at _ rfl _ _ 22 rfl 0 9 i0 (.string ByteArray.empty) 1 16 Try.underlying22 hi hz0 hz1 hz2 rfl (by decide) (.slice sp xs.length sc) _ _ rfl (hrow.alloc _) ⟨w.heap.size, 0, none⟩ 1 1 [.string s] rfl rfl (cell_one_new _ _ _) (by simp [Value.oneCell']) (by unfold maxLen; omega) (by omega) (by omega) ?_; intro v' w3 hown3 hgrow3 _ hloc; obtain ⟨sp', sc', rfl⟩ := ownsRow.shape hown3; have f3 := ((Fr.refl S w).alloc _).grown hgrow3 (fun k e => .inl (hSr k e)); have hb3 := heapGrown hgrow3 (heapAlloc hb) hrb; clear c0 f1 hrow hgrow3 hb; have c0 := cellOf hb3 0; have f1 := frozenOf hb3 0; simp at c0)
      | go_in)
    go_ret2
    have hb4 := heapSet hb3 0 (.slice sp' (xs.length + 1) sc')
    have hne : some b ≠ (Value.slice sp' (xs.length + 1) sc').ownBlock := ownsRow.ne hown3 hb3 (by intro c; simp)
    have hmem : Gr S w (w3.setCell ⟨b, 0, none⟩ (.slice sp' (xs.length + 1) sc')) b := .inl hSb
    have hf := f3.setCell (p := ⟨b, 0, none⟩) (.inl hSb) (.slice sp' (xs.length + 1) sc')
    have hln : (xs ++ [s]).length = xs.length + 1 := by simp
    refine ⟨rfl, hf, fun k hk => Gr.lt hlt hf.size k hk, hmem, sp', sc', ?_, ?_, ?_⟩
    · rw [hln]; simpa using hb4
    · rw [hln]
      have := ownsRow.fr hown3 ((Fr.refl (fun k => k = b) w3).setCell (p := ⟨b, 0, none⟩) (.inl rfl) (.slice sp' (xs.length + 1) sc')) (fun k hk e => hne (by rw [hk, e]))
      simpa [strsV] using this
    · intro k hk
      rw [hln] at hk
      rcases hloc with h | h
      · exact .inl (hSr k (by rw [← h]; exact hk))
      · refine .inr ?_
        have hlt3 := (hown3.lt _ hk).2
        rw [h] at hk
        simp at hk
        refine ⟨by omega, ?_⟩
        simpa [World.setCell] using hlt3

def nA : ByteArray := ⟨#[97]⟩
def nB : ByteArray := ⟨#[98]⟩

theorem insA : ins [] nA = [nA] := by simp [ins]
theorem insB : ins [nA] nB = [nA, nB] := by simp [ins, show nB ≠ nA by decide]
theorem insC : ins [nA, nB] nA = [nA, nB] := by simp [ins]
theorem ix1 : [nA].idxOf nA = 0 := by simp
theorem ix2 : [nA, nB].idxOf nB = 1 := by decide
theorem ix3 : [nA, nB].idxOf nA = 0 := by decide

theorem alive_any (w : World) : Calls Try.prog 6 #[] w fun e w' => e = .returned (.bool true) ∧ Below w.heap.size w w' := by
  go_enter Try.func6, Try.ntmps6
  go_wp2_with fail
  have t0 := IsTab.new w
  refine (Of_any _ _ _ nA _ t0 (by decide) (by simp)).mono ?_
  rintro e w1 ⟨rfl, f1, t1⟩
  rw [insA] at t1 ⊢
  rw [ix1]
  have g1 : Below w.heap.size w w1 := (Fr.below ((Fr.refl (fun k => k = w.heap.size) w).alloc _ |>.trans f1) (Nat.le_refl _) (fun k hk => by omega))
  go_wp2_with fail
  refine (Of_any _ _ _ nB _ t1 (by decide) (by simp)).mono ?_
  rintro e w2 ⟨rfl, f2, t2⟩
  rw [insB] at t2 ⊢
  rw [ix2]
  have g2 : Below w.heap.size w w2 := g1.trans (f2.below (g1.size) (fun k hk => by intro h; rcases h with h | h; omega; simp at h; omega))
  go_wp2_with fail
  refine (Of_any _ _ _ nA _ t2 (by decide) (by simp)).mono ?_
  rintro e w3 ⟨rfl, f3, t3⟩
  rw [insC] at t3 ⊢
  rw [ix3]
  have g3 : Below w.heap.size w w3 := g2.trans (f3.below (g2.size) (fun k hk => by intro h; rcases h with (h | h) | h; omega; simp at h; omega; have := g1.size; omega))
  go_wp2_with fail
  go_ret
  exact ⟨rfl, g3⟩

end Go.Proofs.Ytplbbfpkmhediaa
