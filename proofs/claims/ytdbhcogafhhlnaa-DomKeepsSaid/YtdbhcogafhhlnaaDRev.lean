/- slices.Reverse of whole numbers in a row of one's own: the walk. -/
import Derived.Test.YtdbhcogafhhlnaaDRAll
import Derived.BigRegion
namespace Go.Proofs.Ytdbhcogafhhlnaa
open Go.RowKit Go.Maps Go.ChangeShapes Go.WideShapes Go.ChangeAt Go.WideMaps Go.WideElems

theorem OwnsWin.set {w : World} {B e g off cap n : Nat} {xs : List Value} (h : OwnsWin w B e 1 (.slice (some ⟨g, off, none⟩) n cap) n xs) (i : Nat) (u : Value) : OwnsWin (w.setCell ⟨g, off + i, none⟩ u) B e 1 (.slice (some ⟨g, off, none⟩) n cap) n (xs.set i u) := by
  obtain ⟨h1, h2 | ⟨g', off', cap', cur, hv, hb, hg, h3, h4, h5, h6⟩⟩ := h
  · obtain ⟨hv, -⟩ := h2; cases hv
  · cases hv
    refine ⟨by simpa using h1, .inr ⟨g, off, cap, _, rfl, hb, heapSet hg _ _, h3, h4, by simpa using h5, fun j v hj => ?_⟩⟩
    rw [Array.getElem?_setIfInBounds]
    rw [List.getElem?_set] at hj
    by_cases e : i = j
    · subst e
      rw [if_pos rfl] at hj ⊢
      have hlt : i < xs.length := by
        by_cases hh : i < xs.length
        · exact hh
        · rw [if_neg hh] at hj; cases hj
      rw [if_pos hlt] at hj
      cases hj
      rw [if_pos (by omega)]
    · rw [if_neg e] at hj
      rw [if_neg (by omega)]
      exact h6 j v hj

/-- The first k and the last k exchanged. -/
def revK (l : List Int) (k : Nat) : List Int := (List.range l.length).map fun t => if t < k ∨ l.length - k ≤ t then l.getD (l.length - 1 - t) 0 else l.getD t 0
theorem revK_len (l : List Int) (k : Nat) : (revK l k).length = l.length := by simp [revK]
theorem revK_at (l : List Int) (k t : Nat) (h : t < l.length) : (revK l k)[t]? = some (if t < k ∨ l.length - k ≤ t then l.getD (l.length - 1 - t) 0 else l.getD t 0) := by
  unfold revK
  rw [List.getElem?_map, List.getElem?_range h]
  rfl
theorem revK_0 (l : List Int) : revK l 0 = l := by
  apply List.ext_getElem?
  intro t
  by_cases h : t < l.length
  · rw [revK_at l 0 t h, if_neg (by omega), List.getElem?_eq_getElem h, List.getD_eq_getElem?_getD, List.getElem?_eq_getElem h]
    rfl
  · rw [List.getElem?_eq_none (by rw [revK_len]; omega), List.getElem?_eq_none (by omega)]
theorem revK_end (l : List Int) (k : Nat) (h : l.length ≤ 2 * k + 1) : revK l k = l.reverse := by
  apply List.ext_getElem?
  intro t
  by_cases ht : t < l.length
  · rw [revK_at l k t ht, List.getElem?_reverse ht]
    by_cases h1 : t < k ∨ l.length - k ≤ t
    · rw [if_pos h1, List.getD_eq_getElem?_getD, List.getElem?_eq_getElem (by omega : l.length - 1 - t < l.length)]
      rfl
    · rw [if_neg h1, show l.length - 1 - t = t by omega, List.getD_eq_getElem?_getD, List.getElem?_eq_getElem ht]
      rfl
  · rw [List.getElem?_eq_none (by rw [revK_len]; omega), List.getElem?_eq_none (by simp; omega)]
theorem revK_step (l : List Int) (k : Nat) (h : 2 * k + 1 < l.length) : ((revK l k).set k (l.getD (l.length - 1 - k) 0)).set (l.length - 1 - k) (l.getD k 0) = revK l (k + 1) := by
  apply List.ext_getElem?
  intro t
  by_cases ht : t < l.length
  · rw [revK_at l (k + 1) t ht, List.getElem?_set, List.getElem?_set, revK_at l k t ht]
    have hl := revK_len l k
    by_cases e1 : l.length - 1 - k = t
    · rw [if_pos e1, if_pos (by rw [List.length_set, hl]; omega), if_pos (by omega)]
      congr 2
      omega
    · rw [if_neg e1]
      by_cases e2 : k = t
      · rw [if_pos e2, if_pos (by rw [hl]; omega), if_pos (by omega)]
        congr 2
        omega
      · rw [if_neg e2]
        congr 1
        by_cases e3 : t < k ∨ l.length - k ≤ t
        · rw [if_pos e3, if_pos (by omega)]
        · rw [if_neg e3, if_neg (by omega)]
  · rw [List.getElem?_eq_none (by simp [revK_len]; omega), List.getElem?_eq_none (by rw [revK_len]; omega)]

set_option maxHeartbeats 4000000 in
set_option maxRecDepth 100000 in
theorem Reverse_any (wt : World) (B g off cap : Nat) (l : List Int) (h : OwnsWin wt B 3 1 (.slice (some ⟨g, off, none⟩) l.length cap) l.length (l.map (Value.int .i64))) (hb : l.length ≤ 100000) :
    Calls Try.prog 45 #[.slice (some ⟨g, off, none⟩) l.length cap] wt fun e w' => e = .returned (.tuple #[]) ∧ OwnsWin w' B 3 1 (.slice (some ⟨g, off, none⟩) l.length cap) l.length (l.reverse.map (Value.int .i64)) ∧ Fr (fun k => k = g) wt w' := by
  have H := Lib.hid h
  obtain ⟨hc1, hc2⟩ := h.capLe rfl
  unfold maxLen at hc2
  clear h
  go_enter Try.func45, Try.ntmps45
  go_wp2
  go_loopw [2, 3] (fun i j wr => ∃ (k : Nat) (z : Int), 2 * k ≤ l.length + 1 ∧ z = (l.length : Int) - 1 - k ∧ i = .int .i64 k ∧ j = .int .i64 z ∧ Hid (OwnsWin wr B 3 1 (.slice (some ⟨g, off, none⟩) l.length cap) l.length ((revK l k).map (Value.int .i64))) ∧ Hid (Fr (fun k => k = g) wt wr)) (fun i _ _ => l.length - (intOf i).toNat)
  case atStart => exact ⟨0, _, by omega, rfl, rfl, by go_num, by rw [revK_0]; exact H.out, Fr.refl _ _⟩
  case round =>
    obtain ⟨k, z, hk, hz, rfl, rfl, hO, hF⟩ := hrel
    clear H
    by_cases hlt : 2 * k + 1 < l.length
    · obtain ⟨q, hq⟩ : ∃ q, q = l.length - 1 - k := ⟨_, rfl⟩
      obtain rfl : z = (q : Int) := by omega
      have hkq : k < q := by omega
      have hql : q < l.length := by omega
      have HQ := Lib.hid hq
      have HN := Lib.hid (revK_step l k hlt)
      rw [← hq] at HN
      obtain ⟨g', off', cap', hv, _, _, hgl, _, hcell, hfrz⟩ := hO.out.cells (by omega)
      cases hv
      have y0 := hcell k (.int .i64 (l.getD k 0)) (by rw [List.getElem?_map, revK_at l k k (by omega), if_neg (by omega)]; rfl)
      have y1 := hcell q (.int .i64 (l.getD q 0)) (by rw [List.getElem?_map, revK_at l k q (by omega), if_neg (by omega)]; rfl)
      have z0 := hfrz (off + k)
      have z1 := hfrz (off + q)
      have HS := Lib.hid ((hO.out.set k (.int .i64 (l.getD q 0))).set q (.int .i64 (l.getD k 0)))
      have HX := Lib.hid (show (((revK l k).map (Value.int .i64)).set k (.int .i64 (l.getD q 0))).set q (.int .i64 (l.getD k 0)) = (revK l (k + 1)).map (Value.int .i64) by rw [← HN.out, List.map_set, List.map_set])
      have HF2 := Lib.hid ((hF.out.setCell (p := ⟨g, off + k, none⟩) (.inl rfl) (.int .i64 (l.getD q 0))).setCell (p := ⟨g, off + q, none⟩) (.inl rfl) (.int .i64 (l.getD k 0)))
      rw [HX.out] at HS
      clear hcell hfrz HX HN hq hz hO hF
      generalize l.getD k 0 = u0 at *
      generalize l.getD q 0 = u1 at *
      have i0 : (k : Int) < (q : Int) := by omega
      have i1 : (k : Int) < (l.length : Int) := by omega
      have i2 : (q : Int) < (l.length : Int) := by omega
      go_wp2_with fail
      go_region
      all_goals
        go_wp2_with fail
        go_roundw
        case rel => exact ⟨k + 1, (q : Int) - 1, by omega, by have := HQ.out; omega, by go_num, rfl, HS.out.fr (Fr.refl (fun _ => False) _).drew (by simp), HF2.out.drew⟩
        case measure => simp [intOf]; omega
    · have HE := Lib.hid (revK_end l k (by omega))
      have q1 : ¬ ((k : Int) < z) := by omega
      rw [HE.out] at hO
      go_wp2_with fail
      go_end0
      exact ⟨rfl, by rw [← List.map_reverse]; exact hO.out, hF.out⟩
end Go.Proofs.Ytdbhcogafhhlnaa
