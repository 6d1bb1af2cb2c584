/- dear: a bound of a selector's cost, and that its parts are few. No condition but the depth. -/
import Derived.Test.YtfhojfndccelfaaSels
namespace Go.Proofs.Ytfhojfndccelfaa
open Go.RowKit Go.Maps Go.ChangeShapes Go.WideShapes Go.ChangeAt Go.WideMaps Go.WideElems

def bnd : Nat → Int
  | 0 => 100
  | k + 1 => 3 * bnd k + 110
theorem bnd_le (k : Nat) (h : k ≤ 11) : bnd k ≤ 100000000 := by
  have : ∀ k, k ≤ 11 → bnd k ≤ 100000000 := by decide
  exact this k h
theorem bnd_ge : ∀ k, 100 ≤ bnd k
  | 0 => by simp [bnd]
  | k + 1 => by have := bnd_ge k; simp only [bnd]; omega

set_option maxRecDepth 100000 in
set_option maxHeartbeats 8000000 in
theorem dear_any (k : Nat) : k ≤ 11 → ∀ (deep : Int), deep + k = 11 → ∀ (N : Nat) (w : World) (p : Option Addr) (c : Nat) (l : List (List Prt)), RowR 1 (SelX (SelsV N)) w (.slice p l.length c) l →
    Calls Try.prog 37 #[.slice p l.length c, .int .i64 deep] w fun e w' => ∃ r : Int, e = .returned (.int .i64 r) ∧ 0 ≤ r ∧ r ≤ bnd k ∧ Fr (fun _ => False) w w' ∧ (r ≤ 40 → ∀ ps ∈ l, PrtOk ps) := by
  induction k with
  | zero =>
    intro hk deep hd N w p c l h
    obtain rfl : deep = 11 := by omega
    go_enter Try.func37, Try.ntmps37
    go_wp2_with fail
    go_ret
    exact ⟨100, rfl, by omega, by simp [bnd], Fr.refl _ _, by omega⟩
  | succ k ih =>
    intro hk deep hd N w p c l h
    have hbk0 := bnd_ge k
    have hbB := bnd_le (k + 1) hk
    have IH := Lib.hid (ih (by omega) (deep + 1) (by omega))
    clear ih
    simp only [bnd] at hbB ⊢
    generalize bnd k = bk at *
    have HL := Lib.hid h
    have hlm : l.length ≤ 9223372036854775807 := by
      obtain ⟨_, _, _, h1, h2, _⟩ := h
      unfold maxLen at h2
      omega
    clear h
    have d0 : decide ((10 : Int) < deep) = false := decide_eq_false (by omega)
    have hd0 : 0 ≤ deep := by omega
    go_enter Try.func37, Try.ntmps37
    go_wp2_with fail
    go_loopw [5, 6] (fun v i wr => ∃ (n0 : Int) (j : Nat), v = .int .i64 n0 ∧ i = .int .i64 j ∧ j ≤ l.length ∧ 0 ≤ n0 ∧ n0 ≤ 3 * bk + 110 ∧ Hid (Fr (fun _ => False) w wr) ∧ Hid (n0 < 100 → ∀ i ps, i < j → l[i]? = some ps → PrtOk ps)) (fun _ i _ => l.length - (intOf i).toNat)
    case atStart => exact ⟨0, 0, rfl, rfl, by omega, by omega, by omega, Lib.hid (Fr.refl _ _), Lib.hid (fun _ i x h => by omega)⟩
    case round =>
      obtain ⟨n0, j, rfl, rfl, hj, hn00, hn0B, hF, HLK⟩ := hrel
      by_cases hlt : j < l.length
      · have e1 : decide ((j : Int) < (l.length : Int)) = true := decide_eq_true (by omega)
        by_cases hn : n0 < 100
        · have e2 : decide (n0 < (100 : Int)) = true := decide_eq_true hn
          obtain ⟨ps, hx⟩ : ∃ ps, l[j]? = some ps := ⟨l[j], List.getElem?_eq_getElem hlt⟩
          obtain ⟨g, off, q, d, rfl, -, hg, a0, hps⟩ := sel_at HL.out hx
          have x0 := (hF.out.cell (p := ⟨g, off + j, none⟩) hg (by simp)).trans a0
          have hj2 : (j : Int) < (l.length : Int) := by omega
          have HX := Lib.hid hx
          have HPS := Lib.hid hps
          clear a0 hg hps hx
          by_cases h12 : 12 < ps.length
          · have q12 : decide ((12 : Int) < (ps.length : Int)) = true := decide_eq_true (by omega)
            by_cases h50 : ps.length < 50
            · have q50 : decide ((ps.length : Int) < (50 : Int)) = true := decide_eq_true (by omega)
              go_wp2_with fail
              go_ret
              exact ⟨100, rfl, by omega, by omega, hF.out, by omega⟩
            · have q50 : decide ((ps.length : Int) < (50 : Int)) = false := decide_eq_false (by omega)
              by_cases h60 : 60 < ps.length
              · have q60 : decide ((60 : Int) < (ps.length : Int)) = true := decide_eq_true (by omega)
                go_wp2_with fail
                go_ret
                exact ⟨100, rfl, by omega, by omega, hF.out, by omega⟩
              · have q60 : decide ((60 : Int) < (ps.length : Int)) = false := decide_eq_false (by omega)
                go_wp2_with fail
                go_loopw [5, 8] (fun v i wm => ∃ (n1 : Int) (k : Nat), v = .int .i64 n1 ∧ i = .int .i64 k ∧ k ≤ ps.length ∧ n0 ≤ n1 ∧ 0 ≤ n1 ∧ n1 ≤ 3 * bk + 110 ∧ Hid (Fr (fun _ => False) w wm) ∧ Hid (n1 < 100 → ∀ i x, i < k → ps[i]? = some x → x.ids.length ≤ 5 ∧ x.cls.length ≤ 5)) (fun _ i _ => ps.length - (intOf i).toNat)
                case atStart => exact ⟨_, 0, by go_num, rfl, by omega, by omega, by omega, by omega, hF, Lib.hid (fun _ i x h => by omega)⟩
                case round =>
                  clear hF
                  obtain ⟨n1, k, rfl, rfl, hk, hn01, hn10, hn1B, hFm, HPK⟩ := hrel
                  by_cases hklt : k < ps.length
                  · have d1 : decide ((k : Int) < (ps.length : Int)) = true := decide_eq_true (by omega)
                    by_cases hn1 : n1 < 100
                    · have d2 : decide (n1 < (100 : Int)) = true := decide_eq_true hn1
                      obtain ⟨y, hy⟩ : ∃ y, ps[k]? = some y := ⟨ps[k], List.getElem?_eq_getElem hklt⟩
                      obtain ⟨g, off, qi, qc, qa, qp, di, dc, ma, da, dp, qs, rfl, -, hg, b0, b1, b2, b3, b4, b5, hqs⟩ := partx_at HPS.out hy
                      have y1 := (hFm.out.cell (p := ⟨g, off + k * 6 + 1, none⟩) hg (by simp)).trans b1
                      have y2 := (hFm.out.cell (p := ⟨g, off + k * 6 + 1 + 1, none⟩) hg (by simp)).trans b2
                      have y3 := (hFm.out.cell (p := ⟨g, off + k * 6 + 1 + 2, none⟩) hg (by simp)).trans b3
                      have y4 := (hFm.out.cell (p := ⟨g, off + k * 6 + 1 + 3, none⟩) hg (by simp)).trans b4
                      have y5 := (hFm.out.cell (p := ⟨g, off + k * 6 + 1 + 4, none⟩) hg (by simp)).trans b5
                      have HQ := Lib.hid hqs
                      have HY := Lib.hid hy
                      have hk2 : (k : Int) < (ps.length : Int) := by omega
                      have HCB := Lib.hid (show (wr.alloc (.cells #[.string y.tag, .slice qi y.ids.length di, .slice qc y.cls.length dc, .slice qa ma da, .slice qp qs.length dp] 73)).heap[wr.heap.size]? = some (.cells #[.string y.tag, .slice qi y.ids.length di, .slice qc y.cls.length dc, .slice qa ma da, .slice qp qs.length dp] 73 (0, 0)) from heapNew _ _)
                      have HFw := Lib.hid (hFm.out.alloc (.cells #[.string y.tag, .slice qi y.ids.length di, .slice qc y.cls.length dc, .slice qa ma da, .slice qp qs.length dp] 73))
                      clear b0 b1 b2 b3 b4 b5 hqs hy hg
                      go_upto_region 15 with fail
                      generalize wr.alloc (.cells #[.string y.tag, .slice qi y.ids.length di, .slice qc y.cls.length dc, .slice qa ma da, .slice qp qs.length dp] 73) = wc at *
                      generalize wr.heap.size = cb at *
                      have x1 := cellOf HCB.out 1
                      have x2 := cellOf HCB.out 2
                      have x3 := cellOf HCB.out 3
                      have x4 := cellOf HCB.out 4
                      simp at x1 x2 x3 x4
                      clear y1 y2 y3 y4 y5
                      by_cases hi5 : 5 < y.ids.length
                      · have f1 : decide ((5 : Int) < (y.ids.length : Int)) = true := decide_eq_true (by omega)
                        go_wp2_with fail
                        go_ret
                        exact ⟨100, rfl, by omega, by omega, HFw.out, by omega⟩
                      · have f1 : decide ((5 : Int) < (y.ids.length : Int)) = false := decide_eq_false (by omega)
                        by_cases hc5 : 5 < y.cls.length
                        · have f2 : decide ((5 : Int) < (y.cls.length : Int)) = true := decide_eq_true (by omega)
                          go_wp2_with fail
                          go_ret
                          exact ⟨100, rfl, by omega, by omega, HFw.out, by omega⟩
                        · have f2 : decide ((5 : Int) < (y.cls.length : Int)) = false := decide_eq_false (by omega)
                          by_cases ha5 : 5 < ma
                          · have f3 : decide ((5 : Int) < (ma : Int)) = true := decide_eq_true (by omega)
                            go_wp2_with fail
                            go_ret
                            exact ⟨100, rfl, by omega, by omega, HFw.out, by omega⟩
                          · have f3 : decide ((5 : Int) < (ma : Int)) = false := decide_eq_false (by omega)
                            by_cases hp5 : 5 < qs.length
                            · have f4 : decide ((5 : Int) < (qs.length : Int)) = true := decide_eq_true (by omega)
                              go_wp2_with fail
                              go_ret
                              exact ⟨100, rfl, by omega, by omega, HFw.out, by omega⟩
                            · have f4 : decide ((5 : Int) < (qs.length : Int)) = false := decide_eq_false (by omega)
                              go_wp2_with fail
                              go_loopw [5, 10] (fun v i wx => ∃ (n2 : Int) (m : Nat), v = .int .i64 n2 ∧ i = .int .i64 m ∧ m ≤ qs.length ∧ n1 ≤ n2 ∧ 0 ≤ n2 ∧ n2 ≤ 3 * bk + 110 ∧ Hid (Fr (fun _ => False) wc wx)) (fun _ i _ => qs.length - (intOf i).toNat)
                              case atStart => exact ⟨_, 0, by go_num, rfl, by omega, by omega, by omega, by omega, Lib.hid (Fr.refl _ _)⟩
                              case round =>
                                obtain ⟨n2, m, rfl, rfl, hm, hn1, hn0', hnB', hFx⟩ := hrel
                                have hb := (hFx.out.cell (p := ⟨cb, 4, none⟩) (ltOf HCB.out) (by simp)).trans (cellOf HCB.out 4)
                                simp at hb
                                by_cases hmlt : m < qs.length
                                · have e1 : decide ((m : Int) < (qs.length : Int)) = true := decide_eq_true (by omega)
                                  by_cases hn2 : n2 < 100
                                  · have e2 : decide (n2 < (100 : Int)) = true := decide_eq_true hn2
                                    obtain ⟨g7, off7, v7, rfl, -, hg7, a7, hv7⟩ := ps_at HQ.out hmlt
                                    have F7 := Lib.hid (HFw.out.trans hFx.out)
                                    have z7 := (F7.out.cell (p := ⟨g7, off7 + m * 4 + 3, none⟩) hg7 (by simp)).trans a7
                                    obtain ⟨N', l', hl'⟩ : ∃ N' l', RowR 1 (SelX (SelsV N')) w v7 l' := by
                                      cases N with
                                      | zero => exact hv7.elim
                                      | succ N' => exact ⟨N', hv7⟩
                                    obtain ⟨p', c', e', _⟩ := id hl'
                                    subst e'
                                    have HI := Lib.hid (IH.out N' _ p' c' l' (RowR.below hl' (F7.out.below (Nat.le_refl _) (by simp)) (fun _ _ h => SelX.fr F7.out (SelsV.fr F7.out) h)))
                                    have hm2 : (m : Int) < (qs.length : Int) := by omega
                                    clear a7 hl' hv7 hg7
                                    go_wp2_with (go_at_call 37; refine HI.out.mono ?_; rintro e w' ⟨r, rfl, hr0, hrB, fr, -⟩; have hFx' := Lib.hid (hFx.out.trans fr); clear fr)
                                    go_roundw
                                    case rel => exact ⟨n2 + 3 * r, m + 1, by go_num, by go_num, by omega, by omega, by omega, by omega, hFx'⟩
                                    case measure => simp [intOf]; omega
                                  · have e2 : decide (n2 < (100 : Int)) = false := decide_eq_false hn2
                                    have HFm := Lib.hid (HFw.out.trans hFx.out)
                                    clear hFx
                                    go_wp2_with fail
                                    go_roundw
                                    case rel => exact ⟨n2, k + 1, rfl, by go_num, by omega, by omega, by omega, by omega, HFm, Lib.hid (fun hl i x hi hx => by
                                      rcases Nat.lt_or_ge i k with h | h
                                      · exact HPK.out (by omega) i x h hx
                                      · obtain rfl : i = k := by omega
                                        rw [HY.out] at hx
                                        cases hx
                                        exact ⟨by omega, by omega⟩)⟩
                                    case measure => simp [intOf]; omega
                                · have e1 : decide ((m : Int) < (qs.length : Int)) = false := decide_eq_false (by omega)
                                  have HFm := Lib.hid (HFw.out.trans hFx.out)
                                  clear hFx
                                  go_wp2_with fail
                                  go_roundw
                                  case rel => exact ⟨n2, k + 1, rfl, by go_num, by omega, by omega, by omega, by omega, HFm, Lib.hid (fun hl i x hi hx => by
                                    rcases Nat.lt_or_ge i k with h | h
                                    · exact HPK.out (by omega) i x h hx
                                    · obtain rfl : i = k := by omega
                                      rw [HY.out] at hx
                                      cases hx
                                      exact ⟨by omega, by omega⟩)⟩
                                  case measure => simp [intOf]; omega
                    · have d2 : decide (n1 < (100 : Int)) = false := decide_eq_false hn1
                      go_wp2_with fail
                      go_roundw
                      case rel => exact ⟨n1, j + 1, rfl, by go_num, by omega, by omega, by omega, hFm, Lib.hid (fun hl i x hi hx => by
                        rcases Nat.lt_or_ge i j with h | h
                        · exact HLK.out (by omega) i x h hx
                        · obtain rfl : i = j := by omega
                          rw [HX.out] at hx
                          cases hx
                          omega)⟩
                      case measure => simp [intOf]; omega
                  · have d1 : decide ((k : Int) < (ps.length : Int)) = false := decide_eq_false (by omega)
                    go_wp2_with fail
                    go_roundw
                    case rel => exact ⟨n1, j + 1, rfl, by go_num, by omega, by omega, by omega, hFm, Lib.hid (fun hl i x hi hx => by
                      rcases Nat.lt_or_ge i j with h | h
                      · exact HLK.out (by omega) i x h hx
                      · obtain rfl : i = j := by omega
                        rw [HX.out] at hx
                        cases hx
                        refine ⟨by omega, fun p hp => ?_⟩
                        obtain ⟨t, ht⟩ := List.mem_iff_getElem?.1 hp
                        have htl := (List.getElem?_eq_some_iff.1 ht).1
                        exact HPK.out hl t p (by omega) ht)⟩
                    case measure => simp [intOf]; omega
          · have q12 : decide ((12 : Int) < (ps.length : Int)) = false := decide_eq_false (by omega)
            have q60 : decide ((60 : Int) < (ps.length : Int)) = false := decide_eq_false (by omega)
            go_wp2_with fail
            go_loopw [5, 8] (fun v i wm => ∃ (n1 : Int) (k : Nat), v = .int .i64 n1 ∧ i = .int .i64 k ∧ k ≤ ps.length ∧ n0 ≤ n1 ∧ 0 ≤ n1 ∧ n1 ≤ 3 * bk + 110 ∧ Hid (Fr (fun _ => False) w wm) ∧ Hid (n1 < 100 → ∀ i x, i < k → ps[i]? = some x → x.ids.length ≤ 5 ∧ x.cls.length ≤ 5)) (fun _ i _ => ps.length - (intOf i).toNat)
            case atStart => exact ⟨_, 0, by go_num, rfl, by omega, by omega, by omega, by omega, hF, Lib.hid (fun _ i x h => by omega)⟩
            case round =>
              clear hF
              obtain ⟨n1, k, rfl, rfl, hk, hn01, hn10, hn1B, hFm, HPK⟩ := hrel
              by_cases hklt : k < ps.length
              · have d1 : decide ((k : Int) < (ps.length : Int)) = true := decide_eq_true (by omega)
                by_cases hn1 : n1 < 100
                · have d2 : decide (n1 < (100 : Int)) = true := decide_eq_true hn1
                  obtain ⟨y, hy⟩ : ∃ y, ps[k]? = some y := ⟨ps[k], List.getElem?_eq_getElem hklt⟩
                  obtain ⟨g, off, qi, qc, qa, qp, di, dc, ma, da, dp, qs, rfl, -, hg, b0, b1, b2, b3, b4, b5, hqs⟩ := partx_at HPS.out hy
                  have y1 := (hFm.out.cell (p := ⟨g, off + k * 6 + 1, none⟩) hg (by simp)).trans b1
                  have y2 := (hFm.out.cell (p := ⟨g, off + k * 6 + 1 + 1, none⟩) hg (by simp)).trans b2
                  have y3 := (hFm.out.cell (p := ⟨g, off + k * 6 + 1 + 2, none⟩) hg (by simp)).trans b3
                  have y4 := (hFm.out.cell (p := ⟨g, off + k * 6 + 1 + 3, none⟩) hg (by simp)).trans b4
                  have y5 := (hFm.out.cell (p := ⟨g, off + k * 6 + 1 + 4, none⟩) hg (by simp)).trans b5
                  have HQ := Lib.hid hqs
                  have HY := Lib.hid hy
                  have hk2 : (k : Int) < (ps.length : Int) := by omega
                  have HCB := Lib.hid (show (wr.alloc (.cells #[.string y.tag, .slice qi y.ids.length di, .slice qc y.cls.length dc, .slice qa ma da, .slice qp qs.length dp] 73)).heap[wr.heap.size]? = some (.cells #[.string y.tag, .slice qi y.ids.length di, .slice qc y.cls.length dc, .slice qa ma da, .slice qp qs.length dp] 73 (0, 0)) from heapNew _ _)
                  have HFw := Lib.hid (hFm.out.alloc (.cells #[.string y.tag, .slice qi y.ids.length di, .slice qc y.cls.length dc, .slice qa ma da, .slice qp qs.length dp] 73))
                  clear b0 b1 b2 b3 b4 b5 hqs hy hg
                  go_upto_region 15 with fail
                  generalize wr.alloc (.cells #[.string y.tag, .slice qi y.ids.length di, .slice qc y.cls.length dc, .slice qa ma da, .slice qp qs.length dp] 73) = wc at *
                  generalize wr.heap.size = cb at *
                  have x1 := cellOf HCB.out 1
                  have x2 := cellOf HCB.out 2
                  have x3 := cellOf HCB.out 3
                  have x4 := cellOf HCB.out 4
                  simp at x1 x2 x3 x4
                  clear y1 y2 y3 y4 y5
                  by_cases hi5 : 5 < y.ids.length
                  · have f1 : decide ((5 : Int) < (y.ids.length : Int)) = true := decide_eq_true (by omega)
                    go_wp2_with fail
                    go_ret
                    exact ⟨100, rfl, by omega, by omega, HFw.out, by omega⟩
                  · have f1 : decide ((5 : Int) < (y.ids.length : Int)) = false := decide_eq_false (by omega)
                    by_cases hc5 : 5 < y.cls.length
                    · have f2 : decide ((5 : Int) < (y.cls.length : Int)) = true := decide_eq_true (by omega)
                      go_wp2_with fail
                      go_ret
                      exact ⟨100, rfl, by omega, by omega, HFw.out, by omega⟩
                    · have f2 : decide ((5 : Int) < (y.cls.length : Int)) = false := decide_eq_false (by omega)
                      by_cases ha5 : 5 < ma
                      · have f3 : decide ((5 : Int) < (ma : Int)) = true := decide_eq_true (by omega)
                        go_wp2_with fail
                        go_ret
                        exact ⟨100, rfl, by omega, by omega, HFw.out, by omega⟩
                      · have f3 : decide ((5 : Int) < (ma : Int)) = false := decide_eq_false (by omega)
                        by_cases hp5 : 5 < qs.length
                        · have f4 : decide ((5 : Int) < (qs.length : Int)) = true := decide_eq_true (by omega)
                          go_wp2_with fail
                          go_ret
                          exact ⟨100, rfl, by omega, by omega, HFw.out, by omega⟩
                        · have f4 : decide ((5 : Int) < (qs.length : Int)) = false := decide_eq_false (by omega)
                          go_wp2_with fail
                          go_loopw [5, 10] (fun v i wx => ∃ (n2 : Int) (m : Nat), v = .int .i64 n2 ∧ i = .int .i64 m ∧ m ≤ qs.length ∧ n1 ≤ n2 ∧ 0 ≤ n2 ∧ n2 ≤ 3 * bk + 110 ∧ Hid (Fr (fun _ => False) wc wx)) (fun _ i _ => qs.length - (intOf i).toNat)
                          case atStart => exact ⟨_, 0, by go_num, rfl, by omega, by omega, by omega, by omega, Lib.hid (Fr.refl _ _)⟩
                          case round =>
                            obtain ⟨n2, m, rfl, rfl, hm, hn1, hn0', hnB', hFx⟩ := hrel
                            have hb := (hFx.out.cell (p := ⟨cb, 4, none⟩) (ltOf HCB.out) (by simp)).trans (cellOf HCB.out 4)
                            simp at hb
                            by_cases hmlt : m < qs.length
                            · have e1 : decide ((m : Int) < (qs.length : Int)) = true := decide_eq_true (by omega)
                              by_cases hn2 : n2 < 100
                              · have e2 : decide (n2 < (100 : Int)) = true := decide_eq_true hn2
                                obtain ⟨g7, off7, v7, rfl, -, hg7, a7, hv7⟩ := ps_at HQ.out hmlt
                                have F7 := Lib.hid (HFw.out.trans hFx.out)
                                have z7 := (F7.out.cell (p := ⟨g7, off7 + m * 4 + 3, none⟩) hg7 (by simp)).trans a7
                                obtain ⟨N', l', hl'⟩ : ∃ N' l', RowR 1 (SelX (SelsV N')) w v7 l' := by
                                  cases N with
                                  | zero => exact hv7.elim
                                  | succ N' => exact ⟨N', hv7⟩
                                obtain ⟨p', c', e', _⟩ := id hl'
                                subst e'
                                have HI := Lib.hid (IH.out N' _ p' c' l' (RowR.below hl' (F7.out.below (Nat.le_refl _) (by simp)) (fun _ _ h => SelX.fr F7.out (SelsV.fr F7.out) h)))
                                have hm2 : (m : Int) < (qs.length : Int) := by omega
                                clear a7 hl' hv7 hg7
                                go_wp2_with (go_at_call 37; refine HI.out.mono ?_; rintro e w' ⟨r, rfl, hr0, hrB, fr, -⟩; have hFx' := Lib.hid (hFx.out.trans fr); clear fr)
                                go_roundw
                                case rel => exact ⟨n2 + 3 * r, m + 1, by go_num, by go_num, by omega, by omega, by omega, by omega, hFx'⟩
                                case measure => simp [intOf]; omega
                              · have e2 : decide (n2 < (100 : Int)) = false := decide_eq_false hn2
                                have HFm := Lib.hid (HFw.out.trans hFx.out)
                                clear hFx
                                go_wp2_with fail
                                go_roundw
                                case rel => exact ⟨n2, k + 1, rfl, by go_num, by omega, by omega, by omega, by omega, HFm, Lib.hid (fun hl i x hi hx => by
                                  rcases Nat.lt_or_ge i k with h | h
                                  · exact HPK.out (by omega) i x h hx
                                  · obtain rfl : i = k := by omega
                                    rw [HY.out] at hx
                                    cases hx
                                    exact ⟨by omega, by omega⟩)⟩
                                case measure => simp [intOf]; omega
                            · have e1 : decide ((m : Int) < (qs.length : Int)) = false := decide_eq_false (by omega)
                              have HFm := Lib.hid (HFw.out.trans hFx.out)
                              clear hFx
                              go_wp2_with fail
                              go_roundw
                              case rel => exact ⟨n2, k + 1, rfl, by go_num, by omega, by omega, by omega, by omega, HFm, Lib.hid (fun hl i x hi hx => by
                                rcases Nat.lt_or_ge i k with h | h
                                · exact HPK.out (by omega) i x h hx
                                · obtain rfl : i = k := by omega
                                  rw [HY.out] at hx
                                  cases hx
                                  exact ⟨by omega, by omega⟩)⟩
                              case measure => simp [intOf]; omega
                · have d2 : decide (n1 < (100 : Int)) = false := decide_eq_false hn1
                  go_wp2_with fail
                  go_roundw
                  case rel => exact ⟨n1, j + 1, rfl, by go_num, by omega, by omega, by omega, hFm, Lib.hid (fun hl i x hi hx => by
                    rcases Nat.lt_or_ge i j with h | h
                    · exact HLK.out (by omega) i x h hx
                    · obtain rfl : i = j := by omega
                      rw [HX.out] at hx
                      cases hx
                      omega)⟩
                  case measure => simp [intOf]; omega
              · have d1 : decide ((k : Int) < (ps.length : Int)) = false := decide_eq_false (by omega)
                go_wp2_with fail
                go_roundw
                case rel => exact ⟨n1, j + 1, rfl, by go_num, by omega, by omega, by omega, hFm, Lib.hid (fun hl i x hi hx => by
                  rcases Nat.lt_or_ge i j with h | h
                  · exact HLK.out (by omega) i x h hx
                  · obtain rfl : i = j := by omega
                    rw [HX.out] at hx
                    cases hx
                    refine ⟨by omega, fun p hp => ?_⟩
                    obtain ⟨t, ht⟩ := List.mem_iff_getElem?.1 hp
                    have htl := (List.getElem?_eq_some_iff.1 ht).1
                    exact HPK.out hl t p (by omega) ht)⟩
                case measure => simp [intOf]; omega
        · have e2 : decide (n0 < (100 : Int)) = false := decide_eq_false hn
          go_wp2_with fail
          go_ret
          exact ⟨n0, rfl, by omega, by omega, hF.out, by omega⟩
      · have e1 : decide ((j : Int) < (l.length : Int)) = false := decide_eq_false (by omega)
        go_wp2_with fail
        go_ret
        refine ⟨n0, rfl, by omega, by omega, hF.out, fun h ps hps => ?_⟩
        obtain ⟨t, ht⟩ := List.mem_iff_getElem?.1 hps
        have htl := (List.getElem?_eq_some_iff.1 ht).1
        exact HLK.out (by omega) t ps (by omega) ht

theorem Dear_any (w : World) (p : Option Addr) (c : Nat) (l : List (List Prt)) (h : Sels w (.slice p l.length c) l) :
    Calls Try.prog 17 #[.slice p l.length c] w fun e w' => ∃ b : Bool, e = .returned (.bool b) ∧ Fr (fun _ => False) w w' ∧ (b = false → ∀ ps ∈ l, PrtOk ps) := by
  obtain ⟨N, h⟩ := h
  have HD := Lib.hid (dear_any 11 (by omega) 0 (by omega) N w p c l h)
  clear h
  go_enter Try.func17, Try.ntmps17
  go_wp2_with (go_at_call 37; refine HD.out.mono ?_; rintro e w' ⟨r, rfl, hr0, hrB, fr, HH⟩; have F := Lib.hid fr; have HR := Lib.hid HH; clear fr HH)
  go_ret
  refine ⟨_, rfl, F.out, fun h => HR.out ?_⟩
  simpa using h
end Go.Proofs.Ytfhojfndccelfaa
