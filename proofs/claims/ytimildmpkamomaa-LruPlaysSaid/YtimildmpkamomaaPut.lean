/- put: an entry is put first. -/
import Derived.Test.YtimildmpkamomaaCac
import Derived.Deep.RegionLaw
import Derived.IntWalk
namespace Go.Proofs.Ytimildmpkamomaa
open Go.RowKit Go.Maps Go.ChangeShapes Go.WideShapes Go.ChangeAt Go.WideMaps Go.WideElems

set_option maxHeartbeats 4000000 in
set_option maxRecDepth 100000 in
theorem put_any (b : Nat) (S : Nat → Prop) (size : Int) (E : List Ent) (k v : Int) (w : World) (h : IsCa 44 50 w b S size E) (hn : E.length ≤ 1500) :
    Calls Try.prog 17 #[.pointer (some ⟨b, 1, none⟩), .agg #[.int .i64 k, .int .i64 v]] w fun e w' => e = .returned (.tuple #[]) ∧ Fr S w w' ∧ IsCa 44 50 w' b (Gr S w w') size (rm E k ++ [(k, v)]) := by
  have hA := h.fr ((Fr.refl (fun _ => False) w).alloc (.cells #[.int .i64 k, .int .i64 v] 50)) (by simp)
  have PF := Lib.hid (find_any b S size E k _ hA (by omega))
  obtain ⟨hlt, hSb, sp, sc, hb, hrow, hSr⟩ := h
  obtain ⟨i0, hi, hz0, hz1, hz2⟩ := info_parts info50
  have hnb := heapNew w (.cells #[.int .i64 k, .int .i64 v] 50)
  have HB := Lib.hid hb
  have HR := Lib.hid hrow
  clear hb hrow hA
  cases hfn : fndN E k with
  | none =>
    have HF := Lib.hid (show fnd E k = -1 by unfold fnd; rw [hfn])
    have HRM := Lib.hid (show rm E k = E by rw [rm_eq, hfn])
    rw [HF.out] at PF
    clear hfn
    go_enter Try.func17, Try.ntmps17
    go_wp2_with fail
    refine PF.out.mono ?_
    rintro e w2 ⟨rfl, f2⟩
    have F2 := Lib.hid (((Fr.refl (fun _ => False) w).alloc (.cells #[.int .i64 k, .int .i64 v] 50)).trans f2)
    have NB := Lib.hid (f2.heap hnb (by simp))
    have FX := Lib.hid (F2.out.mono (T := S) (fun _ _ e => e.elim))
    have BX := Lib.hid (F2.out.heap HB.out (by simp))
    have HRx := Lib.hid (show OwnsWin w2 0 50 2 (.slice sp E.length sc) E.length (ents (rm E k)) by rw [HRM.out]; exact HR.out.fr F2.out (by simp))
    have HSx := Lib.hid (show ∀ j, (Value.slice sp E.length sc).ownBlock = some j → S j ∨ w.heap.size ≤ j from fun j hj => .inl (hSr j hj))
    have HNX := Lib.hid (show (rm E k).length = E.length by rw [HRM.out])
    generalize hnx : E.length = nx at *
    have HNE := Lib.hid hnx
    clear hnx HR HB
    generalize sp = spx at *
    generalize sc = scx at *
    have n2 := HRx.out.ne BX.out (by intro c; simp)
    have c1 := cellOf BX.out 1
    have z1 := frozenOf BX.out 1
    have a0 := cellOf NB.out 0
    have a1 := cellOf NB.out 1
    have c1a := cellOf (heapAlloc (o' := .cells #[.int .i64 k, .int .i64 v] 50) BX.out) 1
    simp at a0 a1 c1 c1a
    go_wp2_with fail
    go_region_law (refine step_append_src rfl (.tmp 32) (.tmp 34) 40 rfl 0 50 i0 _ 2 16 Try.underlying40 hi hz0 hz1 hz2 rfl (by omega) (.slice spx nx scx) nx _ rfl (HRx.out.fr (((Fr.refl (fun _ => False) w2).alloc _).drew) (by simp)) (some ⟨w2.heap.size, 0, none⟩) 1 1 [.int .i64 k, .int .i64 v] rfl (Src.one (heapDrew (heapNew _ _)) rfl) (by simp [Value.oneCell']) (by unfold maxLen; omega) (by omega) (Nat.zero_le _) ?_; intro sp7 c7 w7 hown7 hgrow7 hloc7; have hb7 := heapGrown hgrow7 (heapDrew (heapAlloc BX.out)) n2; have k1 := cellOf hb7 1; have k0 := frozenOf hb7 1; simp at k1; have HB7 := Lib.hid hb7; have HO7 := Lib.hid hown7; have HG7 := Lib.hid hgrow7; have HL7 := Lib.hid hloc7; clear hb7 hown7 hgrow7 hloc7)
    all_goals
      go_wp2_with fail
      go_end0
      refine ⟨rfl, IsCa.put (by decide) hlt hSb (((FX.out.alloc _).drew).grown HG7.out HSx.out) (by rw [List.length_append, HNX.out]; rfl) HB7.out (by rw [ents_append, ents_one]; exact HO7.out) (fun j hj => ?_)⟩
      rcases HL7.out j hj with h1 | h1
      · exact HSx.out j h1
      · right
        have := FX.out.size
        have h2 : (w2.alloc (.cells #[.int .i64 k, .int .i64 v] 50)).heap.size ≤ j := h1
        rw [World.size_alloc] at h2
        omega
  | some i =>
    obtain ⟨hil, _⟩ := fndN_some hfn
    have HF := Lib.hid (show fnd E k = i by unfold fnd; rw [hfn])
    have HRM := Lib.hid (show rm E k = E.take i ++ E.drop (i + 1) by rw [rm_eq, hfn]; exact eraseIdx_eq E i)
    rw [HF.out] at PF
    clear hfn
    obtain ⟨g, off, cap, hv, hcap1, hcap2, hgl, _, _, _⟩ := HR.out.cells (by omega)
    cases hv
    unfold maxLen at hcap2
    go_enter Try.func17, Try.ntmps17
    go_wp2_with fail
    refine PF.out.mono ?_
    rintro e w2 ⟨rfl, f2⟩
    have F2 := Lib.hid (((Fr.refl (fun _ => False) w).alloc (.cells #[.int .i64 k, .int .i64 v] 50)).trans f2)
    have NB2 := Lib.hid (f2.heap hnb (by simp))
    have FX2 := Lib.hid (F2.out.mono (T := S) (fun _ _ e => e.elim))
    have BX2 := Lib.hid (F2.out.heap HB.out (by simp))
    have HR2 := Lib.hid (HR.out.fr (F2.out.drew) (by simp))
    have SC := Lib.hid (Src.cut HR2.out (i + 1) (by omega))
    have HT2 := Lib.hid (HR2.out.take i (by omega))
    have n5 := HR2.out.ne BX2.out (by intro c; simp)
    have c1 := cellOf BX2.out 1
    have z1 := frozenOf BX2.out 1
    simp at c1
    have j1 : (i : Int) < (E.length : Int) := by omega
    have j2 : (0 : Int) ≤ (i : Int) := by omega
    have j3 : (i : Int) ≤ (sc : Int) := by omega
    have j4 : IntKind.i64.wrap ((i : Int) + 1) = (i : Int) + 1 := IntWalk.i64_in _ (by omega)
    have j5 : (i : Int) + 1 ≤ (E.length : Int) := by omega
    have j6 : ((i : Int) + 1).toNat = i + 1 := by omega
    have j7 : (0 : Int) ≤ (i : Int) + 1 := by omega
    have j8 : i ≤ sc := by omega
    have j9 : i + 1 ≤ E.length := by omega
    have j10 : (i : Int) ≤ (i : Int) + 1 := by omega
    have j11 : (i : Int) + 1 ≤ (sc : Int) := by omega
    have j12 : i + 1 ≤ sc := by omega
    by_cases hcap : sc = i + 1
    · have hEl : E.length = i + 1 := by have := hcap1; omega
      have SC2 := Lib.hid (show Src w2.drew 2 (some ⟨g, off, none⟩) 0 [] from ⟨rfl, (by intro h; cases h), fun ad _ j u hj => by simp at hj⟩)
      have HNE := Lib.hid (show ∀ u ∈ ([] : List Value), u.oneCell' = true by simp)
      have HEL := Lib.hid hEl
      clear hEl
      subst hcap
      go_wp2_with fail
      go_region_law (refine step_append_src rfl (.tmp 17) (.tmp 24) 40 rfl 0 50 i0 _ 2 16 Try.underlying40 hi hz0 hz1 hz2 rfl (by omega) (.slice (some ⟨g, off, none⟩) i (i + 1)) i _ rfl HT2.out (some ⟨g, off, none⟩) 0 _ _ rfl SC2.out HNE.out (by unfold maxLen; omega) (by omega) (Nat.zero_le _) ?_; intro sp7 c7 w7 hown7 hgrow7 hloc7; have hb7 := heapGrown hgrow7 (heapDrew BX2.out) n5; have k1 := cellOf hb7 1; have k0 := frozenOf hb7 1; simp at k1; have HB7 := Lib.hid hb7; have HO7 := Lib.hid hown7; have HG7 := Lib.hid hgrow7; have HL7 := Lib.hid hloc7; clear hb7 hown7 hgrow7 hloc7)
      all_goals
        have FS := Lib.hid (show ∀ j, (Value.slice (some ⟨g, off, none⟩) E.length (i + 1)).ownBlock = some j → S j from hSr)
        have F7 := Lib.hid (show Fr S w w7 from (FX2.out.drew).grown HG7.out (fun j hj => .inl (FS.out j hj)))
        have HNX := Lib.hid (show (rm E k).length = i + 0 by rw [HRM.out, List.length_append, List.length_take, List.length_drop]; omega)
        have HO8 := Lib.hid (show OwnsWin w7 0 50 2 (.slice sp7 (i + 0) c7) (i + 0) (ents (rm E k)) by rw [HRM.out, ents_append, ← ents_take, ← ents_drop]; rw [List.drop_of_length_le (by rw [ents_len, HEL.out]; exact Nat.le_refl _)]; exact HO7.out)
        have BX := Lib.hid (show (w7.setCell ⟨b, 1, none⟩ (.slice sp7 (i + 0) c7)).heap[b]? = some (.cells #[.int .i64 size, .slice sp7 (i + 0) c7] 44 (0, 0)) by simpa using heapSet HB7.out 1 (.slice sp7 (i + 0) c7))
        have hne8 := HO8.out.ne HB7.out (by intro c; simp)
        have HRx := Lib.hid (HO8.out.fr ((Fr.refl (fun j => j = b) w7).setCell (p := ⟨b, 1, none⟩) (.inl rfl) (.slice sp7 (i + 0) c7)) (fun j hj e => hne8 (by subst e; exact hj.symm)))
        have FX := Lib.hid (F7.out.setCell (p := ⟨b, 1, none⟩) (.inl hSb) (.slice sp7 (i + 0) c7))
        have HSx := Lib.hid (show ∀ j, (Value.slice sp7 (i + 0) c7).ownBlock = some j → S j ∨ w.heap.size ≤ j from fun j hj => by
          rcases HL7.out j hj with h1 | h1
          · exact .inl (FS.out j h1)
          · right
            have := FX2.out.size
            have h2 : w2.heap.size ≤ j := h1
            omega)
        have NB7 := heapGrown HG7.out (heapDrew NB2.out) (fun e => by
          have h1 := hlt _ (FS.out _ e.symm)
          omega)
        have hbl := hlt _ hSb
        have NB := Lib.hid ((heapSetOther (w := w7) (b := b) (k := w.heap.size) 1 (.slice sp7 (i + 0) c7) (by omega)).trans NB7)
        clear NB7 hne8 k0 k1 HB7 HO7 HG7 HL7 F7 HO8 SC SC2 HT2 n5 HR2 BX2 FX2 NB2 F2 c1 z1 PF
        generalize hwx : w7.setCell ⟨b, 1, none⟩ (.slice sp7 (i + 0) c7) = wx at *
        generalize hnx : i + 0 = nx at *
        have hnx2 : nx ≤ 1500 := by omega
        clear hnx hwx
        generalize sp7 = spx at *
        generalize c7 = scx at *
        have n2 := HRx.out.ne BX.out (by intro c; simp)
        have c1 := cellOf BX.out 1
        have z1 := frozenOf BX.out 1
        have a0 := cellOf NB.out 0
        have a1 := cellOf NB.out 1
        have c1a := cellOf (heapAlloc (o' := .cells #[.int .i64 k, .int .i64 v] 50) BX.out) 1
        simp at a0 a1 c1 c1a
        go_wp2_with fail
        go_region_law (refine step_append_src rfl (.tmp 32) (.tmp 34) 40 rfl 0 50 i0 _ 2 16 Try.underlying40 hi hz0 hz1 hz2 rfl (by omega) (.slice spx nx scx) nx _ rfl (HRx.out.fr (((Fr.refl (fun _ => False) wx).alloc _).drew) (by simp)) (some ⟨wx.heap.size, 0, none⟩) 1 1 [.int .i64 k, .int .i64 v] rfl (Src.one (heapDrew (heapNew _ _)) rfl) (by simp [Value.oneCell']) (by unfold maxLen; omega) (by omega) (Nat.zero_le _) ?_; intro sp7 c7 w7 hown7 hgrow7 hloc7; have hb7 := heapGrown hgrow7 (heapDrew (heapAlloc BX.out)) n2; have k1 := cellOf hb7 1; have k0 := frozenOf hb7 1; simp at k1; have HB7 := Lib.hid hb7; have HO7 := Lib.hid hown7; have HG7 := Lib.hid hgrow7; have HL7 := Lib.hid hloc7; clear hb7 hown7 hgrow7 hloc7)
        all_goals
          go_wp2_with fail
          go_end0
          refine ⟨rfl, IsCa.put (by decide) hlt hSb (((FX.out.alloc _).drew).grown HG7.out HSx.out) (by rw [List.length_append, HNX.out]; rfl) HB7.out (by rw [ents_append, ents_one]; exact HO7.out) (fun j hj => ?_)⟩
          rcases HL7.out j hj with h1 | h1
          · exact HSx.out j h1
          · right
            have := FX.out.size
            have h2 : (wx.alloc (.cells #[.int .i64 k, .int .i64 v] 50)).heap.size ≤ j := h1
            rw [World.size_alloc] at h2
            omega
    · have SC2 := Lib.hid (show Src w2.drew 2 (some ⟨g, off + (i + 1) * 2, none⟩) (E.length - (i + 1)) ((ents E).drop ((i + 1) * 2)) by
        have := SC.out
        rw [if_neg hcap] at this
        have e : (⟨g, off, none⟩ : Addr).add ((i + 1) * 2) = ⟨g, off + (i + 1) * 2, none⟩ := addOf _ _ rfl
        rw [← e]
        exact this)
      have HNE := Lib.hid (show ∀ u ∈ (ents E).drop ((i + 1) * 2), u.oneCell' = true from fun u hu => ents_cell E u (List.mem_of_mem_drop hu))
      have hcap3 : (sc = i + 1) = False := by simpa using hcap
      go_wp2_with fail
      go_region_law (refine step_append_src rfl (.tmp 17) (.tmp 24) 40 rfl 0 50 i0 _ 2 16 Try.underlying40 hi hz0 hz1 hz2 rfl (by omega) (.slice (some ⟨g, off, none⟩) i sc) i _ rfl HT2.out (some ⟨g, off + (i + 1) * 2, none⟩) (E.length - (i + 1)) _ _ rfl SC2.out HNE.out (by unfold maxLen; omega) (by omega) (Nat.zero_le _) ?_; intro sp7 c7 w7 hown7 hgrow7 hloc7; have hb7 := heapGrown hgrow7 (heapDrew BX2.out) n5; have k1 := cellOf hb7 1; have k0 := frozenOf hb7 1; simp at k1; have HB7 := Lib.hid hb7; have HO7 := Lib.hid hown7; have HG7 := Lib.hid hgrow7; have HL7 := Lib.hid hloc7; clear hb7 hown7 hgrow7 hloc7)
      all_goals
        have FS := Lib.hid (show ∀ j, (Value.slice (some ⟨g, off, none⟩) E.length sc).ownBlock = some j → S j from hSr)
        have F7 := Lib.hid (show Fr S w w7 from (FX2.out.drew).grown HG7.out (fun j hj => .inl (FS.out j hj)))
        have HNX := Lib.hid (show (rm E k).length = i + (E.length - (i + 1)) by rw [HRM.out, List.length_append, List.length_take, List.length_drop]; omega)
        have HO8 := Lib.hid (show OwnsWin w7 0 50 2 (.slice sp7 (i + (E.length - (i + 1))) c7) (i + (E.length - (i + 1))) (ents (rm E k)) by rw [HRM.out, ents_append, ← ents_take, ← ents_drop]; exact HO7.out)
        have BX := Lib.hid (show (w7.setCell ⟨b, 1, none⟩ (.slice sp7 (i + (E.length - (i + 1))) c7)).heap[b]? = some (.cells #[.int .i64 size, .slice sp7 (i + (E.length - (i + 1))) c7] 44 (0, 0)) by simpa using heapSet HB7.out 1 (.slice sp7 (i + (E.length - (i + 1))) c7))
        have hne8 := HO8.out.ne HB7.out (by intro c; simp)
        have HRx := Lib.hid (HO8.out.fr ((Fr.refl (fun j => j = b) w7).setCell (p := ⟨b, 1, none⟩) (.inl rfl) (.slice sp7 (i + (E.length - (i + 1))) c7)) (fun j hj e => hne8 (by subst e; exact hj.symm)))
        have FX := Lib.hid (F7.out.setCell (p := ⟨b, 1, none⟩) (.inl hSb) (.slice sp7 (i + (E.length - (i + 1))) c7))
        have HSx := Lib.hid (show ∀ j, (Value.slice sp7 (i + (E.length - (i + 1))) c7).ownBlock = some j → S j ∨ w.heap.size ≤ j from fun j hj => by
          rcases HL7.out j hj with h1 | h1
          · exact .inl (FS.out j h1)
          · right
            have := FX2.out.size
            have h2 : w2.heap.size ≤ j := h1
            omega)
        have NB7 := heapGrown HG7.out (heapDrew NB2.out) (fun e => by
          have h1 := hlt _ (FS.out _ e.symm)
          omega)
        have hbl := hlt _ hSb
        have NB := Lib.hid ((heapSetOther (w := w7) (b := b) (k := w.heap.size) 1 (.slice sp7 (i + (E.length - (i + 1))) c7) (by omega)).trans NB7)
        clear NB7 hne8 k0 k1 HB7 HO7 HG7 HL7 F7 HO8 SC SC2 HT2 n5 HR2 BX2 FX2 NB2 F2 c1 z1 PF
        generalize hwx : w7.setCell ⟨b, 1, none⟩ (.slice sp7 (i + (E.length - (i + 1))) c7) = wx at *
        generalize hnx : i + (E.length - (i + 1)) = nx at *
        have hnx2 : nx ≤ 1500 := by omega
        clear hnx hwx
        generalize sp7 = spx at *
        generalize c7 = scx at *
        have n2 := HRx.out.ne BX.out (by intro c; simp)
        have c1 := cellOf BX.out 1
        have z1 := frozenOf BX.out 1
        have a0 := cellOf NB.out 0
        have a1 := cellOf NB.out 1
        have c1a := cellOf (heapAlloc (o' := .cells #[.int .i64 k, .int .i64 v] 50) BX.out) 1
        simp at a0 a1 c1 c1a
        go_wp2_with fail
        go_region_law (refine step_append_src rfl (.tmp 32) (.tmp 34) 40 rfl 0 50 i0 _ 2 16 Try.underlying40 hi hz0 hz1 hz2 rfl (by omega) (.slice spx nx scx) nx _ rfl (HRx.out.fr (((Fr.refl (fun _ => False) wx).alloc _).drew) (by simp)) (some ⟨wx.heap.size, 0, none⟩) 1 1 [.int .i64 k, .int .i64 v] rfl (Src.one (heapDrew (heapNew _ _)) rfl) (by simp [Value.oneCell']) (by unfold maxLen; omega) (by omega) (Nat.zero_le _) ?_; intro sp7 c7 w7 hown7 hgrow7 hloc7; have hb7 := heapGrown hgrow7 (heapDrew (heapAlloc BX.out)) n2; have k1 := cellOf hb7 1; have k0 := frozenOf hb7 1; simp at k1; have HB7 := Lib.hid hb7; have HO7 := Lib.hid hown7; have HG7 := Lib.hid hgrow7; have HL7 := Lib.hid hloc7; clear hb7 hown7 hgrow7 hloc7)
        all_goals
          go_wp2_with fail
          go_end0
          refine ⟨rfl, IsCa.put (by decide) hlt hSb (((FX.out.alloc _).drew).grown HG7.out HSx.out) (by rw [List.length_append, HNX.out]; rfl) HB7.out (by rw [ents_append, ents_one]; exact HO7.out) (fun j hj => ?_)⟩
          rcases HL7.out j hj with h1 | h1
          · exact HSx.out j h1
          · right
            have := FX.out.size
            have h2 : (wx.alloc (.cells #[.int .i64 k, .int .i64 v] 50)).heap.size ≤ j := h1
            rw [World.size_alloc] at h2
            omega
end Go.Proofs.Ytimildmpkamomaa
