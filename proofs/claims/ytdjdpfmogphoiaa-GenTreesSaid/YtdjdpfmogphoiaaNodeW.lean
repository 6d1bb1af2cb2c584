/- gen's node: the walk at any state. -/
import Derived.Test.YtdjdpfmogphoiaaNodeF
import Derived.BigQuiet
import Derived.Deep.QuietTactic
import Derived.Deep.RegionLaw
import Derived.Deep.Cut
import Derived.Deep.CutRange
namespace Go.Proofs.Ytdjdpfmogphoiaa
open Go.RowKit Go.Maps Go.ChangeShapes Go.WideShapes Go.ChangeAt Go.WideMaps Go.WideElems

set_option maxRecDepth 100000 in
set_option maxHeartbeats 8000000 in
theorem node_any (b : Nat) (s : Int) (i : Nat) (hi : i ≤ 4096) (w : World) (h : IsLot 49 w b s) :
    Calls Try.prog 20 #[.pointer (some ⟨b, 0, none⟩), .int .i64 i] w fun e w' =>
      ∃ sp c vA, e = .returned (.agg #[.int .i64 (gPar s i), .string (gNode s i).tag, .string (gNode s i).id, .slice sp (gNode s i).cls.length c, vA]) ∧
        w'.ownsRow w.heap.size 9 1 (.slice sp (gNode s i).cls.length c) (gNode s i).cls.length ((gNode s i).cls.map Value.string) ∧ IsAtt w.heap.size w' vA (gNode s i).att ∧ IsLot 49 w' b (gSt s i) ∧ Fr (fun k => k = b) w w' := by
  have N0 := Lib.hid (NodeT.new w b s h)
  clear h
  unfold Z47 at N0
  go_enter Try.func20, Try.ntmps20
  go_upto_if 9 with fail
  generalize (w.alloc (.cells #[.int .i64 0, .string ⟨#[]⟩, .string ⟨#[]⟩, .slice none 0 0, .slice none 0 0] 47)).alloc (.cells #[.int .i64 (-1), .string ⟨#[]⟩, .string ⟨#[]⟩, .slice none 0 0, .slice none 0 0] 47) = w2 at *
  go_cut [] from 7 (fun wx => Hid (NodeT w b w.heap.size (w.heap.size + 1) wx (g1 s i) (gPar s i) ⟨#[]⟩ ⟨#[]⟩ [] none 0))
  case first =>
    by_cases c1 : 0 < i
    · have e1 : g1 s i = nxS s := by unfold g1; rw [if_pos c1]
      by_cases c2 : i < 4
      · skip
        have hm : min (i : Int) 4 = (i : Int) := by omega
        have e2 : gPar s i = (i : Int) - 1 - nxV s (i : Int) := by unfold gPar; rw [if_pos c1, hm]
        have P1 := Lib.hid (N0.out.next (i : Int))
        obtain ⟨v0, v1⟩ := nxV_in s (i : Int)
        have v2 := v1 (by omega)
        have v3 : nxV s (i : Int) < 5 := by omega
        clear v1 v2
        generalize hv : nxV s (i : Int) = v at *
        go_wp2_with fail
        refine P1.out.mono ?_
        rintro e w3 ⟨rfl, n3⟩
        have a0 := cellOf n3.node 0
        have z0 := frozenOf n3.node 0
        simp at a0
        have N3 := Lib.hid n3
        clear n3 P1
        go_wp2_with fail
        go_meet
        rw [e1, e2]
        exact N3.out.setPar _
      by_cases c3 : i = 4
      · subst c3
        have hm : min (((4 : Nat)) : Int) 4 = (4 : Int) := by omega
        have e2 : gPar s 4 = ((4 : Nat) : Int) - 1 - nxV s (4 : Int) := by unfold gPar; rw [if_pos c1, hm]
        have P1 := Lib.hid (N0.out.next (4 : Int))
        obtain ⟨v0, v1⟩ := nxV_in s (4 : Int)
        have v2 := v1 (by omega)
        have v3 : nxV s (4 : Int) < 5 := by omega
        clear v1 v2
        generalize hv : nxV s (4 : Int) = v at *
        go_wp2_with fail
        refine P1.out.mono ?_
        rintro e w3 ⟨rfl, n3⟩
        have a0 := cellOf n3.node 0
        have z0 := frozenOf n3.node 0
        simp at a0
        have N3 := Lib.hid n3
        clear n3 P1
        go_wp2_with fail
        go_meet
        rw [e1, e2]
        exact N3.out.setPar _
      · have c4 : 4 < i := by omega
        have hm : min (i : Int) 4 = (4 : Int) := by omega
        have e2 : gPar s i = (i : Int) - 1 - nxV s (4 : Int) := by unfold gPar; rw [if_pos c1, hm]
        have P1 := Lib.hid (N0.out.next (4 : Int))
        obtain ⟨v0, v1⟩ := nxV_in s (4 : Int)
        have v2 := v1 (by omega)
        have v3 : nxV s (4 : Int) < 5 := by omega
        clear v1 v2
        generalize hv : nxV s (4 : Int) = v at *
        go_wp2_with fail
        refine P1.out.mono ?_
        rintro e w3 ⟨rfl, n3⟩
        have a0 := cellOf n3.node 0
        have z0 := frozenOf n3.node 0
        simp at a0
        have N3 := Lib.hid n3
        clear n3 P1
        go_wp2_with fail
        go_meet
        rw [e1, e2]
        exact N3.out.setPar _
    · go_wp2_with fail
      go_meet
      rw [show g1 s i = s by unfold g1; rw [if_neg c1], show gPar s i = -1 by unfold gPar; rw [if_neg c1]]
      exact N0.out
  case rest =>
    have N1 := Lib.hid hcut.out
    clear hcut N0
    generalize hs1 : g1 s i = s1 at *
    have P2 := Lib.hid (show Calls Try.prog 24 #[.pointer (some ⟨b, 0, none⟩), .slice (some ⟨wc.heap.size, 0, none⟩) 3 3] (wc.alloc (.cells #[.string ⟨#[97]⟩, .string ⟨#[98]⟩, .string ⟨#[99]⟩] 9)) _ from (N1.out.alloc (.cells #[.string ⟨#[97]⟩, .string ⟨#[98]⟩, .string ⟨#[99]⟩] 9)).one wc.heap.size lTag 9 (heapNew wc _) (by decide) (by simp [lTag]) (by simp [lTag]))
    go_wp2_with fail
    refine P2.out.mono ?_
    rintro e w3 ⟨rfl, n3, -⟩
    have a0 := cellOf n3.node 1
    have z0 := frozenOf n3.node 1
    simp at a0
    have N3 := Lib.hid (n3.setTag (pick lTag s1))
    clear n3 P2 N1
    have P3 := Lib.hid (N3.out.next 4)
    generalize ht : pick lTag s1 = t1 at *
    go_wp2_with fail
    refine P3.out.mono ?_
    generalize w3.setCell ⟨w.heap.size + 1, 1, none⟩ (.string t1) = w4 at *
    rintro e w5 ⟨rfl, n5⟩
    have N5 := Lib.hid n5
    clear n5 N3 P3 a0 z0 w4 w3
    go_upto_if 24 with fail
    go_cut [] from 7 (fun wx => Hid (NodeT w b w.heap.size (w.heap.size + 1) wx (g2 (nxS s1)) (gPar s i) t1 (gId (nxS s1)) [] none 0))
    case first =>
      by_cases c1 : nxV (nxS s1) 4 = 0
      · have q1 : (nxV (nxS s1) 4 == 0) = true := by rw [c1]; rfl
        have e1 : g2 (nxS s1) = nxS (nxS (nxS s1)) := by unfold g2; rw [if_pos c1]
        have e2 : gId (nxS s1) = pick lId (nxS (nxS s1)) := by unfold gId; rw [if_pos c1]
        have P4 := Lib.hid (show Calls Try.prog 24 #[.pointer (some ⟨b, 0, none⟩), .slice (some ⟨w5.heap.size, 0, none⟩) 3 3] (w5.alloc (.cells #[.string ⟨#[120]⟩, .string ⟨#[121]⟩, .string ⟨#[122]⟩] 9)) _ from (N5.out.alloc (.cells #[.string ⟨#[120]⟩, .string ⟨#[121]⟩, .string ⟨#[122]⟩] 9)).one w5.heap.size lId 9 (heapNew w5 _) (by decide) (by simp [lId]) (by simp [lId]))
        go_wp2_with fail
        refine P4.out.mono ?_
        rintro e w6 ⟨rfl, n6, -⟩
        have a0 := cellOf n6.node 2
        have z0 := frozenOf n6.node 2
        simp at a0
        have N6 := Lib.hid (n6.setId (pick lId (nxS (nxS s1))))
        clear n6 P4 N5
        go_wp2_with fail
        go_meet
        rw [e1, e2]
        exact N6.out
      · have q1 : (nxV (nxS s1) 4 == 0) = false := by rw [beq_eq_false_iff_ne]; exact c1
        have e1 : g2 (nxS s1) = nxS (nxS s1) := by unfold g2; rw [if_neg c1]
        have e2 : gId (nxS s1) = ⟨#[]⟩ := by unfold gId; rw [if_neg c1]
        go_wp2_with fail
        go_meet
        rw [e1, e2]
        exact N5.out
    case rest =>
      have N7 := Lib.hid hcut.out
      clear hcut N5
      generalize hid : gId (nxS s1) = id at *
      generalize hs2 : g2 (nxS s1) = s2 at *
      have P5 := Lib.hid (N7.out.next 3)
      obtain ⟨v0, v1⟩ := nxV_in s2 3
      have v2 := v1 (by omega)
      clear v1
      obtain ⟨N, hN⟩ := Int.eq_ofNat_of_zero_le v0
      rw [hN] at P5 v2
      go_wp2_with fail
      refine P5.out.mono ?_
      rintro e w6 ⟨rfl, n6⟩
      have N8 := Lib.hid n6
      clear n6 P5 N7 v0
      go_wp2_with fail
      go_loopw [31] (fun j wr => ∃ (k : Nat) (sp : Option Addr) (c : Nat), k ≤ N ∧ j = .int .i64 k ∧ Hid (NodeT w b w.heap.size (w.heap.size + 1) wr (it (nxS s2) k) (gPar s i) t1 id (clsL (nxS s2) k) sp c)) (fun j _ => N - (intOf j).toNat)
      case atStart => exact ⟨0, none, 0, by omega, rfl, N8.out⟩
      case round =>
        obtain ⟨k, sp, c, hk, rfl, hS⟩ := hrel
        clear N8
        by_cases hlt : k < N
        · have hcl := clsL_len (nxS s2) k
          have hnode := hS.out.node
          have hrow := hS.out.row
          rw [hcl] at hnode hrow
          have c3 := cellOf hnode 3
          have z3 := frozenOf hnode 3
          have c3a := cellOf (heapAlloc (o' := (.cells #[.string ⟨#[112]⟩, .string ⟨#[113]⟩, .string ⟨#[114]⟩, .string ⟨#[115]⟩] 9)) hnode) 3
          simp at c3 c3a
          have hrb := ownsRow.ne hrow hnode (by intro c; simp)
          have H1 : ∀ t : ByteArray, ∀ u ∈ [Value.string t], u.oneCell' = true := by simp [Value.oneCell']
          have hk2 : k < 3 := by omega
          have G1 : k + 1 ≤ maxLen := by unfold maxLen; omega
          have G2 : (k + 1) * 16 ≤ 140737488355328 := by omega
          have PO := Lib.hid (show Calls Try.prog 24 #[.pointer (some ⟨b, 0, none⟩), .slice (some ⟨wr.heap.size, 0, none⟩) 4 4] ((wr.alloc (.cells #[.string ⟨#[112]⟩, .string ⟨#[113]⟩, .string ⟨#[114]⟩, .string ⟨#[115]⟩] 9)).drew) _ from (hS.out.alloc (.cells #[.string ⟨#[112]⟩, .string ⟨#[113]⟩, .string ⟨#[114]⟩, .string ⟨#[115]⟩] 9)).drew.one wr.heap.size lCls 9 (heapDrew (heapNew wr _)) (by decide) (by simp [lCls]) (by simp [lCls]))
          have I9 := Lib.hid (info_parts info9)
          obtain ⟨i0, hi0, hz0, hz1, hz2⟩ := I9.out
          have HSZ := Lib.hid (show w.heap.size ≤ ((wr.alloc (.cells #[.string ⟨#[112]⟩, .string ⟨#[113]⟩, .string ⟨#[114]⟩, .string ⟨#[115]⟩] 9)).drew).heap.size from Nat.le_trans hS.out.fr.size (by show wr.heap.size ≤ (wr.alloc _).heap.size; simp))
          clear hrow hnode
          have HS := Lib.hid hS.out
          clear hS
          generalize hp : pick lCls (it (nxS s2) k) = t at *
          go_wp2_with fail
          go_region_law (first
            | (go_simp; go_at_call 24; refine Calls.mono PO.out ?_; rintro e w6 ⟨rfl, n6, f6⟩; have hn6 := n6.node; have RW6 := n6.row; rw [hcl] at hn6 RW6; have hc3 := cellOf hn6 3; have hc3a := cellOf (heapAlloc (o' := .cells #[.string t] 9) hn6) 3; simp at hc3 hc3a; have HN6 := Lib.hid n6; have RW6 := Lib.hid RW6; have N6 := Lib.hid hn6; have HZ6 := Lib.hid (Nat.le_trans HSZ.out f6.size); clear n6 hn6 f6)
            | (refine step_append_own rfl _ _ 44 rfl w.heap.size 9 i0 _ 1 16 Try.underlying44 hi0 hz0 hz1 hz2 rfl (by omega) (.slice sp k c) _ _ rfl (ownsRow.fr RW6.out ((Fr.refl (fun _ => False) _).alloc _) (by simp)) ⟨w6.heap.size, 0, none⟩ 1 1 [.string t] rfl rfl (cell_one _ _ _) (H1 t) G1 G2 (by have := HZ6.out; simp; omega) ?_; intro sp' sc' w7 hown7 hgrow7 _; have hn7 := heapGrown hgrow7 (heapAlloc N6.out) hrb; have e3 := cellOf hn7 3; have y3 := frozenOf hn7 3; simp at e3; have HS7 := (HN6.out.alloc (.cells #[.string t] 9)).addCls (sp' := sp') (c' := sc') t (by rw [hcl]; exact hown7) (by rw [hcl]; exact hgrow7); rw [hcl] at HS7; have HS8 := Lib.hid HS7; clear hn7 hown7 hgrow7 HS7))
          all_goals
            clear PO HSZ
            go_wp2_with fail
            go_roundw
            case rel => exact ⟨k + 1, sp', sc', by omega, by go_num, by have := HS8.out; rw [← hp] at this; exact this⟩
            case measure => simp [intOf]; omega
        · have hke : k = N := by omega
          subst hke
          have P6 := Lib.hid (hS.out.next 3)
          have hgs : gC s i = s2 := by unfold gC; rw [hs1, hs2]
          have hgn : gN s i = k := by unfold gN; rw [hgs, hN]; rfl
          have hge : gE s i = it (nxS s2) k := by unfold gE; rw [hgn, hgs]
          generalize hs6 : it (nxS s2) k = s6 at *
          generalize hcls : clsL (nxS s2) k = cls at *
          by_cases c1 : nxV s6 3 = 0
          · have q1 : (nxV s6 3 == 0) = true := by rw [c1]; rfl
            go_wp2_with fail
            refine P6.out.mono ?_
            rintro e w9 ⟨rfl, n9⟩
            have N9 := Lib.hid n9
            have P7 := Lib.hid (show Calls Try.prog 24 #[.pointer (some ⟨b, 0, none⟩), .slice (some ⟨w9.heap.size, 0, none⟩) 2 2] (w9.alloc (.cells #[.string ⟨#[109]⟩, .string ⟨#[110]⟩] 9)) _ from (N9.out.alloc (.cells #[.string ⟨#[109]⟩, .string ⟨#[110]⟩] 9)).one w9.heap.size lNam 9 (heapNew w9 _) (by decide) (by simp [lNam]) (by simp [lNam]))
            clear n9 P6 hS
            go_wp2_with fail
            refine P7.out.mono ?_
            rintro e w10 ⟨rfl, n10, -⟩
            generalize ha : pick lNam (nxS s6) = a at *
            have N10 := Lib.hid n10
            have P8 := Lib.hid (show Calls Try.prog 24 #[.pointer (some ⟨b, 0, none⟩), .slice (some ⟨w10.heap.size + 1, 0, none⟩) 4 4] ((w10.alloc (.cells #[.string a, .string ⟨#[]⟩] 60)).alloc (.cells #[.string ⟨#[49]⟩, .string ⟨#[50]⟩, .string ⟨#[49, 32, 50]⟩, .string ⟨#[49, 45, 50]⟩] 9)) _ from ((N10.out.alloc (.cells #[.string a, .string ⟨#[]⟩] 60)).alloc (.cells #[.string ⟨#[49]⟩, .string ⟨#[50]⟩, .string ⟨#[49, 32, 50]⟩, .string ⟨#[49, 45, 50]⟩] 9)).one (w10.heap.size + 1) lTxt 9 (by have := heapNew (w10.alloc (.cells #[.string a, .string ⟨#[]⟩] 60)) (.cells #[.string ⟨#[49]⟩, .string ⟨#[50]⟩, .string ⟨#[49, 32, 50]⟩, .string ⟨#[49, 45, 50]⟩] 9); rw [World.size_alloc] at this; exact this) (by decide) (by simp [lTxt]) (by simp [lTxt]))
            have B10 := Lib.hid (heapAlloc (o' := (.cells #[.string ⟨#[49]⟩, .string ⟨#[50]⟩, .string ⟨#[49, 32, 50]⟩, .string ⟨#[49, 45, 50]⟩] 9)) (heapNew w10 (.cells #[.string a, .string ⟨#[]⟩] 60)))
            clear n10 P7 N9
            go_wp2_with fail
            refine P8.out.mono ?_
            rintro e w11 ⟨rfl, n11, f11⟩
            generalize ht2 : pick lTxt (nxS (nxS s6)) = t2 at *
            have hb10 : w10.heap.size ≠ b := by have := ltOf N10.out.lot; omega
            have hp11 := f11.heap B10.out hb10
            have hsz : w10.heap.size ≠ w.heap.size + 1 := by have := ltOf N10.out.node; omega
            have e1 := cellOf hp11 1
            have z1 := frozenOf hp11 1
            have hp12 := heapSet hp11 1 (.string t2)
            have i0 := cellOf hp12 0
            have i1 := cellOf hp12 1
            have hn12 := (heapSetOther (w := w11) (b := w10.heap.size) 1 (.string t2) (fun e => hsz e.symm)).trans n11.node
            have hn13 := heapAlloc (o' := .cells #[.string a, .string t2] 60) hn12
            have j4 := cellOf hn13 4
            have y4 := frozenOf hn13 4
            simp at e1 i0 i1 j4
            have hpge : w.heap.size ≤ w10.heap.size := N10.out.fr.size
            have F9 := Lib.hid (n11.fin1 t2 hp11 hpge)
            clear n11 P8
            go_upto_region 15 with fail
            generalize ((w11.setCell ⟨w10.heap.size, 1, none⟩ (.string t2)).alloc (.cells #[.string a, .string t2] 60)).setCell ⟨w.heap.size + 1, 4, none⟩ (.slice (some ⟨w11.heap.size, 0, none⟩) 1 1) = wq at *
            have hga : gAtt s6 = [(a, t2)] := by unfold gAtt; rw [if_pos c1, ha, ht2]
            have hgt : g3 s6 = nxS (nxS (nxS s6)) := by unfold g3; rw [if_pos c1]
            have hcn := F9.out.node
            have hcr := F9.out.res
            have b0 := cellOf hcn 0
            have b1 := cellOf hcn 1
            have b2 := cellOf hcn 2
            have b3 := cellOf hcn 3
            have b4 := cellOf hcn 4
            have r0 := cellOf hcr 0
            have r1 := cellOf hcr 1
            have r2 := cellOf hcr 2
            have r3 := cellOf hcr 3
            have r4 := cellOf hcr 4
            have x0 := frozenOf hcr 0
            have x1 := frozenOf hcr 1
            have x2 := frozenOf hcr 2
            have x3 := frozenOf hcr 3
            have x4 := frozenOf hcr 4
            simp at b0 b1 b2 b3 b4 r0 r1 r2 r3 r4
            have hG : gNode s i = ⟨gPar s i, t1, id, cls, [(a, t2)]⟩ := by unfold gNode; rw [hge, hgs, hgn, hs1, ht, hid, hcls, hga]
            have hS2 : gSt s i = nxS (nxS (nxS s6)) := by unfold gSt; rw [hge]; exact hgt
            clear hcn hcr
            go_wp2_with fail
            have M := F9.out.fin
            simp only at M
            clear b0 b1 b2 b3 b4 r0 r1 r2 r3 r4 x0 x1 x2 x3 x4
            generalize ((((wq.setCell ⟨w.heap.size, 0, none⟩ (.int .i64 (gPar s i))).setCell ⟨w.heap.size, 1, none⟩ (.string t1)).setCell ⟨w.heap.size, 2, none⟩ (.string id)).setCell ⟨w.heap.size, 3, none⟩ (.slice sp cls.length c)).setCell ⟨w.heap.size, 4, none⟩ (.slice (some ⟨w11.heap.size, 0, none⟩) 1 1) = wz at *
            obtain ⟨m1, m2, m3, m4, m5⟩ := M
            have d0 := cellOf m1 0
            have d1 := cellOf m1 1
            have d2 := cellOf m1 2
            have d3 := cellOf m1 3
            have d4 := cellOf m1 4
            simp at d0 d1 d2 d3 d4
            show bodyPost Try.prog Try.f20 _ Exit.ret _ _
            refine bodyPost_ret (v := .agg #[.int .i64 (gPar s i), .string t1, .string id, .slice sp cls.length c, .slice (some ⟨w11.heap.size, 0, none⟩) 1 1]) (by simp [results, Try.results20, go_sem, d0, d1, d2, d3, d4]) rfl ?_
            rw [hG, hS2]
            simp only
            exact ⟨sp, c, _, rfl, m2, m3, m4, m5⟩
          · have q1 : (nxV s6 3 == 0) = false := by rw [beq_eq_false_iff_ne]; exact c1
            have hga : gAtt s6 = [] := by unfold gAtt; rw [if_neg c1]
            have hgt : g3 s6 = nxS s6 := by unfold g3; rw [if_neg c1]
            go_wp2_with fail
            refine P6.out.mono ?_
            rintro e w9 ⟨rfl, n9⟩
            have F9 := Lib.hid n9.fin0
            clear n9 P6 hS
            have hcn := F9.out.node
            have hcr := F9.out.res
            have b0 := cellOf hcn 0
            have b1 := cellOf hcn 1
            have b2 := cellOf hcn 2
            have b3 := cellOf hcn 3
            have b4 := cellOf hcn 4
            have r0 := cellOf hcr 0
            have r1 := cellOf hcr 1
            have r2 := cellOf hcr 2
            have r3 := cellOf hcr 3
            have r4 := cellOf hcr 4
            have x0 := frozenOf hcr 0
            have x1 := frozenOf hcr 1
            have x2 := frozenOf hcr 2
            have x3 := frozenOf hcr 3
            have x4 := frozenOf hcr 4
            simp at b0 b1 b2 b3 b4 r0 r1 r2 r3 r4
            have hG : gNode s i = ⟨gPar s i, t1, id, cls, []⟩ := by unfold gNode; rw [hge, hgs, hgn, hs1, ht, hid, hcls, hga]
            have hS2 : gSt s i = nxS s6 := by unfold gSt; rw [hge]; exact hgt
            clear hcn hcr
            go_wp2_with fail
            have M := F9.out.fin
            simp only at M
            clear b0 b1 b2 b3 b4 r0 r1 r2 r3 r4 x0 x1 x2 x3 x4
            generalize ((((w9.setCell ⟨w.heap.size, 0, none⟩ (.int .i64 (gPar s i))).setCell ⟨w.heap.size, 1, none⟩ (.string t1)).setCell ⟨w.heap.size, 2, none⟩ (.string id)).setCell ⟨w.heap.size, 3, none⟩ (.slice sp cls.length c)).setCell ⟨w.heap.size, 4, none⟩ (.slice none 0 0) = wz at *
            obtain ⟨m1, m2, m3, m4, m5⟩ := M
            have d0 := cellOf m1 0
            have d1 := cellOf m1 1
            have d2 := cellOf m1 2
            have d3 := cellOf m1 3
            have d4 := cellOf m1 4
            simp at d0 d1 d2 d3 d4
            show bodyPost Try.prog Try.f20 _ Exit.ret _ _
            refine bodyPost_ret (v := .agg #[.int .i64 (gPar s i), .string t1, .string id, .slice sp cls.length c, .slice none 0 0]) (by simp [results, Try.results20, go_sem, d0, d1, d2, d3, d4]) rfl ?_
            rw [hG, hS2]
            simp only
            exact ⟨sp, c, _, rfl, m2, m3, m4, m5⟩
end Go.Proofs.Ytdjdpfmogphoiaa
