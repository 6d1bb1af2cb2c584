/- The reference's Nodes: the walk. -/
import Derived.Test.YtdjdpfmogphoiaaRNode
import Derived.Test.YtdjdpfmogphoiaaSameL
import Derived.Test.YtdjdpfmogphoiaaNodesH
import Derived.BigQuiet
import Derived.Deep.QuietTactic
import Derived.Deep.RegionLaw
import Derived.Deep.Cut
import Derived.Deep.CutRange
namespace Go.Proofs.Ytdjdpfmogphoiaa
open Go.RowKit Go.Maps Go.ChangeShapes Go.WideShapes Go.ChangeAt Go.WideMaps Go.WideElems

/-- Between two rounds of the reference's Nodes. -/
structure RL (w wr : World) (b : Nat) (s : Int) (k : Nat) (sp : Option Addr) (c : Nat) : Prop where
  lot : IsLot 51 wr b (gRun s (List.range k)).2
  out : ∃ xs, wr.ownsRow w.heap.size 47 5 (.slice sp k c) k xs ∧ NL w.heap.size wr xs (gRun s (List.range k)).1
  below : Below w.heap.size w wr
  hb : w.heap.size ≤ b

/-- What a round leaves. -/
theorem RL.step {w wo wx w7 : World} {b nb : Nat} {s0 : Int} {i : Nat} {spo sp' sp : Option Addr} {co c' c : Nat} {xs : List Value} {d : NodeD} {vA : Value} {X : Obj}
    (h : RL w wo b s0 i spo co) (hx : wo.ownsRow w.heap.size 47 5 (.slice spo i co) i xs) (hnl : NL w.heap.size wo xs (gRun s0 (List.range i)).1)
    (t : RT wo b nb wx (gSt (gRun s0 (List.range i)).2 i) d.par d.tag d.id d.cls sp c vA) (hA : IsAtt wo.heap.size wx vA d.att) (hd : d = gNode (gRun s0 (List.range i)).2 i)
    (hown : w7.ownsRow w.heap.size 47 5 (.slice sp' (i + 1) c') (i + 1) (xs ++ [.int .i64 d.par, .string d.tag, .string d.id, .slice sp d.cls.length c, vA]))
    (hgrow : (wx.alloc X).grownBy w7 (Value.slice spo i co).ownBlock) : RL w w7 b s0 (i + 1) sp' c' := by
  have n1 := ownsRow.ne hx h.lot (by intro c; simp)
  have hown0 : ∀ j, (Value.slice spo i co).ownBlock = some j → ∃ cur, wo.heap[j]? = some (.cells cur 47 (0, 0)) := by
    intro j hj
    rcases hx.2 with ⟨h, _⟩ | ⟨g, cap, cur, h, _, hg, _⟩
    · rw [h] at hj; simp [Value.ownBlock] at hj
    · rw [h] at hj
      simp [Value.ownBlock] at hj
      subst hj
      exact ⟨_, hg⟩
  obtain ⟨S, hS⟩ : ∃ S : Nat → Prop, S = fun k => k = b ∨ (Value.slice spo i co).ownBlock = some k := ⟨_, rfl⟩
  have hST : ∀ k, S k → ∃ c t z, wo.heap[k]? = some (.cells c t z) ∧ t ≠ 9 ∧ t ≠ 60 := by
    intro k e
    rw [hS] at e
    rcases e with rfl | e
    · exact ⟨_, _, _, h.lot, by decide, by decide⟩
    · obtain ⟨cur, hc⟩ := hown0 k e
      exact ⟨_, _, _, hc, by decide, by decide⟩
  obtain ⟨T, hT⟩ : ∃ T : Nat → Prop, T = fun k => (Value.slice spo i co).ownBlock = some k := ⟨_, rfl⟩
  have t7 : Fr T wx w7 := ((Fr.refl T wx).alloc X).grown hgrow (fun k e => by rw [hT]; exact .inl e)
  have g7 : Fr S wo w7 := (t.fr.mono (fun k _ e => by rw [hS]; exact .inl e)).step t7 (fun k e => by rw [hT] at e; rw [hS]; exact .inl (.inr e))
  have hrowx := ownsRow.fr hx t.fr (fun j hj e => n1 (by subst e; exact hj.symm))
  have hTT : ∀ k, T k → ∃ c t z, wx.heap[k]? = some (.cells c t z) ∧ t ≠ 9 ∧ t ≠ 60 := by
    intro k e
    rw [hT] at e
    rcases hrowx.2 with ⟨h, _⟩ | ⟨g, cap, cur, h, _, hg, _⟩
    · rw [h] at e; simp [Value.ownBlock] at e
    · rw [h] at e
      simp [Value.ownBlock] at e
      subst e
      exact ⟨_, _, _, hg, by decide, by decide⟩
  have hds : IsNd w.heap.size wx [.int .i64 d.par, .string d.tag, .string d.id, .slice sp d.cls.length c, vA] d := ⟨sp, c, vA, rfl, rowLower t.row h.below.size, hA.lower h.below.size⟩
  refine ⟨?_, ⟨_, hown, ?_⟩, h.below.trans (g7.below h.below.size (fun k hk e => ?_)), h.hb⟩
  · rw [List.range_succ, gRun_snoc]
    exact heapGrown hgrow (heapAlloc t.lot) n1
  · rw [List.range_succ, gRun_snoc]
    rw [← hd]
    exact (hnl.keep g7 hST).snoc (hds.keep t7 hTT)
  · rw [hS] at e
    rcases e with e | e
    · have := h.hb; omega
    · have := (hx.lt k e).1; omega

set_option maxHeartbeats 8000000 in
set_option maxRecDepth 100000 in
theorem rnodes_any (seed n : Int) (w : World) (hn : n ≤ 300) : Calls Try.prog 15 #[.int .i64 seed, .int .i64 n] w fun e w' =>
    (∃ sp c xs, e = .returned (.slice sp n.toNat c) ∧ w'.ownsRow w.heap.size 47 5 (.slice sp n.toNat c) n.toNat xs ∧ NL w.heap.size w' xs (gRun (seedS seed) (List.range n.toNat)).1) ∧ Below w.heap.size w w' := by
  have hN : n.toNat ≤ 300 := by omega
  have d1 : decide (4096 < n) = false := by simp; omega
  go_enter Try.func15, Try.ntmps15
  go_wp2_with fail
  refine (RNew_any _ _).mono ?_
  rintro e w2 ⟨rfl, rfl⟩
  have L0 := Lib.hid (show RL w (w.alloc (.cells #[.int .i64 (seedS seed)] 51)) w.heap.size (seedS seed) 0 none 0 from ⟨heapNew w _, ⟨[], World.ownsRow_nil _ _ _ _, NL.nil _ _⟩, (Below.refl _ w).alloc (Nat.le_refl _) _, Nat.le_refl _⟩)
  generalize hs0 : seedS seed = s0 at *
  have HS0 := Lib.hid hs0
  clear hs0
  go_wp2_with fail
  go_loopw [7, 6] (fun i o wr => ∃ (k : Nat) (sp : Option Addr) (c : Nat), k ≤ n.toNat ∧ i = .int .i64 k ∧ o = .slice sp k c ∧ Hid (RL w wr w.heap.size s0 k sp c)) (fun i _ _ => n.toNat - (intOf i).toNat)
  case atStart => exact ⟨0, none, 0, by omega, rfl, rfl, L0.out⟩
  case round =>
    obtain ⟨i, spo, co, hk, rfl, rfl, hL⟩ := hrel
    clear L0
    obtain ⟨wo, rfl⟩ : ∃ wo : World, wo = wr := ⟨_, rfl⟩
    by_cases hlt : i < n.toNat
    · have i1 : (i : Int) < n := by omega
      have hi3 : i < 300 := by omega
      have hi4 : (i : Int) < 300 := by omega
      obtain ⟨s, hs⟩ : ∃ s, s = (gRun s0 (List.range i)).2 := ⟨_, rfl⟩
      have N0 := Lib.hid (RT.new wo w.heap.size s (by rw [hs]; exact hL.out.lot))
      have HS := Lib.hid hs
      clear hs
      go_upto_if 29 with fail
      generalize wo.alloc (.cells #[.int .i64 (-1), .string ⟨#[]⟩, .string ⟨#[]⟩, .slice none 0 0, .slice none 0 0] 47) = w2 at *
      go_cut [9] from 22 to 97 (fun _ wx => Hid (RT wo w.heap.size wo.heap.size wx (g1 s i) (gPar s i) ⟨#[]⟩ ⟨#[]⟩ [] none 0 (.slice none 0 0)))
      case first =>
        by_cases c1 : 0 < i
        · have e1 : g1 s i = nxS s := by unfold g1; rw [if_pos c1]
          by_cases c2 : 4 < i
          · have hm : min (i : Int) 4 = 4 := by omega
            have e2 : gPar s i = (i : Int) - 1 - nxV s 4 := by unfold gPar; rw [if_pos c1, hm]
            have P1 := Lib.hid (N0.out.next 4)
            obtain ⟨v0, v1⟩ := nxV_in s 4
            have v2 := v1 (by omega)
            clear v1
            generalize nxV s 4 = v at *
            go_wp2_with fail
            refine P1.out.mono ?_
            rintro e w3 ⟨rfl, n3, -⟩
            have a0 := cellOf n3.node 0
            have z0 := frozenOf n3.node 0
            simp at a0
            have N3 := Lib.hid n3
            clear n3 P1
            go_wp2_with fail
            go_meet
            rw [e1, e2]
            exact N3.out.setPar _
          · have hm : min (i : Int) 4 = i := by omega
            have e2 : gPar s i = (i : Int) - 1 - nxV s i := by unfold gPar; rw [if_pos c1, hm]
            have P1 := Lib.hid (N0.out.next i)
            obtain ⟨v0, v1⟩ := nxV_in s i
            have v2 := v1 (by omega)
            clear v1
            generalize nxV s i = v at *
            go_wp2_with fail
            refine P1.out.mono ?_
            rintro e w3 ⟨rfl, n3, -⟩
            have a0 := cellOf n3.node 0
            have z0 := frozenOf n3.node 0
            simp at a0
            have N3 := Lib.hid n3
            clear n3 P1
            go_wp2_with fail
            go_meet
            rw [e1, e2]
            exact N3.out.setPar _
        · go_wp2_with fail
          go_meet
          rw [show g1 s i = s by unfold g1; rw [if_neg c1], show gPar s i = -1 by unfold gPar; rw [if_neg c1]]
          exact N0.out
      case rest =>
        have N1 := Lib.hid hcut.out
        clear hcut N0
        generalize hs1 : g1 s i = s1 at *
        have N2 := Lib.hid (N1.out.alloc (.cells #[.string ⟨#[97]⟩, .string ⟨#[98]⟩, .string ⟨#[99]⟩] 9))
        have P2 := Lib.hid (N2.out.next 3)
        obtain ⟨k, hk1, hk2, hk3⟩ := strAt s1 (l := lTag) (T := 9) (heapNew wc (.cells #[.string ⟨#[97]⟩, .string ⟨#[98]⟩, .string ⟨#[99]⟩] 9)) (by simp [lTag])
        have hk1 : nxV s1 3 = k := hk1
        have hk2 : k < 3 := hk2
        rw [hk1] at P2
        have K2 := Lib.hid hk3
        have hbne : wc.heap.size ≠ w.heap.size := by have := ltOf N1.out.lot; omega
        clear N1 hk1 hk3 N2
        generalize ht : pick lTag s1 = t1 at *
        go_wp2_with fail
        refine P2.out.mono ?_
        rintro e w3 ⟨rfl, n3, f3⟩
        have x0 := strFr f3 hbne K2.out
        have a0 := cellOf n3.node 1
        have z0 := frozenOf n3.node 1
        simp at a0
        have N3 := Lib.hid (n3.setTag t1)
        clear n3 f3 K2 P2
        have P3 := Lib.hid (N3.out.next 4)
        go_wp2_with fail
        refine P3.out.mono ?_
        generalize w3.setCell ⟨wo.heap.size, 1, none⟩ (.string t1) = w4 at *
        rintro e w5 ⟨rfl, n5, -⟩
        have N5 := Lib.hid n5
        clear n5 N3 P3 a0 z0 x0 w4
        go_upto_if 49 with fail
        go_cut [11] from 22 to 97 (fun _ wx => Hid (RT wo w.heap.size wo.heap.size wx (g2 (nxS s1)) (gPar s i) t1 (gId (nxS s1)) [] none 0 (.slice none 0 0)))
        case first =>
          by_cases c1 : nxV (nxS s1) 4 = 0
          · have q1 : (nxV (nxS s1) 4 == 0) = true := by rw [c1]; rfl
            have e1 : g2 (nxS s1) = nxS (nxS (nxS s1)) := by unfold g2; rw [if_pos c1]
            have e2 : gId (nxS s1) = pick lId (nxS (nxS s1)) := by unfold gId; rw [if_pos c1]
            have P4 := Lib.hid ((N5.out.alloc (.cells #[.string ⟨#[120]⟩, .string ⟨#[121]⟩, .string ⟨#[122]⟩] 9)).next 3)
            obtain ⟨k, hk1, hk2, hk3⟩ := strAt (nxS (nxS s1)) (l := lId) (T := 9) (heapNew w5 (.cells #[.string ⟨#[120]⟩, .string ⟨#[121]⟩, .string ⟨#[122]⟩] 9)) (by simp [lId])
            have hk1 : nxV (nxS (nxS s1)) 3 = k := hk1
            have hk2 : k < 3 := hk2
            rw [hk1] at P4
            have K2 := Lib.hid hk3
            have hbne : w5.heap.size ≠ w.heap.size := by have := ltOf N5.out.lot; omega
            clear hk1 hk3 N5
            generalize hid : pick lId (nxS (nxS s1)) = id at *
            go_wp2_with fail
            refine P4.out.mono ?_
            rintro e w6 ⟨rfl, n6, f6⟩
            have x0 := strFr f6 hbne K2.out
            have a0 := cellOf n6.node 2
            have z0 := frozenOf n6.node 2
            simp at a0
            have N6 := Lib.hid (n6.setId id)
            clear n6 f6 K2 P4
            go_wp2_with fail
            go_meet
            rw [e1, e2]
            exact N6.out
          · have q1 : (nxV (nxS s1) 4 == 0) = false := by rw [beq_eq_false_iff_ne]; exact c1
            have e1 : g2 (nxS s1) = nxS (nxS s1) := by unfold g2; rw [if_neg c1]
            have e2 : gId (nxS s1) = ⟨#[]⟩ := by unfold gId; rw [if_neg c1]
            go_wp2_with fail
            go_meet
            rw [e1, e2]
            exact N5.out
        case rest =>
          have N7 := Lib.hid hcut.out
          clear hcut N5
          generalize hid : gId (nxS s1) = id at *
          generalize hs2 : g2 (nxS s1) = s2 at *
          have P5 := Lib.hid (N7.out.next 3)
          obtain ⟨v0, v1⟩ := nxV_in s2 3
          have v2 := v1 (by omega)
          clear v1
          obtain ⟨N, hN5⟩ := Int.eq_ofNat_of_zero_le v0
          rw [hN5] at P5 v2
          go_wp2_with fail
          refine P5.out.mono ?_
          rintro e w6 ⟨rfl, n6, -⟩
          have N8 := Lib.hid n6
          clear n6 P5 N7 v0
          go_wp2_with fail
          go_loopw [13, 14] (fun j y wj => ∃ (k : Nat) (sp : Option Addr) (c : Nat), k ≤ N ∧ j = .int .i64 k ∧ Hid (RT wo w.heap.size wo.heap.size wj (it (nxS s2) k) (gPar s i) t1 id (clsL (nxS s2) k) sp c (.slice none 0 0))) (fun j _ _ => N - (intOf j).toNat)
          case atStart => exact ⟨0, none, 0, by omega, rfl, N8.out⟩
          case round =>
            obtain ⟨k, sp, c, hk5, rfl, hS⟩ := hrel
            clear N8
            by_cases hlt5 : k < N
            · have hcl := clsL_len (nxS s2) k
              have hnode := hS.out.node
              have hrow := hS.out.row
              rw [hcl] at hnode hrow
              have c3 := cellOf hnode 3
              have z3 := frozenOf hnode 3
              have c3a := cellOf (heapAlloc (o' := (.cells #[.string ⟨#[112]⟩, .string ⟨#[113]⟩, .string ⟨#[114]⟩, .string ⟨#[115]⟩] 9)) hnode) 3
              simp at c3 c3a
              have hrb := ownsRow.ne hrow hnode (by intro c; simp)
              have H1 : ∀ t : ByteArray, ∀ u ∈ [Value.string t], u.oneCell' = true := by simp [Value.oneCell']
              have hk2 : k < 3 := by omega
              have G1 : k + 1 ≤ maxLen := by unfold maxLen; omega
              have G2 : (k + 1) * 16 ≤ 140737488355328 := by omega
              have PO := Lib.hid ((hS.out.alloc (.cells #[.string ⟨#[112]⟩, .string ⟨#[113]⟩, .string ⟨#[114]⟩, .string ⟨#[115]⟩] 9)).drew.next 4)
              obtain ⟨q, hq1, hq2, hq3⟩ := strAt (it (nxS s2) k) (l := lCls) (T := 9) (heapDrew (heapNew wr (.cells #[.string ⟨#[112]⟩, .string ⟨#[113]⟩, .string ⟨#[114]⟩, .string ⟨#[115]⟩] 9))) (by simp [lCls])
              have hq1 : nxV (it (nxS s2) k) 4 = q := hq1
              have hq2 : q < 4 := hq2
              have hq2i : (q : Int) < 4 := by omega
              rw [hq1] at PO
              have K2 := Lib.hid hq3
              have hbne : wr.heap.size ≠ w.heap.size := by have := ltOf hS.out.lot; omega
              have I9 := Lib.hid (info_parts info9)
              obtain ⟨i0, hi0, hz0, hz1, hz2⟩ := I9.out
              have HSZ := Lib.hid (show wo.heap.size ≤ ((wr.alloc (.cells #[.string ⟨#[112]⟩, .string ⟨#[113]⟩, .string ⟨#[114]⟩, .string ⟨#[115]⟩] 9)).drew).heap.size from Nat.le_trans hS.out.fr.size (by show wr.heap.size ≤ (wr.alloc _).heap.size; simp))
              clear hrow hnode hq1 hq3
              have HS5 := Lib.hid hS.out
              clear hS
              generalize hp : pick lCls (it (nxS s2) k) = t at *
              go_wp2_with fail
              go_region_law (first
                | (go_simp; go_at_call 11; refine Calls.mono PO.out ?_; rintro e w6 ⟨rfl, n6, f6⟩; have hn6 := n6.node; have RW6 := n6.row; rw [hcl] at hn6 RW6; have x0 := strFr f6 hbne K2.out; have hc3 := cellOf hn6 3; have hc3a := cellOf (heapAlloc (o' := .cells #[.string t] 9) hn6) 3; simp at hc3 hc3a; have HN6 := Lib.hid n6; have RW6 := Lib.hid RW6; have N6 := Lib.hid hn6; have HZ6 := Lib.hid (Nat.le_trans HSZ.out f6.size); clear n6 hn6 f6)
                | (refine step_append_own rfl _ _ 44 rfl wo.heap.size 9 i0 _ 1 16 Try.underlying44 hi0 hz0 hz1 hz2 rfl (by omega) (.slice sp k c) _ _ rfl (ownsRow.fr RW6.out ((Fr.refl (fun _ => False) _).alloc _) (by simp)) ⟨w6.heap.size, 0, none⟩ 1 1 [.string t] rfl rfl (cell_one _ _ _) (H1 t) G1 G2 (by have := HZ6.out; simp; omega) ?_; intro sp' sc' w7 hown7 hgrow7 _; have hn7 := heapGrown hgrow7 (heapAlloc N6.out) hrb; have e3 := cellOf hn7 3; have y3 := frozenOf hn7 3; simp at e3; have HS7 := (HN6.out.alloc (.cells #[.string t] 9)).addCls (sp' := sp') (c' := sc') t (by rw [hcl]; exact hown7) (by rw [hcl]; exact hgrow7); rw [hcl] at HS7; have HS8 := Lib.hid HS7; clear hn7 hown7 hgrow7 HS7))
              all_goals
                clear PO HSZ
                go_wp2_with fail
                go_roundw
                case rel => exact ⟨k + 1, sp', sc', by omega, by go_num, by have := HS8.out; rw [← hp] at this; exact this⟩
                case measure => simp [intOf]; omega
            · have hke : k = N := by omega
              subst hke
              have P6 := Lib.hid (hS.out.next 3)
              have HGS := Lib.hid (show gC s i = s2 by unfold gC; rw [hs1, hs2])
              have HGN := Lib.hid (show gN s i = k by unfold gN; rw [HGS.out, hN5]; rfl)
              have HGE := Lib.hid (show gE s i = it (nxS s2) k by unfold gE; rw [HGN.out, HGS.out])
              generalize hs6 : it (nxS s2) k = s6 at *
              generalize hcls : clsL (nxS s2) k = cls at *
              clear hS
              go_wp2_with fail
              refine P6.out.mono ?_
              rintro e w9 ⟨rfl, n9, -⟩
              have N9 := Lib.hid n9
              clear n9 P6
              go_upto_if 77 with fail
              go_cut [15, 16, 17] from 22 to 97 (fun _ _ _ wx => ∃ vA, Hid (RT wo w.heap.size wo.heap.size wx (g3 s6) (gPar s i) t1 id cls sp c vA) ∧ Hid (IsAtt wo.heap.size wx vA (gAtt s6)))
              case first =>
                by_cases c1 : nxV s6 3 = 0
                · have q1 : (nxV s6 3 == 0) = true := by rw [c1]; rfl
                  have e1 : g3 s6 = nxS (nxS (nxS s6)) := by unfold g3; rw [if_pos c1]
                  have e2 : gAtt s6 = [(pick lNam (nxS s6), pick lTxt (nxS (nxS s6)))] := by unfold gAtt; rw [if_pos c1]
                  have A1 := heapNew w9 (.cells #[.string ⟨#[109]⟩, .string ⟨#[110]⟩] 9)
                  have A2 := heapNew (w9.alloc (.cells #[.string ⟨#[109]⟩, .string ⟨#[110]⟩] 9)) (.cells #[.string ⟨#[49]⟩, .string ⟨#[50]⟩, .string ⟨#[49, 32, 50]⟩, .string ⟨#[49, 45, 50]⟩] 9)
                  rw [World.size_alloc] at A2
                  have P7 := Lib.hid (((N9.out.alloc (.cells #[.string ⟨#[109]⟩, .string ⟨#[110]⟩] 9)).alloc (.cells #[.string ⟨#[49]⟩, .string ⟨#[50]⟩, .string ⟨#[49, 32, 50]⟩, .string ⟨#[49, 45, 50]⟩] 9)).next 2)
                  obtain ⟨q, hq1, hq2, hq3⟩ := strAt (nxS s6) (l := lNam) (T := 9) (heapAlloc (o' := (.cells #[.string ⟨#[49]⟩, .string ⟨#[50]⟩, .string ⟨#[49, 32, 50]⟩, .string ⟨#[49, 45, 50]⟩] 9)) A1) (by simp [lNam])
                  have hq1 : nxV (nxS s6) 2 = q := hq1
                  have hq2 : q < 2 := hq2
                  have hq2i : (q : Int) < 2 := by omega
                  rw [hq1] at P7
                  obtain ⟨r, hr1, hr2, hr3⟩ := strAt (nxS (nxS s6)) (l := lTxt) (T := 9) A2 (by simp [lTxt])
                  have hr1 : nxV (nxS (nxS s6)) 4 = r := hr1
                  have hr2 : r < 4 := hr2
                  have hr2i : (r : Int) < 4 := by omega
                  have K1 := Lib.hid hq3
                  have K2 := Lib.hid hr3
                  have b1 : w9.heap.size ≠ w.heap.size := by have := ltOf N9.out.lot; omega
                  have b2 : w9.heap.size + 1 ≠ w.heap.size := by have := ltOf N9.out.lot; omega
                  have HR1 := Lib.hid hr1
                  clear hq1 hq3 hr1 hr3 A1 A2 N9
                  generalize ha : pick lNam (nxS s6) = a at *
                  generalize htx : pick lTxt (nxS (nxS s6)) = tx at *
                  go_wp2_with fail
                  refine P7.out.mono ?_
                  rintro e w10 ⟨rfl, n10, f10⟩
                  have x0 := strFr f10 b1 K1.out
                  have y0 := strFr f10 b2 K2.out
                  have P8 := Lib.hid (n10.next 4)
                  rw [HR1.out] at P8
                  have Y0 := Lib.hid y0
                  clear n10 f10 K1 K2 P7 y0
                  go_wp2_with fail
                  refine P8.out.mono ?_
                  rintro e w11 ⟨rfl, n11, f11⟩
                  have y1 := strFr f11 b2 Y0.out
                  have hnd := heapAlloc (o' := .cells #[.string a, .string tx] 60) n11.node
                  have a0 := cellOf hnd 4
                  have z0 := frozenOf hnd 4
                  simp at a0
                  have NA := Lib.hid ((n11.alloc (.cells #[.string a, .string tx] 60)).setAtt (.slice (some ⟨w11.heap.size, 0, none⟩) 1 1))
                  have hne11 : w11.heap.size ≠ wo.heap.size := by have := ltOf n11.node; omega
                  have AT := Lib.hid (show IsAtt wo.heap.size ((w11.alloc (.cells #[.string a, .string tx] 60)).setCell ⟨wo.heap.size, 4, none⟩ (.slice (some ⟨w11.heap.size, 0, none⟩) 1 1)) (.slice (some ⟨w11.heap.size, 0, none⟩) 1 1) [(a, tx)] from .inr ⟨a, tx, w11.heap.size, rfl, rfl, n11.fr.size, (heapSetOther 4 _ hne11).trans (heapNew w11 _)⟩)
                  clear n11 f11 P8 hnd x0
                  go_wp2_with fail
                  go_meet
                  rw [e1, e2]
                  exact ⟨_, NA.out, AT.out⟩
                · have q1 : (nxV s6 3 == 0) = false := by rw [beq_eq_false_iff_ne]; exact c1
                  have e1 : g3 s6 = nxS s6 := by unfold g3; rw [if_neg c1]
                  have e2 : gAtt s6 = [] := by unfold gAtt; rw [if_neg c1]
                  go_wp2_with fail
                  go_meet
                  rw [e1, e2]
                  exact ⟨_, N9.out, .inl ⟨rfl, rfl⟩⟩
              case rest =>
                obtain ⟨vA, hR, hA⟩ := hcut
                obtain ⟨qA, mA, oA, rfl⟩ := hA.out.shape
                obtain ⟨xs, hrow, hnl⟩ := hL.out.out
                have hnode := hR.out.node
                have c0 := cellOf hnode 0
                have c1 := cellOf hnode 1
                have c2 := cellOf hnode 2
                have c3 := cellOf hnode 3
                have c4 := cellOf hnode 4
                simp at c0 c1 c2 c3 c4
                have n1 := ownsRow.ne hrow hL.out.lot (by intro c; simp)
                have HRow := Lib.hid (ownsRow.fr hrow hR.out.fr (fun j hj e => n1 (by subst e; exact hj.symm)))
                have HX := Lib.hid hrow
                have HNL := Lib.hid hnl
                have HSZ : w.heap.size ≤ wc.heap.size := Nat.le_trans hL.out.below.size hR.out.fr.size
                have HD := Lib.hid (show (⟨gPar s i, t1, id, cls, gAtt s6⟩ : NodeD) = gNode s i by unfold gNode; rw [hs1, HGS.out, HGN.out, HGE.out, ht, hid, hcls])
                have HT := Lib.hid (show g3 s6 = gSt s i by unfold gSt; rw [HGE.out])
                clear hrow hnl hnode n1
                have I47 := Lib.hid (info_parts info47)
                obtain ⟨i0, hi0, hz0, hz1, hz2⟩ := I47.out
                generalize hpar : gPar s i = par at *
                generalize hatt : gAtt s6 = att at *
                go_wp2_with (at_builtin; refine wpList_append_own _ rfl (.tmp 94) (.tmp 96) 30 rfl w.heap.size 47 i0 _ 5 88 Try.underlying30 hi0 hz0 hz1 hz2 rfl (by omega) (.slice spo i co) i xs rfl (ownsRow.fr HRow.out ((Fr.refl (fun _ => False) wc).alloc _) (by simp)) ⟨wc.heap.size, 0, none⟩ 1 1 [.int .i64 par, .string t1, .string id, .slice sp cls.length c, .slice qA mA oA] rfl rfl (news_new wc _ 47) (by simp [Value.oneCell']) (by unfold maxLen; omega) (by omega) (by simp; omega) ?_; intro v7 w7 hown7 hgrow7 _; obtain ⟨sp7, c7, rfl⟩ := ownsRow.shape hown7; have HO7 := Lib.hid hown7; have HG7 := Lib.hid hgrow7; clear hown7 hgrow7)
                go_roundw
                case rel =>
                  refine ⟨i + 1, sp7, c7, by omega, by go_num, rfl, ?_⟩
                  have hR2 := hR.out
                  rw [HT.out] at hR2
                  rw [HS.out] at hR2
                  exact RL.step (d := ⟨par, t1, id, cls, att⟩) hL.out HX.out HNL.out hR2 hA.out (by rw [← HS.out]; exact HD.out) HO7.out HG7.out
                case measure => simp [intOf]; omega
    · have i1 : ¬ (i : Int) < n := by omega
      have hie : i = n.toNat := by omega
      subst hie
      go_wp2_with fail
      go_ret
      obtain ⟨xs, hrow, hnl⟩ := hL.out.out
      exact ⟨⟨spo, co, rfl, xs, hrow, by rw [HS0.out]; exact hnl⟩, hL.out.below⟩
end Go.Proofs.Ytdjdpfmogphoiaa
