/- The reference's lowered node: as gen's seat has it. -/
import Derived.Test.YtdbhcogafhhlnaaDCop
import Derived.Test.YtdbhcogafhhlnaaWin
import Derived.Deep.RegionLaw
namespace Go.Proofs.Ytdbhcogafhhlnaa.R
open Go.RowKit Go.Maps Go.ChangeShapes Go.WideShapes Go.ChangeAt Go.WideMaps Go.WideElems

def Z25 : Obj := .cells #[.int .i64 0, .string ⟨#[]⟩, .string ⟨#[]⟩, .slice none 0 0, .slice none 0 0] 25


theorem cellFr' {w w' : World} (f : Fr (fun _ => False) w w') {b k : Nat} {v : Value} (h : w.cell? ⟨b, k, none⟩ = some v) : w'.cell? ⟨b, k, none⟩ = some v := by
  have hlt : b < w.heap.size := by
    rcases Nat.lt_or_ge b w.heap.size with hh | hh
    · exact hh
    · simp [World.cell?, Array.getElem?_eq_none hh] at h
  exact (f.cell (p := ⟨b, k, none⟩) hlt (by simp)).trans h
theorem info38 : (Try.prog.info? 38).map (fun i => (i.zero, i.size, i.bytes)) = some (some (.agg #[.string ⟨#[]⟩, .string ⟨#[]⟩]), 2, 32) := by kernel_rfl

def attL (l : List (ByteArray × ByteArray)) : List Value := l.flatMap fun p => [.string p.1, .string p.2]
def lowA (l : List (ByteArray × ByteArray)) : List (ByteArray × ByteArray) := l.map fun p => (lowS p.1, p.2)
theorem lowA_len (l : List (ByteArray × ByteArray)) : (lowA l).length = l.length := by simp [lowA]

/-- A lowered node that is being made: its block, its result's block. -/
structure LD (w wr : World) (nb : Nat) (par : Int) (tag id : ByteArray) (vC vA : Value) : Prop where
  node : wr.heap[nb]? = some (.cells #[.int .i64 par, .string tag, .string id, vC, vA] 25 (0, 0))
  res : wr.heap[nb + 1]? = some Z25
  fr : Fr (fun _ => False) w wr
  hn : w.heap.size ≤ nb

section
variable {w wr : World} {nb : Nat} {par : Int} {tag id : ByteArray} {vC vA : Value}
theorem LD.fr' (h : LD w wr nb par tag id vC vA) {w2 : World} (f : Fr (fun _ => False) wr w2) : LD w w2 nb par tag id vC vA :=
  ⟨f.heap h.node (by simp), f.heap h.res (by simp), h.fr.trans f, h.hn⟩
theorem LD.setTag (h : LD w wr nb par tag id vC vA) (t : ByteArray) : LD w (wr.setCell ⟨nb, 1, none⟩ (.string t)) nb par t id vC vA :=
  ⟨by simpa using heapSet h.node 1 (.string t), (heapSetOther 1 _ (by omega)).trans h.res, h.fr.setCell (p := ⟨nb, 1, none⟩) (.inr h.hn) _, h.hn⟩
theorem LD.setCls (h : LD w wr nb par tag id vC vA) (v : Value) : LD w (wr.setCell ⟨nb, 3, none⟩ v) nb par tag id v vA :=
  ⟨by simpa using heapSet h.node 3 v, (heapSetOther 3 _ (by omega)).trans h.res, h.fr.setCell (p := ⟨nb, 3, none⟩) (.inr h.hn) _, h.hn⟩
theorem LD.setAtt (h : LD w wr nb par tag id vC vA) (v : Value) : LD w (wr.setCell ⟨nb, 4, none⟩ v) nb par tag id vC v :=
  ⟨by simpa using heapSet h.node 4 v, (heapSetOther 4 _ (by omega)).trans h.res, h.fr.setCell (p := ⟨nb, 4, none⟩) (.inr h.hn) _, h.hn⟩

theorem LD.grown (h : LD w wr nb par tag id vC vA) {w7 : World} {X : Obj} {row : Option Nat} (hg : (wr.alloc X).grownBy w7 row) (n2 : some nb ≠ row) (n3 : some (nb + 1) ≠ row) (hr : ∀ j, row = some j → w.heap.size ≤ j) : LD w w7 nb par tag id vC vA :=
  ⟨heapGrown hg (heapAlloc h.node) n2, heapGrown hg (heapAlloc h.res) n3, (h.fr.alloc X).grown hg (fun j e => .inr (hr j e)), h.hn⟩
theorem LD.fin (h : LD w wr nb par tag id vC vA) :
    ((((((wr.setCell ⟨nb + 1, 0, none⟩ (.int .i64 par)).setCell ⟨nb + 1, 1, none⟩ (.string tag)).setCell ⟨nb + 1, 2, none⟩ (.string id)).setCell ⟨nb + 1, 3, none⟩ vC).setCell ⟨nb + 1, 4, none⟩ vA).heap[nb + 1]? = some (.cells #[.int .i64 par, .string tag, .string id, vC, vA] 25 (0, 0))) ∧
    Fr (fun j => j = nb + 1) wr (((((wr.setCell ⟨nb + 1, 0, none⟩ (.int .i64 par)).setCell ⟨nb + 1, 1, none⟩ (.string tag)).setCell ⟨nb + 1, 2, none⟩ (.string id)).setCell ⟨nb + 1, 3, none⟩ vC).setCell ⟨nb + 1, 4, none⟩ vA) := by
  refine ⟨?_, (((((Fr.refl (fun j => j = nb + 1) wr).setCell (p := ⟨nb + 1, 0, none⟩) (.inl rfl) _).setCell (p := ⟨nb + 1, 1, none⟩) (.inl rfl) _).setCell (p := ⟨nb + 1, 2, none⟩) (.inl rfl) _).setCell (p := ⟨nb + 1, 3, none⟩) (.inl rfl) _).setCell (p := ⟨nb + 1, 4, none⟩) (.inl rfl) _⟩
  have r := h.res
  unfold Z25 at r
  simpa using heapSet (heapSet (heapSet (heapSet (heapSet r 0 (.int .i64 par)) 1 (.string tag)) 2 (.string id)) 3 vC) 4 vA
theorem attL_snoc (l : List (ByteArray × ByteArray)) (k : Nat) (a t : ByteArray) (h : l[k]? = some (a, t)) : attL (l.take (k + 1)) = attL (l.take k) ++ [.string a, .string t] := by
  rw [List.take_add_one, h]
  simp [attL]
end
theorem LD.new (w : World) (par : Int) (tag id : ByteArray) (vC vA : Value) : LD w ((w.alloc (.cells #[.int .i64 par, .string tag, .string id, vC, vA] 25)).alloc Z25) w.heap.size par tag id vC vA := by
  have h2 := heapNew (w.alloc (.cells #[.int .i64 par, .string tag, .string id, vC, vA] 25)) Z25
  rw [World.size_alloc] at h2
  exact ⟨heapAlloc (heapNew w _), h2, ((Fr.refl _ w).alloc _).alloc _, Nat.le_refl _⟩

/-- Strings, as they are read, wherever they lie. -/
def RdW (w : World) (p : Option Addr) (l : List ByteArray) : Prop :=
  ∀ k t, l[k]? = some t → ∃ b off, p = some ⟨b, off, none⟩ ∧ b < w.heap.size ∧ w.cell? ⟨b, off + k, none⟩ = some (.string t)
theorem RdW.fr {w w' : World} {p : Option Addr} {l : List ByteArray} (h : RdW w p l) (f : Fr (fun _ => False) w w') : RdW w' p l := fun k t hk => by
  obtain ⟨b, off, e, hb, hc⟩ := h k t hk
  exact ⟨b, off, e, Nat.lt_of_lt_of_le hb f.size, (f.cell (p := ⟨b, off + k, none⟩) hb (by simp)).trans hc⟩

theorem Src.of_rds {w : World} {sp : Option Addr} {l : List ByteArray} (h : RdW w sp l) (hs : sp = none → l.length = 0) : Src w 1 sp l.length (l.map Value.string) := by
  refine ⟨by simp, hs, fun ad e j u hj => ?_⟩
  rw [List.getElem?_map] at hj
  obtain ⟨t, ht, rfl⟩ := Option.map_eq_some_iff.1 hj
  obtain ⟨b, off, hb, _, hc⟩ := h j t ht
  rw [hb] at e
  cases e
  rw [addOf _ _ rfl]
  exact hc

/-- Attributes, as they are read. -/
def RdA (w : World) (q : Option Addr) (l : List (ByteArray × ByteArray)) : Prop :=
  ∀ k p, l[k]? = some p → ∃ g off, q = some ⟨g, off, none⟩ ∧ g < w.heap.size ∧ w.cell? ⟨g, off + k * 2, none⟩ = some (.string p.1) ∧ w.cell? ⟨g, off + k * 2 + 1, none⟩ = some (.string p.2)

theorem RdA.fr {w w' : World} {q : Option Addr} {l : List (ByteArray × ByteArray)} (h : RdA w q l) (f : Fr (fun _ => False) w w') : RdA w' q l := fun k p hk => by
  obtain ⟨g, off, e, hb, h1, h2⟩ := h k p hk
  exact ⟨g, off, e, Nat.lt_of_lt_of_le hb f.size, (f.cell (p := ⟨g, off + k * 2, none⟩) hb (by simp)).trans h1, (f.cell (p := ⟨g, off + k * 2 + 1, none⟩) hb (by simp)).trans h2⟩

set_option maxHeartbeats 4000000 in
set_option maxRecDepth 100000 in
theorem lowered_any (par : Int) (tag id : ByteArray) (cls : List ByteArray) (att : List (ByteArray × ByteArray)) (sp : Option Addr) (c : Nat) (qA : Option Addr) (oA : Nat) (w : World) (hc : RdW w sp cls) (hA : RdA w qA att) (hsp : sp = none → cls.length = 0) (hn : cls.length * 16 ≤ 140737488351232) (hm : att.length * 32 ≤ 140737488351232) (_hlo : att.length ≤ oA) (_hhi : oA ≤ maxLen) (ht : tag.size ≤ maxLen) (ha : ∀ p ∈ att, p.1.size ≤ maxLen) :
    Calls Try.prog 37 #[.agg #[.int .i64 par, .string tag, .string id, .slice sp cls.length c, .slice qA att.length oA]] w fun e w' =>
      (∃ sp1 c1 sp2 c2, e = .returned (.agg #[.int .i64 par, .string (lowS tag), .string id, .slice sp1 cls.length c1, .slice sp2 att.length c2]) ∧
        OwnsWin w' w.heap.size 9 1 (.slice sp1 cls.length c1) cls.length (cls.map Value.string) ∧ OwnsWin w' w.heap.size 38 2 (.slice sp2 att.length c2) att.length (attL (lowA att))) ∧ Fr (fun _ => False) w w' := by
  obtain ⟨i0, hi, hz0, hz1, hz2⟩ := info_parts info9
  obtain ⟨i9, hj, hy0, hy1, hy2⟩ := info_parts info38
  have R1 := Lib.hid hc
  have R2 := Lib.hid hA
  have HA := Lib.hid ha
  have HSP := Lib.hid hsp
  have hlo := _hlo
  have hhi := _hhi
  unfold maxLen at hhi
  clear hc hA ha hsp
  have L0 := Lib.hid (LD.new w par tag id (.slice sp cls.length c) (.slice qA att.length oA))
  have P1 := Lib.hid (fun W => RLower_any tag W ht)
  generalize hlow : lowS tag = ltag at *
  have HLOW := Lib.hid hlow
  clear hlow
  go_enter Try.func37, Try.ntmps37
  go_wp2_with fail
  refine (P1.out _).mono ?_
  rintro e w2 ⟨rfl, f2⟩
  have L2 := Lib.hid (L0.out.fr' f2)
  have a1 := cellOf L2.out.node 1
  have z1 := frozenOf L2.out.node 1
  simp at a1
  have L3 := Lib.hid (L2.out.setTag ltag)
  have c3 := cellOf L3.out.node 3
  have z3 := frozenOf L3.out.node 3
  simp at c3
  have SR := Lib.hid (Src.of_rds (R1.out.fr L3.out.fr) HSP.out)
  have HSZ : w.heap.size ≤ (w2.setCell ⟨w.heap.size, 1, none⟩ (.string ltag)).heap.size := L3.out.fr.size
  have H1 : ∀ u ∈ cls.map Value.string, u.oneCell' = true := by
    intro u hu
    obtain ⟨t, _, rfl⟩ := List.mem_map.1 hu
    rfl
  have HH1 := Lib.hid H1
  clear f2 P1 L0 L2 H1
  go_wp2_with (at_builtin; refine wpList_append_src _ rfl (.const (.slice none 0 0)) (.tmp 10) 22 rfl w.heap.size 9 i0 _ 1 16 Try.underlying22 hi hz0 hz1 hz2 rfl (by omega) (.slice none 0 0) 0 [] rfl (OwnsWin.nil _ _ _ _) sp cls.length c (cls.map Value.string) rfl SR.out HH1.out (by unfold maxLen; omega) (by omega) HSZ ?_; intro sp1 sc1 w4 hown4 hgrow4 _; have L4 := Lib.hid (L3.out.fr' ((Fr.refl (fun _ => False) _).grown hgrow4 (fun k e => by simp [Value.ownBlock] at e))); have x3 := cellOf L4.out.node 3; have y3 := frozenOf L4.out.node 3; simp at x3; rw [Nat.zero_add, List.nil_append] at hown4; have HO4 := Lib.hid hown4; clear hown4 hgrow4 c3 z3 SR HSZ)
  have L5 := Lib.hid (L4.out.setCls (.slice sp1 cls.length sc1))
  have hne4 := HO4.out.ne L4.out.node (by intro c; simp)
  have HO5 := Lib.hid (HO4.out.fr ((Fr.refl (fun j => j = w.heap.size) w4).setCell (p := ⟨w.heap.size, 3, none⟩) (.inl rfl) (.slice sp1 cls.length sc1)) (fun j hj e => hne4 (by subst e; exact hj.symm)))
  clear x3 y3 L4 HO4 hne4 L3 a1 z1
  generalize w4.setCell ⟨w.heap.size, 3, none⟩ (.slice sp1 cls.length sc1) = w5 at *
  go_loopw [3, 4] (fun o i wr => ∃ (k : Nat) (sp2 : Option Addr) (c2 : Nat), k ≤ att.length ∧ i = .int .i64 k ∧ o = .slice sp2 k c2 ∧ Hid (LD w wr w.heap.size par ltag id (.slice sp1 cls.length sc1) (.slice qA att.length oA)) ∧
    Hid (OwnsWin wr w.heap.size 9 1 (.slice sp1 cls.length sc1) cls.length (cls.map Value.string)) ∧ Hid (OwnsWin wr w.heap.size 38 2 (.slice sp2 k c2) k (attL ((lowA att).take k)))) (fun _ i _ => att.length - (intOf i).toNat)
  case atStart => exact ⟨0, none, 0, by omega, rfl, rfl, L5.out, HO5.out, OwnsWin.nil _ _ _ _⟩
  case round =>
    obtain ⟨k, sp2, c2, hk, rfl, rfl, hL, hC, hO⟩ := hrel
    clear L5 HO5
    have c4 := cellOf hL.out.node 4
    simp at c4
    by_cases hlt : k < att.length
    · obtain ⟨⟨a, tx⟩, hx⟩ : ∃ p, att[k]? = some p := ⟨att[k], by simp [hlt]⟩
      obtain ⟨g, off, rfl, hg, x0, x1⟩ := R2.out k _ hx
      simp only at x0 x1
      have has := HA.out _ (List.mem_of_getElem? hx)
      have X0 := cellFr' hL.out.fr x0
      have X1 := cellFr' hL.out.fr x1
      have PL := Lib.hid (fun W => RLower_any a W has)
      have HT := Lib.hid (attL_snoc (lowA att) k (lowS a) tx (by unfold lowA; rw [List.getElem?_map, hx]; rfl))
      generalize lowS a = la at *
      clear x0 x1 hx has
      have i1 : (k : Int) < (att.length : Int) := by omega
      have H2 : ∀ u ∈ [Value.string la, Value.string tx], u.oneCell' = true := by simp [Value.oneCell']
      have HH2 := Lib.hid H2
      clear H2
      go_wp2_with fail
      go_region_law (first
        | (go_simp; go_at_call 16; refine Calls.mono (PL.out _) ?_; rintro e w6 ⟨rfl, f6⟩; have LL6 := Lib.hid (hL.out.fr' ((Fr.refl (fun _ => False) wr).drew.trans f6)); have d4 := cellOf LL6.out.node 4; have y0 := cellFr' ((Fr.refl (fun _ => False) wr).drew.trans f6) X0; have y1 := cellFr' ((Fr.refl (fun _ => False) wr).drew.trans f6) X1; have OC6 := Lib.hid (hC.out.fr ((Fr.refl (fun _ => False) wr).drew.trans f6) (by simp)); have OW6 := Lib.hid (hO.out.fr ((Fr.refl (fun _ => False) wr).drew.trans f6) (by simp)); simp at d4; clear f6)
        | (refine step_append_src rfl (.tmp 20) (.tmp 35) 23 rfl w.heap.size 38 i9 _ 2 32 Try.underlying23 hj hy0 hy1 hy2 rfl (by omega) (.slice sp2 k c2) k _ rfl (OW6.out.fr ((Fr.refl (fun _ => False) _).alloc _) (by simp)) (some ⟨w6.heap.size, 0, none⟩) 1 1 [.string la, .string tx] rfl (Src.one (heapNew _ _) rfl) HH2.out (by unfold maxLen; omega) (by omega) (by have := LL6.out.fr.size; simp; omega) ?_; intro sp7 c7 w7 hown7 hgrow7 _; have LL7 := Lib.hid hgrow7; have OW7 := Lib.hid hown7; clear hown7 hgrow7))
      all_goals
        go_wp2_with fail
        go_roundw
        case rel =>
          have n2 := (hO.out).ne hL.out.node (by intro c; simp)
          have n3 := (hO.out).ne (show wr.heap[w.heap.size + 1]? = some (.cells #[.int .i64 0, .string ⟨#[]⟩, .string ⟨#[]⟩, .slice none 0 0, .slice none 0 0] 25 (0, 0)) from hL.out.res) (by intro c; simp)
          exact ⟨k + 1, sp7, c7, by omega, by go_num, rfl, LL6.out.grown (LL7.out) n2 n3 (fun j e => (hO.out.lt j e).1), OC6.out.fr (((Fr.refl (fun j => (Value.slice sp2 k c2).ownBlock = some j) w6).alloc _).grown LL7.out (fun j e => .inl e)) (fun j hj e => by
            rcases hO.out.2 with ⟨h, h0⟩ | ⟨g', off', cap', cur', h, hb', hg', _⟩
            · rw [h] at e; simp [Value.ownBlock] at e
            · rw [h] at e
              simp [Value.ownBlock] at e
              subst e
              exact hC.out.ne hg' (by intro c; simp) hj.symm), by rw [HT.out]; exact OW7.out⟩
        case measure => simp [intOf]; omega
    · have hke : k = att.length := by omega
      subst hke
      have z4 := frozenOf hL.out.node 4
      have F9 := Lib.hid (hL.out.setAtt (.slice sp2 att.length c2))
      have ln := hL.out.hn
      have ll := ltOf hL.out.res
      have hcn := F9.out.node
      have hcr := F9.out.res
      unfold Z25 at hcr
      have b0 := cellOf hcn 0
      have b1 := cellOf hcn 1
      have b2 := cellOf hcn 2
      have b3 := cellOf hcn 3
      have b4 := cellOf hcn 4
      have r0 := cellOf hcr 0
      have r1 := cellOf hcr 1
      have r2 := cellOf hcr 2
      have r3 := cellOf hcr 3
      have r4 := cellOf hcr 4
      have y0 := frozenOf hcr 0
      have y1 := frozenOf hcr 1
      have y2 := frozenOf hcr 2
      have y3 := frozenOf hcr 3
      have y4 := frozenOf hcr 4
      simp at b0 b1 b2 b3 b4 r0 r1 r2 r3 r4
      clear hcn hcr
      have n2 := hO.out.ne hL.out.node (by intro c; simp)
      have n2c := hC.out.ne hL.out.node (by intro c; simp)
      have HO9 := Lib.hid (hO.out.fr ((Fr.refl (fun j => j = w.heap.size) wr).setCell (p := ⟨w.heap.size, 4, none⟩) (.inl rfl) (.slice sp2 att.length c2)) (fun j hj e => n2 (by subst e; exact hj.symm)))
      have HC9 := Lib.hid (hC.out.fr ((Fr.refl (fun j => j = w.heap.size) wr).setCell (p := ⟨w.heap.size, 4, none⟩) (.inl rfl) (.slice sp2 att.length c2)) (fun j hj e => n2c (by subst e; exact hj.symm)))
      clear n2 n2c hO hC
      go_wp2_with fail
      have M := F9.out.fin
      have n3 := HO9.out.ne (show _ = some (.cells #[.int .i64 0, .string ⟨#[]⟩, .string ⟨#[]⟩, .slice none 0 0, .slice none 0 0] 25 (0, 0)) from F9.out.res) (by intro c; simp)
      have n3c := HC9.out.ne (show _ = some (.cells #[.int .i64 0, .string ⟨#[]⟩, .string ⟨#[]⟩, .slice none 0 0, .slice none 0 0] 25 (0, 0)) from F9.out.res) (by intro c; simp)
      clear b0 b1 b2 b3 b4 r0 r1 r2 r3 r4 y0 y1 y2 y3 y4
      generalize (((((wr.setCell ⟨w.heap.size, 4, none⟩ (.slice sp2 att.length c2)).setCell ⟨w.heap.size + 1, 0, none⟩ (.int .i64 par)).setCell ⟨w.heap.size + 1, 1, none⟩ (.string ltag)).setCell ⟨w.heap.size + 1, 2, none⟩ (.string id)).setCell ⟨w.heap.size + 1, 3, none⟩ (.slice sp1 cls.length sc1)).setCell ⟨w.heap.size + 1, 4, none⟩ (.slice sp2 att.length c2) = wz at *
      obtain ⟨m1, m2⟩ := M
      have d0 := cellOf m1 0
      have d1 := cellOf m1 1
      have d2 := cellOf m1 2
      have d3 := cellOf m1 3
      have d4 := cellOf m1 4
      simp at d0 d1 d2 d3 d4
      show bodyPost Try.prog Try.f37 _ Exit.ret _ _
      refine bodyPost_ret (v := .agg #[.int .i64 par, .string ltag, .string id, .slice sp1 cls.length sc1, .slice sp2 att.length c2]) (by simp [results, Try.results37, go_sem, d0, d1, d2, d3, d4]) rfl ?_
      have k1 := HC9.out.fr m2 (fun j hj e => n3c (by subst e; exact hj.symm))
      have k2 := HO9.out.fr m2 (fun j hj e => n3 (by subst e; exact hj.symm))
      rw [List.take_of_length_le (by rw [lowA_len]; omega)] at k2
      exact ⟨⟨sp1, sc1, sp2, c2, rfl, k1, k2⟩, F9.out.fr.step m2 (fun j e => .inr (by omega))⟩
end Go.Proofs.Ytdbhcogafhhlnaa.R
