/- The iterator over code points: its contract. -/
import Derived.Test.YtfgmhpdhgepalaaDoorDec
import Derived.Test.YtfgmhpdhgepalaaDoorShelf
import Derived.Test.YtfgmhpdhgepalaaDoorRF
import Derived.Test.YtfgmhpdhgepalaaDoorWinIn
import Derived.RangeFuncBox
import Derived.RangeFuncLeaves
import Derived.RangeFuncBound
import Derived.Shelf.Abstract
import Derived.OwnWalkIn
import Derived.TacticsInMore
import Derived.LoopNIn
import Derived.LoopIn
import Derived.Maps.AppendAt
import Derived.Shelf.RegionOpen
import Derived.Sort.LoopGhostIn
namespace Go.Proofs.YtfgmhpdhgepalaaDoor
open Go.RowKit Go.Shelf

attribute [local go_sem] Oper.semAt_some

theorem Below.fr0 {w w' : World} (h : Below w.heap.size w w') : Fr (fun _ => False) w w' := (Fr.of_below h).mono (fun i hi k => by omega)
theorem cellFr0 {w w' : World} (f : Fr (fun _ => False) w w') {b k : Nat} {v : Value} (h : w.cell? ⟨b, k, none⟩ = some v) : w'.cell? ⟨b, k, none⟩ = some v :=
  (f.cell (p := ⟨b, k, none⟩) (World.block_lt_of_cell? w _ h) (by simp)).trans h

/-- Bytes, as they are read. -/
def RdB (w : World) (p : Option Addr) (l : List Nat) : Prop := ∀ (k : Nat) x, l[k]? = some x → ∃ g off, p = some ⟨g, off, none⟩ ∧ w.cell? ⟨g, off + k, none⟩ = some (.int .u8 (x : Int))
theorem RdB.fr {w w' : World} {p : Option Addr} {l : List Nat} (h : RdB w p l) (f : Fr (fun _ => False) w w') : RdB w' p l := fun k x hk => by
  obtain ⟨g, off, e, hc⟩ := h k x hk
  exact ⟨g, off, e, cellFr0 f hc⟩
theorem tabs_fr {g3 g4 : Nat} {w w' : World} (h : Lib.Utf8Tabs g3 g4 w) (f : Fr (fun _ => False) w w') : Lib.Utf8Tabs g3 g4 w' :=
  ⟨fun c hc => cellFr0 f (h.1 c hc), fun i hi => ⟨cellFr0 f (h.2 i hi).1, cellFr0 f (h.2 i hi).2⟩⟩
/-- The tables of unicode/utf8 stand. -/
def Tabs (w : World) : Prop := Lib.Utf8Tabs (Tryd.lays7n32_ren.g 2) (Tryd.lays7n32_ren.g 3) w

theorem decodeRune (w : World) (g off c : Nat) (l : List Nat) (hT : Tabs w) (hne : l ≠ []) (hb : ∀ x ∈ l, x < 256) (hr : RdB w (some ⟨g, off, none⟩) l) :
    Calls Tryd.prog 26 #[.slice (some ⟨g, off, none⟩) l.length c] w fun e w' => e = .returned (.tuple #[.int .i32 ((dec l).1 : Int), .int .i64 ((dec l).2 : Int)]) ∧ Fr (fun _ => False) w w' := by
  have := Any7.utf8_DecodeRune Tryd.lays7n32 (baOf l) g off c w hT (fun j hj => by
    rw [baOf_size] at hj
    obtain ⟨g', off', e, hc⟩ := hr j l[j] (List.getElem?_eq_getElem hj)
    cases e
    rw [hc, baOf_get l hb, List.getD_eq_getElem?_getD, List.getElem?_eq_getElem hj]
    rfl)
  rw [decodeGo_of hne hb, baOf_size] at this
  exact this.mono fun e w' ⟨he, hw⟩ => ⟨he, Below.fr0 hw⟩

theorem each_in (p : Option Addr) (n c : Nat) (w : World) :
    Calls Tryd.prog 21 #[.slice p n c] w fun e w' => e = .returned (.func (.func 25) #[] #[.pointer (some ⟨w.heap.size, 0, none⟩)]) ∧ w' = w.alloc (.cells #[.slice p n c] 22) := by
  go_enter Tryd.func21, Tryd.ntmps21
  go_wp2
  go_ret
  exact ⟨rfl, rfl⟩

def IsPts (l xs : List Nat) : Prop := xs = pts l
/-- Between two rounds: what is left stands in the box. -/
structure EW (Wk : World) (cb : Nat) (S : Nat → Prop) (wr : World) (p : Option Addr) (c : Nat) (l : List Nat) : Prop where
  fr : Fr (fun _ => False) Wk wr
  box : wr.heap[cb]? = some (.cells #[.slice p l.length c] 22 (0, 0))
  hcb : Wk.heap.size ≤ cb
  hS : ∀ k, S k → Wk.heap.size ≤ k ∧ k ≠ cb
  rd : RdB Wk p l
  cap : l.length ≤ c ∧ c ≤ maxLen
theorem EW.yielded {Wk : World} {cb : Nat} {S S' : Nat → Prop} {wr w' : World} {p : Option Addr} {c : Nat} {l : List Nat} (h : EW Wk cb S wr p c l) (f : Fr S wr w') (hS' : ∀ k, S' k → S k ∨ wr.heap.size ≤ k) : EW Wk cb S' w' p c l := by
  have hbl := ltOf h.box
  refine ⟨h.fr.step f (fun i e => .inr (h.hS i e).1), f.heap h.box (fun e => (h.hS cb e).2 rfl), h.hcb, fun k hk => ?_, h.rd, h.cap⟩
  rcases hS' k hk with e | e
  · exact h.hS k e
  · exact ⟨by have := h.fr.size; omega, by omega⟩
theorem EW.fr0 {Wk : World} {cb : Nat} {S : Nat → Prop} {wr w' : World} {p : Option Addr} {c : Nat} {l : List Nat} (h : EW Wk cb S wr p c l) (f : Fr (fun _ => False) wr w') : EW Wk cb S w' p c l :=
  ⟨h.fr.trans f, f.heap h.box (by simp), h.hcb, h.hS, h.rd, h.cap⟩
theorem EW.set {Wk : World} {cb : Nat} {S : Nat → Prop} {wr : World} {p p' : Option Addr} {c c' : Nat} {l l' : List Nat} (h : EW Wk cb S wr p c l) (hr : RdB Wk p' l') (hc : l'.length ≤ c' ∧ c' ≤ maxLen) : EW Wk cb S (wr.setCell ⟨cb, 0, none⟩ (.slice p' l'.length c')) p' c' l' :=
  ⟨h.fr.setCell (.inr h.hcb) _, by simpa using heapSet h.box 0 (.slice p' l'.length c'), h.hcb, h.hS, hr, hc⟩
theorem RdB.drop {w : World} {g off : Nat} {l : List Nat} (h : RdB w (some ⟨g, off, none⟩) l) (k : Nat) : RdB w (some ⟨g, off + k, none⟩) (l.drop k) := fun j x hj => by
  rw [List.getElem?_drop] at hj
  obtain ⟨g', off', e, hc⟩ := h _ x hj
  cases e
  exact ⟨g, off + k, rfl, by rw [Nat.add_assoc]; exact hc⟩
theorem RdB.none (w : World) (p : Option Addr) : RdB w p [] := fun k x h => by simp at h

def PreE (Wk : World) (cb : Nat) (p : Option Addr) (c : Nat) (l : List Nat) (W : World) (S : Nat → Prop) : Prop :=
  Fr (fun _ => False) Wk W ∧ W.heap[cb]? = some (.cells #[.slice p l.length c] 22 (0, 0)) ∧ ∀ k, S k → Wk.heap.size ≤ k ∧ k ≠ cb

set_option maxRecDepth 100000 in
set_option maxHeartbeats 4000000 in
theorem each_stops (Wk : World) (cb : Nat) (p : Option Addr) (c : Nat) (l : List Nat) (hT : Tabs Wk) (hb : ∀ x ∈ l, x < 256) (hr : RdB Wk p l) (hc : l.length ≤ c) (hm : c ≤ maxLen) (hcb : Wk.heap.size ≤ cb) (n : Nat) (hn : 2 ≤ n) :
    SeqF Fence.wide n Tryd.prog 25 #[.pointer (some ⟨cb, 0, none⟩)] (fun x : Nat => #[Value.int .i64 (x : Int)]) (fun k => k = cb) (PreE Wk cb p c l) (IsPts l) (fun _ => True) l.length := by
  have hn1 : 1 ≤ n := by omega
  have hn2 : 1 ≤ n - 1 := by omega
  rintro ll J Jx W S0 ⟨p1, p2, p3⟩ hJ hJx hlt hY h00
  have HT := Lib.hid hT
  have HB := Lib.hid hb
  have HJ := Lib.hid hJ
  have HJX := Lib.hid hJx
  have HL := Lib.hid hlt
  have HY := Lib.hid hY
  have HJ0 := Lib.hid h00
  have HE := Lib.hid (show EW Wk cb S0 W p c l from ⟨p1, p2, hcb, p3, hr, hc, hm⟩)
  clear hT hb hr hc hm p1 p2 p3 hJ hJx hlt hY h00
  refine callsIn_of_wp Tryd.func25 rfl trivial ?_ rfl
  simp only [Tryd.ntmps25, List.size_toArray, List.length_cons, List.length_nil, Nat.reduceAdd, Nat.reduceSub, Array.replicate_succ, Array.replicate_zero, List.push_toArray, List.append_toArray, List.nil_append, List.cons_append]
  gi_wp2
  gi_loopg [] (l.length) (fun g wr => ∃ (pre r : List Nat) (p : Option Addr) (c : Nat) (S : Nat → Prop), g = r.length ∧ pre.length + r.length ≤ l.length ∧ Hid (pts l = pre ++ pts r) ∧ Hid (∀ x ∈ r, x < 256) ∧ Hid (J pre S wr) ∧ Hid (EW Wk cb S wr p c r))
  case atStart => exact ⟨[], l, p, c, S0, rfl, by simp, rfl, HB.out, HJ0.out, HE.out⟩
  case round =>
    obtain ⟨pre, r, p, c, S, rfl, hlen, hp, hb, hJ1, hE⟩ := hrel
    clear HE HJ0
    have c0 := cellOf hE.out.box 0
    have z0 := frozenOf hE.out.box 0
    simp at c0
    by_cases hne : r = []
    · subst hne
      have q0 : ¬ ((0 : Int) < ((([] : List Nat).length : Nat) : Int)) := by simp
      gi_wp2
      go_end0
      exact ⟨⟨_, rfl⟩, .inl ⟨pre, by have := hp.out; rw [pts_nil, List.append_nil] at this; exact this.symm, S, hJ1.out⟩⟩
    · have hr0 : 0 < r.length := by
        cases r with
        | nil => exact absurd rfl hne
        | cons a r => simp
      obtain ⟨g, off, rfl, -⟩ := hE.out.rd 0 r[0] (List.getElem?_eq_getElem hr0)
      have HDR := Lib.hid (decodeRune wr g off c r (tabs_fr HT.out hE.out.fr) hne hb.out (hE.out.rd.fr hE.out.fr))
      have hd1 := dec_le r
      have hd2 := dec_ge1 r
      have hd3 := dec_len hne
      have HPT := Lib.hid (pts_cons hne)
      have q0 : (0 : Int) < (r.length : Int) := by omega
      have hcp := hE.out.cap.1
      have hcm := hE.out.cap.2
      unfold maxLen at hcm
      generalize hdc : (dec r).1 = dc at *
      generalize hdn : (dec r).2 = dn at *
      have HNE := Lib.hid hne
      clear hne hdc hdn
      have hpl : pre.length < l.length := by omega
      gi_wp2_with ((refine ⟨trivial, ?_⟩; gi_at_call 26; refine (callsIn_wide.2 HDR.out).mono ?_; rintro e w1 ⟨rfl, f1⟩; have HE1 := Lib.hid (hE.out.fr0 f1); obtain ⟨fn, tmps, assign, body, hy, hR9⟩ := HY.out pre dc S w1 (HJ.out _ _ _ _ hJ1.out (f1.mono (fun _ _ h => h.elim))) hpl; have HR9 := Lib.hid hR9; clear f1 hR9))
      refine HR9.out.mono ?_
      rintro e' W3 (⟨rfl, S', hJ3, f3, hS3⟩ | ⟨rfl, S', hJx3⟩)
      · have HJ3 := Lib.hid hJ3
        have HE3 := Lib.hid (HE1.out.yielded f3 hS3)
        have c3 := cellOf HE3.out.box 0
        have z3 := frozenOf HE3.out.box 0
        simp at c3
        have hrl : (r.drop dn).length = r.length - dn := List.length_drop
        clear hJ3 f3 hS3 HR9 c0 z0
        by_cases hcd : dn = c
        · subst hcd
          have HRN := Lib.hid (show r.drop dn = [] from List.eq_nil_of_length_eq_zero (by omega))
          have hrd : r.length = dn := by omega
          have HE6 := Lib.hid (HE3.out.set (p' := some ⟨g, off, none⟩) (c' := 0) (l' := []) (RdB.none _ _) ⟨Nat.le_refl _, Nat.zero_le _⟩)
          have HJ6 := Lib.hid (HJ.out _ _ _ _ HJ3.out ((Fr.refl (fun k => (k = cb ∨ W.heap.size ≤ k) ∧ ¬ S' k) W3).setCell (p := ⟨cb, 0, none⟩) (.inl ⟨.inl rfl, fun e => (HE3.out.hS cb e).2 rfl⟩) (.slice (some ⟨g, off, none⟩) 0 0)))
          have HP6 := Lib.hid (show pts l = (pre ++ [dc]) ++ pts [] by rw [hp.out, HPT.out, HRN.out]; simp)
          have hg0 : 0 < r.length := hr0
          rw [hrd] at *
          gi_wp2
          gi_roundg 0
          case rel => exact ⟨pre ++ [dc], [], some ⟨g, off, none⟩, 0, S', rfl, by simp; omega, HP6.out, (fun x hx => (by cases hx)), HJ6.out, HE6.out⟩
          case measure => omega
        · have i1 : (dn : Int) ≤ (r.length : Int) := by omega
          have i2 : dn < c := by omega
          have i3 : (dn : Int) < (c : Int) := by omega
          have HE6 := HE3.out.set (p' := some ⟨g, off + dn, none⟩) (c' := c - dn) (HE3.out.rd.drop dn) ⟨by rw [hrl]; omega, Nat.le_trans (Nat.sub_le _ _) HE3.out.cap.2⟩
          rw [hrl] at HE6
          have HE6 := Lib.hid HE6
          have HJ6 := Lib.hid (HJ.out _ _ _ _ HJ3.out ((Fr.refl (fun k => (k = cb ∨ W.heap.size ≤ k) ∧ ¬ S' k) W3).setCell (p := ⟨cb, 0, none⟩) (.inl ⟨.inl rfl, fun e => (HE3.out.hS cb e).2 rfl⟩) (.slice (some ⟨g, off + dn, none⟩) (r.length - dn) (c - dn))))
          have HB6 := Lib.hid (show ∀ x ∈ r.drop dn, x < 256 from fun x hx => hb.out x (List.mem_of_mem_drop hx))
          have HP6 := Lib.hid (show pts l = (pre ++ [dc]) ++ pts (r.drop dn) by rw [hp.out, HPT.out]; simp)
          gi_wp2
          gi_roundg (r.drop dn).length
          case rel => exact ⟨pre ++ [dc], r.drop dn, some ⟨g, off + dn, none⟩, c - dn, S', rfl, by simp; omega, HP6.out, HB6.out, HJ6.out, by show EW _ _ _ _ _ _ _; exact HE6.out⟩
          case measure => rw [hrl]; omega
      · gi_wp2
        refine bodyPost_ret (v := .tuple #[]) (results_none rfl _ _ _) rfl ?_
        exact ⟨⟨_, rfl⟩, .inr ⟨_, S', trivial, hJx3⟩⟩
end Go.Proofs.YtfgmhpdhgepalaaDoor
