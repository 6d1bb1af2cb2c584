/- Selectors in memory, in whole depth: as a row that came in reads. No condition. -/
import Derived.Test.YtfhojfndccelfaaRWants
import Derived.SliceStrings
import Derived.Lib.SmallJoins
namespace Go.Proofs.Ytfhojfndccelfaa
open Go.RowKit Go.Maps Go.ChangeShapes Go.WideShapes Go.ChangeAt Go.WideMaps Go.WideElems

/-- A pseudo-class: its list is R. -/
def PsR (R : World → Value → Prop) (w : World) (cs : List Value) (_ : Unit) : Prop := ∃ a b c v, cs = [a, b, c, v] ∧ R w v
def PartX (R : World → Value → Prop) (w : World) (cs : List Value) (x : Prt) : Prop :=
  ∃ (pi pc pa pp : Option Addr) (ci cc na ca cp : Nat) (qs : List Unit), cs = [.int .i64 x.comb, .string x.tag, .slice pi x.ids.length ci, .slice pc x.cls.length cc, .slice pa na ca, .slice pp qs.length cp] ∧
    StrO (fun _ => False) w (.slice pi x.ids.length ci) x.ids ∧ StrO (fun _ => False) w (.slice pc x.cls.length cc) x.cls ∧ x.tag.size ≤ maxLen ∧ RowR 4 (PsR R) w (.slice pp qs.length cp) qs
def SelX (R : World → Value → Prop) (w : World) (cs : List Value) (ps : List Prt) : Prop := ∃ p c, cs = [.slice p ps.length c] ∧ RowR 6 (PartX R) w (.slice p ps.length c) ps
def SelsV : Nat → World → Value → Prop
  | 0 => fun _ _ => False
  | n + 1 => fun w v => ∃ l, RowR 1 (SelX (SelsV n)) w v l
def Sels (w : World) (v : Value) (l : List (List Prt)) : Prop := ∃ n, RowR 1 (SelX (SelsV n)) w v l

set_option linter.unusedSectionVars false
section
variable {R : World → Value → Prop} {w w' : World} (f : Fr (fun _ => False) w w') (hR : ∀ v, R w v → R w' v)
include f hR
theorem PsR.fr {cs : List Value} {x : Unit} (h : PsR R w cs x) : PsR R w' cs x := by
  obtain ⟨a, b, c, v, e, h⟩ := h
  exact ⟨a, b, c, v, e, hR v h⟩
theorem PartX.fr {cs : List Value} {x : Prt} (h : PartX R w cs x) : PartX R w' cs x := by
  obtain ⟨pi, pc, pa, pp, ci, cc, na, ca, cp, qs, e, h1, h2, h3, h4⟩ := h
  exact ⟨pi, pc, pa, pp, ci, cc, na, ca, cp, qs, e, h1.step f (fun _ e => e.elim), h2.step f (fun _ e => e.elim), h3, RowR.below h4 (f.below (Nat.le_refl _) (by simp)) (fun _ _ h => PsR.fr f hR h)⟩
theorem SelX.fr {cs : List Value} {x : List Prt} (h : SelX R w cs x) : SelX R w' cs x := by
  obtain ⟨p, c, e, h1⟩ := h
  exact ⟨p, c, e, RowR.below h1 (f.below (Nat.le_refl _) (by simp)) (fun _ _ h => PartX.fr f hR h)⟩
end
theorem SelsV.fr : ∀ {n : Nat} {w w' : World}, Fr (fun _ => False) w w' → ∀ v, SelsV n w v → SelsV n w' v
  | 0, _, _, _, _, h => h.elim
  | n + 1, _, _, f, _, ⟨l, h⟩ => ⟨l, RowR.below h (f.below (Nat.le_refl _) (by simp)) (fun _ _ h => SelX.fr f (SelsV.fr f) h)⟩
theorem Sels.fr {w w' : World} {v : Value} {l : List (List Prt)} (h : Sels w v l) (f : Fr (fun _ => False) w w') : Sels w' v l := by
  obtain ⟨n, h⟩ := h
  exact ⟨n, RowR.below h (f.below (Nat.le_refl _) (by simp)) (fun _ _ h => SelX.fr f (SelsV.fr f) h)⟩

theorem PartX.prt {R : World → Value → Prop} {w : World} {cs : List Value} {x : Prt} (h : PartX R w cs x) : PrtR w cs x := by
  obtain ⟨pi, pc, pa, pp, ci, cc, na, ca, cp, qs, e, h1, h2, h3, _⟩ := h
  exact ⟨pi, pc, pa, pp, ci, cc, na, ca, qs.length, cp, e, h1, h2, h3⟩
theorem parts_of {R : World → Value → Prop} {w : World} {v : Value} {ps : List Prt} (h : RowR 6 (PartX R) w v ps) : IsParts w v ps := by
  obtain ⟨p, c, e, h1, h2, h3⟩ := h
  refine ⟨p, c, e, h1, h2, fun i x hx => ?_⟩
  obtain ⟨g, off, cs, a, b, c, d, r⟩ := h3 i x hx
  exact ⟨g, off, cs, a, b, c, d, r.prt⟩

/-- One selector. -/
theorem sel_at {R : World → Value → Prop} {w : World} {p : Option Addr} {n c : Nat} {l : List (List Prt)} (h : RowR 1 (SelX R) w (.slice p n c) l) {j : Nat} {x : List Prt} (hx : l[j]? = some x) :
    ∃ g off p' c', p = some ⟨g, off, none⟩ ∧ n = l.length ∧ g < w.heap.size ∧ w.cell? ⟨g, off + j, none⟩ = some (.slice p' x.length c') ∧ RowR 6 (PartX R) w (.slice p' x.length c') x := by
  obtain ⟨p', c', e, _, _, h3⟩ := h
  cases e
  obtain ⟨g, off, cs, rfl, hg, hl, hc, q, d, rfl, r⟩ := h3 j x hx
  have := hc 0 (by omega)
  exact ⟨g, off, q, d, rfl, rfl, hg, by simpa using this, r⟩
theorem partx_at {R : World → Value → Prop} {w : World} {p : Option Addr} {n c : Nat} {ps : List Prt} (h : RowR 6 (PartX R) w (.slice p n c) ps) {j : Nat} {x : Prt} (hx : ps[j]? = some x) :
    ∃ (g off : Nat) (pi pc pa pp : Option Addr) (ci cc na ca cp : Nat) (qs : List Unit), p = some ⟨g, off, none⟩ ∧ n = ps.length ∧ g < w.heap.size ∧ w.cell? ⟨g, off + j * 6, none⟩ = some (.int .i64 x.comb) ∧ w.cell? ⟨g, off + j * 6 + 1, none⟩ = some (.string x.tag) ∧
      w.cell? ⟨g, off + j * 6 + 1 + 1, none⟩ = some (.slice pi x.ids.length ci) ∧ w.cell? ⟨g, off + j * 6 + 1 + 2, none⟩ = some (.slice pc x.cls.length cc) ∧ w.cell? ⟨g, off + j * 6 + 1 + 3, none⟩ = some (.slice pa na ca) ∧ w.cell? ⟨g, off + j * 6 + 1 + 4, none⟩ = some (.slice pp qs.length cp) ∧
      RowR 4 (PsR R) w (.slice pp qs.length cp) qs := by
  obtain ⟨p', c', e, _, _, h3⟩ := h
  cases e
  obtain ⟨g, off, cs, rfl, hg, hl, hc, pi, pc, pa, pp, ci, cc, na, ca, cp, qs, rfl, _, _, _, r⟩ := h3 j x hx
  exact ⟨g, off, pi, pc, pa, pp, ci, cc, na, ca, cp, qs, rfl, rfl, hg, hc 0 (by omega), hc 1 (by omega), hc 2 (by omega), hc 3 (by omega), hc 4 (by omega), hc 5 (by omega), r⟩
theorem ps_at {R : World → Value → Prop} {w : World} {p : Option Addr} {n c : Nat} {qs : List Unit} (h : RowR 4 (PsR R) w (.slice p n c) qs) {j : Nat} (hj : j < qs.length) :
    ∃ g off v, p = some ⟨g, off, none⟩ ∧ n = qs.length ∧ g < w.heap.size ∧ w.cell? ⟨g, off + j * 4 + 3, none⟩ = some v ∧ R w v := by
  obtain ⟨p', c', e, _, _, h3⟩ := h
  cases e
  obtain ⟨g, off, cs, rfl, hg, hl, hc, a, b, c, v, rfl, r⟩ := h3 j qs[j] (List.getElem?_eq_getElem hj)
  exact ⟨g, off, v, rfl, rfl, hg, hc 3 (by omega), r⟩

/-! ### opened -/
theorem rowR_open2 {H : Type} {enc : TypeId × Value → H} {P : Program} {t e : TypeId} {w : World} {α : Type} {R : World → List Value → α → Prop} {k m : Nat} {v : Value} {y : DataW H × List MemPlace} (ht : P.underlying t = some (.slice e)) (hc : P.cellsOf e = k) (hk : 0 < k)
    (h : DataW.trod enc P w 0 (fun _ => true) true (m + 1) t [v] = some y)
    (hel : ∀ cs y, cs.length = k → DataW.trod enc P w 0 (fun _ => true) true m e cs = some y → ∃ x, R w cs x) : ∃ l, RowR k R w v l := by
  rcases DataW.trod_slice ht h with ⟨hcs, _⟩ | ⟨x, len, cap, elems, rest, n, hn, hcs, _, hl, hm, hmm, hlen, hx, _, _⟩
  · simp at hcs
    subst hcs
    exact ⟨[], none, 0, rfl, Nat.le_refl _, Nat.zero_le _, fun i x h => by simp at h⟩
  · simp at hcs
    subst hcs
    obtain rfl : m = n := by omega
    obtain ⟨L, hL, hp⟩ := choose_list (n := len) (p := fun i z => ∃ cs, cs.length = k ∧ (∀ j, j < k → w.cell? ((x.add (i * k)).add j) = cs[j]?) ∧ R w cs z) (fun i hi => by
      have q := hx i hi
      rw [List.getElem?_eq_getElem (by omega), Option.bind_eq_some_iff] at q
      obtain ⟨cs', q1, q2⟩ := q
      rw [hc] at q1
      obtain ⟨r1, r2, r3⟩ := World.cells?_some q1
      obtain ⟨z, hz⟩ := hel cs' _ r2 q2
      exact ⟨z, cs', r2, r3, hz⟩)
    refine ⟨L, some x, cap, by rw [hL], by omega, hmm, fun i z hz => ?_⟩
    obtain ⟨cs, s1, s2, s3⟩ := hp i z hz
    have hc0 := s2 0 hk
    have hlt : ∃ u, cs[0]? = some u := ⟨cs[0], by simp⟩
    obtain ⟨u, hu⟩ := hlt
    rw [hu] at hc0
    have hb := World.block_lt_of_cell? w _ hc0
    have hs : x.spot = none := by
      have hi : i < L.length := (List.getElem?_eq_some_iff.1 hz).1
      obtain ⟨cs0, t1, t2, _⟩ := hp 0 L[0] (List.getElem?_eq_getElem (by omega))
      have t3 := t2 0 hk
      rw [List.getElem?_eq_getElem (by omega)] at t3
      simpa [Addr.add] using World.cell?_spot t3
    rw [addOf x _ hs] at hb s2
    obtain ⟨b, o, sp⟩ := x
    simp only at hs
    subst hs
    refine ⟨b, o, cs, rfl, ?_, s1, fun j hj => ?_, s3⟩
    · rw [addOf _ _ rfl] at hb; exact hb
    · have := s2 j hj
      rw [addOf _ _ rfl] at this
      exact this

section
variable {H : Type} {enc : TypeId × Value → H} {w : World}
theorem strO_open {n : Nat} {v : Value} {y : DataW H × List MemPlace} (hf : DataW.trod enc Try.prog w 0 (fun _ => true) true n 41 [v] = some y) :
    ∃ l p c, v = .slice p l.length c ∧ StrO (fun _ => False) w (.slice p l.length c) l := by
  have q : ∃ l, IsStrs w v l := by
    rcases open_strings Try.underlying41 Try.underlying9 (by kernel_rfl) hf with ⟨hcs, _⟩ | ⟨x, l, c', zs, hcs, _, hl, hm, hz, _, hcell, hws⟩
    · simp at hcs
      subst hcs
      exact ⟨[], rowOf_nil _ _, fun s hs => by simp at hs⟩
    · simp at hcs
      subst hcs
      exact ⟨zs.take l, rowOf_open ByteArray.empty zs hl hm (by simpa using hz) hcell, fun s hs => hws s (List.mem_of_mem_take hs)⟩
  obtain ⟨l, hl⟩ := q
  obtain ⟨p, c, e, _⟩ := hl.1
  subst e
  exact ⟨l, p, c, rfl, StrO.of hl (fun _ h => h.elim)⟩
theorem slice_open {n t e : Nat} {v : Value} {y : DataW H × List MemPlace} (ht : Try.prog.underlying t = some (.slice e)) (hf : DataW.trod enc Try.prog w 0 (fun _ => true) true n t [v] = some y) : ∃ p k c, v = .slice p k c := by
  rcases DataW.trod_slice ht hf with ⟨hcs, _⟩ | ⟨x, len, cap, elems, rest, n, hn, hcs, _⟩
  · simp at hcs
    exact ⟨_, _, _, hcs⟩
  · simp at hcs
    exact ⟨_, _, _, hcs⟩
theorem fld {P : Program} {n : Nat} {fs : Array Field} {xs : List (DataW H × List MemPlace)} {cs : List Value} (hf : ∀ (i : Nat) (f : Field), fs[i]? = some f → DataW.trod enc P w 0 (fun _ => true) true n f.type ((cs.drop f.offset).take (P.cellsOf f.type)) = xs[i]?) (hs : xs.length = fs.size) (i t o c : Nat) (h : ∃ f, fs[i]? = some f ∧ f.type = t ∧ f.offset = o) (hc : P.cellsOf t = c) :
    ∃ y, DataW.trod enc P w 0 (fun _ => true) true n t ((cs.drop o).take c) = some y := by
  obtain ⟨f, h, rfl, rfl⟩ := h
  subst hc
  have hi : i < fs.size := (Array.getElem?_eq_some_iff.1 h).1
  exact ⟨xs[i], (hf i f h).trans (List.getElem?_eq_getElem (by omega))⟩

theorem selsV_open : ∀ (F fuel : Nat) (v : Value) (y : DataW H × List MemPlace), fuel ≤ F → DataW.trod enc Try.prog w 0 (fun _ => true) true fuel 45 [v] = some y → ∃ l, RowR 1 (SelX (SelsV F)) w v l := by
  have e3 : Try.prog.cellsOf 3 = 1 := by kernel_rfl
  have e9 : Try.prog.cellsOf 9 = 1 := by kernel_rfl
  have e41 : Try.prog.cellsOf 41 = 1 := by kernel_rfl
  have e45 : Try.prog.cellsOf 45 = 1 := by kernel_rfl
  have e49 : Try.prog.cellsOf 49 = 1 := by kernel_rfl
  have e70 : Try.prog.cellsOf 70 = 1 := by kernel_rfl
  have e71 : Try.prog.cellsOf 71 = 1 := by kernel_rfl
  have e73 : Try.prog.cellsOf 73 = 5 := by kernel_rfl
  intro F
  induction F with
  | zero =>
    intro fuel v y hF h
    obtain rfl : fuel = 0 := by omega
    simp [DataW.trod] at h
  | succ F ih =>
    intro fuel v y hF h
    cases fuel with
    | zero => simp [DataW.trod] at h
    | succ m =>
    refine rowR_open2 Try.underlying45 (k := 1) (by kernel_rfl) (by omega) h (fun cs y hl hy => ?_)
    obtain ⟨c0, rfl⟩ : ∃ c0, cs = [c0] := by
      match cs, hl with
      | [c0], _ => exact ⟨c0, rfl⟩
    obtain ⟨xs, m1, hm1, _, _, hs1, hf1⟩ := DataW.trod_struct Try.underlying51 hy
    obtain ⟨y1, h1⟩ := fld hf1 hs1 0 49 0 1 ⟨_, rfl, rfl, rfl⟩ e49
    simp only [List.drop_zero, List.take_succ_cons, List.take_zero] at h1
    cases m1 with
    | zero => simp [DataW.trod] at h1
    | succ m2 =>
    obtain ⟨ps, hps⟩ := rowR_open2 (R := PartX (SelsV (F + 1))) Try.underlying49 (k := 6) (by kernel_rfl) (by omega) h1 (fun cs y hl hy => by
      obtain ⟨c0, c1, c2, c3, c4, c5, rfl⟩ : ∃ c0 c1 c2 c3 c4 c5, cs = [c0, c1, c2, c3, c4, c5] := by
        match cs, hl with
        | [c0, c1, c2, c3, c4, c5], _ => exact ⟨c0, c1, c2, c3, c4, c5, rfl⟩
      obtain ⟨xs, m3, hm3, _, _, hs3, hf3⟩ := DataW.trod_struct Try.underlying75 hy
      obtain ⟨z0, g0⟩ := fld hf3 hs3 0 3 0 1 ⟨_, rfl, rfl, rfl⟩ e3
      obtain ⟨z1, g1⟩ := fld hf3 hs3 1 73 1 5 ⟨_, rfl, rfl, rfl⟩ e73
      simp only [List.drop_zero, List.take_succ_cons, List.take_zero, List.drop_succ_cons] at g0 g1
      obtain ⟨a0, ha0, _, _⟩ := DataW.trod_int Try.underlying3 g0
      simp at ha0
      obtain ⟨xs4, m4, hm4, _, _, hs4, hf4⟩ := DataW.trod_struct Try.underlying73 g1
      obtain ⟨t0, k0⟩ := fld hf4 hs4 0 9 0 1 ⟨_, rfl, rfl, rfl⟩ e9
      obtain ⟨t1, k1⟩ := fld hf4 hs4 1 41 1 1 ⟨_, rfl, rfl, rfl⟩ e41
      obtain ⟨t2, k2⟩ := fld hf4 hs4 2 41 2 1 ⟨_, rfl, rfl, rfl⟩ e41
      obtain ⟨t3, k3⟩ := fld hf4 hs4 3 70 3 1 ⟨_, rfl, rfl, rfl⟩ e70
      obtain ⟨t4, k4⟩ := fld hf4 hs4 4 71 4 1 ⟨_, rfl, rfl, rfl⟩ e71
      simp only [List.drop_zero, List.take_succ_cons, List.take_zero, List.drop_succ_cons] at k0 k1 k2 k3 k4
      obtain ⟨s0, es, _, zs⟩ := DataW.trod_string Try.underlying9 k0
      simp at es
      obtain ⟨ids, pi, ci, ei, ri⟩ := strO_open k1
      obtain ⟨cls, pc, cc, ec, rc⟩ := strO_open k2
      obtain ⟨pa, na, ca, ea⟩ := slice_open Try.underlying70 k3
      cases m4 with
      | zero => simp [DataW.trod] at k4
      | succ m5 =>
      obtain ⟨qs, hqs⟩ := rowR_open2 (R := PsR (SelsV (F + 1))) Try.underlying71 (k := 4) (by kernel_rfl) (by omega) k4 (fun cs y hl hy => by
        obtain ⟨c0, c1, c2, c3, rfl⟩ : ∃ c0 c1 c2 c3, cs = [c0, c1, c2, c3] := by
          match cs, hl with
          | [c0, c1, c2, c3], _ => exact ⟨c0, c1, c2, c3, rfl⟩
        obtain ⟨xs6, m6, hm6, _, _, hs6, hf6⟩ := DataW.trod_struct Try.underlying88 hy
        obtain ⟨u3, j3⟩ := fld hf6 hs6 3 45 3 1 ⟨_, rfl, rfl, rfl⟩ e45
        simp only [List.take_succ_cons, List.take_zero, List.drop_zero, List.drop_succ_cons] at j3
        exact ⟨(), c0, c1, c2, c3, rfl, ih m6 c3 _ (by omega) j3⟩)
      obtain ⟨pp, cp, ep, _⟩ := id hqs
      subst ep
      exact ⟨⟨a0, s0, ids, cls⟩, pi, pc, pa, pp, ci, cc, na, ca, cp, qs, by rw [ha0, es, ei, ec, ea], ri, rc, zs, hqs⟩)
    obtain ⟨p, c, ep, _⟩ := id hps
    subst ep
    exact ⟨ps, p, c, rfl, hps⟩
end

theorem sels_open {H : Type} {enc : TypeId × Value → H} {w : World} {v : Value} {d : DataW H} {ps : List MemPlace} {r : Reach} {b0 : Nat}
    (hval : Value.okWide Try.prog w r b0 45 v) (h : DataW.Trod enc Try.prog w 0 (fun _ => true) true 45 v d ps) : ∃ l, Sels w v l := by
  obtain ⟨a, n, c, rfl⟩ := okWide_slice Try.underlying45 hval
  obtain ⟨fuel, hf⟩ := h
  obtain ⟨l, hl⟩ := selsV_open fuel fuel _ _ (Nat.le_refl _) (by simpa [Value.cells] using hf)
  exact ⟨l, _, hl⟩
end Go.Proofs.Ytfhojfndccelfaa
