/- Nodes that are handed in, opened; what the reference reads of them. -/
import Derived.Test.YtdbhcogafhhlnaaDNd
import Derived.Test.YtdbhcogafhhlnaaRTreeW
import Derived.Deep.Slices
namespace Go.Proofs.Ytdbhcogafhhlnaa
open Go.RowKit Go.Maps Go.ChangeShapes Go.WideShapes Go.ChangeAt Go.WideMaps Go.WideElems

/-- As the reference reads them. -/
theorem rdW_of_src {w : World} {sp : Option Addr} {l : List ByteArray} (h : Src w 1 sp l.length (l.map Value.string)) : R.RdW w sp l := by
  intro k t hk
  have hkl := (List.getElem?_eq_some_iff.1 hk).1
  cases sp with
  | none => have := h.2.1 rfl; omega
  | some ad =>
    have hc := h.2.2 ad rfl k (.string t) (by rw [List.getElem?_map, hk]; rfl)
    have hs : ad.spot = none := by
      have h0 := h.2.2 ad rfl 0 (.string l[0]) (by rw [List.getElem?_map, List.getElem?_eq_getElem (by omega)]; rfl)
      simpa [Addr.add] using World.cell?_spot h0
    rw [addOf _ _ hs] at hc
    obtain ⟨b, off, st⟩ := ad
    simp only at hs
    subst hs
    exact ⟨b, off, rfl, World.block_lt_of_cell? w _ hc, hc⟩
theorem rdA_of_src {w : World} {sp : Option Addr} {l : List (ByteArray × ByteArray)} (h : Src w 2 sp l.length (attL l)) : R.RdA w sp l := by
  intro k p hk
  have hkl := (List.getElem?_eq_some_iff.1 hk).1
  obtain ⟨k0, k1⟩ := attL_at l k p.1 p.2 hk
  cases sp with
  | none => have := h.2.1 rfl; omega
  | some ad =>
    have h0 := h.2.2 ad rfl _ _ k0
    have h1 := h.2.2 ad rfl _ _ k1
    have hs : ad.spot = none := by
      obtain ⟨z0, _⟩ := attL_at l 0 l[0].1 l[0].2 (List.getElem?_eq_getElem (by omega))
      simpa [Addr.add] using World.cell?_spot (h.2.2 ad rfl _ _ z0)
    rw [addOf _ _ hs] at h0 h1
    obtain ⟨b, off, st⟩ := ad
    simp only at hs
    subst hs
    exact ⟨b, off, rfl, World.block_lt_of_cell? w _ h0, h0, h1⟩

/-- The attributes' slices have room as they say. -/
def RdCap (w : World) (p : Option Addr) (ds : List NodeD) : Prop := ∀ (k : Nat) d, ds[k]? = some d → ∀ b off, p = some ⟨b, off, none⟩ → ∀ q n o, w.cell? ⟨b, off + k * 5 + 4, none⟩ = some (.slice q n o) → n ≤ o ∧ o ≤ maxLen
theorem RdNs.ref {w : World} {p : Option Addr} {ds : List NodeD} (h : RdNs w p ds) (hc : RdCap w p ds) : R.RdNs w p ds := by
  intro k d hk
  obtain ⟨b, off, sp, c, q, o, e, hb, h0, h1, h2, h3, h4, h5⟩ := h k d hk
  obtain ⟨c1, c2⟩ := hc k d hk b off e _ _ _ h4
  exact ⟨b, off, sp, c, q, o, e, hb, h0, h1, h2, h3, h4, rdW_of_src h5.cls, rdA_of_src h5.att, h5.cls.2.1, h5.hn, h5.hm, c1, c2, h5.ht, h5.ha⟩

def IsNodes (w : World) (v : Value) (ds : List NodeD) : Prop := ∃ p c, v = .slice p ds.length c ∧ ds.length ≤ c ∧ c ≤ maxLen ∧ RdNs w p ds ∧ RdCap w p ds

section
variable {H : Type} {enc : TypeId × Value → H} {w : World}
theorem weightsAll_mem {P : Program} {e : TypeId} : ∀ {l : List (DataW H)} {d : DataW H}, d ∈ l → ∀ n ∈ d.weights P e, n ∈ DataW.weightsAll P e l
  | a :: r, d, hd, n, hn => by
    simp only [DataW.weightsAll, List.mem_append]
    rcases List.mem_cons.1 hd with h | h
    · subst h; exact .inl hn
    · exact .inr (weightsAll_mem h n hn)

theorem nodeCells_cap {n m o : Nat} {v0 v1 v2 v3 : Value} {q : Option Addr} {y : DataW H × List MemPlace} (h : DataW.trod enc Try.prog w 0 (fun _ => true) true n 25 [v0, v1, v2, v3, .slice q m o] = some y) : m ≤ o ∧ o ≤ maxLen := by
  obtain ⟨xs, m', _, rfl, hl, hlen, hf⟩ := DataW.trod_struct Try.underlying25 h
  match xs, hlen with
  | [y0, y1, y2, y3, y4], _ =>
    have e23 : Try.prog.cellsOf 23 = 1 := by kernel_rfl
    have h4 : DataW.trod enc Try.prog w 0 (fun _ => true) true m' 23 ((([v0, v1, v2, v3, .slice q m o] : List Value).drop 4).take (Try.prog.cellsOf 23)) = some y4 := hf 4 _ rfl
    simp only [e23, List.take_succ_cons, List.take_zero, List.drop_succ_cons, List.drop_zero] at h4
    rcases Go.Deep.open_slice Try.underlying23 h4 with ⟨hcs, _⟩ | ⟨x, l, c', mm, n', D, Pl, hcs, _, h1, h2, _⟩
    · simp at hcs
      obtain ⟨rfl, rfl, rfl⟩ := hcs
      exact ⟨Nat.le_refl _, Nat.zero_le _⟩
    · simp at hcs
      obtain ⟨rfl, rfl, rfl⟩ := hcs
      exact ⟨h1, h2⟩

theorem nodes_open {v : Value} {d : DataW H} {ps : List MemPlace} {r : Reach} {b0 : Nat} (hval : Value.okWide Try.prog w r b0 27 v) (h : DataW.Trod enc Try.prog w 0 (fun _ => true) true 27 v d ps) (hs : ∀ k ∈ d.weights Try.prog 27, k ≤ reachBytes) : ∃ ds, IsNodes w v ds := by
  obtain ⟨a, n, c, rfl⟩ := okWide_slice Try.underlying27 hval
  obtain ⟨fuel, hf⟩ := h
  simp only [Value.cells] at hf
  rcases Go.Deep.open_slice Try.underlying27 hf with ⟨hcs, _⟩ | ⟨x, l, c', m, n', D, Pl, hcs, _, hl, hm, hmm, hx0, hx⟩
  · simp at hcs
    obtain ⟨rfl, rfl, rfl⟩ := hcs
    exact ⟨[], none, 0, rfl, Nat.le_refl _, Nat.zero_le _, fun k d hk => (by simp at hk), fun k d hk => (by simp at hk)⟩
  · simp at hcs
    obtain ⟨rfl, rfl, rfl⟩ := hcs
    simp only [if_true] at hmm
    subst hmm
    have e25 : Try.prog.cellsOf 25 = 5 := by kernel_rfl
    have hd : d = .slice ((List.range n).map D) ((List.range (m - n)).map fun j => D (n + j)) := congrArg Prod.fst hx0
    subst hd
    obtain ⟨L, hL, hp⟩ := choose_list (n := n) (p := fun i (z : NodeD) => ∃ cs, cs.length = 5 ∧ (∀ j, j < 5 → w.cell? ((x.add (i * 5)).add j) = cs[j]?) ∧ CsN w cs z ∧ ∀ v0 v1 v2 v3 q n o, cs = [v0, v1, v2, v3, .slice q n o] → n ≤ o ∧ o ≤ maxLen) (fun i hi => by
      obtain ⟨cs', q1, q2⟩ := hx i (by omega)
      rw [e25] at q1
      obtain ⟨r1, r2, r3⟩ := World.cells?_some q1
      obtain ⟨z, hz⟩ := nodeCells_open q2 (fun k hk => hs k (by
        simp only [DataW.weights, Try.underlying27]
        refine List.mem_cons_of_mem _ (List.mem_append_left _ (weightsAll_mem (d := D i) (List.mem_map.2 ⟨i, List.mem_range.2 hi, rfl⟩) k hk))))
      exact ⟨z, cs', r2, r3, hz, fun v0 v1 v2 v3 q n o e => (by subst e; exact nodeCells_cap q2)⟩)
    have main : ∀ (i : Nat) z, L[i]? = some z → ∃ b off sp cc q o, x = ⟨b, off, none⟩ ∧ b < w.heap.size ∧ (∀ j, j < 5 → w.cell? ⟨b, off + i * 5 + j, none⟩ = ([.int .i64 z.par, .string z.tag, .string z.id, .slice sp z.cls.length cc, .slice q z.att.length o] : List Value)[j]?) ∧ RdNd w z sp q ∧ z.att.length ≤ o ∧ o ≤ maxLen := by
      intro i z hz
      obtain ⟨cs, s1, s2, ⟨sp, cc, q, o, rfl, hr⟩, hcap⟩ := hp i z hz
      have hs0 : x.spot = none := by
        have hi : i < L.length := (List.getElem?_eq_some_iff.1 hz).1
        obtain ⟨cs0, t1, t2, _⟩ := hp 0 L[0] (List.getElem?_eq_getElem (by omega))
        have t3 := t2 0 (by omega)
        rw [List.getElem?_eq_getElem (by omega)] at t3
        simpa [Addr.add] using World.cell?_spot t3
      obtain ⟨b, off, st⟩ := x
      simp only at hs0
      subst hs0
      have at_ : ∀ j, j < 5 → w.cell? ⟨b, off + i * 5 + j, none⟩ = ([.int .i64 z.par, .string z.tag, .string z.id, .slice sp z.cls.length cc, .slice q z.att.length o] : List Value)[j]? := by
        intro j hj
        have := s2 j hj
        rw [addOf ⟨b, off, none⟩ _ rfl, addOf ⟨b, off + i * 5, none⟩ _ rfl] at this
        exact this
      exact ⟨b, off, sp, cc, q, o, rfl, World.block_lt_of_cell? w _ (at_ 0 (by omega)), at_, hr, hcap _ _ _ _ _ _ _ rfl⟩
    refine ⟨L, some x, m, by rw [hL], by omega, hm, fun i z hz => ?_, fun i z hz b' off' e q' n' o' hc => ?_⟩
    · obtain ⟨b, off, sp, cc, q, o, rfl, hb, at_, hr, _⟩ := main i z hz
      exact ⟨b, off, sp, cc, q, o, rfl, hb, at_ 0 (by omega), at_ 1 (by omega), at_ 2 (by omega), at_ 3 (by omega), at_ 4 (by omega), hr⟩
    · obtain ⟨b, off, sp, cc, q, o, rfl, hb, at_, hr, h1, h2⟩ := main i z hz
      cases e
      have := (at_ 4 (by omega)).symm.trans hc
      simp at this
      obtain ⟨_, rfl, rfl⟩ := this
      exact ⟨h1, h2⟩
end
end Go.Proofs.Ytdbhcogafhhlnaa
