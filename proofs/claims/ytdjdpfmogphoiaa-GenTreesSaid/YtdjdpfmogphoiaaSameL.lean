/- Same: two lists of nodes that read alike. -/
import Derived.Test.YtdjdpfmogphoiaaSameD
import Derived.Deep.RegionWith
import Derived.Deep.Cut
namespace Go.Proofs.Ytdjdpfmogphoiaa
open Go.RowKit Go.Maps Go.ChangeShapes Go.WideShapes Go.ChangeAt Go.WideMaps Go.WideElems

/-- One node: its cells' values, read. -/
def RdD (w : World) (d : NodeD) (sp : Option Addr) (vA : Value) : Prop := RdS w sp d.cls ∧ ∃ base, IsAtt base w vA d.att

theorem sameNode_any (d : NodeD) (sp1 sp2 : Option Addr) (c1 c2 : Nat) (v1 v2 : Value) (w : World) (h1 : RdD w d sp1 v1) (h2 : RdD w d sp2 v2) (hn : d.cls.length ≤ 1000) :
    Calls Try.prog 22 #[.agg #[.int .i64 d.par, .string d.tag, .string d.id, .slice sp1 d.cls.length c1, v1], .agg #[.int .i64 d.par, .string d.tag, .string d.id, .slice sp2 d.cls.length c2, v2]] w fun e w' => e = .returned (.bool true) ∧ Fr (fun _ => False) w w' := by
  obtain ⟨s1, b1, a1⟩ := h1
  obtain ⟨s2, b2, a2⟩ := h2
  rcases a1 with ⟨e1, rfl⟩ | ⟨a, t, g1, e1, rfl, _, hg1⟩
  · rcases a2 with ⟨_, rfl⟩ | ⟨a, t, g2, e2, rfl, _, hg2⟩
    · exact sameNode0 d sp1 sp2 c1 c2 w s1 s2 hn
    · rw [e1] at e2; cases e2
  · rcases a2 with ⟨e2, rfl⟩ | ⟨a', t', g2, e2, rfl, _, hg2⟩
    · rw [e1] at e2; cases e2
    · rw [e1] at e2
      cases e2
      exact sameNode1 d sp1 sp2 c1 c2 w s1 s2 hn g1 g2 a t hg1 hg2

/-- A list of nodes, read. -/
def RdN (w : World) (p : Option Addr) (ds : List NodeD) : Prop :=
  ∀ k d, ds[k]? = some d → ∃ b sp c vA, p = some ⟨b, 0, none⟩ ∧ b < w.heap.size ∧ w.cell? ⟨b, k * 5, none⟩ = some (.int .i64 d.par) ∧ w.cell? ⟨b, k * 5 + 1, none⟩ = some (.string d.tag) ∧ w.cell? ⟨b, k * 5 + 2, none⟩ = some (.string d.id) ∧
    w.cell? ⟨b, k * 5 + 3, none⟩ = some (.slice sp d.cls.length c) ∧ w.cell? ⟨b, k * 5 + 4, none⟩ = some vA ∧ RdD w d sp vA

theorem RdN.of {w : World} {base base' : Nat} {sp : Option Addr} {n c : Nat} {xs : List Value} {ds : List NodeD} (h : w.ownsRow base 47 5 (.slice sp n c) n xs) (hl : NL base' w xs ds) (hn : ds.length = n) : RdN w sp ds := by
  intro k d hk
  have hlt : k < ds.length := (List.getElem?_eq_some_iff.1 hk).1
  obtain ⟨g, c', e, hc⟩ := ownsRow.first h (by omega)
  cases e
  obtain ⟨cs, ⟨sp1, c1, vA, rfl, r1, r2⟩, hx⟩ := hl.at k hlt
  have hd : ds[k] = d := by
    rw [List.getElem?_eq_getElem hlt] at hk
    exact Option.some.inj hk
  rw [hd] at hx r1 r2
  exact ⟨g, sp1, c1, vA, rfl, (h.lt g rfl).2, hc _ _ (hx 0 (by omega)), hc _ _ (hx 1 (by omega)), hc _ _ (hx 2 (by omega)), hc _ _ (hx 3 (by omega)), hc _ _ (hx 4 (by omega)), RdS.of r1, base', r2⟩

theorem cellFr {w w' : World} (f : Fr (fun _ => False) w w') {b k : Nat} {v : Value} (h : w.cell? ⟨b, k, none⟩ = some v) : w'.cell? ⟨b, k, none⟩ = some v := by
  have hlt : b < w.heap.size := by
    rcases Nat.lt_or_ge b w.heap.size with hh | hh
    · exact hh
    · simp [World.cell?, Array.getElem?_eq_none hh] at h
  exact (f.cell (p := ⟨b, k, none⟩) hlt (by simp)).trans h

theorem RdD.fr {w w' : World} {d : NodeD} {sp : Option Addr} {v : Value} (h : RdD w d sp v) (f : Fr (fun _ => False) w w') : RdD w' d sp v := by
  obtain ⟨s1, b1, a1⟩ := h
  exact ⟨s1.to (fun b k v h => cellFr f h), b1, IsAtt.keep a1 (fun g a t hg => f.heap hg (by simp))⟩
theorem RdN.fr {w w' : World} {p : Option Addr} {ds : List NodeD} (h : RdN w p ds) (f : Fr (fun _ => False) w w') : RdN w' p ds := fun k d hk => by
  obtain ⟨b, sp, c, vA, e, hb, h0, h1, h2, h3, h4, h5⟩ := h k d hk
  exact ⟨b, sp, c, vA, e, Nat.lt_of_lt_of_le hb f.size, cellFr f h0, cellFr f h1, cellFr f h2, cellFr f h3, cellFr f h4, h5.fr f⟩

theorem IsAtt.shape {w : World} {base : Nat} {v : Value} {l : List (ByteArray × ByteArray)} (h : IsAtt base w v l) : ∃ p n c, v = .slice p n c := by
  rcases h with ⟨_, rfl⟩ | ⟨a, t, g, _, rfl, _⟩
  · exact ⟨_, _, _, rfl⟩
  · exact ⟨_, _, _, rfl⟩

set_option maxHeartbeats 4000000 in
set_option maxRecDepth 100000 in
theorem sameNodes_any (p1 p2 : Option Addr) (c1 c2 : Nat) (ds : List NodeD) (w : World) (h1 : RdN w p1 ds) (h2 : RdN w p2 ds) (hn : ds.length ≤ 1000) (hc : ∀ d ∈ ds, d.cls.length ≤ 1000) :
    Calls Try.prog 14 #[.slice p1 ds.length c1, .slice p2 ds.length c2] w fun e w' => e = .returned (.bool true) ∧ Below w.heap.size w w' := by
  have H1 := Lib.hid h1
  have H2 := Lib.hid h2
  have HC := Lib.hid hc
  clear h1 h2 hc
  have qn : ((ds.length : Int) != (ds.length : Int)) = false := by simp
  go_enter Try.func14, Try.ntmps14
  go_wp2_with fail
  go_loopw [5] (fun i wr => ∃ (k : Nat), k ≤ ds.length ∧ i = .int .i64 k ∧ Hid (Fr (fun _ => False) w wr)) (fun i _ => ds.length - (intOf i).toNat)
  case atStart => exact ⟨0, by omega, rfl, Fr.refl _ _⟩
  case round =>
    obtain ⟨k, hk, rfl, hF⟩ := hrel
    by_cases hlt : k < ds.length
    · obtain ⟨d, hd⟩ : ∃ d, ds[k]? = some d := ⟨ds[k], by simp [hlt]⟩
      have hcd := HC.out d (List.mem_of_getElem? hd)
      obtain ⟨b1, sp1, k1, v1, rfl, _, x0, x1, x2, x3, x4, r1⟩ := (H1.out.fr hF.out) k d hd
      obtain ⟨b2, sp2, k2, v2, rfl, _, y0, y1, y2, y3, y4, r2⟩ := (H2.out.fr hF.out) k d hd
      obtain ⟨q1, m1, o1, rfl⟩ := r1.2.choose_spec.shape
      obtain ⟨q2, m2, o2, rfl⟩ := r2.2.choose_spec.shape
      have FD := Lib.hid ((Fr.refl (fun _ => False) wr).drew)
      have P := Lib.hid (sameNode_any d sp1 sp2 k1 k2 _ _ wr.drew (r1.fr FD.out) (r2.fr FD.out) hcd)
      clear r1 r2 hd
      have i1 : (k : Int) < (ds.length : Int) := by omega
      generalize d.par = par at *
      generalize d.tag = tag at *
      generalize d.id = id at *
      generalize d.cls.length = len at *
      go_wp2_with fail
      go_region_with (go_at_call 22; refine Calls.mono P.out ?_; rintro e w6 ⟨rfl, f6⟩; have F6 := Lib.hid (hF.out.trans (FD.out.trans f6)); clear f6)
      all_goals
        go_wp2_with fail
        go_roundw
        case rel => exact ⟨k + 1, by omega, by go_num, F6.out⟩
        case measure => simp [intOf]; omega
    · go_wp2_with fail
      go_ret
      exact ⟨rfl, hF.out.below (Nat.le_refl _) (by simp)⟩
end Go.Proofs.Ytdjdpfmogphoiaa
