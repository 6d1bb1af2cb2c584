/- A tree and the reference's, side by side: what both tell of an element, wherever it is. -/
import Derived.Test.YtdbhcogafhhlnaaDSame
import Derived.Test.YtdbhcogafhhlnaaDBig
namespace Go.Proofs.Ytdbhcogafhhlnaa
open Go.RowKit Go.Maps Go.ChangeShapes Go.WideShapes Go.ChangeAt Go.WideMaps Go.WideElems

/-- What both tell of z, in each world that comes from wp by new memory. -/
structure Both (wp : World) (tb tr : Nat) (z : Int) (d : NodeD) (kl : List Int) (pv dv lv bv : Int) : Prop where
  n15 : ∀ W, Fr (fun _ => False) wp W → Calls Try.prog 15 #[.pointer (some ⟨tb, 0, none⟩), .int .i64 z] W (NodeR W d)
  n25 : ∀ W, Fr (fun _ => False) wp W → Calls Try.prog 25 #[.pointer (some ⟨tr, 0, none⟩), .int .i64 z] W (NodeR W d)
  p21 : ∀ W, Fr (fun _ => False) wp W → Calls Try.prog 21 #[.pointer (some ⟨tb, 0, none⟩), .int .i64 z] W fun e w' => e = .returned (.int .i64 pv) ∧ Fr (fun _ => False) W w'
  p29 : ∀ W, Fr (fun _ => False) wp W → Calls Try.prog 29 #[.pointer (some ⟨tr, 0, none⟩), .int .i64 z] W fun e w' => e = .returned (.int .i64 pv) ∧ Fr (fun _ => False) W w'
  c14 : ∀ W, Fr (fun _ => False) wp W → Calls Try.prog 14 #[.pointer (some ⟨tb, 0, none⟩), .int .i64 z] W (R.NewL W kl)
  c27 : ∀ W, Fr (fun _ => False) wp W → Calls Try.prog 27 #[.pointer (some ⟨tr, 0, none⟩), .int .i64 z] W (R.NewL W kl)
  d13 : ∀ W, Fr (fun _ => False) wp W → Calls Try.prog 13 #[.pointer (some ⟨tb, 0, none⟩), .int .i64 z] W fun e w' => e = .returned (.int .i64 dv) ∧ Fr (fun _ => False) W w'
  d30 : ∀ W, Fr (fun _ => False) wp W → Calls Try.prog 30 #[.pointer (some ⟨tr, 0, none⟩), .int .i64 z] W fun e w' => e = .returned (.int .i64 dv) ∧ Fr (fun _ => False) W w'
  l18 : ∀ W, Fr (fun _ => False) wp W → Calls Try.prog 18 #[.pointer (some ⟨tb, 0, none⟩), .int .i64 z] W fun e w' => e = .returned (.int .i64 lv) ∧ Fr (fun _ => False) W w'
  l31 : ∀ W, Fr (fun _ => False) wp W → Calls Try.prog 31 #[.pointer (some ⟨tr, 0, none⟩), .int .i64 z] W fun e w' => e = .returned (.int .i64 lv) ∧ Fr (fun _ => False) W w'
  b22 : ∀ W, Fr (fun _ => False) wp W → Calls Try.prog 22 #[.pointer (some ⟨tb, 0, none⟩), .int .i64 z] W fun e w' => e = .returned (.int .i64 bv) ∧ Fr (fun _ => False) W w'
  b32 : ∀ W, Fr (fun _ => False) wp W → Calls Try.prog 32 #[.pointer (some ⟨tr, 0, none⟩), .int .i64 z] W fun e w' => e = .returned (.int .i64 bv) ∧ Fr (fun _ => False) W w'
  sc : d.cls.length ≤ 100000
  sa : d.att.length ≤ 100000
  sk : kl.length ≤ 100000

theorem sameFr {P : Program} {f : FuncId} {args : Array Value} {w : World} {v : Value} (h : Calls P f args w fun e w' => e = .returned v ∧ w' = w) : Calls P f args w fun e w' => e = .returned v ∧ Fr (fun _ => False) w w' :=
  h.mono fun _ _ ⟨he, hw⟩ => ⟨he, by rw [hw]; exact Fr.refl _ _⟩
theorem nodeP_R {W : World} {x : ElD} {e : Ending} {w' : World} (h : NodeP W x e w') : NodeR W x.nd e w' := by
  obtain ⟨sp, c, q, o, he, o1, o2, f⟩ := h
  exact ⟨sp, c, q, o, he, o1.lower (Nat.zero_le _), o2.lower (Nat.zero_le _), f⟩

theorem both_in (w0 wp : World) (tb tr : Nat) (ds : List NodeD) (els : List ElD) (hT : TS w0 wp tb els) {spN spD : Option Addr} {cN cD : Nat} (hR : R.RV wp tr ds spN cN spD cD) (hv : VE ds ds.length els) (hb : ds.length ≤ 100000) (k : Nat) (d : NodeD) (hd : ds[k]? = some d)
    (sc : d.cls.length ≤ 100000) (sa : d.att.length ≤ 100000) (v : Int) (hdv : (R.dps ds ds.length)[k]? = some v) :
    Both wp tb tr (k : Int) d (kidL ds (k : Int) ds.length) d.par v ((kidL ds d.par k).length + 1) ((kidL ds d.par k).getLastD (-1)) := by
  have hk : k < ds.length := (List.getElem?_eq_some_iff.1 hd).1
  have hkl : k < els.length := by rw [hv.len]; exact hk
  have hx := List.getElem?_eq_getElem hkl
  generalize els[k] = x at *
  have hke := eltAt_in hx
  obtain ⟨e1, e2, e3, e4⟩ := hv.at_ k x hx
  rw [hd] at e1
  cases e1
  rw [parN_at hd] at e3 e4
  have hdep : x.dep = v := by
    have := hv.dep
    rw [← this, List.getElem?_map, hx] at hdv
    exact Option.some.inj hdv
  have hl := kidL_len ds (k : Int) ds.length
  refine ⟨fun W f => ?_, fun W f => RNode_yes W tr ds (hR.fr f) k _ hd, fun W f => Parent_any w0 W tb els (hT.fr0 f) k x hx, fun W f => sameFr (R.Parent_yes W tr ds (hR.fr f) k _ hd), fun W f => ?_, fun W f => R.Children_yes W tr ds (hR.fr f) hv.good hb k hk, fun W f => ?_,
    fun W f => sameFr (R.Depth_yes W tr ds (hR.fr f) k v hdv), fun W f => ?_, fun W f => R.Place_yes W tr ds (hR.fr f) hv.good k _ hd, fun W f => ?_, fun W f => R.Before_yes W tr ds (hR.fr f) hv.good k _ hd, sc, sa, by omega⟩
  · exact (Node_any w0 W tb els (hT.fr0 f) (k : Int) x hke (by omega) (by omega)).mono fun _ _ h => nodeP_R h
  · have C := Children_any w0 W tb els (hT.fr0 f) (k : Int) (by rw [hke, e2]; omega)
    rw [hke, e2] at C
    exact C.mono fun _ _ ⟨⟨sp, c, he, ho⟩, f⟩ => ⟨sp, c, he, ho, f⟩
  · have := Depth_any w0 W tb els (hT.fr0 f) (k : Int)
    rwa [hke, hdep] at this
  · have := Place_any w0 W tb els (hT.fr0 f) (k : Int)
    rwa [hke, e3] at this
  · have := Before_any w0 W tb els (hT.fr0 f) (k : Int)
    rwa [hke, e4] at this
theorem both_out (w0 wp : World) (tb tr : Nat) (ds : List NodeD) (els : List ElD) (hT : TS w0 wp tb els) {spN spD : Option Addr} {cN cD : Nat} (hR : R.RV wp tr ds spN cN spD cD) (hl : els.length = ds.length) (z : Int) (hz : z < 0 ∨ (ds.length : Int) ≤ z) :
    Both wp tb tr z ⟨0, ⟨#[]⟩, ⟨#[]⟩, [], []⟩ [] (-1) 0 0 (-1) := by
  have hke := eltAt_out (els := els) (e := z) (by rw [hl]; exact hz)
  refine ⟨fun W f => ?_, fun W f => RNode_no W tr ds (hR.fr f) z hz, fun W f => Parent_out w0 W tb els (hT.fr0 f) z (by rw [hl]; exact hz), fun W f => sameFr (R.Parent_no W tr ds (hR.fr f) z hz), fun W f => ?_, fun W f => R.Children_no W tr ds (hR.fr f) z hz, fun W f => ?_,
    fun W f => sameFr (R.Depth_no W tr ds (hR.fr f) z hz), fun W f => ?_, fun W f => sameFr (R.Place_no W tr ds (hR.fr f) z hz), fun W f => ?_, fun W f => sameFr (R.Before_no W tr ds (hR.fr f) z hz), by simp, by simp, by simp⟩
  · exact (Node_any w0 W tb els (hT.fr0 f) z _ hke (by simp) (by simp)).mono fun _ _ h => nodeP_R h
  · have C := Children_any w0 W tb els (hT.fr0 f) z (by rw [hke]; simp)
    rw [hke] at C
    exact C.mono fun _ _ ⟨⟨sp, c, he, ho⟩, f⟩ => ⟨sp, c, he, ho, f⟩
  · have := Depth_any w0 W tb els (hT.fr0 f) z
    rwa [hke] at this
  · have := Place_any w0 W tb els (hT.fr0 f) z
    rwa [hke] at this
  · have := Before_any w0 W tb els (hT.fr0 f) z
    rwa [hke] at this
theorem both_any (w0 wp : World) (tb tr : Nat) (ds : List NodeD) (els : List ElD) (hT : TS w0 wp tb els) {spN spD : Option Addr} {cN cD : Nat} (hR : R.RV wp tr ds spN cN spD cD) (hv : VE ds ds.length els) (hb : ds.length ≤ 100000) (hs : ∀ (k : Nat) d, ds[k]? = some d → d.cls.length ≤ 100000 ∧ d.att.length ≤ 100000) (z : Int) :
    ∃ d kl pv dv lv bv, Both wp tb tr z d kl pv dv lv bv := by
  by_cases hz : z < 0 ∨ (ds.length : Int) ≤ z
  · exact ⟨_, _, _, _, _, _, both_out w0 wp tb tr ds els hT hR hv.len z hz⟩
  · obtain ⟨k, rfl⟩ := Int.eq_ofNat_of_zero_le (by omega : 0 ≤ z)
    have hk : k < ds.length := by omega
    have hd := List.getElem?_eq_getElem hk
    have hdl : k < (R.dps ds ds.length).length := by rw [R.dps_len]; exact hk
    exact ⟨_, _, _, _, _, _, both_in w0 wp tb tr ds els hT hR hv hb k _ hd (hs k _ hd).1 (hs k _ hd).2 _ (List.getElem?_eq_getElem hdl)⟩
/-- Two nodes, read as one. -/
theorem nodes_same (W : World) (d : NodeD) (p1 p2 q1 q2 : Option Addr) (c1 c2 o1 o2 : Nat) (h1 : RdV W p1 (d.cls.map Value.string)) (h2 : RdV W p2 (d.cls.map Value.string)) (h3 : RdV W q1 (attL (lowA d.att))) (h4 : RdV W q2 (attL (lowA d.att))) (hn : d.cls.length ≤ 100000) (hm : d.att.length ≤ 100000) :
    Calls Try.prog 24 #[.agg #[.int .i64 d.par, .string (lowS d.tag), .string d.id, .slice p1 d.cls.length c1, .slice q1 d.att.length o1], .agg #[.int .i64 d.par, .string (lowS d.tag), .string d.id, .slice p2 d.cls.length c2, .slice q2 d.att.length o2]] W
      fun e w' => e = .returned (.bool true) ∧ Fr (fun _ => False) W w' := by
  have hla : (lowA d.att).length = d.att.length := by simp [lowA]
  have := sameNode_any W d.par (lowS d.tag) d.id d.cls (lowA d.att) p1 p2 q1 q2 c1 c2 o1 o2 h1 h2 h3 h4 hn (by omega)
  rwa [hla] at this
end Go.Proofs.Ytdbhcogafhhlnaa
