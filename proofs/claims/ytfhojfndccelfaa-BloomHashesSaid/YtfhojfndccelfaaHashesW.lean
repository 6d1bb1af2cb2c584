/- BloomHashes: the law over what is handed in. No condition but the text's size. -/
import Derived.Test.YtfhojfndccelfaaHashes
namespace Go.Proofs.Ytfhojfndccelfaa
open Go.RowKit Go.Maps Go.ChangeShapes Go.WideShapes Go.ChangeAt Go.WideMaps Go.WideElems

structure Nod where
  par : Int
  tag : ByteArray
  id : ByteArray
  cls : List ByteArray
/-- A node's value, opened. -/
def IsNod (w : World) (v : Value) (d : Nod) : Prop := ∃ pc pa cc na ca, v = .agg #[.int .i64 d.par, .string d.tag, .string d.id, .slice pc d.cls.length cc, .slice pa na ca] ∧
  StrO (fun _ => False) w (.slice pc d.cls.length cc) d.cls ∧ d.tag.size ≤ maxLen ∧ d.id.size ≤ maxLen
set_option maxRecDepth 100000 in
theorem nod_open {H : Type} {enc : TypeId × Value → H} {w : World} {v : Value} {d : DataW H} {ps : List MemPlace} {r : Reach} {b0 : Nat}
    (hval : Value.okWide Try.prog w r b0 44 v) (h : DataW.Trod enc Try.prog w 0 (fun _ => true) true 44 v d ps) : ∃ nd, IsNod w v nd := by
  have e3 : Try.prog.cellsOf 3 = 1 := by kernel_rfl
  have e9 : Try.prog.cellsOf 9 = 1 := by kernel_rfl
  have e41 : Try.prog.cellsOf 41 = 1 := by kernel_rfl
  have e42 : Try.prog.cellsOf 42 = 1 := by kernel_rfl
  have e44 : Try.prog.cellsOf 44 = 5 := by kernel_rfl
  unfold Value.okWide at hval
  rw [Try.underlying44] at hval
  obtain ⟨cs, rfl, _, _⟩ := hval
  obtain ⟨fuel, hf⟩ := h
  replace hf : DataW.trod enc Try.prog w 0 (fun _ => true) true fuel 44 cs.toList = some (d, ps) := hf
  obtain ⟨xs, m, _, _, hl, hlen, hf1⟩ := DataW.trod_struct Try.underlying44 hf
  rw [e44] at hl
  obtain ⟨c0, c1, c2, c3, c4, hcs⟩ : ∃ c0 c1 c2 c3 c4, cs.toList = [c0, c1, c2, c3, c4] := by
    match cs.toList, hl with
    | [c0, c1, c2, c3, c4], _ => exact ⟨c0, c1, c2, c3, c4, rfl⟩
  rw [hcs] at hf1
  obtain ⟨y0, h0⟩ := fld hf1 hlen 0 3 0 1 ⟨_, rfl, rfl, rfl⟩ e3
  obtain ⟨y1, h1⟩ := fld hf1 hlen 1 9 1 1 ⟨_, rfl, rfl, rfl⟩ e9
  obtain ⟨y2, h2⟩ := fld hf1 hlen 2 9 2 1 ⟨_, rfl, rfl, rfl⟩ e9
  obtain ⟨y3, h3⟩ := fld hf1 hlen 3 41 3 1 ⟨_, rfl, rfl, rfl⟩ e41
  obtain ⟨y4, h4⟩ := fld hf1 hlen 4 42 4 1 ⟨_, rfl, rfl, rfl⟩ e42
  simp only [List.drop_zero, List.take_succ_cons, List.take_zero, List.drop_succ_cons] at h0 h1 h2 h3 h4
  obtain ⟨a0, ha0, _⟩ := DataW.trod_int Try.underlying3 h0
  obtain ⟨a1, ha1, _, z1⟩ := DataW.trod_string Try.underlying9 h1
  obtain ⟨a2, ha2, _, z2⟩ := DataW.trod_string Try.underlying9 h2
  obtain ⟨l, pc, cc, rfl, rc⟩ := strO_open h3
  obtain ⟨pa, na, ca, rfl⟩ := slice_open Try.underlying42 h4
  simp at ha0 ha1 ha2
  refine ⟨⟨a0, a1, a2, l⟩, pc, pa, cc, na, ca, ?_, rc, z1, z2⟩
  congr 1
  apply Array.toList_inj.1
  rw [hcs, ha0, ha1, ha2]

theorem bloomHashes_walk (kind : Int) (s : ByteArray) (v2 : Value) (d : Nod) (v3 : Value) (l : List (List Prt)) (w : World) (_hk : (Lit.int .i64 kind).wf = true) (hs : s.size ≤ maxLen) (hn : IsNod w v2 d) (h : Sels w v3 l) :
    Calls Try.prog 7 #[.int .i64 kind, .string s, v2, v3] w fun e w' => e = .returned (.bool true) ∧ Below w.heap.size w w' := by
  obtain ⟨pc, pa, cc, na, ca, rfl, hc, ht, hid⟩ := hn
  obtain ⟨N, hN⟩ := h
  obtain ⟨p, c, rfl, q1, q2, _⟩ := id hN
  refine (hashes_walk kind s d.par d.tag d.id pc pa d.cls cc na ca p c l w hs hc ht hid ⟨N, hN⟩ (Nat.le_trans q1 q2)).mono ?_
  rintro e w' ⟨he, f⟩
  exact ⟨he, f.below (Nat.le_refl _) (by simp)⟩
end Go.Proofs.Ytfhojfndccelfaa
