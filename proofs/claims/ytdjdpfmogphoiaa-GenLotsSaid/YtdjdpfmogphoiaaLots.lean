/- GenLots: the walk. -/
import Derived.Test.YtdjdpfmogphoiaaAlive
import Derived.BigQuiet
import Derived.Deep.QuietTactic
import Derived.Deep.RegionWith
import Derived.Deep.Cut
namespace Go.Proofs.Ytdjdpfmogphoiaa
open Go.RowKit Go.Maps Go.ChangeShapes Go.WideShapes Go.ChangeAt Go.WideMaps Go.WideElems

/-- Three lots between two calls. -/
structure LT (w w' : World) (ba bb br : Nat) (s q : Int) : Prop where
  a : IsLot 49 w' ba s
  b : ∃ t, IsLot 49 w' bb t
  r : IsLot 51 w' br q
  n1 : ba ≠ bb
  n2 : ba ≠ br
  n3 : bb ≠ br
  g1 : w.heap.size ≤ ba
  g2 : w.heap.size ≤ bb
  g3 : w.heap.size ≤ br
  below : Below w.heap.size w w'

section
variable {w w' : World} {ba bb br : Nat} {s q : Int}
theorem LT.drew (h : LT w w' ba bb br s q) : LT w w'.drew ba bb br s q := ⟨h.a, h.b, h.r, h.n1, h.n2, h.n3, h.g1, h.g2, h.g3, h.below.drew⟩
theorem LT.nextA (h : LT w w' ba bb br s q) (n : Int) :
    Calls Try.prog 10 #[.pointer (some ⟨ba, 0, none⟩), .int .i64 n] w' fun e w2 => e = .returned (.int .i64 (nxV s n)) ∧ LT w w2 ba bb br (nxS s) q := by
  obtain ⟨a, ⟨t, b⟩, r, n1, n2, n3, g1, g2, g3, hb⟩ := h
  refine (Next_any ba s n w' a).mono ?_
  rintro e w2 ⟨rfl, l, f⟩
  exact ⟨rfl, l, ⟨t, f.heap b (by omega)⟩, f.heap r (by omega), n1, n2, n3, g1, g2, g3, hb.trans (f.below hb.size (fun k hk e => by omega))⟩
theorem LT.nextB (h : LT w w' ba bb br s q) (n : Int) :
    Calls Try.prog 10 #[.pointer (some ⟨bb, 0, none⟩), .int .i64 n] w' fun e w2 => (∃ z, e = .returned (.int .i64 z)) ∧ LT w w2 ba bb br s q := by
  obtain ⟨a, ⟨t, b⟩, r, n1, n2, n3, g1, g2, g3, hb⟩ := h
  refine (Next_any bb t n w' b).mono ?_
  rintro e w2 ⟨rfl, l, f⟩
  exact ⟨⟨_, rfl⟩, f.heap a (by omega), ⟨_, l⟩, f.heap r (by omega), n1, n2, n3, g1, g2, g3, hb.trans (f.below hb.size (fun k hk e => by omega))⟩
theorem LT.nextR (h : LT w w' ba bb br s q) (n : Int) :
    Calls Try.prog 11 #[.pointer (some ⟨br, 0, none⟩), .int .i64 n] w' fun e w2 => e = .returned (.int .i64 (nxV q n)) ∧ LT w w2 ba bb br s (nxS q) := by
  obtain ⟨a, ⟨t, b⟩, r, n1, n2, n3, g1, g2, g3, hb⟩ := h
  refine (RNext_any br q n w' r).mono ?_
  rintro e w2 ⟨rfl, l, f⟩
  exact ⟨rfl, f.heap a (by omega), ⟨t, f.heap b (by omega)⟩, l, n1, n2, n3, g1, g2, g3, hb.trans (f.below hb.size (fun k hk e => by omega))⟩
end

theorem LT.new (w w1 : World) (hb : Below w.heap.size w w1) (s t : Int) : LT w (((w1.alloc (.cells #[.int .i64 s] 49)).alloc (.cells #[.int .i64 t] 49)).alloc (.cells #[.int .i64 s] 51)) w1.heap.size (w1.heap.size + 1) (w1.heap.size + 1 + 1) s s := by
  have hs := hb.size
  have b1 := heapNew (w1.alloc (.cells #[.int .i64 s] 49)) (.cells #[.int .i64 t] 49)
  have b2 := heapNew ((w1.alloc (.cells #[.int .i64 s] 49)).alloc (.cells #[.int .i64 t] 49)) (.cells #[.int .i64 s] 51)
  rw [World.size_alloc] at b1
  rw [World.size_alloc, World.size_alloc] at b2
  exact ⟨heapAlloc (heapAlloc (heapNew w1 _)), ⟨t, heapAlloc b1⟩, b2, by omega, by omega, by omega, by omega, by omega, by omega, ((hb.alloc hs _).alloc (by simp; omega) _).alloc (by simp; omega) _⟩

set_option maxHeartbeats 4000000 in
set_option maxRecDepth 100000 in
theorem lots_any (seed : Int) (v : Value) (l : List Int) (w : World) (_hs : (Lit.int .i64 seed).wf = true) (hl : IsInts .i64 w v l) :
    Calls Try.prog 3 #[.int .i64 seed, v] w fun e w' => e = .returned (.bool true) ∧ Below w.heap.size w w' := by
  obtain ⟨⟨p, cp, rfl, h1, h2, h3⟩, _⟩ := hl
  unfold maxLen at h2
  have H3 := Lib.hid h3
  clear h3
  by_cases hbig : 200 < l.length
  · have d1 : decide ((200 : Int) < (l.length : Int)) = true := by simp; omega
    go_enter Try.func3, Try.ntmps3
    go_wp2_with fail
    refine (alive_any _).mono ?_
    rintro e w1 ⟨rfl, b1⟩
    go_wp2_with fail
    go_ret
    exact ⟨rfl, b1⟩
  have d1 : decide ((200 : Int) < (l.length : Int)) = false := by simp; omega
  go_enter Try.func3, Try.ntmps3
  go_wp2_with fail
  refine (alive_any _).mono ?_
  rintro e w1 ⟨rfl, b1⟩
  go_wp2_with fail
  refine (New_any _ _).mono ?_
  rintro e w2 ⟨rfl, rfl⟩
  go_wp2_with fail
  refine (New_any _ _).mono ?_
  rintro e w2 ⟨rfl, rfl⟩
  go_wp2_with fail
  refine (RNew_any _ _).mono ?_
  rintro e w2 ⟨rfl, rfl⟩
  go_wp2_with fail
  have hF := LT.new w w1 b1 (seedS seed) (seedS (wrap64 (seed + 1)))
  generalize ((w1.alloc (.cells #[.int .i64 (seedS seed)] 49)).alloc (.cells #[.int .i64 (seedS (wrap64 (seed + 1)))] 49)).alloc (.cells #[.int .i64 (seedS seed)] 51) = w2 at *
  generalize w1.heap.size + 1 + 1 = br at *
  generalize w1.heap.size + 1 = bb at *
  generalize w1.heap.size = ba at *
  have HF := Lib.hid hF
  clear hF b1
  go_loopw [9] (fun i wr => ∃ (k : Nat) (s : Int), k ≤ l.length ∧ i = .int .i64 k ∧ Hid (LT w wr ba bb br s s)) (fun i _ => l.length - (intOf i).toNat)
  case atStart => exact ⟨0, seedS seed, Nat.zero_le _, rfl, HF.out⟩
  case round =>
    obtain ⟨k, s, hk, rfl, hK⟩ := hrel
    clear HF
    by_cases hlt : k < l.length
    · obtain ⟨x, hx⟩ : ∃ x, l[k]? = some x := ⟨l[k], by simp [hlt]⟩
      obtain ⟨g, off, rfl, hg, hc⟩ := H3.out k _ hx
      have PB := Lib.hid (hK.out.nextB k)
      have C := Lib.hid hc
      clear hx hc
      have q1 : (nxV s x != nxV s x) = false := by simp
      go_wp2_with fail
      refine PB.out.mono ?_
      rintro e w3 ⟨⟨z, rfl⟩, hK3⟩
      have c0 := (hK3.below.cell (p := ⟨g, off + k, none⟩) hg).trans C.out
      have hK4 := hK3.drew
      have K3 := Lib.hid hK3
      clear hK3 PB hK
      go_upto_region 11 with fail
      go_region_with (first
        | (go_at_call 10; refine Calls.mono (LT.nextA (by assumption) x) ?_; rintro e w6 ⟨rfl, k6⟩; have c6 := (k6.below.cell (p := ⟨g, off + k, none⟩) hg).trans C.out)
        | (go_at_call 11; refine Calls.mono (LT.nextR (by assumption) x) ?_; rintro e w7 ⟨rfl, k7⟩; have c7 := (k7.below.cell (p := ⟨g, off + k, none⟩) hg).trans C.out))
      all_goals
        go_wp2_with fail
        go_roundw
        case rel => exact ⟨k + 1, nxS s, by omega, by go_num, (by assumption : LT w _ ba bb br (nxS s) (nxS s))⟩
        case measure => simp [intOf]; omega
    · go_wp2_with fail
      go_ret
      exact ⟨rfl, hK.out.below⟩
end Go.Proofs.Ytdjdpfmogphoiaa
