/- BloomPlays: it returns true, and writes nothing that was there. -/
import Derived.Test.YtfhojfndccelfaaFull
import Derived.Test.YtfhojfndccelfaaRows2
namespace Go.Proofs.Ytfhojfndccelfaa
open Go.RowKit Go.Maps Go.ChangeShapes Go.WideShapes Go.ChangeAt Go.WideMaps Go.WideElems

theorem ints_trod {H : Type} {enc : TypeId × Value → H} {P : Program} {t e : TypeId} {q : IntKind} {w : World} {n : Nat} {cs : List Value} {y : DataW H × List MemPlace} (ht : P.underlying t = some (.slice e)) (he : P.underlying e = some (.int q)) (hc : P.cellsOf e = 1)
    (h : DataW.trod enc P w 0 (fun _ => true) true n t cs = some y) : ∃ v l, cs = [v] ∧ IsInts q w v l := by
  rcases open_ints ht he hc h with ⟨rfl, _⟩ | ⟨x, l, c', zs, rfl, _, hl, hm, hz, _, hcell, hws⟩
  · exact ⟨_, [], rfl, rowOf_nil _ _, fun s hs => by simp at hs⟩
  · exact ⟨_, zs.take l, rfl, rowOf_open 0 zs hl hm (by simpa using hz) hcell, fun s hs => hws s (List.mem_of_mem_take hs)⟩

theorem IsInts.below {q : IntKind} {w w' : World} {v : Value} {l : List Int} (h : IsInts q w v l) (hb : Below w.heap.size w w') : IsInts q w' v l := ⟨IsRowOf.below h.1 hb, h.2⟩

/-- A slice of hashes that came in lies in another block than what the call made. -/
theorem IsInts.src {w w' : World} {v : Value} {l : List Int} (h : IsInts .i64 w v l) (hb : Below w.heap.size w w') {b : Nat} (hge : w.heap.size ≤ b) : Src w' v l b := by
  refine ⟨h.below hb, fun g off n c e hl => ?_⟩
  obtain ⟨⟨p, cp, e2, _, _, h3⟩, _⟩ := h
  obtain ⟨g2, off2, hp, hg, _⟩ := h3 0 l[0] (List.getElem?_eq_getElem hl)
  rw [hp] at e2
  rw [e2] at e
  simp at e
  omega

def ActR (w : World) (cs : List Value) (x : Bool × List Int) : Prop := ∃ v, cs = [.bool x.1, v] ∧ IsInts .i64 w v x.2

theorem two_of_length {α : Type} {l : List α} (h : l.length = 2) : ∃ a b, l = [a, b] := by
  match l, h with
  | [a, b], _ => exact ⟨a, b, rfl⟩

theorem acts_open {H : Type} {enc : TypeId × Value → H} {w : World} {v : Value} {d : DataW H} {ps : List MemPlace} {r : Reach} {b0 : Nat}
    (hval : Value.okWide Try.prog w r b0 22 v) (h : DataW.Trod enc Try.prog w 0 (fun _ => true) true 22 v d ps) : ∃ l, RowR 2 ActR w v l := by
  obtain ⟨a, n, c, rfl⟩ := okWide_slice Try.underlying22 hval
  obtain ⟨fuel, hf⟩ := h
  refine rowR_open Try.underlying22 (k := 2) (by kernel_rfl) (by omega) rfl (by simpa [Value.cells] using hf) (fun n cs y hl hy => ?_)
  obtain ⟨y0, y1, m, _, _, h0, h1⟩ := trod_struct2 Try.underlying33 hy
  obtain ⟨c0, c1, rfl⟩ := two_of_length hl
  · have e4 : Try.prog.cellsOf 4 = 1 := by kernel_rfl
    have e31 : Try.prog.cellsOf 31 = 1 := by kernel_rfl
    simp only [e4, e31, List.drop_zero, List.take_succ_cons, List.take_zero, List.drop_succ_cons] at h0 h1
    obtain ⟨p, hp, _⟩ := DataW.trod_bool Try.underlying4 h0
    obtain ⟨v, l, hv, hi⟩ := ints_trod Try.underlying31 Try.underlying3 (by kernel_rfl) h1
    simp at hp hv
    subst hp; subst hv
    exact ⟨(p, l), _, rfl, hi⟩

/-- The three filters between two rounds. -/
structure Fils (w w' : World) (bf bo br : Nat) (c : Nat → Int) : Prop where
  f : IsFil 26 .u8 w' bf c
  o : ∃ co, IsFil 26 .u8 w' bo co ∧ In255 co
  r : IsFil 30 .i64 w' br c
  inn : In255 c
  below : Below w.heap.size w w'

theorem Fils.other {w w' : World} {bf bo br : Nat} {c : Nat → Int} (h : Fils w w' bf bo br c) (h1 : bf ≠ bo) (h3 : bo ≠ br) (hge : w.heap.size ≤ bo) (k : Int) (hw : (Lit.int .i64 k).wf = true) :
    Calls Try.prog 10 #[.pointer (some ⟨bo, 0, none⟩), .slice (some ⟨w'.heap.size, 0, none⟩) 1 1] (w'.alloc (.cells #[.int .i64 k] 3)) fun e w2 => e = .returned (.tuple #[]) ∧ Fils w w2 bf bo br c := by
  obtain ⟨hf, ⟨co, ho, hco⟩, hr, hc, hb⟩ := h
  refine (Push_any bo co _ [k] _ (heapAlloc (o' := .cells #[.int .i64 k] 3) ho) (src_one w' k hw bo ho.lt) hco).mono ?_
  rintro e w2 ⟨rfl, f, g⟩
  have hf2 : IsFil 26 .u8 (w'.alloc (.cells #[.int .i64 k] 3)) bf c := heapAlloc hf
  have hr2 : IsFil 30 .i64 (w'.alloc (.cells #[.int .i64 k] 3)) br c := heapAlloc hr
  exact ⟨rfl, hf2.fr f h1, ⟨_, g, many_in up up_in hco _⟩, hr2.fr f (fun e => h3 e.symm), hc, (hb.alloc hb.size _).trans (f.below (Nat.le_trans hb.size (by simp)) (fun k hk e => by omega))⟩

theorem Fils.push {w w' : World} {bf bo br : Nat} {c : Nat → Int} (h : Fils w w' bf bo br c) (h1 : bf ≠ bo) (h2 : bf ≠ br) (h3 : bo ≠ br) (hgf : w.heap.size ≤ bf) (hgr : w.heap.size ≤ br) (v : Value) (l : List Int) (hl : IsInts .i64 w v l) :
    Calls Try.prog 10 #[.pointer (some ⟨bf, 0, none⟩), v] w' fun e w2 => e = .returned (.tuple #[]) ∧ Below w.heap.size w w2 ∧
      Calls Try.prog 13 #[.pointer (some ⟨br, 0, none⟩), v] w2 fun e w3 => e = .returned (.tuple #[]) ∧ Fils w w3 bf bo br (many up c l) := by
  obtain ⟨hf, ⟨co, ho, hco⟩, hr, hc, hb⟩ := h
  refine (Push_any bf c v l w' hf (hl.src hb hgf) hc).mono ?_
  rintro e w2 ⟨rfl, f, g⟩
  have b2 := hb.trans (f.below hb.size (fun k hk e => by omega))
  refine ⟨rfl, b2, ?_⟩
  refine (RPush_any br c v l w2 (hr.fr f (fun e => h2 e.symm)) (hl.src b2 hgr) hc).mono ?_
  rintro e w3 ⟨rfl, f3, g3⟩
  exact ⟨rfl, g.fr f3 h2, ⟨co, (ho.fr f (fun e => h1 e.symm)).fr f3 h3, hco⟩, g3, many_in up up_in hc l, b2.trans (f3.below b2.size (fun k hk e => by omega))⟩

theorem Fils.pop {w w' : World} {bf bo br : Nat} {c : Nat → Int} (h : Fils w w' bf bo br c) (h1 : bf ≠ bo) (h2 : bf ≠ br) (h3 : bo ≠ br) (hgf : w.heap.size ≤ bf) (hgr : w.heap.size ≤ br) (v : Value) (l : List Int) (hl : IsInts .i64 w v l) :
    Calls Try.prog 11 #[.pointer (some ⟨bf, 0, none⟩), v] w' fun e w2 => e = .returned (.tuple #[]) ∧ Below w.heap.size w w2 ∧
      Calls Try.prog 12 #[.pointer (some ⟨br, 0, none⟩), v] w2 fun e w3 => e = .returned (.tuple #[]) ∧ Fils w w3 bf bo br (many down c l) := by
  obtain ⟨hf, ⟨co, ho, hco⟩, hr, hc, hb⟩ := h
  refine (Pop_any bf c v l w' hf (hl.src hb hgf) hc).mono ?_
  rintro e w2 ⟨rfl, f, g⟩
  have b2 := hb.trans (f.below hb.size (fun k hk e => by omega))
  refine ⟨rfl, b2, ?_⟩
  refine (RPop_any br c v l w2 (hr.fr f (fun e => h2 e.symm)) (hl.src b2 hgr) hc).mono ?_
  rintro e w3 ⟨rfl, f3, g3⟩
  exact ⟨rfl, g.fr f3 h2, ⟨co, (ho.fr f (fun e => h1 e.symm)).fr f3 h3, hco⟩, g3, many_in down down_in hc l, b2.trans (f3.below b2.size (fun k hk e => by omega))⟩

theorem Count_quiet (b : Nat) (c : Nat → Int) (k : Nat) (w : World) (hf : IsFil 26 .u8 w b c) (hc : In255 c) (hk : k < 1024) :
    Calls Try.prog 16 #[.pointer (some ⟨b, 0, none⟩), .int .i64 (k : Nat)] w fun e w' => e = .returned (.int .i64 (c k)) ∧ w' = w := by
  refine (Count_any b c k w hf hc).mono ?_
  rintro e w' ⟨rfl, rfl⟩
  rw [cnt_nat c k hk]
  exact ⟨rfl, rfl⟩

theorem Fils.new (w w0 : World) (hb : Below w.heap.size w w0) : Fils w (((w0.alloc (.cells (tab .u8 zc) 26)).alloc (.cells (tab .u8 zc) 26)).alloc (.cells (tab .i64 zc) 30)) w0.heap.size (w0.heap.size + 1) (w0.heap.size + 1 + 1) zc := by
  have t0 : IsFil 26 .u8 (((w0.alloc (.cells (tab .u8 zc) 26)).alloc (.cells (tab .u8 zc) 26)).alloc (.cells (tab .i64 zc) 30)) w0.heap.size zc := heapAlloc (heapAlloc (fil_new 26 .u8 w0))
  have t1 : IsFil 26 .u8 (((w0.alloc (.cells (tab .u8 zc) 26)).alloc (.cells (tab .u8 zc) 26)).alloc (.cells (tab .i64 zc) 30)) (w0.heap.size + 1) zc := by
    have := fil_new 26 .u8 (w0.alloc (.cells (tab .u8 zc) 26))
    rw [World.size_alloc] at this
    exact heapAlloc this
  have t2 : IsFil 30 .i64 (((w0.alloc (.cells (tab .u8 zc) 26)).alloc (.cells (tab .u8 zc) 26)).alloc (.cells (tab .i64 zc) 30)) (w0.heap.size + 1 + 1) zc := by
    have := fil_new 30 .i64 ((w0.alloc (.cells (tab .u8 zc) 26)).alloc (.cells (tab .u8 zc) 26))
    rw [World.size_alloc, World.size_alloc] at this
    exact this
  have b1 := hb.alloc hb.size (.cells (tab .u8 zc) 26)
  have b2 := b1.alloc b1.size (.cells (tab .u8 zc) 26)
  exact ⟨t0, ⟨_, t1, zc_in⟩, t2, zc_in, b2.alloc b2.size _⟩

theorem IsFil.drewN {T : TypeId} {q : IntKind} {w : World} {b : Nat} {c : Nat → Int} (h : IsFil T q w b c) (n : Nat) : IsFil T q (w.drewN n) b c := h

set_option maxHeartbeats 1000000 in
set_option maxRecDepth 100000 in
theorem bplays_any (v : Value) (l : List (Bool × List Int)) (h : Int) (w : World) (hl : RowR 2 ActR w v l) (_hw : (Lit.int .i64 h).wf = true) :
    Calls Try.prog 3 #[v, .int .i64 h] w fun e w' => e = .returned (.bool true) ∧ Below w.heap.size w w' := by
  obtain ⟨p, cp, rfl, h1, h2, h3⟩ := hl
  unfold maxLen at h2
  have H3 := Lib.hid h3
  clear h3
  by_cases hbig : 60 < l.length
  · go_enter Try.func3, Try.ntmps3
    go_wp2_with fail
    refine (alive_any _).mono ?_
    rintro e w1 ⟨rfl, b1⟩
    go_wp2_with fail
    go_ret
    exact ⟨rfl, b1⟩
  have z26 := zero26
  have z30 := zero30
  go_enter Try.func3, Try.ntmps3
  go_wp2_with fail
  refine (alive_any _).mono ?_
  rintro e w1 ⟨rfl, b1⟩
  go_wp2_with fail
  clear z26 z30
  have hF := Fils.new w w1 b1
  have hge : w.heap.size ≤ w1.heap.size := b1.size
  have hge2 : w.heap.size ≤ w1.heap.size + 1 := by omega
  have hge3 : w.heap.size ≤ w1.heap.size + 1 + 1 := by omega
  have n1 : w1.heap.size ≠ w1.heap.size + 1 := by omega
  have n2 : w1.heap.size ≠ w1.heap.size + 1 + 1 := by omega
  have n3 : w1.heap.size + 1 ≠ w1.heap.size + 1 + 1 := by omega
  generalize ((w1.alloc (.cells (tab .u8 zc) 26)).alloc (.cells (tab .u8 zc) 26)).alloc (.cells (tab .i64 zc) 30) = w2 at *
  generalize w1.heap.size + 1 + 1 = br at *
  generalize w1.heap.size + 1 = bo at *
  generalize w1.heap.size = bf at *
  have HF := Lib.hid hF
  clear hF b1
  go_loopw [9] (fun i wr => ∃ (k : Nat) (c : Nat → Int), k ≤ l.length ∧ i = .int .i64 k ∧ Hid (Fils w wr bf bo br c)) (fun i _ => l.length - (intOf i).toNat)
  case atStart => exact ⟨0, zc, Nat.zero_le _, rfl, HF.out⟩
  case round =>
    obtain ⟨k, c, hk, rfl, hF⟩ := hrel
    clear HF
    by_cases hlt : k < l.length
    · obtain ⟨⟨pop, hs⟩, hx⟩ : ∃ x, l[k]? = some x := ⟨l[k], by simp [hlt]⟩
      obtain ⟨g, off, cs, rfl, hg, hcl, hcc, v2, rfl, hi⟩ := H3.out k _ hx
      have d0 := hcc 0 (by omega)
      have d1 := hcc 1 (by omega)
      simp at d0 d1 hi
      clear hcc hx hcl
      have Hi := Lib.hid hi
      obtain ⟨⟨p2, c2, e2, j1, j2, _⟩, _⟩ := hi
      subst e2
      unfold maxLen at j2
      have D0 := Lib.hid d0
      have D1 := Lib.hid d1
      clear d0 d1
      have a0 := (hF.out.below.cell (p := ⟨g, off + k * 2, none⟩) hg).trans D0.out
      have a1 := (hF.out.below.cell (p := ⟨g, off + k * 2 + 1, none⟩) hg).trans D1.out
      by_cases hbig2 : 300 < hs.length
      · go_wp2_with fail
        go_ret
        exact ⟨rfl, hF.out.below⟩
      have PO := Lib.hid (hF.out.other n1 n3 hge2 k (WalkArith.wf_i64 (by omega)))
      go_wp2_with fail
      refine PO.out.mono ?_
      rintro e w3 ⟨rfl, hF3⟩
      have F3 := Lib.hid hF3
      clear hF3 PO hF a0 a1
      have a0 := (F3.out.below.cell (p := ⟨g, off + k * 2, none⟩) hg).trans D0.out
      have a1 := (F3.out.below.cell (p := ⟨g, off + k * 2 + 1, none⟩) hg).trans D1.out
      cases pop
      · have PP := Lib.hid (F3.out.push n1 n2 n3 hge hge3 _ hs Hi.out)
        clear F3
        go_wp2_with fail
        refine PP.out.mono ?_
        rintro e w4 ⟨rfl, b4, PR⟩
        have PR2 := Lib.hid PR
        clear PR PP a0 a1
        have a0 := (b4.cell (p := ⟨g, off + k * 2, none⟩) hg).trans D0.out
        have a1 := (b4.cell (p := ⟨g, off + k * 2 + 1, none⟩) hg).trans D1.out
        go_wp2_with fail
        refine PR2.out.mono ?_
        rintro e w5 ⟨rfl, hF5⟩
        have F5 := Lib.hid hF5
        clear hF5 PR2 a0 a1 b4
        generalize many up c hs = c5 at *
        have MF := Lib.hid (May_any bf c5 h w5 F5.out.f)
        have MR := Lib.hid (RMay_any br c5 h w5 F5.out.r)
        generalize mayB c5 h = t at *
        have q1 : (t != t) = false := by cases t <;> rfl
        go_wp2_with fail
        refine MF.out.mono ?_
        rintro e w6 ⟨rfl, rfl⟩
        go_wp2_with fail
        refine MR.out.mono ?_
        rintro e w6 ⟨rfl, rfl⟩
        go_wp2_with fail
        go_roundw
        case rel => exact ⟨k + 1, c5, by omega, by go_num, F5.out⟩
        case measure => simp [intOf]; omega
      · have PP := Lib.hid (F3.out.pop n1 n2 n3 hge hge3 _ hs Hi.out)
        clear F3
        go_wp2_with fail
        refine PP.out.mono ?_
        rintro e w4 ⟨rfl, b4, PR⟩
        have PR2 := Lib.hid PR
        clear PR PP a0 a1
        have a0 := (b4.cell (p := ⟨g, off + k * 2, none⟩) hg).trans D0.out
        have a1 := (b4.cell (p := ⟨g, off + k * 2 + 1, none⟩) hg).trans D1.out
        go_wp2_with fail
        refine PR2.out.mono ?_
        rintro e w5 ⟨rfl, hF5⟩
        have F5 := Lib.hid hF5
        clear hF5 PR2 a0 a1 b4
        generalize many down c hs = c5 at *
        have MF := Lib.hid (May_any bf c5 h w5 F5.out.f)
        have MR := Lib.hid (RMay_any br c5 h w5 F5.out.r)
        generalize mayB c5 h = t at *
        have q1 : (t != t) = false := by cases t <;> rfl
        go_wp2_with fail
        refine MF.out.mono ?_
        rintro e w6 ⟨rfl, rfl⟩
        go_wp2_with fail
        refine MR.out.mono ?_
        rintro e w6 ⟨rfl, rfl⟩
        go_wp2_with fail
        go_roundw
        case rel => exact ⟨k + 1, c5, by omega, by go_num, F5.out⟩
        case measure => simp [intOf]; omega
    · obtain ⟨wo, rfl⟩ : ∃ wo : World, wo = wr := ⟨_, rfl⟩
      go_wp2_with fail
      go_loopw [10] (fun i wr => ∃ (k m : Nat), k ≤ 1024 ∧ i = .int .i64 k ∧ wr = wo.drewN m) (fun i _ => 1024 - (intOf i).toNat)
      case atStart => exact ⟨0, 0, by omega, rfl, rfl⟩
      case round =>
        obtain ⟨j, m, hj, rfl, rfl⟩ := hrel
        by_cases hlt2 : j < 1024
        · have MC := Lib.hid (fun n => Count_quiet bf c j ((wo.drewN m).drewN n) hF.out.f hF.out.inn hlt2)
          have a0 := (hF.out.r.drewN m).cell hlt2
          have HW := Lib.hid (show ∀ n, (wo.drewN m).drewN n = wo.drewN (m + n) from fun n => World.drewN_drewN _ _ _)
          generalize wo.drewN m = w9 at *
          have hj0 : (j : Int) < 1024 := by omega
          generalize c j = x at *
          have q1 : (x != x) = false := by simp
          go_wp2_with fail
          go_quiet ((go_at_call 16; exact Calls.quiet_of_same (MC.out _)))
          go_wp2_with fail
          go_roundw
          case rel => exact ⟨j + 1, _, by omega, by go_num, HW.out _⟩
          case measure => simp [intOf]; omega
        · have M1 := Lib.hid (Count_any bf c (-1) (wo.drewN m) hF.out.f hF.out.inn)
          have M2 := Lib.hid (Count_any bf c 1024 (wo.drewN m) hF.out.f hF.out.inn)
          have b5 : Below w.heap.size w (wo.drewN m) := ⟨hF.out.below.os, hF.out.below.tape, hF.out.below.output, hF.out.below.size, hF.out.below.block⟩
          rw [show cnt c (-1) = 0 by rfl] at M1
          rw [show cnt c 1024 = 0 by rfl] at M2
          generalize wo.drewN m = w9 at *
          go_wp2_with fail
          refine M1.out.mono ?_
          rintro e w6 ⟨rfl, rfl⟩
          go_wp2_with fail
          refine M2.out.mono ?_
          rintro e w6 ⟨rfl, rfl⟩
          go_wp2_with fail
          go_ret
          exact ⟨rfl, b5⟩

end Go.Proofs.Ytfhojfndccelfaa
