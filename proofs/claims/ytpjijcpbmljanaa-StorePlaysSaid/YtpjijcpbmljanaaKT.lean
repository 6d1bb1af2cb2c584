/- The two stores and the reference between two calls of StorePlays; what it reads. -/
import Derived.Test.YtpjijcpbmljanaaCounts
import Derived.Test.YtpjijcpbmljanaaRows2
import Derived.Deep.Strs
namespace Go.Proofs.Ytpjijcpbmljanaa
open Go.RowKit Go.Maps Go.ChangeShapes Go.WideShapes Go.ChangeAt Go.WideMaps Go.WideElems

/-- What a call reads as: its way, its number, its style. -/
structure CallD where
  way : Int
  i : Int
  x : Nat → Int

def CallR (_w : World) (cs : List Value) (d : CallD) : Prop := cs = .int .i64 d.way :: .int .i64 d.i :: stL d.x ∧ (Lit.int .i64 d.way).wf = true ∧ (Lit.int .i64 d.i).wf = true

theorem ten_of_length {α : Type} {l : List α} (h : l.length = 10) : ∃ a b r, l = a :: b :: r ∧ r.length = 8 := by
  match l, h with
  | a :: b :: r, h => exact ⟨a, b, r, rfl, by simpa using h⟩

theorem calls_open {H : Type} {enc : TypeId × Value → H} {w : World} {v : Value} {d : DataW H} {ps : List MemPlace} {r : Reach} {b0 : Nat}
    (hval : Value.okWide Try.prog w r b0 22 v) (h : DataW.Trod enc Try.prog w 0 (fun _ => true) true 22 v d ps) : ∃ l, RowR 10 CallR w v l := by
  obtain ⟨a, n, c, rfl⟩ := okWide_slice Try.underlying22 hval
  obtain ⟨fuel, hf⟩ := h
  refine rowR_open Try.underlying22 (k := 10) (by kernel_rfl) (by omega) rfl (by simpa [Value.cells] using hf) (fun n cs y hl hy => ?_)
  obtain ⟨y0, y1, y2, m, _, _, h0, h1, h2⟩ := Go.Deep.trod_struct3 Try.underlying35 hy
  obtain ⟨c0, c1, rest, rfl, hrl⟩ := ten_of_length hl
  have e3 : Try.prog.cellsOf 3 = 1 := by kernel_rfl
  have e33 : Try.prog.cellsOf 33 = 8 := by kernel_rfl
  simp only [e3, e33, List.drop_zero, List.take_succ_cons, List.take_zero, List.drop_succ_cons] at h0 h1 h2
  rw [List.take_of_length_le (by omega)] at h2
  obtain ⟨a0, ha0, _, hw0⟩ := DataW.trod_int Try.underlying3 h0
  obtain ⟨a1, ha1, _, hw1⟩ := DataW.trod_int Try.underlying3 h1
  obtain ⟨x, hx, _⟩ := arr_trod h2
  simp at ha0 ha1
  exact ⟨⟨a0, a1, x⟩, by rw [ha0, ha1, hx], hw0, hw1⟩

/-- Two stores and the reference; other blocks that stay. -/
structure KT (w w' : World) (bs bo br : Nat) (Ls Lr : List Item) (m : Nat) (gs : List (Nat × Obj)) : Prop where
  body : ∃ (Ss So Sr : Nat → Prop) (Lo : List Item), IsSto w' bs Ss Ls (liveOf Ls) ∧ IsSto w' bo So Lo (liveOf Lo) ∧ IsRef w' br Sr Lr ∧
    (∀ j, Ss j → ¬ So j) ∧ (∀ j, Ss j → ¬ Sr j) ∧ (∀ j, So j → ¬ Sr j) ∧ (∀ j, Ss j → w.heap.size ≤ j) ∧ (∀ j, So j → w.heap.size ≤ j) ∧ (∀ j, Sr j → w.heap.size ≤ j) ∧
    Lo.length ≤ m ∧ (∀ p ∈ gs, w'.heap[p.1]? = some p.2 ∧ ¬ Ss p.1 ∧ ¬ So p.1 ∧ ¬ Sr p.1)
  bs_ : Bd Ls m
  br_ : Bd Lr m
  ls : Ls.length ≤ m
  lr : Lr.length ≤ m
  below : Below w.heap.size w w'

theorem Gr.not {S : Nat → Prop} {w w' : World} {k : Nat} (h : ¬ S k) (hk : k < w.heap.size) : ¬ Gr S w w' k := by
  rintro (h1 | h1)
  · exact h h1
  · omega

section
variable {w w' : World} {bs bo br : Nat} {Ls Lr : List Item} {m : Nat} {gs : List (Nat × Obj)}

theorem KT.drew (h : KT w w' bs bo br Ls Lr m gs) : KT w w'.drew bs bo br Ls Lr m gs := by
  obtain ⟨⟨Ss, So, Sr, Lo, hs, ho, hr, d1, d2, d3, g1, g2, g3, hlo, hg⟩, b1, b2, l1, l2, hb⟩ := h
  exact ⟨⟨Ss, So, Sr, Lo, hs.fr ((Fr.refl (fun _ => False) w').drew) (by simp), ho.fr ((Fr.refl (fun _ => False) w').drew) (by simp), hr.fr ((Fr.refl (fun _ => False) w').drew) (by simp), d1, d2, d3, g1, g2, g3, hlo, hg⟩, b1, b2, l1, l2, hb.drew⟩

theorem KT.drewN (h : KT w w' bs bo br Ls Lr m gs) (n : Nat) : KT w (w'.drewN n) bs bo br Ls Lr m gs := by
  have f : Fr (fun _ => False) w' (w'.drewN n) := ⟨rfl, rfl, rfl, Nat.le_refl _, fun _ _ _ => rfl⟩
  obtain ⟨⟨Ss, So, Sr, Lo, hs, ho, hr, d1, d2, d3, g1, g2, g3, hlo, hg⟩, b1, b2, l1, l2, hb⟩ := h
  exact ⟨⟨Ss, So, Sr, Lo, hs.fr f (by simp), ho.fr f (by simp), hr.fr f (by simp), d1, d2, d3, g1, g2, g3, hlo, hg⟩, b1, b2, l1, l2, ⟨hb.os, hb.tape, hb.output, hb.size, hb.block⟩⟩

theorem KT.alloc (h : KT w w' bs bo br Ls Lr m gs) (o : Obj) : KT w (w'.alloc o) bs bo br Ls Lr m ((w'.heap.size, o) :: gs) := by
  have f : Fr (fun _ => False) w' (w'.alloc o) := (Fr.refl _ _).alloc o
  obtain ⟨⟨Ss, So, Sr, Lo, hs, ho, hr, d1, d2, d3, g1, g2, g3, hlo, hg⟩, b1, b2, l1, l2, hb⟩ := h
  refine ⟨⟨Ss, So, Sr, Lo, hs.fr f (by simp), ho.fr f (by simp), hr.fr f (by simp), d1, d2, d3, g1, g2, g3, hlo, fun p hp => ?_⟩, b1, b2, l1, l2, hb.alloc hb.size o⟩
  rcases List.mem_cons.1 hp with rfl | hp
  · exact ⟨heapNew w' o, fun e => by have := hs.lt _ e; simp at this, fun e => by have := ho.lt _ e; simp at this, fun e => by have := hr.lt _ e; simp at this⟩
  · obtain ⟨q1, q2⟩ := hg p hp
    exact ⟨heapAlloc q1, q2⟩

theorem KT.guest (h : KT w w' bs bo br Ls Lr m gs) {p : Nat × Obj} (hp : p ∈ gs) : w'.heap[p.1]? = some p.2 := by
  obtain ⟨⟨Ss, So, Sr, Lo, hs, ho, hr, d1, d2, d3, g1, g2, g3, hlo, hg⟩, _⟩ := h
  exact (hg p hp).1

theorem KT.less {gs' : List (Nat × Obj)} (h : KT w w' bs bo br Ls Lr m gs) (hsub : ∀ p ∈ gs', p ∈ gs) : KT w w' bs bo br Ls Lr m gs' := by
  obtain ⟨⟨Ss, So, Sr, Lo, hs, ho, hr, d1, d2, d3, g1, g2, g3, hlo, hg⟩, b1, b2, l1, l2, hb⟩ := h
  exact ⟨⟨Ss, So, Sr, Lo, hs, ho, hr, d1, d2, d3, g1, g2, g3, hlo, fun p hp => hg p (hsub p hp)⟩, b1, b2, l1, l2, hb⟩

theorem KT.up {m' : Nat} (h : KT w w' bs bo br Ls Lr m gs) (hm : m ≤ m') : KT w w' bs bo br Ls Lr m' gs := by
  obtain ⟨⟨Ss, So, Sr, Lo, hs, ho, hr, d1, d2, d3, g1, g2, g3, hlo, hg⟩, b1, b2, l1, l2, hb⟩ := h
  exact ⟨⟨Ss, So, Sr, Lo, hs, ho, hr, d1, d2, d3, g1, g2, g3, by omega, hg⟩, b1.mono (by omega), b2.mono (by omega), by omega, by omega, hb⟩

/-- o.New -/
theorem KT.other (h : KT w w' bs bo br Ls Lr m gs) (x : Nat → Int) (hm : m ≤ 500) :
    Calls Try.prog 7 #[.pointer (some ⟨bo, 0, none⟩), .agg (stL x).toArray] w' fun e w2 => (∃ n : Nat, e = .returned (.int .i64 n)) ∧ KT w w2 bs bo br Ls Lr (m + 1) gs := by
  obtain ⟨⟨Ss, So, Sr, Lo, hs, ho, hr, d1, d2, d3, g1, g2, g3, hlo, hg⟩, b1, b2, l1, l2, hb⟩ := h
  have hl := liveOf_bd Lo
  refine (New_any bo So Lo (liveOf Lo) x w' ho (by omega) (by omega) (by omega)).mono ?_
  rintro e w2 ⟨rfl, f, g⟩
  refine ⟨⟨_, rfl⟩, ⟨Ss, Gr So w' w2, Sr, Lo ++ [(x, 1)], hs.fr f d1, ?_, hr.fr f (fun j hj hk => d3 j hk hj), fun j hj hk => Gr.disj (fun k a b => d1 k b a) hs.lt j hk hj, d2, fun j hj hk => Gr.disj d3 hr.lt j hj hk, g1, Gr.ge g2 hb.size, g3, by simp; omega, fun p hp => ?_⟩, b1.mono (by omega), b2.mono (by omega), by omega, by omega, hb.trans (f.below hb.size (fun k hk e => by have := g2 k e; omega))⟩
  · rw [liveOf_snoc, if_pos (by simp)]; exact g
  · obtain ⟨q1, q2, q3, q4⟩ := hg p hp
    exact ⟨f.heap q1 q3, q2, Gr.not q3 (ltOf q1), q4⟩

/-- s.New -/
theorem KT.sNew (h : KT w w' bs bo br Ls Lr m gs) (x : Nat → Int) (hm : m ≤ 500) :
    Calls Try.prog 7 #[.pointer (some ⟨bs, 0, none⟩), .agg (stL x).toArray] w' fun e w2 => e = .returned (.int .i64 (Ls.length : Nat)) ∧ KT w w2 bs bo br (Ls ++ [(x, 1)]) Lr (m + 1) gs := by
  obtain ⟨⟨Ss, So, Sr, Lo, hs, ho, hr, d1, d2, d3, g1, g2, g3, hlo, hg⟩, b1, b2, l1, l2, hb⟩ := h
  have hl := liveOf_bd Ls
  refine (New_any bs Ss Ls (liveOf Ls) x w' hs (by omega) (by omega) (by omega)).mono ?_
  rintro e w2 ⟨rfl, f, g⟩
  refine ⟨rfl, ⟨Gr Ss w' w2, So, Sr, Lo, ?_, ho.fr f (fun j hj hk => d1 j hk hj), hr.fr f (fun j hj hk => d2 j hk hj), fun j hj hk => Gr.disj d1 ho.lt j hj hk, fun j hj hk => Gr.disj d2 hr.lt j hj hk, d3, Gr.ge g1 hb.size, g2, g3, by omega, fun p hp => ?_⟩, (b1.mono (by omega)).snoc x (by omega), b2.mono (by omega), by simp; omega, by omega, hb.trans (f.below hb.size (fun k hk e => by have := g1 k e; omega))⟩
  · rw [liveOf_snoc, if_pos (by simp)]; exact g
  · obtain ⟨q1, q2, q3, q4⟩ := hg p hp
    exact ⟨f.heap q1 q2, Gr.not q2 (ltOf q1), q3, q4⟩

/-- r.New -/
theorem KT.rNew (h : KT w w' bs bo br Ls Lr m gs) (x : Nat → Int) (hm : m ≤ 500) :
    Calls Try.prog 8 #[.pointer (some ⟨br, 0, none⟩), .agg (stL x).toArray] w' fun e w2 => e = .returned (.int .i64 (Lr.length : Nat)) ∧ KT w w2 bs bo br Ls (Lr ++ [(x, 1)]) (m + 1) gs := by
  obtain ⟨⟨Ss, So, Sr, Lo, hs, ho, hr, d1, d2, d3, g1, g2, g3, hlo, hg⟩, b1, b2, l1, l2, hb⟩ := h
  refine (RNew_any br Sr Lr x w' hr (by omega)).mono ?_
  rintro e w2 ⟨rfl, f, g⟩
  refine ⟨rfl, ⟨Ss, So, Gr Sr w' w2, Lo, hs.fr f d2, ho.fr f d3, g, d1, fun j hj hk => Gr.disj (fun k a b => d2 k b a) hs.lt j hk hj, fun j hj hk => Gr.disj (fun k a b => d3 k b a) ho.lt j hk hj, g1, g2, Gr.ge g3 hb.size, by omega, fun p hp => ?_⟩, b1.mono (by omega), (b2.mono (by omega)).snoc x (by omega), by omega, by simp; omega, hb.trans (f.below hb.size (fun k hk e => by have := g3 k e; omega))⟩
  obtain ⟨q1, q2, q3, q4⟩ := hg p hp
  exact ⟨f.heap q1 q4, q2, q3, Gr.not q4 (ltOf q1)⟩

theorem KT.sHold (h : KT w w' bs bo br Ls Lr m gs) (i : Int) (hm : m ≤ 500) :
    Calls Try.prog 10 #[.pointer (some ⟨bs, 0, none⟩), .int .i64 i] w' fun e w2 => e = .returned (.int .i64 (errOf Ls i)) ∧ KT w w2 bs bo br (hold Ls i) Lr (m + 1) gs := by
  obtain ⟨⟨Ss, So, Sr, Lo, hs, ho, hr, d1, d2, d3, g1, g2, g3, hlo, hg⟩, b1, b2, l1, l2, hb⟩ := h
  refine (Hold_any bs Ss Ls (liveOf Ls) i w' hs (by omega) (b1.mono (by omega))).mono ?_
  rintro e w2 ⟨rfl, f, g⟩
  refine ⟨rfl, ⟨Ss, So, Sr, Lo, by rw [live_hold]; exact g, ho.fr f (fun j hj hk => d1 j hk hj), hr.fr f (fun j hj hk => d2 j hk hj), d1, d2, d3, g1, g2, g3, by omega, fun p hp => ?_⟩, b1.hold i, b2.mono (by omega), by rw [hold_len]; omega, by omega, hb.trans (f.below hb.size (fun k hk e => by have := g1 k e; omega))⟩
  obtain ⟨q1, q2, q3, q4⟩ := hg p hp
  exact ⟨f.heap q1 q2, q2, q3, q4⟩

theorem KT.rHold (h : KT w w' bs bo br Ls Lr m gs) (i : Int) (hm : m ≤ 500) :
    Calls Try.prog 11 #[.pointer (some ⟨br, 0, none⟩), .int .i64 i] w' fun e w2 => e = .returned (.int .i64 (errOf Lr i)) ∧ KT w w2 bs bo br Ls (hold Lr i) (m + 1) gs := by
  obtain ⟨⟨Ss, So, Sr, Lo, hs, ho, hr, d1, d2, d3, g1, g2, g3, hlo, hg⟩, b1, b2, l1, l2, hb⟩ := h
  refine (RHold_any br Sr Lr i w' hr (by omega) (b2.mono (by omega))).mono ?_
  rintro e w2 ⟨rfl, f, g⟩
  refine ⟨rfl, ⟨Ss, So, Sr, Lo, hs.fr f d2, ho.fr f d3, g, d1, d2, d3, g1, g2, g3, by omega, fun p hp => ?_⟩, b1.mono (by omega), b2.hold i, by omega, by rw [hold_len]; omega, hb.trans (f.below hb.size (fun k hk e => by have := g3 k e; omega))⟩
  obtain ⟨q1, q2, q3, q4⟩ := hg p hp
  exact ⟨f.heap q1 q4, q2, q3, q4⟩

theorem KT.sRel (h : KT w w' bs bo br Ls Lr m gs) (i : Int) (hm : m ≤ 500) :
    Calls Try.prog 12 #[.pointer (some ⟨bs, 0, none⟩), .int .i64 i] w' fun e w2 => e = .returned (.int .i64 (errOf Ls i)) ∧ KT w w2 bs bo br (rel Ls i) Lr m gs := by
  obtain ⟨⟨Ss, So, Sr, Lo, hs, ho, hr, d1, d2, d3, g1, g2, g3, hlo, hg⟩, b1, b2, l1, l2, hb⟩ := h
  have hl := liveOf_bd Ls
  refine (Release_any bs Ss Ls (liveOf Ls) i w' hs (by omega) (b1.mono (by omega)) (by omega) (by omega)).mono ?_
  rintro e w2 ⟨rfl, f, g⟩
  refine ⟨rfl, ⟨Ss, So, Sr, Lo, by rw [live_rel]; exact g, ho.fr f (fun j hj hk => d1 j hk hj), hr.fr f (fun j hj hk => d2 j hk hj), d1, d2, d3, g1, g2, g3, by omega, fun p hp => ?_⟩, b1.rel i, b2, by rw [rel_len]; omega, by omega, hb.trans (f.below hb.size (fun k hk e => by have := g1 k e; omega))⟩
  obtain ⟨q1, q2, q3, q4⟩ := hg p hp
  exact ⟨f.heap q1 q2, q2, q3, q4⟩

theorem KT.rRel (h : KT w w' bs bo br Ls Lr m gs) (i : Int) (hm : m ≤ 500) :
    Calls Try.prog 13 #[.pointer (some ⟨br, 0, none⟩), .int .i64 i] w' fun e w2 => e = .returned (.int .i64 (errOf Lr i)) ∧ KT w w2 bs bo br Ls (rel Lr i) m gs := by
  obtain ⟨⟨Ss, So, Sr, Lo, hs, ho, hr, d1, d2, d3, g1, g2, g3, hlo, hg⟩, b1, b2, l1, l2, hb⟩ := h
  refine (RRelease_any br Sr Lr i w' hr (by omega) (b2.mono (by omega))).mono ?_
  rintro e w2 ⟨rfl, f, g⟩
  refine ⟨rfl, ⟨Ss, So, Sr, Lo, hs.fr f d2, ho.fr f d3, g, d1, d2, d3, g1, g2, g3, by omega, fun p hp => ?_⟩, b1, b2.rel i, by omega, by rw [rel_len]; omega, hb.trans (f.below hb.size (fun k hk e => by have := g3 k e; omega))⟩
  obtain ⟨q1, q2, q3, q4⟩ := hg p hp
  exact ⟨f.heap q1 q4, q2, q3, q4⟩

theorem KT.fr0 {w2 : World} (h : KT w w' bs bo br Ls Lr m gs) (f : Fr (fun _ => False) w' w2) : KT w w2 bs bo br Ls Lr m gs := by
  obtain ⟨⟨Ss, So, Sr, Lo, hs, ho, hr, d1, d2, d3, g1, g2, g3, hlo, hg⟩, b1, b2, l1, l2, hb⟩ := h
  exact ⟨⟨Ss, So, Sr, Lo, hs.fr f (by simp), ho.fr f (by simp), hr.fr f (by simp), d1, d2, d3, g1, g2, g3, hlo, fun p hp => ⟨f.heap (hg p hp).1 (by simp), (hg p hp).2⟩⟩, b1, b2, l1, l2, hb.trans (f.below hb.size (by simp))⟩

theorem KT.sGet (h : KT w w' bs bo br Ls Lr m gs) (i : Int) (hm : m ≤ 500) :
    Calls Try.prog 14 #[.pointer (some ⟨bs, 0, none⟩), .int .i64 i] w' fun e w2 => e = .returned (.tuple #[.agg (stL (getX Ls i)).toArray, .int .i64 (errOf Ls i)]) ∧ KT w w2 bs bo br Ls Lr m gs := by
  have h' := h
  obtain ⟨⟨Ss, So, Sr, Lo, hs, ho, hr, d1, d2, d3, g1, g2, g3, hlo, hg⟩, b1, b2, l1, l2, hb⟩ := h
  refine (Get_any bs Ss Ls (liveOf Ls) i w' hs (by omega)).mono ?_
  rintro e w2 ⟨rfl, f⟩
  exact ⟨rfl, h'.fr0 f⟩
theorem KT.rGet (h : KT w w' bs bo br Ls Lr m gs) (i : Int) (hm : m ≤ 500) :
    Calls Try.prog 15 #[.pointer (some ⟨br, 0, none⟩), .int .i64 i] w' fun e w2 => e = .returned (.tuple #[.agg (stL (getX Lr i)).toArray, .int .i64 (errOf Lr i)]) ∧ KT w w2 bs bo br Ls Lr m gs := by
  have h' := h
  obtain ⟨⟨Ss, So, Sr, Lo, hs, ho, hr, d1, d2, d3, g1, g2, g3, hlo, hg⟩, b1, b2, l1, l2, hb⟩ := h
  refine (RGet_any br Sr Lr i w' hr (by omega) (b2.mono (by omega))).mono ?_
  rintro e w2 ⟨rfl, f⟩
  exact ⟨rfl, h'.fr0 f⟩
theorem KT.sCount (h : KT w w' bs bo br Ls Lr m gs) (i : Int) (hm : m ≤ 500) :
    Calls Try.prog 16 #[.pointer (some ⟨bs, 0, none⟩), .int .i64 i] w' fun e w2 => e = .returned (.int .i64 (cntL Ls i)) ∧ w2 = w' := by
  obtain ⟨⟨Ss, So, Sr, Lo, hs, ho, hr, d1, d2, d3, g1, g2, g3, hlo, hg⟩, b1, b2, l1, l2, hb⟩ := h
  exact (Count_any bs Ss Ls (liveOf Ls) i w' hs (by omega)).mono fun _ _ ⟨a, b⟩ => ⟨a, b.symm⟩
theorem KT.rCount (h : KT w w' bs bo br Ls Lr m gs) (i : Int) (hm : m ≤ 500) :
    Calls Try.prog 17 #[.pointer (some ⟨br, 0, none⟩), .int .i64 i] w' fun e w2 => e = .returned (.int .i64 (cntL Lr i)) ∧ w2 = w' := by
  obtain ⟨⟨Ss, So, Sr, Lo, hs, ho, hr, d1, d2, d3, g1, g2, g3, hlo, hg⟩, b1, b2, l1, l2, hb⟩ := h
  exact (RCount_any br Sr Lr i w' hr (by omega)).mono fun _ _ ⟨a, b⟩ => ⟨a, b.symm⟩
theorem KT.sLive (h : KT w w' bs bo br Ls Lr m gs) :
    Calls Try.prog 18 #[.pointer (some ⟨bs, 0, none⟩)] w' fun e w2 => e = .returned (.int .i64 (liveOf Ls)) ∧ w2 = w' := by
  obtain ⟨⟨Ss, So, Sr, Lo, hs, ho, hr, d1, d2, d3, g1, g2, g3, hlo, hg⟩, b1, b2, l1, l2, hb⟩ := h
  exact (Live_any bs Ss Ls (liveOf Ls) w' hs).mono fun _ _ ⟨a, b⟩ => ⟨a, b.symm⟩
theorem KT.rLive (h : KT w w' bs bo br Ls Lr m gs) (hm : m ≤ 500) :
    Calls Try.prog 19 #[.pointer (some ⟨br, 0, none⟩)] w' fun e w2 => e = .returned (.int .i64 (liveOf Lr)) ∧ w2 = w' := by
  obtain ⟨⟨Ss, So, Sr, Lo, hs, ho, hr, d1, d2, d3, g1, g2, g3, hlo, hg⟩, b1, b2, l1, l2, hb⟩ := h
  exact (RLive_any br Sr Lr w' hr (by omega)).mono fun _ _ ⟨a, b⟩ => ⟨a, b.symm⟩

end

theorem KT.new (w w0 : World) (hb : Below w.heap.size w w0) : KT w (((w0.alloc (.cells #[.slice none 0 0, .int .i64 0] 26)).alloc (.cells #[.slice none 0 0, .int .i64 0] 26)).alloc (.cells #[.slice none 0 0] 30)) w0.heap.size (w0.heap.size + 1) (w0.heap.size + 1 + 1) [] [] 0 [] := by
  have t0 := IsSto.new w0
  generalize hw1 : w0.alloc (.cells #[.slice none 0 0, .int .i64 0] 26) = w1 at *
  have e1 : w1.heap.size = w0.heap.size + 1 := by rw [← hw1]; simp
  have t1 := IsSto.new w1
  have f1 : Fr (fun _ => False) w1 (w1.alloc (.cells #[.slice none 0 0, .int .i64 0] 26)) := (Fr.refl _ _).alloc _
  have t0' := t0.fr f1 (by simp)
  have bb : Below w.heap.size w w1 := by rw [← hw1]; exact hb.alloc hb.size _
  have bb2 : Below w.heap.size w (w1.alloc (.cells #[.slice none 0 0, .int .i64 0] 26)) := bb.alloc bb.size _
  generalize hw2 : w1.alloc (.cells #[.slice none 0 0, .int .i64 0] 26) = w2 at *
  have e2 : w2.heap.size = w0.heap.size + 1 + 1 := by rw [← hw2]; simp; omega
  have t2 := IsRef.new w2
  have f2 : Fr (fun _ => False) w2 (w2.alloc (.cells #[.slice none 0 0] 30)) := (Fr.refl _ _).alloc _
  have hs := hb.size
  rw [e1] at t1
  rw [e2] at t2
  refine ⟨⟨fun j => j = w0.heap.size, fun j => j = w0.heap.size + 1, fun j => j = w0.heap.size + 1 + 1, [], t0'.fr f2 (by simp), t1.fr f2 (by simp), t2, fun j hj hk => ?_, fun j hj hk => ?_, fun j hj hk => ?_, fun j hj => ?_, fun j hj => ?_, fun j hj => ?_, by simp, by simp⟩, fun p hp => by simp at hp, fun p hp => by simp at hp, by simp, by simp, bb2.alloc bb2.size _⟩
  all_goals (simp only at hj; try simp only at hk)
  all_goals omega

end Go.Proofs.Ytpjijcpbmljanaa
