/- The store between two calls of a law; alive. -/
import Derived.Test.YtpjijcpbmljanaaRef
namespace Go.Proofs.Ytpjijcpbmljanaa
open Go.RowKit Go.Maps Go.ChangeShapes Go.WideShapes Go.ChangeAt Go.WideMaps Go.WideElems

def hold (L : List Item) (i : Int) : List Item := if 0 < cntL L i then bump L i 1 else L
def rel (L : List Item) (i : Int) : List Item := if 0 < cntL L i then bump L i (-1) else L

theorem hold_len (L : List Item) (i : Int) : (hold L i).length = L.length := by unfold hold; split <;> simp [bump_len]
theorem rel_len (L : List Item) (i : Int) : (rel L i).length = L.length := by unfold rel; split <;> simp [bump_len]

theorem inR {L : List Item} {i : Int} (h : 0 < cntL L i) : ∃ k : Nat, i = (k : Nat) ∧ k < L.length := by
  rcases Decidable.em (0 ≤ i ∧ i < L.length) with h1 | h1
  · obtain ⟨k, rfl⟩ := Int.eq_ofNat_of_zero_le h1.1
    exact ⟨k, rfl, by omega⟩
  · rw [cntL_no (by omega)] at h; omega

theorem Bd.mono {L : List Item} {m m' : Int} (h : Bd L m) (hm : m ≤ m') : Bd L m' := fun p hp => ⟨(h p hp).1, Int.le_trans (h p hp).2 hm⟩

theorem Bd.hold {L : List Item} {m : Int} (h : Bd L m) (i : Int) : Bd (hold L i) (m + 1) := by
  unfold Ytpjijcpbmljanaa.hold
  split
  · rename_i hp
    obtain ⟨k, rfl, hk⟩ := inR hp
    rw [bump_nat hk]
    intro p hm
    rcases List.mem_or_eq_of_mem_set hm with hm | rfl
    · have := h p hm; omega
    · have := h _ (List.getElem_mem hk); simp only; omega
  · exact h.mono (by omega)

theorem Bd.rel {L : List Item} {m : Int} (h : Bd L m) (i : Int) : Bd (rel L i) m := by
  unfold Ytpjijcpbmljanaa.rel
  split
  · rename_i hp
    obtain ⟨k, rfl, hk⟩ := inR hp
    rw [cntL_nat hk] at hp
    rw [bump_nat hk]
    intro p hm
    rcases List.mem_or_eq_of_mem_set hm with hm | rfl
    · exact h p hm
    · have := h _ (List.getElem_mem hk); simp only; omega
  · exact h

theorem Bd.snoc {L : List Item} {m : Int} (h : Bd L m) (x : Nat → Int) (hm : 1 ≤ m) : Bd (L ++ [(x, 1)]) m := by
  intro p hp
  rcases List.mem_append.1 hp with hp | hp
  · exact h p hp
  · simp at hp; subst hp; simp only; omega

theorem live_hold (L : List Item) (i : Int) : liveOf (hold L i) = liveOf L := by
  unfold hold
  split
  · rename_i hp
    obtain ⟨k, rfl, hk⟩ := inR hp
    rw [cntL_nat hk] at hp
    rw [bump_nat hk, liveOf_set L k hk, if_pos hp, if_pos (by simp only; omega)]
    omega
  · rfl

theorem live_rel (L : List Item) (i : Int) : liveOf (rel L i) = if cntL L i = 1 then liveOf L - 1 else liveOf L := by
  unfold rel
  split
  · rename_i hp
    obtain ⟨k, rfl, hk⟩ := inR hp
    rw [cntL_nat hk] at *
    rw [bump_nat hk, liveOf_set L k hk, if_pos hp]
    by_cases h1 : L[k].2 = 1
    · rw [if_neg (by simp only; omega), if_pos h1]; omega
    · rw [if_pos (by simp only; omega), if_neg h1]; omega
  · rename_i hp
    rw [if_neg (by omega)]

/-- The store between two calls. -/
structure KS (w w' : World) (b : Nat) (L : List Item) (m : Int) : Prop where
  body : ∃ S, IsSto w' b S L (liveOf L) ∧ ∀ j, S j → w.heap.size ≤ j
  bd : Bd L m
  below : Below w.heap.size w w'

theorem KS.init (w w0 : World) (hb : Below w.heap.size w w0) : KS w (w0.alloc (.cells #[.slice none 0 0, .int .i64 0] 26)) w0.heap.size [] 0 :=
  ⟨⟨_, IsSto.new w0, fun j hj => by subst hj; exact hb.size⟩, fun p hp => by simp at hp, hb.alloc hb.size _⟩

theorem KS.add {w w' : World} {b : Nat} {L : List Item} {m : Int} (h : KS w w' b L m) (x : Nat → Int) (hn : L.length ≤ 1000) (hm : 0 ≤ m) :
    Calls Try.prog 7 #[.pointer (some ⟨b, 0, none⟩), .agg (stL x).toArray] w' fun e w2 => e = .returned (.int .i64 (L.length : Nat)) ∧ KS w w2 b (L ++ [(x, 1)]) (m + 1) := by
  obtain ⟨⟨S, hs, hg⟩, hbd, hb⟩ := h
  have hl := liveOf_bd L
  refine (New_any b S L (liveOf L) x w' hs hn (by omega) (by omega)).mono ?_
  rintro e w2 ⟨rfl, f, g⟩
  refine ⟨rfl, ⟨Gr S w' w2, ?_, Gr.ge hg hb.size⟩, (hbd.mono (by omega)).snoc x (by omega), hb.trans (f.below hb.size (fun k hk e => by have := hg k e; omega))⟩
  rw [liveOf_snoc, if_pos (by simp)]
  exact g

theorem KS.hold {w w' : World} {b : Nat} {L : List Item} {m : Int} (h : KS w w' b L m) (i : Int) (hn : L.length ≤ 1000) (hm : m ≤ 1000) :
    Calls Try.prog 10 #[.pointer (some ⟨b, 0, none⟩), .int .i64 i] w' fun e w2 => e = .returned (.int .i64 (errOf L i)) ∧ KS w w2 b (hold L i) (m + 1) := by
  obtain ⟨⟨S, hs, hg⟩, hbd, hb⟩ := h
  refine (Hold_any b S L (liveOf L) i w' hs hn (hbd.mono hm)).mono ?_
  rintro e w2 ⟨rfl, f, g⟩
  refine ⟨rfl, ⟨S, ?_, hg⟩, hbd.hold i, hb.trans (f.below hb.size (fun k hk e => by have := hg k e; omega))⟩
  rw [live_hold]
  exact g

theorem KS.rel {w w' : World} {b : Nat} {L : List Item} {m : Int} (h : KS w w' b L m) (i : Int) (hn : L.length ≤ 1000) (hm : m ≤ 1000) :
    Calls Try.prog 12 #[.pointer (some ⟨b, 0, none⟩), .int .i64 i] w' fun e w2 => e = .returned (.int .i64 (errOf L i)) ∧ KS w w2 b (rel L i) m := by
  obtain ⟨⟨S, hs, hg⟩, hbd, hb⟩ := h
  have hl := liveOf_bd L
  refine (Release_any b S L (liveOf L) i w' hs hn (hbd.mono hm) (by omega) (by omega)).mono ?_
  rintro e w2 ⟨rfl, f, g⟩
  refine ⟨rfl, ⟨S, ?_, hg⟩, hbd.rel i, hb.trans (f.below hb.size (fun k hk e => by have := hg k e; omega))⟩
  rw [live_rel]
  exact g

theorem KS.get {w w' : World} {b : Nat} {L : List Item} {m : Int} (h : KS w w' b L m) (i : Int) (hn : L.length ≤ 1000) :
    Calls Try.prog 14 #[.pointer (some ⟨b, 0, none⟩), .int .i64 i] w' fun e w2 => e = .returned (.tuple #[.agg (stL (getX L i)).toArray, .int .i64 (errOf L i)]) ∧ KS w w2 b L m := by
  obtain ⟨⟨S, hs, hg⟩, hbd, hb⟩ := h
  refine (Get_any b S L (liveOf L) i w' hs hn).mono ?_
  rintro e w2 ⟨rfl, f⟩
  exact ⟨rfl, ⟨S, hs.fr f (by simp), hg⟩, hbd, hb.trans (f.below hb.size (by simp))⟩

theorem KS.alloc {w w' : World} {b : Nat} {L : List Item} {m : Int} (h : KS w w' b L m) (o : Obj) : KS w (w'.alloc o) b L m := by
  obtain ⟨⟨S, hs, hg⟩, hbd, hb⟩ := h
  exact ⟨⟨S, hs.fr ((Fr.refl (fun _ => False) w').alloc o) (by simp), hg⟩, hbd, hb.alloc hb.size o⟩

theorem KS.count {w w' : World} {b : Nat} {L : List Item} {m : Int} (h : KS w w' b L m) (i : Int) (hn : L.length ≤ 1000) :
    Calls Try.prog 16 #[.pointer (some ⟨b, 0, none⟩), .int .i64 i] w' fun e w2 => e = .returned (.int .i64 (cntL L i)) ∧ w' = w2 := by
  obtain ⟨⟨S, hs, hg⟩, hbd, hb⟩ := h
  exact Count_any b S L (liveOf L) i w' hs hn
theorem KS.live {w w' : World} {b : Nat} {L : List Item} {m : Int} (h : KS w w' b L m) :
    Calls Try.prog 18 #[.pointer (some ⟨b, 0, none⟩)] w' fun e w2 => e = .returned (.int .i64 (liveOf L)) ∧ w' = w2 := by
  obtain ⟨⟨S, hs, hg⟩, hbd, hb⟩ := h
  exact Live_any b S L (liveOf L) w' hs

/-- Hold, then Release, of one struct, while another block stays as it is. -/
theorem KS.two {w w' : World} {b : Nat} {L : List Item} {m : Int} (h : KS w w' b L m) (i : Int) (hn : L.length ≤ 1000) (hm : m ≤ 900) (o : Obj) :
    Calls Try.prog 10 #[.pointer (some ⟨b, 0, none⟩), .int .i64 i] (w'.alloc o) fun e w2 => e = .returned (.int .i64 (errOf L i)) ∧
      w2.heap[w'.heap.size]? = some o ∧ KS w w2 b (Ytpjijcpbmljanaa.hold L i) (m + 1) ∧
      Calls Try.prog 12 #[.pointer (some ⟨b, 0, none⟩), .int .i64 i] w2 fun e w3 => e = .returned (.int .i64 (errOf (Ytpjijcpbmljanaa.hold L i) i)) ∧ w3.heap[w'.heap.size]? = some o ∧ KS w w3 b (Ytpjijcpbmljanaa.rel (Ytpjijcpbmljanaa.hold L i) i) (m + 1) := by
  obtain ⟨⟨S, hs, hg⟩, hbd, hb⟩ := h
  have hgx : ¬ S w'.heap.size := fun e => by have := hs.lt _ e; omega
  have hs2 := hs.fr ((Fr.refl (fun _ => False) w').alloc o) (by simp)
  have hb2 := hb.alloc hb.size o
  refine (Hold_any b S L (liveOf L) i _ hs2 hn (hbd.mono (by omega))).mono ?_
  rintro e w2 ⟨rfl, f, g⟩
  have hb3 := hb2.trans (f.below hb2.size (fun k hk e => by have := hg k e; omega))
  have g1 : IsSto w2 b S (Ytpjijcpbmljanaa.hold L i) (liveOf (Ytpjijcpbmljanaa.hold L i)) := by rw [live_hold]; exact g
  have o1 := f.heap (heapNew w' o) hgx
  refine ⟨rfl, o1, ⟨⟨S, g1, hg⟩, hbd.hold i, hb3⟩, ?_⟩
  have hl := liveOf_bd (Ytpjijcpbmljanaa.hold L i)
  have hln := hold_len L i
  refine (Release_any b S _ _ i w2 g1 (by omega) ((hbd.hold i).mono (by omega)) (by omega) (by omega)).mono ?_
  rintro e w3 ⟨rfl, f3, g3⟩
  refine ⟨rfl, f3.heap o1 hgx, ⟨S, ?_, hg⟩, (hbd.hold i).rel i, hb3.trans (f3.below hb3.size (fun k hk e => by have := hg k e; omega))⟩
  rw [live_rel]
  exact g3

theorem part_0 (x : Nat → Int) (w : World) : (part 3 (stL x).toArray 0).run Try.prog w = .ok (.int .i64 (x 0)) w := by kernel_rfl
theorem part_1 (x : Nat → Int) (w : World) : (part 3 (stL x).toArray 1).run Try.prog w = .ok (.int .i64 (x 1)) w := by kernel_rfl
theorem part_2 (x : Nat → Int) (w : World) : (part 3 (stL x).toArray 2).run Try.prog w = .ok (.int .i64 (x 2)) w := by kernel_rfl
theorem part_3 (x : Nat → Int) (w : World) : (part 3 (stL x).toArray 3).run Try.prog w = .ok (.int .i64 (x 3)) w := by kernel_rfl
theorem part_4 (x : Nat → Int) (w : World) : (part 3 (stL x).toArray 4).run Try.prog w = .ok (.int .i64 (x 4)) w := by kernel_rfl
theorem part_5 (x : Nat → Int) (w : World) : (part 3 (stL x).toArray 5).run Try.prog w = .ok (.int .i64 (x 5)) w := by kernel_rfl
theorem part_6 (x : Nat → Int) (w : World) : (part 3 (stL x).toArray 6).run Try.prog w = .ok (.int .i64 (x 6)) w := by kernel_rfl
theorem part_7 (x : Nat → Int) (w : World) : (part 3 (stL x).toArray 7).run Try.prog w = .ok (.int .i64 (x 7)) w := by kernel_rfl
theorem size_3 (w : World) : (sizeOf 3).run Try.prog w = .ok 1 w := by kernel_rfl
theorem arrEq_gen (d : Nat) (x : Nat → Int) (w : World) : (Op.equalIn (d + 1 + 1) 33 (.agg (stL x).toArray) (.agg (stL x).toArray)).run Try.prog w = .ok true w := by
  have hu : Try.prog.underlying 33 = some (.array 8 3) := Try.underlying33
  rw [Op.equalIn]
  simp only [Sem.run_bind, run_underlying hu, Result.andThen_ok, size_3]
  simp [Std.Legacy.Range.forIn_eq_forIn_range', List.range', part_0, part_1, part_2, part_3, part_4, part_5, part_6, part_7, run_equalIn_int _ _ _ _ _ _ _ Try.underlying3, Result.andThen]
theorem arrEq (x : Nat → Int) (w : World) : (Op.equalIn 10000 33 (.agg (stL x).toArray) (.agg (stL x).toArray)).run Try.prog w = .ok true w := arrEq_gen 9998 x w

def x7 : Nat → Int := fun j => if j = 0 then 7 else 0
theorem stL7 : (stL x7).toArray = #[.int .i64 7, .int .i64 0, .int .i64 0, .int .i64 0, .int .i64 0, .int .i64 0, .int .i64 0, .int .i64 0] := rfl

theorem alive_any (w : World) : Calls Try.prog 6 #[] w fun e w' => e = .returned (.bool true) ∧ Below w.heap.size w w' := by
  go_enter Try.func6, Try.ntmps6
  go_wp2_with fail
  have K0 := KS.init w w (Below.refl _ _)
  have P := K0.add x7 (by simp) (by omega)
  rw [stL7] at P
  refine P.mono ?_
  clear P
  rintro e w1 ⟨rfl, K1⟩
  have HK1 := Lib.hid K1
  clear K0 K1
  go_wp2_with fail
  refine (HK1.out.rel 0 (by simp) (by omega)).mono ?_
  rintro e w2 ⟨rfl, K2⟩
  have HK2 := Lib.hid K2
  clear K2
  rw [show errOf ([] ++ [(x7, 1)]) 0 = 0 by rfl]
  go_wp2_with fail
  refine (HK2.out.hold 0 (by simp [rel_len]) (by omega)).mono ?_
  rintro e w3 ⟨rfl, K3⟩
  have HK3 := Lib.hid K3
  clear K3
  rw [show errOf (rel ([] ++ [(x7, 1)]) 0) 0 = 6 by rfl]
  go_wp2_with fail
  refine (num_any _ _).mono ?_
  rintro e w4 ⟨rfl, rfl⟩
  go_wp2_with fail
  refine (num_any _ _).mono ?_
  rintro e w4 ⟨rfl, rfl⟩
  go_wp2_with fail
  go_ret
  exact ⟨rfl, HK3.out.below⟩

end Go.Proofs.Ytpjijcpbmljanaa
