/- New: what it makes. -/
import Derived.Test.YtmfkomdfknflgaaLaw0
import Derived.Deep.RegionLaw
import Derived.Deep.AppendLies
import Derived.Deep.Cut
import Derived.Deep.CutRange
import Derived.Deep.DeepCutAuto
namespace Go.Proofs.Ytmfkomdfknflgaa
open Go.RowKit Go.Maps Go.ChangeShapes Go.WideShapes Go.ChangeAt Go.WideMaps Go.WideElems

theorem info47 : (Try.prog.info? 47).map (fun i => (i.zero, i.size, i.bytes)) = some (some (.slice none 0 0), 1, 24) := by kernel_rfl

/-- A row of slices, each of a zero block of its own. -/
structure ZR (W : World) (R : Nat → Role) (n k : Nat) (r : Role) (rb : Nat → Role) (v : Value) (bs : List Nat) : Prop where
  len : bs.length = k
  row : W.ownsRow 0 47 1 v k (bs.map fun b => sl b 0 n n)
  own : ∀ j, v.ownBlock = some j → R j = r
  at_ : ∀ i b, bs[i]? = some b → R b = rb i ∧ Row W b 0 n (fun _ => 0)
theorem ZR.fr {S : Nat → Prop} {W W' : World} {R R' : Nat → Role} {n k : Nat} {r : Role} {rb : Nat → Role} {v : Value} {bs : List Nat} (h : ZR W R n k r rb v bs) (F : Fr S W W') (hS : ∀ j, S j → R j ≠ r ∧ ∀ i, R j ≠ rb i) (hR : ∀ j, j < W.heap.size → R' j = R j) : ZR W' R' n k r rb v bs :=
  ⟨h.len, ownsRow.fr h.row F (fun j hj hs => (hS j hs).1 (h.own j hj)), fun j hj => (hR j ((OwnsWin.of_row h.row).lt j hj).2).trans (h.own j hj), fun i b hb => ⟨(hR b (h.at_ i b hb).2.lt).trans (h.at_ i b hb).1, (h.at_ i b hb).2.fr F (fun hs => (hS b hs).2 i (h.at_ i b hb).1)⟩⟩
def rA (R : Nat → Role) (s : Nat) (x r : Role) (v : Value) : Nat → Role := fun j => if j < s then R j else if j = s then x else if v.ownBlock = some j then r else .no
/-- One more. -/
theorem ZR.add {W W' : World} {R : Nat → Role} {n k : Nat} {r : Role} {rb : Nat → Role} {v : Value} {bs : List Nat} {sp : Option Addr} {sc : Nat} (h : ZR W R n k r rb v bs) (hrr : ∀ i, rb i ≠ r)
    (ho : W'.ownsRow 0 47 1 (.slice sp (k + 1) sc) (k + 1) ((bs.map fun b => sl b 0 n n) ++ [.slice (some ⟨W.heap.size, 0, none⟩) n n]))
    (hg : ((W.alloc (.cells (madeCells #[.int .i64 0] n) 3)).alloc (.cells #[.slice (some ⟨W.heap.size, 0, none⟩) n n] 47)).grownBy W' v.ownBlock)
    (hs : ∀ j, (Value.slice sp (k + 1) sc).ownBlock = some j → v.ownBlock = some j ∨ ((W.alloc (.cells (madeCells #[.int .i64 0] n) 3)).alloc (.cells #[.slice (some ⟨W.heap.size, 0, none⟩) n n] 47)).heap.size ≤ j) :
    ZR W' (rA R W.heap.size (rb k) r (.slice sp (k + 1) sc)) n (k + 1) r rb (.slice sp (k + 1) sc) (bs ++ [W.heap.size]) ∧ Fr (fun j => v.ownBlock = some j) W W' ∧ (∀ j, j < W.heap.size → rA R W.heap.size (rb k) r (.slice sp (k + 1) sc) j = R j) ∧ ∀ j, W'.heap.size ≤ j → rA R W.heap.size (rb k) r (.slice sp (k + 1) sc) j = .no := by
  have F : Fr (fun j => v.ownBlock = some j) W W' := (((Fr.refl (fun j => v.ownBlock = some j) W).alloc _).alloc _).grown hg (fun j e => .inl e)
  have old : ∀ j, j < W.heap.size → rA R W.heap.size (rb k) r (.slice sp (k + 1) sc) j = R j := fun j hj => if_pos hj
  have hsz : W.heap.size + 2 ≤ W'.heap.size := by have := hg.size; simp at this; omega
  refine ⟨⟨by rw [List.length_append, h.len]; rfl, by rw [List.map_append]; exact ho, fun j hj => ?_, fun i b hb => ?_⟩, F, old, fun j hj => ?_⟩
  · rcases hs j hj with e | e
    · rw [old j ((OwnsWin.of_row h.row).lt j e).2]; exact h.own j e
    · simp at e
      unfold rA
      rw [if_neg (by omega), if_neg (by omega), if_pos hj]
  · by_cases hi : i < k
    · rw [List.getElem?_append_left (by rw [h.len]; exact hi)] at hb
      obtain ⟨h1, h2⟩ := h.at_ i b hb
      exact ⟨(old b h2.lt).trans h1, h2.fr F (fun e => hrr i (h1.symm.trans (h.own b e)))⟩
    · rw [List.getElem?_append_right (by rw [h.len]; omega), h.len] at hb
      have hik : i = k := by
        rcases Nat.lt_or_ge k i with e | e
        · rw [List.getElem?_eq_none (by simp; omega)] at hb; cases hb
        · omega
      subst hik
      rw [Nat.sub_self] at hb
      obtain rfl : W.heap.size = b := by simpa using hb
      refine ⟨by unfold rA; rw [if_neg (by omega), if_pos rfl], ?_⟩
      have h1 := (made_row W n).fr ((Fr.refl (fun j => v.ownBlock = some j) _).alloc (.cells #[.slice (some ⟨W.heap.size, 0, none⟩) n n] 47)) (fun e => by have := ((OwnsWin.of_row h.row).lt _ e).2; omega)
      exact h1.fr ((Fr.refl (fun j => v.ownBlock = some j) _).grown hg (fun j e => .inl e)) (fun e => by have := ((OwnsWin.of_row h.row).lt _ e).2; omega)
  · unfold rA
    rw [if_neg (by omega), if_neg (by omega), if_neg (fun e => by have := ((OwnsWin.of_row ho).lt j e).2; omega)]
/-- Between two rounds of New. -/
structure NwS (w W : World) (R : Nat → Role) (n k k' : Nat) (vc vb : Value) (cs bs : List Nat) : Prop where
  fr : Fr (fun _ => False) w W
  top : R (w.heap.size + 1) = .top
  blk : W.heap[w.heap.size + 1]? = some (.cells #[.int .i64 (n : Int), vc, vb, .map (some w.heap.size), .slice none 0 0] 46 (0, 0))
  mr : R w.heap.size = .mp
  mp : W.ownsMap Try.prog 3 ptrE w.heap.size 0 (.map [] : DataW Unit)
  c : ZR W R n k .crow (fun i => .clk i) vc cs
  b : ZR W R n k' .brow (fun _ => .fz) vb bs
  low : ∀ j, j < w.heap.size → R j = .no
  big : ∀ j, W.heap.size ≤ j → R j = .no
theorem NwS.start (w : World) (n : Nat) : NwS w ((w.alloc (.map #[] 0)).alloc (.cells #[.int .i64 (n : Int), .slice none 0 0, .slice none 0 0, .map (some w.heap.size), .slice none 0 0] 46)) (fun j => if j = w.heap.size then .mp else if j = w.heap.size + 1 then .top else .no) n 0 0 (.slice none 0 0) (.slice none 0 0) [] [] := by
  refine ⟨((Fr.refl _ _).alloc _).alloc _, by rw [if_neg (by omega), if_pos rfl], ?_, by rw [if_pos rfl], (World.ownsMap_made w Try.prog 3 ptrE).alloc _, ⟨rfl, World.ownsRow_nil _ _ _ _, fun j h => by simp [Value.ownBlock] at h, fun i b h => by simp at h⟩, ⟨rfl, World.ownsRow_nil _ _ _ _, fun j h => by simp [Value.ownBlock] at h, fun i b h => by simp at h⟩, fun j hj => by rw [if_neg (by omega), if_neg (by omega)], fun j hj => ?_⟩
  · have := heapNew (w.alloc (.map #[] 0)) (.cells #[.int .i64 (n : Int), .slice none 0 0, .slice none 0 0, .map (some w.heap.size), .slice none 0 0] 46)
    rw [World.size_alloc] at this
    exact this
  · simp at hj
    rw [if_neg (by omega), if_neg (by omega)]
theorem NwS.addC {w W W' : World} {R : Nat → Role} {n k k' : Nat} {vc vb : Value} {cs bs : List Nat} {sp : Option Addr} {sc : Nat} (h : NwS w W R n k k' vc vb cs bs)
    (ho : W'.ownsRow 0 47 1 (.slice sp (k + 1) sc) (k + 1) ((cs.map fun b => sl b 0 n n) ++ [.slice (some ⟨W.heap.size, 0, none⟩) n n]))
    (hg : ((W.alloc (.cells (madeCells #[.int .i64 0] n) 3)).alloc (.cells #[.slice (some ⟨W.heap.size, 0, none⟩) n n] 47)).grownBy W' vc.ownBlock)
    (hs : ∀ j, (Value.slice sp (k + 1) sc).ownBlock = some j → vc.ownBlock = some j ∨ ((W.alloc (.cells (madeCells #[.int .i64 0] n) 3)).alloc (.cells #[.slice (some ⟨W.heap.size, 0, none⟩) n n] 47)).heap.size ≤ j) :
    ∃ R' cs', NwS w (W'.setCell ⟨w.heap.size + 1, 1, none⟩ (.slice sp (k + 1) sc)) R' n (k + 1) k' (.slice sp (k + 1) sc) vb cs' bs := by
  obtain ⟨h1, F, hR, hB⟩ := h.c.add (fun i => by simp) ho hg hs
  have nS : ∀ j, vc.ownBlock = some j → R j = .crow := h.c.own
  have nlb : vc.ownBlock ≠ some (w.heap.size + 1) := fun e => by have := nS _ e; rw [h.top] at this; cases this
  have nmb : vc.ownBlock ≠ some w.heap.size := fun e => by have := nS _ e; rw [h.mr] at this; cases this
  have F2 : Fr (fun j => j = w.heap.size + 1) W' (W'.setCell ⟨w.heap.size + 1, 1, none⟩ (.slice sp (k + 1) sc)) := (Fr.refl (fun j => j = w.heap.size + 1) W').setCell (p := ⟨w.heap.size + 1, 1, none⟩) (.inl rfl) _
  have hsw := h.fr.size
  have hlt := ltOf h.blk
  generalize rA R W.heap.size (.clk k) .crow (.slice sp (k + 1) sc) = R' at *
  have top' : R' (w.heap.size + 1) = .top := (hR _ hlt).trans h.top
  refine ⟨R', _, (h.fr.step F (fun j e => .inr ?_)).setCell (.inr (by simp)) _, top', ?_, (hR _ (by omega)).trans h.mr, ?_, h1.fr F2 (fun j e => by rw [e, top']; simp) (fun _ _ => rfl), (h.b.fr F (fun j e => by rw [nS j e]; simp) hR).fr F2 (fun j e => by rw [e, top']; simp) (fun _ _ => rfl), fun j hj => (hR j (by omega)).trans (h.low j hj), fun j hj => hB j (by simpa [World.setCell] using hj)⟩
  · by_cases e2 : j < w.heap.size
    · have := nS j e; rw [h.low j e2] at this; cases this
    · omega
  · exact heapSet (F.heap h.blk nlb) 1 _
  · exact ownsMap.fr (ownsMap.fr h.mp F nmb) F2 (by omega)
theorem NwS.addB {w W W' : World} {R : Nat → Role} {n k k' : Nat} {vc vb : Value} {cs bs : List Nat} {sp : Option Addr} {sc : Nat} (h : NwS w W R n k k' vc vb cs bs)
    (ho : W'.ownsRow 0 47 1 (.slice sp (k' + 1) sc) (k' + 1) ((bs.map fun b => sl b 0 n n) ++ [.slice (some ⟨W.heap.size, 0, none⟩) n n]))
    (hg : ((W.alloc (.cells (madeCells #[.int .i64 0] n) 3)).alloc (.cells #[.slice (some ⟨W.heap.size, 0, none⟩) n n] 47)).grownBy W' vb.ownBlock)
    (hs : ∀ j, (Value.slice sp (k' + 1) sc).ownBlock = some j → vb.ownBlock = some j ∨ ((W.alloc (.cells (madeCells #[.int .i64 0] n) 3)).alloc (.cells #[.slice (some ⟨W.heap.size, 0, none⟩) n n] 47)).heap.size ≤ j) :
    ∃ R' bs', NwS w (W'.setCell ⟨w.heap.size + 1, 2, none⟩ (.slice sp (k' + 1) sc)) R' n k (k' + 1) vc (.slice sp (k' + 1) sc) cs bs' := by
  obtain ⟨h1, F, hR, hB⟩ := h.b.add (fun i => by simp) ho hg hs
  have nS : ∀ j, vb.ownBlock = some j → R j = .brow := h.b.own
  have nlb : vb.ownBlock ≠ some (w.heap.size + 1) := fun e => by have := nS _ e; rw [h.top] at this; cases this
  have nmb : vb.ownBlock ≠ some w.heap.size := fun e => by have := nS _ e; rw [h.mr] at this; cases this
  have F2 : Fr (fun j => j = w.heap.size + 1) W' (W'.setCell ⟨w.heap.size + 1, 2, none⟩ (.slice sp (k' + 1) sc)) := (Fr.refl (fun j => j = w.heap.size + 1) W').setCell (p := ⟨w.heap.size + 1, 2, none⟩) (.inl rfl) _
  have hsw := h.fr.size
  have hlt := ltOf h.blk
  generalize rA R W.heap.size .fz .brow (.slice sp (k' + 1) sc) = R' at *
  have top' : R' (w.heap.size + 1) = .top := (hR _ hlt).trans h.top
  refine ⟨R', _, (h.fr.step F (fun j e => .inr ?_)).setCell (.inr (by simp)) _, top', ?_, (hR _ (by omega)).trans h.mr, ?_, (h.c.fr F (fun j e => by rw [nS j e]; simp) hR).fr F2 (fun j e => by rw [e, top']; simp) (fun _ _ => rfl), h1.fr F2 (fun j e => by rw [e, top']; simp) (fun _ _ => rfl), fun j hj => (hR j (by omega)).trans (h.low j hj), fun j hj => hB j (by simpa [World.setCell] using hj)⟩
  · by_cases e2 : j < w.heap.size
    · have := nS j e; rw [h.low j e2] at this; cases this
    · omega
  · exact heapSet (F.heap h.blk nlb) 2 _
  · exact ownsMap.fr (ownsMap.fr h.mp F nmb) F2 (by omega)
theorem NwS.drew {w W : World} {R : Nat → Role} {n k k' : Nat} {vc vb : Value} {cs bs : List Nat} (h : NwS w W R n k k' vc vb cs bs) : NwS w W.drew R n k k' vc vb cs bs :=
  ⟨h.fr.drew, h.top, h.blk, h.mr, h.mp, ⟨h.c.1, h.c.2, h.c.3, h.c.4⟩, ⟨h.b.1, h.b.2, h.b.3, h.b.4⟩, h.low, h.big⟩

theorem lies_sh {W : World} {n k g c : Nat} {ob : Option Nat} (h : ob = some g ∨ g = W.heap.size + 2) : ∀ j, (Value.slice (some ⟨g, 0, none⟩) (k + 1) c).ownBlock = some j → ob = some j ∨ ((W.alloc (.cells (madeCells #[.int .i64 0] n) 3)).alloc (.cells #[.slice (some ⟨W.heap.size, 0, none⟩) n n] 47)).heap.size ≤ j := by
  intro j hj
  simp [Value.ownBlock] at hj
  subst hj
  rcases h with h | h
  · exact .inl h
  · exact .inr (by simp; omega)
theorem ZR.rw {W : World} {R : Nat → Role} {n : Nat} {r : Role} {rb : Nat → Role} {v : Value} {bs : List Nat} (h : ZR W R n n r rb v bs) : Rw W R r v n (fun i => sl (bs.getD i 0) 0 n n) := by
  rcases h.row.2 with ⟨_, e⟩ | ⟨g, cap, cur, rfl, _, hg, h1, h2, h3, h4⟩
  · exact .inl e
  · refine .inr ⟨g, cap, cur, rfl, h1, h2, h.own g rfl, hg, by omega, fun j hj => ?_⟩
    have e1 : (bs.map fun b => sl b 0 n n)[j]? = some (sl (bs.getD j 0) 0 n n) := by
      rw [List.getElem?_map, List.getD_eq_getElem?_getD, List.getElem?_eq_getElem (by rw [h.len]; exact hj)]
      rfl
    rw [← h4, List.getElem?_take, if_pos (by omega), Array.getElem?_toList] at e1
    exact e1
theorem ZR.rows {W : World} {R : Nat → Role} {n k : Nat} {r : Role} {rb : Nat → Role} {v : Value} {bs : List Nat} (h : ZR W R n k r rb v bs) : ∀ i, i < k → R (bs.getD i 0) = rb i ∧ Row W (bs.getD i 0) 0 n (fun _ => 0) := fun i hi => by
  have e : bs[i]? = some (bs.getD i 0) := by rw [List.getD_eq_getElem?_getD, List.getElem?_eq_getElem (by rw [h.len]; exact hi)]; rfl
  exact h.at_ i _ e
theorem NwS.log {w W : World} {R : Nat → Role} {n : Nat} {vc vb : Value} {cs bs : List Nat} (h : NwS w W R n n n vc vb cs bs) (hn : n ≤ 64) : IsLog W (w.heap.size + 1) R (newG n) :=
  ⟨vc, vb, w.heap.size, .slice none 0 0, h.top, h.blk, ⟨_, h.c.rw, h.c.rows⟩, ⟨_, fun _ => 0, fun _ => n, h.b.rw, fun i hi => ⟨(h.b.rows i hi).1, (h.b.rows i hi).2, Nat.le_refl _, by unfold maxLen; show n ≤ _; omega⟩⟩,
    ⟨0, fun _ => 0, Nat.le_refl _, h.mr, .map [], h.mp, isMap_empty, fun z => rfl, fun z x hx => by cases hx⟩, ⟨[], rfl, OwnsWin.nil _ _ _ _, fun k hk => by simp [Value.ownBlock] at hk, fun e he => by cases he⟩, h.big, hn⟩
theorem New_any (w : World) (z : Int) : Calls Try.prog 9 #[.int .i64 z] w fun e w' => ∃ b R, e = .returned (.pointer (some ⟨b, 0, none⟩)) ∧ w.heap.size ≤ b ∧ IsLog w' b R (newG (nW z)) ∧ Fr (fun _ => False) w w' ∧ ∀ k, k < w.heap.size → R k = .no := by
  have mk1 := mk47 (nW z) (by unfold nW; omega)
  have mm := run_makeMap (P := Try.prog) 42
  go_enter Try.func9, Try.ntmps9
  go_upto_region 1 with fail
  go_cut [3] from 5 to 7 (fun v wx => v = .int .i64 (nW z : Int) ∧ wx = w)
  case first =>
    have hn : (nW z : Int) = min (max 0 z) 64 := by unfold nW; omega
    go_wp2_with fail
    all_goals go_meet
    all_goals exact ⟨by congr 1; omega, rfl⟩
  case rest =>
    obtain ⟨rfl, rfl⟩ := hcut
    obtain ⟨w0, rfl⟩ : ∃ w0 : World, w0 = wc := ⟨_, rfl⟩
    have hn64 : nW z ≤ 64 := by unfold nW; omega
    obtain ⟨n, hn⟩ : ∃ n, nW z = n := ⟨_, rfl⟩
    rw [hn] at mk1 hn64 ⊢
    have HN := Lib.hid hn
    clear hn
    obtain ⟨i47, hu0, hu1, hu2, hu3⟩ := info_parts info47
    have H0 := Lib.hid (NwS.start w0 n)
    go_wp2_with fail
    go_loopw [13] (fun i wr => ∃ (k : Nat) (R : Nat → Role) (vc vb : Value) (cs bs : List Nat), k ≤ n ∧ i = .int .i64 k ∧ Hid (NwS w0 wr R n k k vc vb cs bs)) (fun i _ => n - (intOf i).toNat)
    case atStart => exact ⟨0, _, _, _, _, _, by omega, rfl, H0⟩
    case round =>
      clear H0
      obtain ⟨k, R, vc, vb, cs, bs, hk, rfl, hS⟩ := hrel
      by_cases hlt : k < n
      · have q1 : decide ((k : Int) < (n : Int)) = true := by simp; omega
        obtain ⟨sp, sc, hvc⟩ := ownsRow.shape hS.out.c.row
        subst hvc
        obtain ⟨sp2, sc2, hvb⟩ := ownsRow.shape hS.out.b.row
        subst hvb
        go_upto_region 5 with fail
        go_cut [] from 15 to 25 (fun wx => ∃ (R : Nat → Role) (sp : Option Addr) (sc : Nat) (cs : List Nat), Hid (NwS w0 wx R n (k + 1) k (.slice sp (k + 1) sc) (.slice sp2 k sc2) cs bs))
        case first =>
          obtain ⟨wy, rfl⟩ : ∃ wy : World, wy = wr := ⟨_, rfl⟩
          have HB0 := hS.out.blk
          have HB1 := heapAlloc (o' := .cells (madeCells #[.int .i64 0] n) 3) HB0
          have HB2 := heapAlloc (o' := .cells #[.slice (some ⟨wy.heap.size, 0, none⟩) n n] 47) HB1
          have k0 := cellOf HB0 1
          have k1 := cellOf HB1 1
          have k2 := cellOf HB2 1
          simp at k0 k1 k2
          have OW := Lib.hid (ownsRow.fr (ownsRow.fr hS.out.c.row ((Fr.refl (fun _ => False) _).alloc (.cells (madeCells #[.int .i64 0] n) 3)) (by simp)) ((Fr.refl (fun _ => False) _).alloc (.cells #[.slice (some ⟨wy.heap.size, 0, none⟩) n n] 47)) (by simp))
          have HBB := Lib.hid HB2
          have HNW := Lib.hid (show ((wy.alloc (.cells (madeCells #[.int .i64 0] n) 3)).alloc (.cells #[.slice (some ⟨wy.heap.size, 0, none⟩) n n] 47)).heap[wy.heap.size + 1]? = some (.cells #[.slice (some ⟨wy.heap.size, 0, none⟩) n n] 47 (0, 0)) by
            have := heapNew (wy.alloc (.cells (madeCells #[.int .i64 0] n) 3)) (.cells #[.slice (some ⟨wy.heap.size, 0, none⟩) n n] 47)
            rwa [World.size_alloc] at this)
          have nlb : (Value.slice sp k sc).ownBlock ≠ some (w0.heap.size + 1) := fun e => by have := hS.out.c.own _ e; rw [hS.out.top] at this; cases this
          clear HB0 HB1 HB2
          go_region_law (refine step_append_lies _ (by rfl) (.tmp 19) (.tmp 22) 43 (by rfl) 0 47 i47 _ 1 24 Try.underlying43 hu0 hu1 hu2 hu3 rfl (by omega) (.slice sp k sc) k _ (by rfl) OW.out ⟨wy.heap.size + 1, 0, none⟩ 1 1 [.slice (some ⟨wy.heap.size, 0, none⟩) n n] (by rfl) rfl (World.news_of_block (HNW.out)) (by simp [Value.oneCell']) (by omega) (by unfold maxLen; omega) (by omega) (by omega) (wy.heap.size + 2) (by simp) ?_; intro g7 c7 w7 hown7 hgrow70 hat7 hlt7; have hsh7 := lies_sh (W := wy) (n := n) (k := k) (c := c7) hat7; have hgrow7 : ((wy.alloc (.cells (madeCells #[.int .i64 0] n) 3)).alloc (.cells #[.slice (some ⟨wy.heap.size, 0, none⟩) n n] 47)).grownBy w7 (Value.slice sp k sc).ownBlock := ⟨hgrow70.os, hgrow70.tape, hgrow70.output, hgrow70.size, hgrow70.block⟩; have hb7 := (((Fr.refl (fun j => (Value.slice sp k sc).ownBlock = some j) _).grown hgrow7 (fun j e => .inl e)).heap HBB.out nlb); have k7 := cellOf hb7 1; have f7 := frozenOf hb7 1; simp at k7; have N7 := Lib.hid (hS.out.addC hown7 hgrow7 hsh7); clear hb7 hown7 hgrow7 hgrow70 hsh7)
          all_goals go_wp2_with fail
          all_goals go_meet
          all_goals (obtain ⟨R', cs', hN⟩ := N7.out; exact ⟨R', some ⟨g7, 0, none⟩, c7, cs', Lib.hid hN⟩)
        case rest =>
          obtain ⟨R', sp', sc', cs', hS2⟩ := hcut
          clear hS
          go_upto_region 6 with fail
          obtain ⟨wy, rfl⟩ : ∃ wy : World, wy = wc := ⟨_, rfl⟩
          have HB0 := hS2.out.blk
          have HB1 := heapAlloc (o' := .cells (madeCells #[.int .i64 0] n) 3) HB0
          have HB2 := heapAlloc (o' := .cells #[.slice (some ⟨wy.heap.size, 0, none⟩) n n] 47) HB1
          have k0 := cellOf HB0 2
          have k1 := cellOf HB1 2
          have k2 := cellOf HB2 2
          simp at k0 k1 k2
          have OW := Lib.hid (ownsRow.fr (ownsRow.fr hS2.out.b.row ((Fr.refl (fun _ => False) _).alloc (.cells (madeCells #[.int .i64 0] n) 3)) (by simp)) ((Fr.refl (fun _ => False) _).alloc (.cells #[.slice (some ⟨wy.heap.size, 0, none⟩) n n] 47)) (by simp))
          have HBB := Lib.hid HB2
          have HNW := Lib.hid (show ((wy.alloc (.cells (madeCells #[.int .i64 0] n) 3)).alloc (.cells #[.slice (some ⟨wy.heap.size, 0, none⟩) n n] 47)).heap[wy.heap.size + 1]? = some (.cells #[.slice (some ⟨wy.heap.size, 0, none⟩) n n] 47 (0, 0)) by
            have := heapNew (wy.alloc (.cells (madeCells #[.int .i64 0] n) 3)) (.cells #[.slice (some ⟨wy.heap.size, 0, none⟩) n n] 47)
            rwa [World.size_alloc] at this)
          have nlb : (Value.slice sp2 k sc2).ownBlock ≠ some (w0.heap.size + 1) := fun e => by have := hS2.out.b.own _ e; rw [hS2.out.top] at this; cases this
          clear HB0 HB1 HB2
          go_region_law (refine step_append_lies _ (by rfl) (.tmp 30) (.tmp 33) 43 (by rfl) 0 47 i47 _ 1 24 Try.underlying43 hu0 hu1 hu2 hu3 rfl (by omega) (.slice sp2 k sc2) k _ (by rfl) OW.out ⟨wy.heap.size + 1, 0, none⟩ 1 1 [.slice (some ⟨wy.heap.size, 0, none⟩) n n] (by rfl) rfl (World.news_of_block (HNW.out)) (by simp [Value.oneCell']) (by omega) (by unfold maxLen; omega) (by omega) (by omega) (wy.heap.size + 2) (by simp) ?_; intro g7 c7 w7 hown7 hgrow70 hat7 hlt7; have hsh7 := lies_sh (W := wy) (n := n) (k := k) (c := c7) hat7; have hgrow7 : ((wy.alloc (.cells (madeCells #[.int .i64 0] n) 3)).alloc (.cells #[.slice (some ⟨wy.heap.size, 0, none⟩) n n] 47)).grownBy w7 (Value.slice sp2 k sc2).ownBlock := ⟨hgrow70.os, hgrow70.tape, hgrow70.output, hgrow70.size, hgrow70.block⟩; have hb7 := (((Fr.refl (fun j => (Value.slice sp2 k sc2).ownBlock = some j) _).grown hgrow7 (fun j e => .inl e)).heap HBB.out nlb); have k7 := cellOf hb7 2; have f7 := frozenOf hb7 2; simp at k7; have N7 := Lib.hid (hS2.out.addB hown7 hgrow7 hsh7); clear hb7 hown7 hgrow7 hgrow70 hsh7)
          all_goals
            obtain ⟨R3, bs3, hN⟩ := N7.out
            have hS3 := Lib.hid hN
            go_wp2_with fail
            go_roundw
            case rel => exact ⟨k + 1, R3, _, _, cs', bs3, by omega, by first | rfl | go_num, by first | exact hS3 | exact Lib.hid hS3.out.drew⟩
            case measure => simp [intOf]; omega
      · obtain rfl : k = n := by omega
        have q1 : decide ((k : Int) < (k : Int)) = false := by simp
        go_wp2_with fail
        go_ret
        exact ⟨_, R, rfl, by omega, by rw [HN.out]; exact hS.out.log hn64, hS.out.fr, hS.out.low⟩
end Go.Proofs.Ytmfkomdfknflgaa
