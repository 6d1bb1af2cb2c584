/- The reference's Points and Prepare: the walks. -/
import Derived.Test.YtfgmhpdhgepalaaDoorRPoint
import Derived.Test.YtfgmhpdhgepalaaDoorParts
namespace Go.Proofs.YtfgmhpdhgepalaaDoor
open Go.RowKit Go.Shelf Go.Maps Go.ChangeShapes Go.WideShapes Go.ChangeAt Go.WideMaps Go.WideElems

theorem iR_snoc (l : List Nat) (x : Nat) : iR (l ++ [x]) = iR l ++ [.int .i64 (x : Int)] := by simp [iR]

set_option maxHeartbeats 4000000 in
set_option maxRecDepth 100000 in
theorem RPoints_any (w : World) (p : Option Addr) (c : Nat) (l : List Nat) (hb : ∀ x ∈ l, x < 256) (hr : RdB w p l) (hc : l.length ≤ c) (hm : c ≤ maxLen) (hl : l.length ≤ 100000) :
    Calls Tryd.prog 14 #[.slice p l.length c] w (NewN w (pts l)) := by
  have HB := Lib.hid hb
  have HR := Lib.hid hr
  unfold maxLen at hm
  obtain ⟨i3, ib0, ib1, ib2, ib3⟩ := info_parts info3
  clear hb hr
  go_enter Tryd.func14, Tryd.ntmps14
  go_wp2_with fail
  go_loopw [3, 4, 5, 6] (fun o i _ _ wr => ∃ (k n : Nat) (pre : List Nat) (sp : Option Addr) (cc : Nat), k ≤ l.length ∧ n ≤ k ∧ n = pre.length ∧ i = .int .i64 k ∧ o = .slice sp n cc ∧ Hid (pts l = pre ++ pts (l.drop k)) ∧ Hid (OwnsWin wr w.heap.size 3 1 (.slice sp n cc) n (iR pre)) ∧ Hid (Fr (fun _ => False) w wr)) (fun _ i _ _ _ => l.length - (intOf i).toNat)
  case atStart => exact ⟨0, 0, [], none, 0, by omega, by omega, rfl, rfl, rfl, (rfl : pts l = [] ++ pts (l.drop 0)), OwnsWin.nil _ _ _ _, Fr.refl _ _⟩
  case round =>
    obtain ⟨k, n, pre, sp, cc, hk, hnk, hn, rfl, rfl, hP, hO, hF⟩ := hrel
    by_cases hlt : k < l.length
    · obtain ⟨g, off, rfl, -⟩ := HR.out k l[k] (List.getElem?_eq_getElem hlt)
      have hne : l.drop k ≠ [] := by intro e; have := congrArg List.length e; rw [List.length_drop] at this; simp at this; omega
      have HPT := Lib.hid (pts_cons hne)
      have hdl : (l.drop k).length = l.length - k := List.length_drop
      have R0 := rpoint_any wr g (off + k) (c - k) (l.drop k) hne (fun x hx => HB.out x (List.mem_of_mem_drop hx)) ((HR.out.fr hF.out).drop k)
      have hd2 := dec_ge1 (l.drop k)
      have hd3 := dec_len hne
      rw [hdl] at R0 hd3
      generalize hdc : (dec (l.drop k)).1 = dc at *
      generalize hdn : (dec (l.drop k)).2 = dn at *
      have R := Lib.hid R0
      have HP2 := Lib.hid (show pts l = (pre ++ [dc]) ++ pts (l.drop (k + dn)) by rw [hP.out, HPT.out, List.drop_drop, List.append_assoc]; rfl)
      have q1 : (k : Int) < (l.length : Int) := by omega
      have q2 : k < c := by omega
      have q3 : (k : Int) < (c : Int) := by omega
      have HN := Lib.hid hn
      clear R0 hdc hdn hne hdl hn
      go_wp2_with (first
        | (go_at_call 22; refine Calls.mono R.out ?_; rintro e w1 ⟨rfl, f1⟩; have F1 := Lib.hid (hF.out.trans f1); have O1 := Lib.hid (hO.out.fr f1 (by simp)); clear f1)
        | (at_builtin; refine wpList_append_src _ rfl (.tmp 18) (.tmp 20) 25 rfl w.heap.size 3 i3 _ 1 8 Tryd.underlying25 ib0 ib1 ib2 ib3 rfl (by decide) (.slice sp n cc) n _ rfl (O1.out.fr ((Fr.refl (fun _ => False) _).alloc _) (by simp)) (some ⟨_, 0, none⟩) 1 1 [.int .i64 (dc : Int)] rfl (Src.one (heapNew _ _) rfl) (by simp [Value.oneCell']) (by unfold maxLen; omega) (by omega) ((F1.out.alloc _).size) ?_; intro s4 c4 w4 hown hgrow hsh; have F4 := Lib.hid ((F1.out.alloc _).ownGrown (O1.out.fr ((Fr.refl (fun _ => False) _).alloc _) (by simp)) (Nat.le_refl _) hgrow); have O4 := Lib.hid hown; clear hown hgrow hsh))
      go_roundw
      case rel => exact ⟨k + dn, n + 1, pre ++ [dc], s4, c4, by omega, by omega, by simp [HN.out], by first | rfl | go_num, rfl, HP2.out, by show OwnsWin _ _ _ _ _ _ _; rw [iR_snoc]; exact O4.out, F4.out⟩
      case measure => simp [intOf]; omega
    · obtain rfl : k = l.length := by omega
      have i1 : ¬ ((l.length : Int) < (l.length : Int)) := by omega
      have HE := Lib.hid (show pts l = pre by have := hP.out; rw [List.drop_of_length_le (Nat.le_refl _), pts_nil, List.append_nil] at this; exact this)
      go_wp2_with fail
      go_ret
      refine ⟨sp, cc, by rw [HE.out, ← hn]; rfl, ?_, hF.out⟩
      rw [HE.out, ← hn]
      exact hO.out

/-- The code points, prepared as the reference does it. -/
def rprep : List Nat → List Nat
  | [] => []
  | x :: r => if x = 13 ∧ r[0]? = some 10 then rprep r else (if x = 13 ∨ x = 12 then 10 else if x = 0 then 65533 else x) :: rprep r
theorem prepF_ref : ∀ (xs : List Nat) (s : List Nat × Nat), (xs.foldl prS s).1 = s.1 ++ (if s.2 = 13 ∧ xs[0]? = some 10 then rprep xs.tail else rprep xs)
  | [], s => by simp [rprep]
  | x :: r, s => by
    rw [List.foldl_cons, prepF_ref r (prS s x)]
    by_cases h1 : x = 10 ∧ s.2 = 13
    · obtain ⟨rfl, h2⟩ := h1
      simp [prS, h2]
    · have e1 : ¬ (s.2 = 13 ∧ (x :: r)[0]? = some 10) := fun e => h1 ⟨by simpa using e.2, e.1⟩
      rw [if_neg e1]
      unfold prS
      simp only
      rw [if_neg h1]
      by_cases h2 : x = 13
      · subst h2
        by_cases h3 : r[0]? = some 10
        · rw [if_pos (Or.inl rfl), if_pos ⟨rfl, h3⟩]
          cases r with
          | nil => simp at h3
          | cons y r' =>
            obtain rfl : y = 10 := by simpa using h3
            simp [rprep]
        · rw [if_pos (Or.inl rfl), if_neg (fun e => h3 e.2)]
          rw [rprep, if_neg (fun e => h3 e.2), if_pos (Or.inl rfl)]
          simp
      · rw [rprep, if_neg (c := x = 13 ∧ r[0]? = some 10) (fun e => h2 e.1)]
        by_cases h4 : x = 12
        · subst h4; simp
        · by_cases h5 : x = 0
          · subst h5; simp
          · simp [h2, h4, h5]
theorem prep_ref (l : List Nat) : prep l = rprep (pts l) := by
  unfold prep prepS
  rw [prepF_ref]
  simp
theorem rprep_cons (x : Nat) (r : List Nat) : rprep (x :: r) = if x = 13 ∧ r[0]? = some 10 then rprep r else (if x = 13 ∨ x = 12 then 10 else if x = 0 then 65533 else x) :: rprep r := rfl
theorem rprep_at {xs : List Nat} {k x : Nat} (h : xs[k]? = some x) : rprep (xs.drop k) = if x = 13 ∧ xs[k + 1]? = some 10 then rprep (xs.drop (k + 1)) else (if x = 13 ∨ x = 12 then 10 else if x = 0 then 65533 else x) :: rprep (xs.drop (k + 1)) := by
  obtain ⟨hk, rfl⟩ := List.getElem?_eq_some_iff.1 h
  rw [List.drop_eq_getElem_cons hk, rprep_cons, List.getElem?_drop, Nat.add_zero]
theorem rprep_len : ∀ l : List Nat, (rprep l).length ≤ l.length
  | [] => by simp [rprep]
  | x :: r => by
    have := rprep_len r
    rw [rprep_cons]
    split <;> simp <;> omega
end Go.Proofs.YtfgmhpdhgepalaaDoor
