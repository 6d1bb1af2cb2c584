/- What is encoded is decoded: plain. -/
import Derived.Test.YtfgmhpdhgepalaaDoorBytes
namespace Go.Proofs.YtfgmhpdhgepalaaDoor
open Go.RowKit Go.Shelf Go.Maps Go.ChangeShapes Go.WideShapes Go.ChangeAt Go.WideMaps Go.WideElems

/-- A code point that is right. -/
def Sc (c : Nat) : Prop := c ≤ 1114111 ∧ (c < 55296 ∨ 57343 < c)
theorem enc1 {c : Nat} (h : c ≤ 127) : enc (c : Int) = [c] := by unfold enc; rw [Lib.encodeRuneZ_one (by omega) (by omega)]; simp
theorem enc2 {c : Nat} (h : 128 ≤ c) (h2 : c ≤ 2047) : enc (c : Int) = [192 + c / 64, 128 + c % 64] := by
  unfold enc
  rw [Lib.encodeRuneZ_two (by omega) (by omega)]
  simp only [List.map_cons, List.map_nil, List.cons.injEq, and_true]
  omega
theorem enc3 {c : Nat} (h : (2048 ≤ c ∧ c < 55296) ∨ (57343 < c ∧ c ≤ 65535)) : enc (c : Int) = [224 + c / 4096, 128 + c / 64 % 64, 128 + c % 64] := by
  unfold enc
  rw [Lib.encodeRuneZ_three (by omega)]
  simp only [List.map_cons, List.map_nil, List.cons.injEq, and_true]
  omega
theorem enc4 {c : Nat} (h : 65536 ≤ c) (h2 : c ≤ 1114111) : enc (c : Int) = [240 + c / 262144, 128 + c / 4096 % 64, 128 + c / 64 % 64, 128 + c % 64] := by
  unfold enc
  rw [Lib.encodeRuneZ_four (by omega) (by omega)]
  simp only [List.map_cons, List.map_nil, List.cons.injEq, and_true]
  omega
theorem dec_enc {c : Nat} (h : Sc c) (b : List Nat) : dec (enc (c : Int) ++ b) = (c, (enc (c : Int)).length) := by
  obtain ⟨h1, h2⟩ := h
  by_cases k1 : c ≤ 127
  · rw [enc1 k1]
    unfold dec Lib.decodeN
    simp only [List.cons_append, List.nil_append, List.getD_cons_zero]
    rw [if_pos (by omega)]
    rfl
  by_cases k2 : c ≤ 2047
  · rw [enc2 (by omega) k2]
    unfold dec
    simp only [List.cons_append, List.nil_append, List.getD_cons_zero, List.getD_cons_succ, List.length_cons]
    exact dN_2 _ _ _ _ _ c (by omega) (by omega) (by omega) (by omega) (by omega)
  by_cases k3 : c ≤ 65535
  · rw [enc3 (by omega)]
    unfold dec
    simp only [List.cons_append, List.nil_append, List.getD_cons_zero, List.getD_cons_succ, List.length_cons]
    exact dN_3 _ _ _ _ _ c (by omega) (by omega) (by omega) (by omega) (by omega) (by omega) (by omega)
  · rw [enc4 (by omega) h1]
    unfold dec
    simp only [List.cons_append, List.nil_append, List.getD_cons_zero, List.getD_cons_succ, List.length_cons]
    exact dN_4 _ _ _ _ _ c (by omega) (by omega) (by omega) (by omega) (by omega) (by omega) (by omega) (by omega)
theorem pts_encs : ∀ (xs : List Nat), (∀ x ∈ xs, Sc x) → pts (encs (zs xs)) = xs
  | [], _ => rfl
  | c :: r, h => by
    have e : encs (zs (c :: r)) = enc (c : Int) ++ encs (zs r) := by simp [encs, zs]
    have hd := dec_enc (h c (by simp)) (encs (zs r))
    have hl := (enc_len (c : Int)).1
    rw [e, pts_cons (fun e => by have := congrArg List.length e; rw [List.length_append] at this; simp only [List.length_nil] at this; omega), hd, List.drop_left, pts_encs r (fun x hx => h x (by simp [hx]))]
theorem decodeN_sc (n b0 b1 b2 b3 : Nat) : Sc (Lib.decodeN n b0 b1 b2 b3).1 := by
  unfold Sc Lib.decodeN
  split
  · simp only; omega
  split
  · split <;> (simp only; omega)
  split
  · split <;> (simp only; omega)
  split
  · split <;> (simp only; omega)
  · simp only; omega
theorem pts_sc (l : List Nat) : ∀ x ∈ pts l, Sc x := by
  generalize hn : l.length = n
  induction n using Nat.strongRecOn generalizing l with
  | _ n ih =>
    by_cases h : l = []
    · subst h; simp [pts_nil]
    · rw [pts_cons h]
      intro x hx
      rcases List.mem_cons.1 hx with rfl | hx
      · exact decodeN_sc _ _ _ _ _
      · have h1 := dec_ge1 l
        have h2 := dec_len h
        exact ih (l.drop (dec l).2).length (by rw [List.length_drop]; omega) _ rfl x hx
theorem rprep_mem : ∀ (xs : List Nat), ∀ y ∈ rprep xs, y = 10 ∨ y = 65533 ∨ (y ∈ xs ∧ y ≠ 13 ∧ y ≠ 12 ∧ y ≠ 0)
  | [], y, h => by simp [rprep] at h
  | x :: r, y, h => by
    rw [rprep_cons] at h
    have ih := rprep_mem r y
    split at h
    · rcases ih h with e | e | ⟨e, f⟩
      · exact .inl e
      · exact .inr (.inl e)
      · exact .inr (.inr ⟨by simp [e], f⟩)
    · rcases List.mem_cons.1 h with e | h
      · by_cases k1 : x = 13 ∨ x = 12
        · rw [if_pos k1] at e; exact .inl e
        · rw [if_neg k1] at e
          by_cases k2 : x = 0
          · rw [if_pos k2] at e; exact .inr (.inl e)
          · rw [if_neg k2] at e
            subst e
            exact .inr (.inr ⟨by simp, fun e => k1 (.inl e), fun e => k1 (.inr e), k2⟩)
      · rcases ih h with e | e | ⟨e, f⟩
        · exact .inl e
        · exact .inr (.inl e)
        · exact .inr (.inr ⟨by simp [e], f⟩)
theorem prep_mem (l : List Nat) : ∀ y ∈ prep l, Sc y ∧ y ≠ 13 ∧ y ≠ 12 ∧ y ≠ 0 := by
  intro y hy
  rw [prep_ref] at hy
  rcases rprep_mem _ y hy with rfl | rfl | ⟨e, f⟩
  · unfold Sc; omega
  · unfold Sc; omega
  · exact ⟨pts_sc l y e, f⟩
theorem rprep_same : ∀ (xs : List Nat), (∀ x ∈ xs, x ≠ 13 ∧ x ≠ 12 ∧ x ≠ 0) → rprep xs = xs
  | [], _ => rfl
  | x :: r, h => by
    obtain ⟨a, b, c⟩ := h x (by simp)
    rw [rprep_cons, if_neg (fun e => a e.1), if_neg (fun e => e.elim a b), if_neg c, rprep_same r (fun y hy => h y (by simp [hy]))]
theorem prep_again (l : List Nat) : prep (encs (zs (prep l))) = prep l := by
  have h := prep_mem l
  rw [prep_ref, pts_encs _ (fun x hx => (h x hx).1)]
  exact rprep_same _ fun x hx => (h x hx).2
end Go.Proofs.YtfgmhpdhgepalaaDoor
