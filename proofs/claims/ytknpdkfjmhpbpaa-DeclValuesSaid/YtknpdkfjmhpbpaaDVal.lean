/- Values as they stand: plain. No condition. -/
import Derived.Test.YtknpdkfjmhpbpaaDAlive
namespace Go.Proofs.Ytknpdkfjmhpbpaa

def idT (s : ByteArray) : Tok := ⟨1, s, 0, false, 0⟩
def coT : Tok := ⟨11, ⟨#[]⟩, 0, false, 0⟩
def baT : Tok := ⟨10, ⟨#[]⟩, 0, false, 33⟩
def imT : Tok := ⟨1, ⟨#[73, 109, 112, 111, 114, 116, 97, 110, 84]⟩, 0, false, 0⟩
def tl1 (i : Bool) : List Tok := if i then [baT, wsT, imT, wsT] else []
def bw (b : Bool) : List Tok := if b then [wsT] else []
def dvT (s : ByteArray) (v : List Tok) (b h i : Bool) : List Tok := ([idT s] ++ bw b ++ [coT, wsT] ++ v ++ bw h) ++ tl1 i
/-- What the law lets in. -/
structure OkV (v : List Tok) : Prop where
  flat : ∀ t ∈ v, t.f0 ≠ 12 ∧ t.f0 ≠ 14 ∧ t.f0 ≠ 16 ∧ t.f0 ≠ 18 ∧ t.f0 ≠ 20
  head : ∀ t ∈ v.head?, t.f0 ≠ 9
  last : ∀ t ∈ v.getLast?, t.f0 ≠ 9 ∧ t.f0 ≠ 1
theorem isW_ws : isW wsT = true := by decide
theorem isW_no {t : Tok} (h : t.f0 ≠ 9) : ¬ isW t = true := by unfold isW; simpa using h
theorem lt1_ws (l : List Tok) : lt1 (wsT :: l) = lt1 l := by unfold lt1; rw [List.dropWhile_cons_of_pos isW_ws]
theorem lt1_no {t : Tok} (l : List Tok) (h : t.f0 ≠ 9) : lt1 (t :: l) = t :: l := by unfold lt1; rw [List.dropWhile_cons_of_neg (isW_no h)]
theorem lt1_nil : lt1 [] = [] := rfl
theorem rt1_nil : rt1 [] = [] := rfl
theorem rt1_ok {v : List Tok} (h : OkV v) : rt1 v = v := by
  rcases (show v = [] ∨ ∃ r x, v = r ++ [x] by rcases List.eq_nil_or_concat v with h | ⟨r, x, h⟩; exact .inl h; exact .inr ⟨r, x, by rw [h, List.concat_eq_append]⟩) with rfl | ⟨r, x, rfl⟩
  · rfl
  · exact rt1_snoc_n (isW_no (h.last x (by simp)).1)
theorem rt1_bw {v : List Tok} (h : OkV v) (b : Bool) : rt1 (v ++ bw b) = v := by
  cases b with
  | false => show rt1 (v ++ []) = v; rw [List.append_nil]; exact rt1_ok h
  | true => show rt1 (v ++ [wsT]) = v; rw [rt1_snoc_w isW_ws]; exact rt1_ok h
theorem lt1_ok {v : List Tok} (h : OkV v) (hv : v ≠ []) (l : List Tok) : lt1 (v ++ l) = v ++ l := by
  cases v with
  | nil => exact absurd rfl hv
  | cons t r => exact lt1_no _ (h.head t rfl)
theorem imp_no {v : List Tok} (h : OkV v) : impV v = (v, false) := by
  unfold impV
  cases e : v.getLast? with
  | none => rfl
  | some x => simp only; rw [if_neg (fun h2 => (h.last x e).2 h2.1)]
theorem lowIm : lowS imT.f1 = impS := by rfl
/-- The value without white, important or not. -/
theorem trim_dv {v : List Tok} (h : OkV v) (b i : Bool) : impV (trimT ([wsT] ++ v ++ bw b ++ tl1 i)) = (v, i) := by
  cases i with
  | false =>
    have : trimT ([wsT] ++ v ++ bw b ++ tl1 false) = v := by
      show trimT (([wsT] ++ v ++ bw b) ++ []) = v
      rw [List.append_nil]
      unfold trimT
      rw [List.append_assoc, List.singleton_append, lt1_ws]
      by_cases hv : v = []
      · subst hv
        cases b
        · rfl
        · rfl
      · rw [lt1_ok h hv, rt1_bw h]
    rw [this, imp_no h]
  | true =>
    obtain ⟨X, hX, hXt, hXl⟩ : ∃ X : List Tok, lt1 (v ++ bw b ++ [baT, wsT, imT, wsT]) = X ++ [baT, wsT, imT, wsT] ∧ trimT X = v ∧ (∀ l, lt1 (X ++ baT :: l) = X ++ baT :: l) := by
      by_cases hv : v = []
      · subst hv
        refine ⟨[], ?_, rfl, fun l => lt1_no l (by decide)⟩
        cases b
        · exact lt1_no _ (by decide)
        · show lt1 (wsT :: [baT, wsT, imT, wsT]) = _
          rw [lt1_ws]
          exact lt1_no _ (by decide)
      · refine ⟨v ++ bw b, ?_, ?_, fun l => ?_⟩
        · rw [List.append_assoc, lt1_ok h hv]
        · unfold trimT
          rw [lt1_ok h hv, rt1_bw h]
        · rw [List.append_assoc, lt1_ok h hv]
    have e1 : trimT ([wsT] ++ v ++ bw b ++ tl1 true) = X ++ [baT, wsT, imT] := by
      show trimT (([wsT] ++ v ++ bw b) ++ [baT, wsT, imT, wsT]) = _
      unfold trimT
      rw [show ([wsT] ++ v ++ bw b) ++ [baT, wsT, imT, wsT] = wsT :: (v ++ bw b ++ [baT, wsT, imT, wsT]) by simp, lt1_ws, hX, show X ++ [baT, wsT, imT, wsT] = (X ++ [baT, wsT, imT]) ++ [wsT] by simp, rt1_snoc_w isW_ws,
        show X ++ [baT, wsT, imT] = (X ++ [baT, wsT]) ++ [imT] by simp, rt1_snoc_n (isW_no (by decide))]
    have e2 : trimT (X ++ [baT, wsT]) = X ++ [baT] := by
      unfold trimT
      rw [show X ++ [baT, wsT] = X ++ baT :: [wsT] from rfl, hXl, show X ++ baT :: [wsT] = (X ++ [baT]) ++ [wsT] by simp, rt1_snoc_w isW_ws, rt1_snoc_n (isW_no (by decide))]
    rw [e1]
    unfold impV
    have g1 : (X ++ [baT, wsT, imT]).getLast? = some imT := by rw [show X ++ [baT, wsT, imT] = (X ++ [baT, wsT]) ++ [imT] by simp]; simp
    have g2 : (X ++ [baT, wsT, imT]).dropLast = X ++ [baT, wsT] := by rw [show X ++ [baT, wsT, imT] = (X ++ [baT, wsT]) ++ [imT] by simp]; simp
    have g3 : (X ++ [baT]).getLast? = some baT := by simp
    have g4 : (X ++ [baT]).dropLast = X := by simp
    rw [g1, g2, e2]
    simp only
    rw [if_pos ⟨rfl, lowIm⟩, g3, g4]
    simp only
    rw [if_pos ⟨rfl, rfl⟩, hXt]
theorem one_dv (s : ByteArray) {v : List Tok} (hv : OkV v) (b h i : Bool) : oneV (dvT s v b h i) = some ⟨lowS s, v, i⟩ := by
  have e : dvT s v b h i = idT s :: (bw b ++ (coT :: ([wsT] ++ v ++ bw h ++ tl1 i))) := by unfold dvT; simp
  have e2 : lt1 (bw b ++ (coT :: ([wsT] ++ v ++ bw h ++ tl1 i))) = coT :: ([wsT] ++ v ++ bw h ++ tl1 i) := by
    cases b
    · exact lt1_no _ (by decide)
    · show lt1 (wsT :: (coT :: ([wsT] ++ v ++ bw h ++ tl1 i))) = _
      rw [lt1_ws]
      exact lt1_no _ (by decide)
  rw [e]
  unfold oneV
  simp only
  rw [if_pos (show (idT s).f0 = 1 from rfl), e2]
  simp only
  rw [if_pos (show coT.f0 = 11 from rfl), trim_dv hv]
  rfl
theorem dv_flat (s : ByteArray) {v : List Tok} (hv : OkV v) (b h i : Bool) : ∀ t ∈ dvT s v b h i, cl t.f0 = 0 ∧ t.f0 ≠ 12 := by
  have ok : ∀ t : Tok, t.f0 = 1 ∨ t.f0 = 9 ∨ t.f0 = 10 ∨ t.f0 = 11 → cl t.f0 = 0 ∧ t.f0 ≠ 12 := by
    rintro t (h | h | h | h) <;> rw [h] <;> decide
  have okb : ∀ (b : Bool) (t : Tok), t ∈ bw b → t.f0 = 1 ∨ t.f0 = 9 ∨ t.f0 = 10 ∨ t.f0 = 11 := by
    intro b t ht
    cases b
    · cases ht
    · rw [List.mem_singleton.1 ht]; exact .inr (.inl rfl)
  intro t ht
  unfold dvT at ht
  simp only [List.mem_append, List.mem_cons, List.not_mem_nil, or_false] at ht
  rcases ht with ((((rfl | ht) | rfl | rfl) | ht) | ht) | ht
  · exact ok _ (.inl rfl)
  · exact ok _ (okb _ _ ht)
  · exact ok _ (.inr (.inr (.inr rfl)))
  · exact ok _ (.inr (.inl rfl))
  · obtain ⟨h1, h2, h3, h4, h5⟩ := hv.flat t ht
    refine ⟨?_, h1⟩
    unfold cl
    rw [if_neg h2, if_neg (by simp [h3, h5]), if_neg h4]
  · exact ok _ (okb _ _ ht)
  · cases i
    · cases ht
    · have : t = baT ∨ t = wsT ∨ t = imT ∨ t = wsT := by simpa [tl1] using ht
      rcases this with rfl | rfl | rfl | rfl
      · exact ok _ (.inr (.inr (.inl rfl)))
      · exact ok _ (.inr (.inl rfl))
      · exact ok _ (.inl rfl)
      · exact ok _ (.inr (.inl rfl))
/-- One declaration, with the value as it stands. -/
theorem dec_dv (s : ByteArray) {v : List Tok} (hv : OkV v) (b h i : Bool) : decV (dvT s v b h i) 0 = [⟨lowS s, v, i⟩] := by
  obtain ⟨ts, hts⟩ : ∃ ts, dvT s v b h i = ts := ⟨_, rfl⟩
  have h0 : ts[0]? = some (idT s) := by rw [← hts]; unfold dvT; simp
  have hf := dv_flat s hv b h i
  have h1 : fndV ts 12 12 0 = ts.length := by
    rw [fndV_plain ts 12 12 ts.length (Nat.le_refl _) 0 (Nat.zero_le _) (fun m hm _ _ => by
      have := hf ts[m] (by rw [hts]; exact List.getElem_mem hm)
      exact ⟨this.1, this.2, this.2⟩)]
    exact fndV_end ts 12 12
  have h2 := one_dv s hv b h i
  rw [hts] at h2 ⊢
  rw [decV_at h0, if_neg (by show ¬ ((1 : Int) = 9 ∨ (1 : Int) = 12); decide), if_neg (by show ¬ (1 : Int) = 2; decide), h1, List.take_length, List.drop_zero, h2, decV_end]
  rfl
end Go.Proofs.Ytknpdkfjmhpbpaa
