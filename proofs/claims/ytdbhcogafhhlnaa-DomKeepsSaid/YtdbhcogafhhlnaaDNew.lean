/- dom.New: nodes become a tree, or an error. -/
import Derived.Test.YtdbhcogafhhlnaaDPutK
import Derived.BigQuiet
import Derived.Deep.QuietTactic
import Derived.Deep.Cut
import Derived.Deep.CutRange
namespace Go.Proofs.Ytdbhcogafhhlnaa
open Go.RowKit Go.Maps Go.ChangeShapes Go.WideShapes Go.ChangeAt Go.WideMaps Go.WideElems

def kidE (els : List ElD) (p : Nat) (x : ElD) : List ElD := els.set p { x with kids := x.kids ++ [(els.length : Int)] }
def newE (d : NodeD) (x : ElD) : ElD := ⟨d, [], x.dep + 1, (x.kids.length : Int) + 1, x.kids.getLastD (-1)⟩
def stepP (els : List ElD) (d : NodeD) : Int ⊕ List ElD :=
  if badP els.length d.par then .inl 10
  else match els[d.par.toNat]? with
    | none => .inr [⟨d, [], 0, 1, -1⟩]
    | some x => if 256 < x.dep + 1 then .inl 11 else .inr (kidE els d.par.toNat x ++ [newE d x])
def runP (els : List ElD) : List NodeD → Int ⊕ List ElD
  | [] => .inr els
  | d :: r => match stepP els d with
    | .inl n => .inl n
    | .inr els' => runP els' r
def newR (ds : List NodeD) : Int ⊕ List ElD := if 4096 < ds.length then .inl 3 else runP [] ds

def InvE (els : List ElD) : Prop := ∀ x ∈ els, 0 ≤ x.dep ∧ x.dep ≤ 256 ∧ x.kids.length ≤ els.length

theorem stepP_inv {els els' : List ElD} {d : NodeD} (h : InvE els) (hs : stepP els d = .inr els') : InvE els' ∧ els'.length = els.length + 1 := by
  unfold stepP at hs
  split at hs
  · cases hs
  rename_i hb
  split at hs
  · rename_i hx
    cases hs
    have h0 : els.length = 0 := by
      unfold badP at hb
      have := List.getElem?_eq_none_iff.1 hx
      omega
    refine ⟨fun x hx => ?_, by simp [h0]⟩
    simp at hx
    subst hx
    simp
  · rename_i x hx
    split at hs
    · cases hs
    rename_i hd
    cases hs
    have hl : (kidE els d.par.toNat x ++ [newE d x]).length = els.length + 1 := by simp [kidE]
    obtain ⟨h1, h2, h3⟩ := h x (List.mem_of_getElem? hx)
    refine ⟨fun y hy => ?_, hl⟩
    rw [hl]
    rcases List.mem_append.1 hy with hy | hy
    · rcases List.mem_or_eq_of_mem_set hy with hy | hy
      · have := h y hy; omega
      · subst hy; simp; omega
    · simp at hy
      subst hy
      simp [newE]
      omega

theorem stepP_ne {els : List ElD} {d : NodeD} {n : Int} (hs : stepP els d = .inl n) : n = 10 ∨ n = 11 := by
  unfold stepP at hs
  split at hs
  · cases hs; exact .inl rfl
  · split at hs
    · cases hs
    · split at hs
      · cases hs; exact .inr rfl
      · cases hs

def PutP (w : World) (tb : Nat) (els : List ElD) (d : NodeD) (e : Ending) (w' : World) : Prop :=
  ∃ n, e = .returned (.int .i64 n) ∧ ((stepP els d = .inl n ∧ (n != 0) = true ∧ Fr (fun _ => False) w w') ∨ (n = 0 ∧ ∃ els', stepP els d = .inr els' ∧ TS w w' tb els' ∧ InvE els' ∧ els'.length = els.length + 1))

theorem put_any (w wr : World) (tb : Nat) (els : List ElD) (d : NodeD) (sp : Option Addr) (c : Nat) (q : Option Addr) (o : Nat) (h : TS w wr tb els) (hd : RdNd wr d sp q) (hi : InvE els) (hn : els.length ≤ 4096) :
    Calls Try.prog 33 #[.pointer (some ⟨tb, 0, none⟩), .agg #[.int .i64 d.par, .string d.tag, .string d.id, .slice sp d.cls.length c, .slice q d.att.length o]] wr (PutP w tb els d) := by
  by_cases hb : badP els.length d.par
  · refine (put_bad w wr tb els d sp c q o h hd hn hb).mono ?_
    rintro e w' ⟨rfl, h'⟩
    exact ⟨10, rfl, .inl ⟨by unfold stepP; rw [if_pos hb], rfl, h'.fr⟩⟩
  · cases hx : els[d.par.toNat]? with
    | none =>
      have h1 := List.getElem?_eq_none_iff.1 hx
      have h2 : els.length = 0 ∧ d.par = -1 := by unfold badP at hb; omega
      have h0 := List.eq_nil_of_length_eq_zero h2.1
      refine (put_root w wr tb els d sp c q o h hd hn h0 h2.2).mono ?_
      rintro e w' ⟨rfl, h'⟩
      have hs : stepP els d = .inr [⟨d, [], 0, 1, -1⟩] := by unfold stepP; rw [if_neg hb]; simp only [hx]
      exact ⟨0, rfl, .inr ⟨rfl, _, hs, h', stepP_inv hi hs⟩⟩
    | some x =>
      have h1 := (List.getElem?_eq_some_iff.1 hx).1
      obtain ⟨i1, i2, i3⟩ := hi x (List.mem_of_getElem? hx)
      have hp : d.par = (d.par.toNat : Int) := by unfold badP at hb; omega
      by_cases hdeep : 256 < x.dep + 1
      · refine (put_deep w wr tb els d sp c q o h hd _ rfl hn d.par.toNat x hx hp _ rfl i1 i2 _ rfl hdeep).mono ?_
        rintro e w' ⟨rfl, h'⟩
        exact ⟨11, rfl, .inl ⟨by unfold stepP; rw [if_neg hb]; simp only [hx]; rw [if_pos hdeep], rfl, h'⟩⟩
      · refine (put_kid w wr tb els d sp c q o h hd _ rfl hn d.par.toNat x hx hp _ rfl i1 i2 _ rfl (by omega) (by omega) _ rfl).mono ?_
        rintro e w' ⟨rfl, h'⟩
        have hs : stepP els d = .inr (kidE els d.par.toNat x ++ [newE d x]) := by unfold stepP; rw [if_neg hb]; simp only [hx]; rw [if_neg hdeep]
        exact ⟨0, rfl, .inr ⟨rfl, _, hs, h', stepP_inv hi hs⟩⟩

/-- Nodes, as they are read, wherever they lie. -/
def RdNs (w : World) (p : Option Addr) (ds : List NodeD) : Prop :=
  ∀ (k : Nat) d, ds[k]? = some d → ∃ b off sp c q o, p = some ⟨b, off, none⟩ ∧ b < w.heap.size ∧ w.cell? ⟨b, off + k * 5, none⟩ = some (.int .i64 d.par) ∧ w.cell? ⟨b, off + k * 5 + 1, none⟩ = some (.string d.tag) ∧ w.cell? ⟨b, off + k * 5 + 2, none⟩ = some (.string d.id) ∧
    w.cell? ⟨b, off + k * 5 + 3, none⟩ = some (.slice sp d.cls.length c) ∧ w.cell? ⟨b, off + k * 5 + 4, none⟩ = some (.slice q d.att.length o) ∧ RdNd w d sp q
theorem cellFr0 {w w' : World} (f : Fr (fun _ => False) w w') {b k : Nat} {v : Value} (h : w.cell? ⟨b, k, none⟩ = some v) : w'.cell? ⟨b, k, none⟩ = some v := by
  have hlt : b < w.heap.size := by
    rcases Nat.lt_or_ge b w.heap.size with hh | hh
    · exact hh
    · simp [World.cell?, Array.getElem?_eq_none hh] at h
  exact (f.cell (p := ⟨b, k, none⟩) hlt (by simp)).trans h
theorem RdNs.fr {w w' : World} {p : Option Addr} {ds : List NodeD} (h : RdNs w p ds) (f : Fr (fun _ => False) w w') : RdNs w' p ds := fun k d hk => by
  obtain ⟨b, off, sp, c, q, o, e, hb, h0, h1, h2, h3, h4, h5⟩ := h k d hk
  exact ⟨b, off, sp, c, q, o, e, Nat.lt_of_lt_of_le hb f.size, cellFr0 f h0, cellFr0 f h1, cellFr0 f h2, cellFr0 f h3, cellFr0 f h4, h5.fr f⟩

def NewP (w : World) (ds : List NodeD) (e : Ending) (w' : World) : Prop :=
  Fr (fun _ => False) w w' ∧ ((∃ n, newR ds = .inl n ∧ e = .returned (.tuple #[.pointer none, .int .i64 n])) ∨ ∃ els tb, newR ds = .inr els ∧ e = .returned (.tuple #[.pointer (some ⟨tb, 0, none⟩), .int .i64 0]) ∧ TS w w' tb els ∧ els.length = ds.length ∧ InvE els)

theorem runP_skip {els els' : List ElD} {ds : List NodeD} {k : Nat} {d : NodeD} (hd : ds[k]? = some d) (hs : stepP els d = .inr els') : runP els (ds.drop k) = runP els' (ds.drop (k + 1)) := by
  have hk := (List.getElem?_eq_some_iff.1 hd)
  rw [List.drop_eq_getElem_cons hk.1, hk.2]
  simp only [runP, hs]
theorem runP_stop {els : List ElD} {ds : List NodeD} {k : Nat} {d : NodeD} {n : Int} (hd : ds[k]? = some d) (hs : stepP els d = .inl n) : runP els (ds.drop k) = .inl n := by
  have hk := (List.getElem?_eq_some_iff.1 hd)
  rw [List.drop_eq_getElem_cons hk.1, hk.2]
  simp only [runP, hs]

set_option maxHeartbeats 2000000 in
set_option maxRecDepth 100000 in
theorem New_any (ds : List NodeD) (p : Option Addr) (c : Nat) (w : World) (h : RdNs w p ds) (_hlc : ds.length ≤ c) (hcm : c ≤ maxLen) :
    Calls Try.prog 11 #[.slice p ds.length c] w (NewP w ds) := by
  have H := Lib.hid h
  have hcm' := hcm
  unfold maxLen at hcm'
  clear h
  by_cases hlong : 4096 < ds.length
  · have d1 : decide ((4096 : Int) < (ds.length : Int)) = true := by simp; omega
    have HE := Lib.hid (show newR ds = .inl 3 by unfold newR; rw [if_pos hlong])
    go_enter Try.func11, Try.ntmps11
    go_wp2_with fail
    go_ret2
    exact ⟨Fr.refl _ _, .inl ⟨3, HE.out, rfl⟩⟩
  have d1 : decide ((4096 : Int) < (ds.length : Int)) = false := by simp; omega
  have HE := Lib.hid (show newR ds = runP [] (ds.drop 0) by unfold newR; rw [if_neg hlong]; rfl)
  have T0 := Lib.hid (TS.new w)
  go_enter Try.func11, Try.ntmps11
  go_wp2_with fail
  go_loopw [15] (fun i wr => ∃ (k : Nat) (els : List ElD), k ≤ ds.length ∧ i = .int .i64 k ∧ Hid (els.length = k) ∧ Hid (TS w wr w.heap.size els) ∧ Hid (InvE els) ∧ Hid (newR ds = runP els (ds.drop k))) (fun i _ => ds.length - (intOf i).toNat)
  case atStart => exact ⟨0, [], Nat.zero_le _, rfl, rfl, T0.out, fun x hx => (by simp at hx), HE.out⟩
  case round =>
    obtain ⟨k, els, hk, rfl, hL, hT, hI, hF⟩ := hrel
    clear T0 HE
    obtain ⟨wo, rfl⟩ : ∃ wo : World, wo = wr := ⟨_, rfl⟩
    by_cases hlt : k < ds.length
    · obtain ⟨d, hd⟩ : ∃ d, ds[k]? = some d := ⟨ds[k], by simp [hlt]⟩
      obtain ⟨b, off, sp, cc, q, o, rfl, hb, x0, x1, x2, x3, x4, hr⟩ := H.out.fr hT.out.fr k d hd
      have HD := Lib.hid hd
      have hA := (Fr.refl (fun _ => False) wo).alloc (.cells #[.int .i64 d.par, .string d.tag, .string d.id, .slice sp d.cls.length cc, .slice q d.att.length o] 25)
      have PP := Lib.hid (put_any w _ w.heap.size els d sp cc q o (hT.out.fr0 hA) (hr.fr hA) hI.out (by rw [hL.out]; omega))
      clear hr hd hA
      have q1 : (k : Int) < (ds.length : Int) := by omega
      generalize hpar : d.par = par at *
      generalize htag : d.tag = tag at *
      generalize hid : d.id = id at *
      clear hpar htag hid
      go_wp2_with fail
      refine PP.out.mono ?_
      rintro e w7 ⟨n, rfl, hc⟩
      rcases hc with ⟨hs, hn0, hf⟩ | ⟨rfl, els', hs, hT', hI', hl'⟩
      · have HR := Lib.hid (show newR ds = .inl n by rw [hF.out]; exact runP_stop HD.out hs)
        have HFF := Lib.hid hf
        clear hs hf PP
        go_wp2_with fail
        go_ret2
        exact ⟨HFF.out, .inl ⟨n, HR.out, rfl⟩⟩
      · have HR := Lib.hid (show newR ds = runP els' (ds.drop (k + 1)) by rw [hF.out]; exact runP_skip HD.out hs)
        have HT := Lib.hid hT'
        have HI := Lib.hid hI'
        have HL := Lib.hid (hl'.trans (by rw [hL.out]))
        clear hs hT' hI' hl' PP
        go_wp2_with fail
        go_roundw
        case rel => exact ⟨k + 1, els', by omega, by go_num, HL.out, HT.out, HI.out, HR.out⟩
        case measure => simp [intOf]; omega
    · have hke : k = ds.length := by omega
      subst hke
      have HR := Lib.hid (show newR ds = .inr els by rw [hF.out, List.drop_length]; rfl)
      go_wp2_with fail
      go_ret2
      exact ⟨hT.out.fr, .inr ⟨els, _, HR.out, rfl, hT.out, hL.out, hI.out⟩⟩
end Go.Proofs.Ytdbhcogafhhlnaa
