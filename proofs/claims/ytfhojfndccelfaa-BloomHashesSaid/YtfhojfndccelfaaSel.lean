/- Selectors in memory: what the walks read of them. No condition. -/
import Derived.Test.YtfhojfndccelfaaHOf
import Derived.Test.YtfhojfndccelfaaRows2
namespace Go.Proofs.Ytfhojfndccelfaa
open Go.RowKit Go.Maps Go.ChangeShapes Go.WideShapes Go.ChangeAt Go.WideMaps Go.WideElems

/-- A part of a selector, as far as the laws here look at it. -/
structure Prt where
  comb : Int
  tag : ByteArray
  ids : List ByteArray
  cls : List ByteArray

def PrtR (w : World) (cs : List Value) (x : Prt) : Prop :=
  ∃ (pi pc pa pp : Option Addr) (ci cc na ca np cp : Nat), cs = [.int .i64 x.comb, .string x.tag, .slice pi x.ids.length ci, .slice pc x.cls.length cc, .slice pa na ca, .slice pp np cp] ∧
    StrO (fun _ => False) w (.slice pi x.ids.length ci) x.ids ∧ StrO (fun _ => False) w (.slice pc x.cls.length cc) x.cls ∧ x.tag.size ≤ maxLen
theorem PrtR.fr {w w' : World} {cs : List Value} {x : Prt} (h : PrtR w cs x) (f : Fr (fun _ => False) w w') : PrtR w' cs x := by
  obtain ⟨pi, pc, pa, pp, ci, cc, na, ca, np, cp, e, h1, h2, h3⟩ := h
  exact ⟨pi, pc, pa, pp, ci, cc, na, ca, np, cp, e, h1.step f (fun _ e => e.elim), h2.step f (fun _ e => e.elim), h3⟩

def IsParts (w : World) (v : Value) (ps : List Prt) : Prop := RowR 6 PrtR w v ps
theorem IsParts.fr {w w' : World} {v : Value} {ps : List Prt} (h : IsParts w v ps) (f : Fr (fun _ => False) w w') : IsParts w' v ps :=
  RowR.below h (f.below (Nat.le_refl _) (by simp)) (fun _ _ h => h.fr f)

def hsP (p : Prt) : List Nat := hsL p.tag p.ids p.cls
/-- What a selector wants, from part j on downwards. -/
def wG (ps : List Prt) : Nat → List Nat
  | 0 => []
  | j + 1 => match ps[j + 1]?, ps[j]? with
    | some p, some q => if p.comb = 1 ∨ p.comb = 2 then hsP q ++ wG ps j else []
    | _, _ => []
def wA (ps : List Prt) : List Nat := wG ps (ps.length - 1)

/-- Nothing is too great. -/
def PrtOk (ps : List Prt) : Prop := ps.length ≤ 60 ∧ ∀ p ∈ ps, p.ids.length ≤ 5 ∧ p.cls.length ≤ 5
theorem hsP_len {ps : List Prt} (h : PrtOk ps) {p : Prt} (hp : p ∈ ps) : (hsP p).length ≤ 11 := by
  have h1 := hsL_len p.tag p.ids p.cls
  have h2 := h.2 p hp
  unfold hsP
  omega

/-- One part, cell by cell. -/
theorem part_at {w : World} {p : Option Addr} {n c : Nat} {ps : List Prt} (h : IsParts w (.slice p n c) ps) {j : Nat} {x : Prt} (hx : ps[j]? = some x) :
    ∃ g off pi pc pa pp ci cc na ca np cp, p = some ⟨g, off, none⟩ ∧ n = ps.length ∧ g < w.heap.size ∧ w.cell? ⟨g, off + j * 6, none⟩ = some (.int .i64 x.comb) ∧ w.cell? ⟨g, off + j * 6 + 1, none⟩ = some (.string x.tag) ∧
      w.cell? ⟨g, off + j * 6 + 1 + 1, none⟩ = some (.slice pi x.ids.length ci) ∧ w.cell? ⟨g, off + j * 6 + 1 + 2, none⟩ = some (.slice pc x.cls.length cc) ∧ w.cell? ⟨g, off + j * 6 + 1 + 3, none⟩ = some (.slice pa na ca) ∧ w.cell? ⟨g, off + j * 6 + 1 + 4, none⟩ = some (.slice pp np cp) ∧
      StrO (fun _ => False) w (.slice pi x.ids.length ci) x.ids ∧ StrO (fun _ => False) w (.slice pc x.cls.length cc) x.cls ∧ x.tag.size ≤ maxLen := by
  obtain ⟨p', c', e, _, _, h3⟩ := h
  cases e
  obtain ⟨g, off, cs, rfl, hg, hl, hc, pi, pc, pa, pp, ci, cc, na, ca, np, cp, rfl, r1, r2, r3⟩ := h3 j x hx
  exact ⟨g, off, pi, pc, pa, pp, ci, cc, na, ca, np, cp, rfl, rfl, hg, hc 0 (by omega), hc 1 (by omega), hc 2 (by omega), hc 3 (by omega), hc 4 (by omega), hc 5 (by omega), r1, r2, r3⟩

/-- The marks that ranges over functions leave. -/
def Mk (Ds : List Nat) : List Deferred := Ds.map fun D => { target := .collected D, args := #[] }
/-- They are shut one by one. -/
theorem leaves_marks {F : Fence} {n : Nat} {P : Program} {fn : Func} {tmps : Array Value} {R : Ending → World → Prop} : ∀ (Ds : List Nat) (W : World), Ds.Nodup → (∀ D ∈ Ds, W.heap[D]? = some (.deferred (some []))) →
    (∀ W', Fr (fun k => k ∈ Ds) W W' → LeavesInM F n P fn tmps R [] .returning W') → LeavesInM F n P fn tmps R (Mk Ds) .returning W
  | [], W, _, _, h => h W (Fr.refl _ _)
  | D :: Ds, W, hn, hk, h => by
    have hn' := List.nodup_cons.1 hn
    have fK : Fr (fun k => k = D) W (W.putObj D (.deferred none)) := (Fr.refl (fun k => k = D) W).putObj (.inl rfl) _
    refine ⟨by simp, .inl ⟨D, _, rfl, run_takeDeferred (hk D List.mem_cons_self), ?_⟩⟩
    refine leaves_marks Ds _ hn'.2 (fun E hE => fK.heap (hk E (List.mem_cons_of_mem _ hE)) (fun e => hn'.1 (e ▸ hE))) (fun W' f => h W' ?_)
    exact (fK.mono (fun k _ e => e ▸ List.mem_cons_self)).trans (f.mono (fun k _ e => List.mem_cons_of_mem _ e))
end Go.Proofs.Ytfhojfndccelfaa
