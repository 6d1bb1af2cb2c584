/- Two caches and the reference between two calls of LruPlays. -/
import Derived.Test.YtimildmpkamomaaRKeys
namespace Go.Proofs.Ytimildmpkamomaa
open Go.RowKit Go.Maps Go.ChangeShapes Go.WideShapes Go.ChangeAt Go.WideMaps Go.WideElems

theorem hit_iff {E : List Ent} (h : UniqK E) (k v : Int) : hitV E k = some v ↔ (k, v) ∈ E := by
  constructor
  · intro hh
    obtain ⟨i, hi, h1, h2, _⟩ := hit_idx hh
    have : E[i] = (k, v) := Prod.ext h1 h2
    rw [← this]
    exact List.getElem_mem hi
  · intro hm
    cases hh : hitV E k with
    | none => exact absurd (List.mem_map_of_mem (f := (·.1)) hm) (hit_none_mem hh)
    | some v2 =>
      obtain ⟨i, hi, h1, h2, _⟩ := hit_idx hh
      obtain ⟨j, hj, he⟩ := List.getElem_of_mem hm
      have hij : i = j := by
        unfold UniqK at h
        have hn := List.pairwise_iff_getElem.1 h
        rcases Nat.lt_trichotomy i j with hlt | rfl | hlt
        · refine absurd ?_ (hn i j (by simpa using hi) (by simpa using hj) hlt)
          rw [List.getElem_map, List.getElem_map, he, h1]
        · rfl
        · refine absurd ?_ (hn j i (by simpa using hj) (by simpa using hi) hlt)
          rw [List.getElem_map, List.getElem_map, he, h1]
      subst hij
      rw [he] at h2
      rw [← h2]
theorem hit_rev {E : List Ent} (h : UniqK E) (k : Int) : hitV E.reverse k = hitV E k := by
  cases hh : hitV E k with
  | some v => exact (hit_iff h.reverse k v).2 (List.mem_reverse.2 ((hit_iff h k v).1 hh))
  | none =>
    cases h2 : hitV E.reverse k with
    | none => rfl
    | some v => rw [(hit_iff h k v).2 (List.mem_reverse.1 ((hit_iff h.reverse k v).1 h2))] at hh; cases hh

/-- What a Put tells. -/
def PutV (size : Int) (E : List Ent) (k v : Int) : Array Value := if ((rm E k ++ [(k, v)]).length : Int) ≤ size then #[.int .i64 0, .bool false] else #[.int .i64 (((rm E k ++ [(k, v)])[0]?.map (·.1)).getD 0), .bool true]
theorem put_rev {E : List Ent} (h : UniqK E) (k v : Int) : (k, v) :: rm E.reverse k = (rm E k ++ [(k, v)]).reverse := by
  rw [rm_reverse h, List.reverse_append]
  rfl
theorem RPut_rev {E : List Ent} (b : Nat) (S : Nat → Prop) (size : Int) (k v : Int) (w : World) (hu : UniqK E) (h : IsCa 47 52 w b S size E.reverse) (hn : E.length ≤ 1400) :
    Calls Try.prog 10 #[.pointer (some ⟨b, 0, none⟩), .int .i64 k, .int .i64 v] w fun e w' => e = .returned (.tuple (PutV size E k v)) ∧ Fr S w w' ∧ IsCa 47 52 w' b (Gr S w w') size (PutE size E k v).reverse := by
  refine (RPut_any b S size E.reverse k v w h (by simpa using hn) _ rfl).mono ?_
  rw [put_rev hu]
  unfold PutV PutE
  obtain ⟨p, r, hpr⟩ : ∃ p r, rm E k ++ [(k, v)] = p :: r := by
    cases hE : rm E k ++ [(k, v)] with
    | nil => simp at hE
    | cons p r => exact ⟨p, r, rfl⟩
  rw [hpr]
  have hl : (p :: r).reverse.length = (p :: r).length := List.length_reverse
  rw [hl]
  rintro e w' ⟨h1, h2, h3⟩
  by_cases hle : ((p :: r).length : Int) ≤ size
  · rw [if_pos hle] at h1 h3 ⊢
    rw [if_pos hle]
    exact ⟨h1, h2, h3⟩
  · rw [if_neg hle] at h1 h3 ⊢
    rw [if_neg hle]
    have e1 : (p :: r).reverse[(p :: r).length - 1]? = some p := by
      rw [List.reverse_cons, List.getElem?_append_right (by simp)]
      simp
    have e2 : (p :: r).reverse.take ((p :: r).length - 1) = ((p :: r).drop 1).reverse := by
      rw [List.reverse_cons, List.take_append_of_le_length (by simp), List.take_of_length_le (by simp)]
      rfl
    rw [e1] at h1
    rw [e2] at h3
    exact ⟨h1, h2, h3⟩

/-- Two caches and the reference; other blocks that stay. -/
structure TT (w w' : World) (bc bo br : Nat) (size : Int) (E L : List Ent) (gs : List (Nat × Obj)) : Prop where
  body : ∃ (Sc So Sr : Nat → Prop) (Eo : List Ent), IsCa 44 50 w' bc Sc size E ∧ IsCa 44 50 w' bo So 3 Eo ∧ IsCa 47 52 w' br Sr size L ∧
    (∀ j, Sc j → ¬ So j) ∧ (∀ j, Sc j → ¬ Sr j) ∧ (∀ j, So j → ¬ Sr j) ∧ (∀ j, Sc j → w.heap.size ≤ j) ∧ (∀ j, So j → w.heap.size ≤ j) ∧ (∀ j, Sr j → w.heap.size ≤ j) ∧
    Eo.length ≤ 3 ∧ (∀ p ∈ gs, w'.heap[p.1]? = some p.2 ∧ ¬ Sc p.1 ∧ ¬ So p.1 ∧ ¬ Sr p.1)
  below : Below w.heap.size w w'

section
variable {w w' : World} {bc bo br : Nat} {size : Int} {E L : List Ent} {gs : List (Nat × Obj)}

theorem TT.fr0 (h : TT w w' bc bo br size E L gs) {w2 : World} (f : Fr (fun _ => False) w' w2) : TT w w2 bc bo br size E L gs := by
  obtain ⟨⟨Sc, So, Sr, Eo, hc, ho, hr, d1, d2, d3, g1, g2, g3, hl, hg⟩, hb⟩ := h
  exact ⟨⟨Sc, So, Sr, Eo, hc.fr f (by simp), ho.fr f (by simp), hr.fr f (by simp), d1, d2, d3, g1, g2, g3, hl, fun p hp => ⟨f.heap (hg p hp).1 (by simp), (hg p hp).2⟩⟩, hb.trans (f.below hb.size (by simp))⟩
theorem TT.alloc (h : TT w w' bc bo br size E L gs) (o : Obj) : TT w (w'.alloc o) bc bo br size E L ((w'.heap.size, o) :: gs) := by
  have f : Fr (fun _ => False) w' (w'.alloc o) := (Fr.refl _ _).alloc o
  obtain ⟨⟨Sc, So, Sr, Eo, hc, ho, hr, d1, d2, d3, g1, g2, g3, hl, hg⟩, hb⟩ := h
  refine ⟨⟨Sc, So, Sr, Eo, hc.fr f (by simp), ho.fr f (by simp), hr.fr f (by simp), d1, d2, d3, g1, g2, g3, hl, fun p hp => ?_⟩, hb.alloc hb.size o⟩
  rcases List.mem_cons.1 hp with rfl | hp
  · exact ⟨heapNew w' o, fun e => by have := hc.lt _ e; simp at this, fun e => by have := ho.lt _ e; simp at this, fun e => by have := hr.lt _ e; simp at this⟩
  · obtain ⟨q1, q2⟩ := hg p hp
    exact ⟨heapAlloc q1, q2⟩
theorem TT.guest (h : TT w w' bc bo br size E L gs) {p : Nat × Obj} (hp : p ∈ gs) : w'.heap[p.1]? = some p.2 := by
  obtain ⟨⟨Sc, So, Sr, Eo, hc, ho, hr, d1, d2, d3, g1, g2, g3, hl, hg⟩, _⟩ := h
  exact (hg p hp).1
theorem TT.less {gs' : List (Nat × Obj)} (h : TT w w' bc bo br size E L gs) (hsub : ∀ p ∈ gs', p ∈ gs) : TT w w' bc bo br size E L gs' := by
  obtain ⟨⟨Sc, So, Sr, Eo, hc, ho, hr, d1, d2, d3, g1, g2, g3, hl, hg⟩, hb⟩ := h
  exact ⟨⟨Sc, So, Sr, Eo, hc, ho, hr, d1, d2, d3, g1, g2, g3, hl, fun p hp => hg p (hsub p hp)⟩, hb⟩

/-- the other cache's Put -/
theorem TT.oPut (h : TT w w' bc bo br size E L gs) (k v : Int) :
    Calls Try.prog 9 #[.pointer (some ⟨bo, 0, none⟩), .int .i64 k, .int .i64 v] w' fun e w2 => (∃ rv, e = .returned rv) ∧ TT w w2 bc bo br size E L gs := by
  obtain ⟨⟨Sc, So, Sr, Eo, hc, ho, hr, d1, d2, d3, g1, g2, g3, hl, hg⟩, hb⟩ := h
  refine (Put_any bo So 3 Eo k v w' ho (by omega)).mono ?_
  rintro e w2 ⟨rfl, f, g⟩
  have hl2 := PutE_len (size := 3) (E := Eo) k v (by omega) (by omega)
  refine ⟨⟨_, rfl⟩, ⟨Sc, Gr So w' w2, Sr, _, hc.fr f d1, g, hr.fr f (fun j hj hk => d3 j hk hj), fun j hj hk => Gr.disj (fun k a b => d1 k b a) hc.lt j hk hj, d2, fun j hj hk => Gr.disj d3 hr.lt j hj hk, g1, Gr.ge g2 hb.size, g3, by unfold PutE at hl2; omega, fun p hp => ?_⟩, hb.trans (f.below hb.size (fun k hk e => by have := g2 k e; omega))⟩
  obtain ⟨q1, q2, q3, q4⟩ := hg p hp
  exact ⟨f.heap q1 q3, q2, Gr.not q3 (ltOf q1), q4⟩

theorem TT.cStep (h : TT w w' bc bo br size E L gs) {E2 : List Ent} {f : FuncId} {args : Array Value} {v : Value}
    (hc : ∀ S, IsCa 44 50 w' bc S size E → Calls Try.prog f args w' fun e w2 => e = .returned v ∧ Fr S w' w2 ∧ IsCa 44 50 w2 bc (Gr S w' w2) size E2) :
    Calls Try.prog f args w' fun e w2 => e = .returned v ∧ TT w w2 bc bo br size E2 L gs := by
  obtain ⟨⟨Sc, So, Sr, Eo, h1, ho, hr, d1, d2, d3, g1, g2, g3, hl, hg⟩, hb⟩ := h
  refine (hc Sc h1).mono ?_
  rintro e w2 ⟨rfl, f, g⟩
  refine ⟨rfl, ⟨Gr Sc w' w2, So, Sr, Eo, g, ho.fr f (fun j hj hk => d1 j hk hj), hr.fr f (fun j hj hk => d2 j hk hj), fun j hj hk => Gr.disj d1 ho.lt j hj hk, fun j hj hk => Gr.disj d2 hr.lt j hj hk, d3, Gr.ge g1 hb.size, g2, g3, hl, fun p hp => ?_⟩, hb.trans (f.below hb.size (fun k hk e => by have := g1 k e; omega))⟩
  obtain ⟨q1, q2, q3, q4⟩ := hg p hp
  exact ⟨f.heap q1 q2, Gr.not q2 (ltOf q1), q3, q4⟩
theorem TT.rStep (h : TT w w' bc bo br size E L gs) {L2 : List Ent} {f : FuncId} {args : Array Value} {v : Value}
    (hc : ∀ S, IsCa 47 52 w' br S size L → Calls Try.prog f args w' fun e w2 => e = .returned v ∧ Fr S w' w2 ∧ IsCa 47 52 w2 br (Gr S w' w2) size L2) :
    Calls Try.prog f args w' fun e w2 => e = .returned v ∧ TT w w2 bc bo br size E L2 gs := by
  obtain ⟨⟨Sc, So, Sr, Eo, h1, ho, hr, d1, d2, d3, g1, g2, g3, hl, hg⟩, hb⟩ := h
  refine (hc Sr hr).mono ?_
  rintro e w2 ⟨rfl, f, g⟩
  refine ⟨rfl, ⟨Sc, So, Gr Sr w' w2, Eo, h1.fr f d2, ho.fr f d3, g, d1, fun j hj hk => Gr.disj (fun k a b => d2 k b a) h1.lt j hk hj, fun j hj hk => Gr.disj (fun k a b => d3 k b a) ho.lt j hk hj, g1, g2, Gr.ge g3 hb.size, hl, fun p hp => ?_⟩, hb.trans (f.below hb.size (fun k hk e => by have := g3 k e; omega))⟩
  obtain ⟨q1, q2, q3, q4⟩ := hg p hp
  exact ⟨f.heap q1 q4, q2, q3, Gr.not q4 (ltOf q1)⟩
end

theorem TT.new (w w1 : World) (h : Below w.heap.size w w1) (n : Int) :
    TT w (((w1.alloc (.cells #[.int .i64 n, .slice none 0 0] 44)).alloc (.cells #[.int .i64 3, .slice none 0 0] 44)).alloc (.cells #[.int .i64 n, .slice none 0 0] 47)) w1.heap.size (w1.heap.size + 1) (w1.heap.size + 1 + 1) n [] [] [] := by
  have k1 := IsCa.new 44 50 w1 n
  have k2 := IsCa.new 44 50 (w1.alloc (.cells #[.int .i64 n, .slice none 0 0] 44)) 3
  have k3 := IsCa.new 47 52 ((w1.alloc (.cells #[.int .i64 n, .slice none 0 0] 44)).alloc (.cells #[.int .i64 3, .slice none 0 0] 44)) n
  rw [World.size_alloc] at k2
  rw [World.size_alloc, World.size_alloc] at k3
  have hs := h.size
  refine ⟨⟨_, _, _, [], (k1.fr ((Fr.refl (fun _ => False) _).alloc _) (by simp)).fr ((Fr.refl (fun _ => False) _).alloc _) (by simp), k2.fr ((Fr.refl (fun _ => False) _).alloc _) (by simp), k3, ?_, ?_, ?_, ?_, ?_, ?_, by simp, by simp⟩, ((h.alloc hs _).alloc (by simp; omega) _).alloc (by simp; omega) _⟩
  · intro j a b; omega
  · intro j a b; omega
  · intro j a b; omega
  · intro j a; omega
  · intro j a; omega
  · intro j a; omega
end Go.Proofs.Ytimildmpkamomaa
