/- A store's blocks, plain, and append as a step of a region that draws. -/
import Derived.Test.YtpjijcpbmljanaaRows
import Derived.Test.YtpjijcpbmljanaaBase
import Derived.BigQuiet
import Derived.Deep.QuietTactic
namespace Go.Proofs.Ytpjijcpbmljanaa
open Go.RowKit Go.Maps Go.ChangeShapes Go.WideShapes Go.ChangeAt Go.WideMaps Go.WideElems

theorem step_append_own {P : Program} {ops : Array Oper} {o : Oper} {a : Act} {w : World} {K : Act → World → Prop} {Q : Exit → Act → World → Prop} {E : Prop}
    (hgd : o.guard = none) (s x : Operand) (t : TypeId)
    (ho : o.op = .call { callee := .builtin .append, args := #[s, x], argTypes := #[t, t] })
    (base : Nat) (e : TypeId) (i : TypeInfo) (z : Value) (size bytes : Nat) (ht : P.underlying t = some (.slice e)) (hi : P.info? e = some i) (hz : i.zero = some z)
    (hsize : i.size = size) (hby : i.bytes = bytes) (hzs : z.cells.size = size) (hsz : 0 < size)
    (v : Value) (n : Nat) (xs : List Value) (hs : a.eval s = v) (hown : w.ownsRow base e size v n xs)
    (ad : Addr) (m c : Nat) (news : List Value) (hx : a.eval x = .slice (some ad) m c) (hl : news.length = m * size) (hnews : ∀ j u, news[j]? = some u → w.cell? (ad.add j) = some u) (h1 : ∀ u ∈ news, u.oneCell' = true)
    (h63 : n + m ≤ maxLen) (hbytes : (n + m) * bytes ≤ 140737488355328) (hbase : base ≤ w.heap.size)
    (h : ∀ sp sc w', w'.ownsRow base e size (.slice sp (n + m) sc) (n + m) (xs ++ news) → w.grownBy w' v.ownBlock → ((Value.slice sp (n + m) sc).ownBlock = v.ownBlock ∨ (Value.slice sp (n + m) sc).ownBlock = some w.heap.size) → K (a.put o.dst (.slice sp (n + m) sc)) w') :
    if Region.wanted o (yielded ops a.tmps) = true then Oper.wp P o a w K Q else E := by
  have hw : Region.wanted o (yielded ops a.tmps) = true := by simp [Region.wanted, hgd]
  rw [if_pos hw]
  obtain ⟨v', w', hr, h2, h3, h4, h5⟩ := run_append_own_at (P := P) w base t o.type e i z size bytes ht hi hz hsize hby hzs hsz v n xs hown ad m c news hl hnews h1 h63 hbytes hbase
  obtain ⟨sp, sc, rfl⟩ := ownsRow.shape h2
  unfold Oper.wp execOp
  simp only [ho, resolve, invoke, builtin, Sem.run_bind, Sem.run_pure, Result.andThen_ok, List.map_toArray, List.map_cons, List.map_nil, hs, hx, hr]
  exact h _ _ _ h2 h3 h5

theorem ownsRow_drew {w : World} {base e size : Nat} {v : Value} {n : Nat} {xs : List Value} (h : w.ownsRow base e size v n xs) : w.drew.ownsRow base e size v n xs := h

/-- A style's eight numbers as cells. -/
def stL (x : Nat → Int) : List Value := [.int .i64 (x 0), .int .i64 (x 1), .int .i64 (x 2), .int .i64 (x 3), .int .i64 (x 4), .int .i64 (x 5), .int .i64 (x 6), .int .i64 (x 7)]
def itemL (p : (Nat → Int) × Int) : List Value := stL p.1 ++ [.int .i64 p.2]
def flat (L : List ((Nat → Int) × Int)) : List Value := L.flatMap itemL

theorem itemL_len (p : (Nat → Int) × Int) : (itemL p).length = 9 := rfl
theorem flat_len (L : List ((Nat → Int) × Int)) : (flat L).length = L.length * 9 := by
  induction L with
  | nil => rfl
  | cons p r ih => simp only [flat, List.flatMap_cons, List.length_append] at *; rw [ih, itemL_len]; simp; omega

theorem flat_at (L : List ((Nat → Int) × Int)) (k j : Nat) (hk : k < L.length) (hj : j < 9) : (flat L)[k * 9 + j]? = (itemL L[k])[j]? := by
  induction L generalizing k with
  | nil => simp at hk
  | cons p r ih =>
    simp only [flat, List.flatMap_cons] at *
    cases k with
    | zero => rw [Nat.zero_mul, Nat.zero_add, List.getElem?_append_left (by rw [itemL_len]; omega)]; rfl
    | succ k =>
      rw [List.getElem?_append_right (by rw [itemL_len]; omega), itemL_len, show (k + 1) * 9 + j - 9 = k * 9 + j by omega]
      have := ih k (by simpa using hk)
      simpa using this

theorem flat_append (L : List ((Nat → Int) × Int)) (p : (Nat → Int) × Int) : flat (L ++ [p]) = flat L ++ itemL p := by simp [flat]

theorem flat_set (L : List ((Nat → Int) × Int)) (k : Nat) (hk : k < L.length) (n : Int) : (flat L).set (k * 9 + 8) (.int .i64 n) = flat (L.set k (L[k].1, n)) := by
  induction L generalizing k with
  | nil => simp at hk
  | cons p r ih =>
    simp only [flat, List.flatMap_cons] at *
    cases k with
    | zero => rw [Nat.zero_mul, Nat.zero_add, List.set_append_left _ _ (by rw [itemL_len]; omega)]; rfl
    | succ k =>
      rw [List.set_append_right _ _ (by rw [itemL_len]; omega), itemL_len, show (k + 1) * 9 + 8 - 9 = k * 9 + 8 by omega]
      have := ih k (by simpa using hk)
      simp only [List.set_cons_succ, List.flatMap_cons, List.getElem_cons_succ]
      rw [this]

end Go.Proofs.Ytpjijcpbmljanaa
