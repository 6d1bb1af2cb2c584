/- The worlds that come from one world by new memory alone, as a class for a region that draws its order: one walk of the text's order serves all orders, where every callee makes new memory alone. No condition. -/
import Derived.Test.YtknpdkfjmhpbpaaBase
import Derived.BigQuiet
namespace Go.Proofs.Ytknpdkfjmhpbpaa

/-- The worlds that come from w by new memory alone. -/
def FrW (w : World) : Type := {w' : World // Fr (fun _ => False) w w'}
def FrW.wd {w : World} (x : FrW w) : World := x.1
instance frW_some (w : World) : Nonempty (FrW w) := ⟨⟨w, Fr.refl _ w⟩⟩
theorem FrW.fr {w : World} (x : FrW w) : Fr (fun _ => False) w x.wd := x.2

theorem wp_region_fr {P : Program} {id : Nat} {Q : Exit → Act → World → Prop} {a : Act} {w : World} {l : List Oper} (hm : P.follows .mixedOrders = true) (hB : Region.lexB .any l.toArray = true)
    (h : wpQuiet P l.toArray (fun w' => ∃ n : FrW w, w' = n.wd) (fun a' => ∀ w', (∃ n : FrW w, w' = n.wd) → Q .normal a' w') l a) : (Code.region id l.toArray true).wp P Q a w :=
  wp_region_quiet (C := fun w' => ∃ n : FrW w, w' = n.wd) hm hB ⟨⟨_, (Fr.refl _ w).drew⟩, rfl⟩ (by simpa only [List.toList_toArray] using h)

theorem Calls.fr_of {P : Program} {f : FuncId} {args : Array Value} {w : World} {v : Value} (n : FrW w)
    (h : Calls P f args n.wd fun e w' => e = .returned v ∧ Fr (fun _ => False) n.wd w') : Calls P f args n.wd fun e w'' => e = .returned v ∧ ∃ m : FrW w, w'' = m.wd :=
  h.mono fun _ _ ⟨he, hf⟩ => ⟨he, ⟨⟨_, n.fr.trans hf⟩, rfl⟩⟩

/-- A cell of the first world, read in each of them. -/
theorem FrW.cell {w : World} {p : Addr} {v : Value} (h : w.cell? p = some v) : ∀ n : FrW w, n.wd.cell? p = some v := fun n =>
  (n.fr.cell (World.block_lt_of_cell? w p h) (by simp)).trans h
theorem FrW.same {P : Program} {f : FuncId} {args : Array Value} {w : World} {v : Value} (n : FrW w)
    (h : Calls P f args n.wd fun e w' => e = .returned v ∧ w' = n.wd) : Calls P f args n.wd fun e w'' => e = .returned v ∧ ∃ m : FrW w, w'' = m.wd :=
  h.mono fun _ _ ⟨he, hf⟩ => ⟨he, n, hf⟩
end Go.Proofs.Ytknpdkfjmhpbpaa
