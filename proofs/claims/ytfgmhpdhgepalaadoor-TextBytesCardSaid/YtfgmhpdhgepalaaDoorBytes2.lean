/- TextBytes: plain; bytes to a string. -/
import Derived.Test.YtfgmhpdhgepalaaDoorPut
import Derived.Laws.IdiomStrings
import Derived.Laws.BytesArg
namespace Go.Proofs.YtfgmhpdhgepalaaDoor
open Go.RowKit Go.Shelf Go.Maps Go.ChangeShapes Go.WideShapes Go.ChangeAt Go.WideMaps Go.WideElems

/-- The number that comes back. -/
def fixN (z : Int) : Nat := if rightB z = true then z.toNat else 65533
theorem dec_any (z : Int) (b : List Nat) : dec (enc z ++ b) = (fixN z, (enc z).length) := by
  unfold fixN
  by_cases hz : rightB z = true
  · have h2 := of_decide_eq_true (show decide _ = true from hz)
    obtain ⟨c, rfl⟩ := Int.eq_ofNat_of_zero_le h2.1
    rw [if_pos hz, Int.toNat_natCast]
    exact dec_enc ⟨by omega, by omega⟩ b
  · have e : enc z = enc ((65533 : Nat) : Int) := by rw [enc_wrong (by simpa using hz), enc3 (by omega)]
    rw [if_neg hz, e]
    exact dec_enc ⟨by omega, by omega⟩ b
theorem pts_encs_any : ∀ (l : List Int), pts (encs l) = l.map fixN
  | [] => rfl
  | z :: r => by
    have e : encs (z :: r) = enc z ++ encs r := by simp [encs]
    have hl := (enc_len z).1
    rw [e, pts_cons (fun e => by have := congrArg List.length e; rw [List.length_append] at this; simp only [List.length_nil] at this; omega), dec_any, List.drop_left, pts_encs_any r, List.map_cons]
theorem conv_any {w : World} {B sc : Nat} {sp : Option Addr} {bs : List Nat} (h : OwnsWin w B 5 1 (.slice sp bs.length sc) bs.length (bR bs)) (hb : ∀ x ∈ bs, x < 256) :
    (convert 22 9 (.slice sp bs.length sc)).run Tryd.prog w = .ok (.string (baOf bs)) w := by
  have hr := RdB.win h
  rcases h.2 with ⟨hv, h0⟩ | ⟨g, off, cap, cur, hv, -⟩
  · obtain rfl := List.eq_nil_of_length_eq_zero h0
    simp only [List.length_nil, Value.slice.injEq, true_and] at hv
    obtain ⟨rfl, rfl⟩ := hv
    exact run_convert_bytes_nil (P := Tryd.prog) w 22 5 Tryd.underlying22 Tryd.underlying5 0 0 9 Tryd.underlying9
  · cases hv
    have := run_convert_bytes_back (P := Tryd.prog) w 22 9 5 ⟨g, off, none⟩ sc (bs.map UInt8.ofNat) Tryd.underlying22 Tryd.underlying5 Tryd.underlying9 (fun j hj => by
      have hj' : j < bs.length := by simpa using hj
      obtain ⟨g', off', e, hc⟩ := hr j bs[j] (List.getElem?_eq_getElem hj')
      cases e
      rw [addOf _ _ rfl, hc]
      have := hb _ (List.getElem_mem hj')
      simp only [List.getElem_map, UInt8.toNat_ofNat', Option.some.injEq, Value.int.injEq, true_and]
      omega)
    rw [List.length_map] at this
    exact this
end Go.Proofs.YtfgmhpdhgepalaaDoor
