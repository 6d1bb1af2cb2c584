/- The zero values of the two filters. -/
import Derived.Test.YtfhojfndccelfaaRef
namespace Go.Proofs.Ytfhojfndccelfaa
open Go.RowKit

def zc : Nat → Int := fun _ => 0

theorem tab_zero (q : IntKind) : tab q zc = (List.replicate 1024 (Value.int q 0)).toArray := by
  apply Array.ext_getElem?
  intro i
  unfold tab zc
  rw [Array.getElem?_ofFn]
  rw [List.getElem?_toArray, List.getElem?_replicate]
  split <;> simp_all

theorem zero26' (w : World) : (zeroValue 26).run Try.prog w = .ok (.agg (List.replicate 1024 (Value.int .u8 0)).toArray) w := by kernel_rfl
theorem zero30' (w : World) : (zeroValue 30).run Try.prog w = .ok (.agg (List.replicate 1024 (Value.int .i64 0)).toArray) w := by kernel_rfl
theorem zero26 (w : World) : (zeroValue 26).run Try.prog w = .ok (.agg (tab .u8 zc)) w := by rw [tab_zero]; exact zero26' w
theorem zero30 (w : World) : (zeroValue 30).run Try.prog w = .ok (.agg (tab .i64 zc)) w := by rw [tab_zero]; exact zero30' w
end Go.Proofs.Ytfhojfndccelfaa
