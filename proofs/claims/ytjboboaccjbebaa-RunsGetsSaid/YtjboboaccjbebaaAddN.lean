/- Layer 1: Add of numbers that are held and not below 0, and the reference's. -/
import Derived.Test.YtjboboaccjbebaaNum
namespace Go.Proofs.Ytjboboaccjbebaa
open Go.RowKit

/-- Both together, held. -/
def addN (a b : Nat) : Nat := if 4611686018427387904 < a + b then 4611686018427387904 else a + b
theorem addN_le (a b : Nat) : addN a b ≤ 4611686018427387904 := by unfold addN; split <;> omega

theorem hold_id (x : Int) (h : 0 ≤ x) (h' : x ≤ 4611686018427387904) (w : World) : Calls Try.prog 105 #[.int .i64 x] w fun e w' => e = .returned (.int .i64 x) ∧ w = w' := by
  have := hold_any x w
  rwa [holdI_id x (by omega) h'] at this
theorem refhold_id (x : Int) (h : 0 ≤ x) (h' : x ≤ 4611686018427387904) (w : World) : Calls Try.prog 106 #[.int .i64 x] w fun e w' => e = .returned (.int .i64 x) ∧ w = w' := by
  have := refhold_any x w
  rwa [holdI_id x (by omega) h'] at this

end Go.Proofs.Ytjboboaccjbebaa
