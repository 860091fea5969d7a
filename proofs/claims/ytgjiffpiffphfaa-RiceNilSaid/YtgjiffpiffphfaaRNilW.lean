/- The walk of RiceNil. -/
import Derived.Test.YtgjiffpiffphfaaRiceGA
import Derived.Test.YtgjiffpiffphfaaKnown06
namespace Go.Proofs.Ytgjiffpiffphfaa
open Go.RowKit
namespace riceNil
set_option maxRecDepth 100000 in
set_option maxHeartbeats 1600000 in
theorem walk {l : Value} {xs : List Nat} {u : Nat} {n k : Int} {w : World} (hl : Sl w l (u64s xs)) :
    Calls Try.prog 13 #[.int .u64 (u : Int), l, .int .i64 n, .int .i64 k] w fun e w' => e = .returned (.bool true) ∧ Below w.heap.size w w' := by
  obtain ⟨A, c, rfl, _⟩ := u64s_form hl
  clear hl
  go_enter Try.func13, Try.ntmps13
  go_wp2_with fail
  with_reducible refine (rget_nil k _).mono ?_
  rintro e w1 ⟨rfl, rfl⟩
  go_wp2_with fail
  with_reducible refine (rgetall_nil n k _).mono ?_
  rintro e w1 ⟨rfl, rfl⟩
  go_wp2_with fail
  with_reducible refine (rput_nil _ k _).mono ?_
  rintro e w1 ⟨rfl, rfl⟩
  go_wp2_with fail
  with_reducible refine (rputall_nil _ k _).mono ?_
  rintro e w1 ⟨rfl, rfl⟩
  go_wp2_with fail
  with_reducible refine (known06 _).mono ?_
  rintro e w1 ⟨rfl, hb⟩
  replace hb := hid hb
  go_wp2_with fail
  go_ret
  exact ⟨rfl, hb.out⟩
end riceNil
end Go.Proofs.Ytgjiffpiffphfaa
