/- The walk of RunsNil. -/
import Derived.Test.YtjboboaccjbebaaRunG
import Derived.Test.YtjboboaccjbebaaKnown07
namespace Go.Proofs.Ytjboboaccjbebaa
open Go.RowKit
theorem getl_nil (n k : Int) (w : World) : Calls Try.prog 38 #[.pointer none, .int .i64 n, .int .i64 k] w fun e w' => e = .returned (.tuple #[.slice none 0 0, .int .i64 2]) ∧ w = w' := by
  go_enter Try.func38, Try.ntmps38
  go_wp2_with fail
  go_ret2
  exact ⟨rfl, rfl⟩
namespace runsNil
set_option maxRecDepth 100000 in
set_option maxHeartbeats 1600000 in
theorem walk {l : Value} {xs : List Int} {v : Nat} {n k : Int} {w : World} (hl : Sl w l (i64s xs)) :
    Calls Try.prog 7 #[.int .u64 (v : Int), l, .int .i64 n, .int .i64 k] w fun e w' => e = .returned (.bool true) ∧ Below w.heap.size w w' := by
  have HL := hid (putl_nil l xs k w hl)
  obtain ⟨A, c, rfl, _⟩ := i64s_form hl
  clear hl
  go_enter Try.func7, Try.ntmps7
  go_wp2_with fail
  with_reducible refine (getgamma_nil _).mono ?_
  rintro e w1 ⟨rfl, rfl⟩
  go_wp2_with fail
  with_reducible refine (getl_nil n k _).mono ?_
  rintro e w1 ⟨rfl, rfl⟩
  go_wp2_with fail
  with_reducible refine (putgamma_nil _ _).mono ?_
  rintro e w1 ⟨rfl, rfl⟩
  go_wp2_with fail
  with_reducible refine HL.out.mono ?_
  rintro e w1 ⟨rfl, hb1⟩
  have H1 := hid hb1
  clear hb1
  go_wp2_with fail
  with_reducible refine (known07 _).mono ?_
  rintro e w2 ⟨rfl, hb⟩
  have H2 := hid (H1.out.trans (hb.mono H1.out.size))
  clear hb
  go_wp2_with fail
  go_ret
  exact ⟨rfl, H2.out⟩
end runsNil
end Go.Proofs.Ytjboboaccjbebaa
