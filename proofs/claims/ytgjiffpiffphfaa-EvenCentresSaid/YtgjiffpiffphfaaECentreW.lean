/- The walks of EvenCentres and EvenNil. -/
import Derived.Test.YtgjiffpiffphfaaKnown08
namespace Go.Proofs.Ytgjiffpiffphfaa
open Go.RowKit

theorem centre_bad (x bound : Int) (w : World) (h : bound < 0 ∨ 274877906944 < bound) : Calls Try.prog 40 #[.int .i64 x, .int .i64 bound] w fun e w' => e = .returned (.tuple #[.int .u64 0, .int .i64 1]) ∧ w = w' := by
  by_cases h1 : bound < 0
  · clear h
    go_enter Try.func40, Try.ntmps40
    go_wp2_with fail
    go_ret2
    exact ⟨rfl, rfl⟩
  · have h2 : 274877906944 < bound := by omega
    clear h
    go_enter Try.func40, Try.ntmps40
    go_wp2_with fail
    go_ret2
    exact ⟨rfl, rfl⟩
theorem centre_range (x : Int) (b : Nat) (w : World) (hb : b ≤ 274877906944) (h : x < -(b : Int) ∨ (b : Int) < x) : Calls Try.prog 40 #[.int .i64 x, .int .i64 (b : Int)] w fun e w' => e = .returned (.tuple #[.int .u64 0, .int .i64 3]) ∧ w = w' := by
  by_cases h1 : x < -(b : Int)
  · clear h
    go_enter Try.func40, Try.ntmps40
    go_wp2_with fail
    go_ret2
    exact ⟨rfl, rfl⟩
  · have h2 : (b : Int) < x := by omega
    clear h
    go_enter Try.func40, Try.ntmps40
    go_wp2_with fail
    go_ret2
    exact ⟨rfl, rfl⟩
theorem centre_ok (x : Int) (b u : Nat) (w : World) (hb : b ≤ 274877906944) (h1 : ¬ x < -(b : Int)) (h2 : ¬ (b : Int) < x) (hu : x + b = (u : Int)) : Calls Try.prog 40 #[.int .i64 x, .int .i64 (b : Int)] w fun e w' => e = .returned (.tuple #[.int .u64 (u : Int), .int .i64 0]) ∧ w = w' := by
  have HU := hid hu
  clear hu
  go_enter Try.func40, Try.ntmps40
  go_wp2_with fail
  go_ret2
  exact ⟨by rw [← HU.out]; rfl, rfl⟩
theorem off_bad (v : Nat) (bound : Int) (w : World) (h : bound < 0 ∨ 274877906944 < bound) : Calls Try.prog 41 #[.int .u64 (v : Int), .int .i64 bound] w fun e w' => e = .returned (.tuple #[.int .i64 0, .int .i64 1]) ∧ w = w' := by
  by_cases h1 : bound < 0
  · clear h
    go_enter Try.func41, Try.ntmps41
    go_wp2_with fail
    go_ret2
    exact ⟨rfl, rfl⟩
  · have h2 : 274877906944 < bound := by omega
    clear h
    go_enter Try.func41, Try.ntmps41
    go_wp2_with fail
    go_ret2
    exact ⟨rfl, rfl⟩
theorem off_range (v b : Nat) (w : World) (hb : b ≤ 274877906944) (h : 2 * b < v) : Calls Try.prog 41 #[.int .u64 (v : Int), .int .i64 (b : Int)] w fun e w' => e = .returned (.tuple #[.int .i64 0, .int .i64 3]) ∧ w = w' := by
  have h' : 2 * (b : Int) < v := by omega
  go_enter Try.func41, Try.ntmps41
  go_wp2_with fail
  go_ret2
  exact ⟨rfl, rfl⟩
theorem off_ok (v b : Nat) (w : World) (hb : b ≤ 274877906944) (h : v ≤ 2 * b) : Calls Try.prog 41 #[.int .u64 (v : Int), .int .i64 (b : Int)] w fun e w' => e = .returned (.tuple #[.int .i64 ((v : Int) - b), .int .i64 0]) ∧ w = w' := by
  have h' : ¬ 2 * (b : Int) < v := by omega
  go_enter Try.func41, Try.ntmps41
  go_wp2_with fail
  go_ret2
  exact ⟨rfl, rfl⟩

theorem egetall_nil (c : Int) (n : Nat) (w : World) : Calls Try.prog 42 #[.pointer none, .int .i64 c, .int .u64 (n : Int)] w fun e w' => e = .returned (.tuple #[.slice none 0 0, .int .i64 2]) ∧ w = w' := by
  go_enter Try.func42, Try.ntmps42
  go_wp2_with fail
  go_ret2
  exact ⟨rfl, rfl⟩

namespace evenNil
set_option maxRecDepth 100000 in
set_option maxHeartbeats 1600000 in
theorem walk {v n : Nat} {c : Int} {w : World} :
    Calls Try.prog 8 #[.int .u64 (v : Int), .int .u64 (n : Int), .int .i64 c] w fun e w' => e = .returned (.bool true) ∧ Below w.heap.size w w' := by
  go_enter Try.func8, Try.ntmps8
  go_wp2_with fail
  with_reducible refine (eget_nil n _).mono ?_
  rintro e w1 ⟨rfl, rfl⟩
  go_wp2_with fail
  with_reducible refine (egetall_nil c n _).mono ?_
  rintro e w1 ⟨rfl, rfl⟩
  go_wp2_with fail
  with_reducible refine (eputone_nil v n _).mono ?_
  rintro e w1 ⟨rfl, hb1⟩
  have H1 := hid hb1
  clear hb1
  go_wp2_with fail
  with_reducible refine (eputall_nil _ n _).mono ?_
  rintro e w2 ⟨rfl, hb2⟩
  have H2 := hid ((H1.out.alloc H1.out.size (.cells #[.int .u64 (v : Int)] 22)).trans (hb2.mono (by have := H1.out.size; simp; omega)))
  clear hb2
  go_wp2_with fail
  with_reducible refine (known08 _).mono ?_
  rintro e w3 ⟨rfl, hb⟩
  have H3 := hid (H2.out.trans (hb.mono H2.out.size))
  clear hb
  go_wp2_with fail
  go_ret
  exact ⟨rfl, H3.out⟩
end evenNil

namespace evenCentres
set_option maxRecDepth 100000 in
set_option maxHeartbeats 1600000 in
theorem walk_bad (x : Int) (v : Nat) (bound : Int) (w : World) (h : bound < 0 ∨ 274877906944 < bound) :
    Calls Try.prog 7 #[.int .i64 x, .int .u64 (v : Int), .int .i64 bound] w fun e w' => e = .returned (.bool true) ∧ Below w.heap.size w w' := by
  have H1 := hid (centre_bad x bound w h)
  have H2 := hid (off_bad v bound w h)
  by_cases h1 : bound < 0
  · clear h
    go_enter Try.func7, Try.ntmps7
    go_wp2_with fail
    with_reducible refine H1.out.mono ?_
    rintro e w1 ⟨rfl, rfl⟩
    go_wp2_with fail
    with_reducible refine H2.out.mono ?_
    rintro e w1 ⟨rfl, rfl⟩
    go_wp2_with fail
    with_reducible refine (known08 _).mono ?_
    rintro e w3 ⟨rfl, hb⟩
    have H3 := hid hb
    clear hb
    go_wp2_with fail
    go_ret
    exact ⟨rfl, H3.out⟩
  · have h2 : 274877906944 < bound := by omega
    clear h
    go_enter Try.func7, Try.ntmps7
    go_wp2_with fail
    with_reducible refine H1.out.mono ?_
    rintro e w1 ⟨rfl, rfl⟩
    go_wp2_with fail
    with_reducible refine H2.out.mono ?_
    rintro e w1 ⟨rfl, rfl⟩
    go_wp2_with fail
    with_reducible refine (known08 _).mono ?_
    rintro e w3 ⟨rfl, hb⟩
    have H3 := hid hb
    clear hb
    go_wp2_with fail
    go_ret
    exact ⟨rfl, H3.out⟩

set_option maxRecDepth 100000 in
set_option maxHeartbeats 1600000 in
theorem walk_ok (x : Int) (v b : Nat) (w : World) (hv : v < 18446744073709551616) (hb : b ≤ 274877906944) :
    Calls Try.prog 7 #[.int .i64 x, .int .u64 (v : Int), .int .i64 (b : Int)] w fun e w' => e = .returned (.bool true) ∧ Below w.heap.size w w' := by
  by_cases hx : x < -(b : Int) ∨ (b : Int) < x
  · have H1 := hid (centre_range x b w hb hx)
    by_cases hvr : 2 * b < v
    · have H2 := hid (off_range v b w hb hvr)
      have hv' : (b : Int) + b < v := by omega
      rcases hx with hx | hx
      all_goals (
        go_enter Try.func7, Try.ntmps7
        go_wp2_with fail
        with_reducible refine H1.out.mono ?_
        rintro e w1 ⟨rfl, rfl⟩
        go_wp2_with fail
        with_reducible refine H2.out.mono ?_
        rintro e w1 ⟨rfl, rfl⟩
        go_wp2_with fail
        with_reducible refine (known08 _).mono ?_
        rintro e w3 ⟨rfl, hbb⟩
        have H3 := hid hbb
        clear hbb
        go_wp2_with fail
        go_ret
        exact ⟨rfl, H3.out⟩)
    · have H2 := hid (off_ok v b w hb (by omega))
      have H4 := hid (centre_ok ((v : Int) - b) b v w hb (by omega) (by omega) (by omega))
      have hv' : ¬ (b : Int) + b < v := by omega
      rcases hx with hx | hx
      all_goals (
        go_enter Try.func7, Try.ntmps7
        go_wp2_with fail
        with_reducible refine H1.out.mono ?_
        rintro e w1 ⟨rfl, rfl⟩
        go_wp2_with fail
        with_reducible refine H2.out.mono ?_
        rintro e w1 ⟨rfl, rfl⟩
        go_wp2_with fail
        with_reducible refine H4.out.mono ?_
        rintro e w1 ⟨rfl, rfl⟩
        go_wp2_with fail
        with_reducible refine (known08 _).mono ?_
        rintro e w3 ⟨rfl, hbb⟩
        have H3 := hid hbb
        clear hbb
        go_wp2_with fail
        go_ret
        exact ⟨rfl, H3.out⟩)
  · have hx1 : ¬ x < -(b : Int) := by omega
    have hx2 : ¬ (b : Int) < x := by omega
    obtain ⟨u, hu⟩ := Int.eq_ofNat_of_zero_le (show 0 ≤ x + b by omega)
    have H1 := hid (centre_ok x b u w hb hx1 hx2 hu)
    have H5 := off_ok u b w hb (by omega)
    have hux : IntKind.u64.wrap (x + b) = (u : Int) := by rw [IntWalk.u64_in _ (by omega)]; omega
    rw [show ((u : Int) - b) = x by omega] at H5
    replace H5 := hid H5
    have huu : ((u : Int) != (u : Int)) = false := by simp
    by_cases hvr : 2 * b < v
    · have H2 := hid (off_range v b w hb hvr)
      have hv' : (b : Int) + b < v := by omega
      go_enter Try.func7, Try.ntmps7
      go_wp2_with fail
      with_reducible refine H1.out.mono ?_
      rintro e w1 ⟨rfl, rfl⟩
      go_wp2_with fail
      with_reducible refine H2.out.mono ?_
      rintro e w1 ⟨rfl, rfl⟩
      go_wp2_with fail
      with_reducible refine H5.out.mono ?_
      rintro e w1 ⟨rfl, rfl⟩
      go_wp2_with fail
      with_reducible refine (known08 _).mono ?_
      rintro e w3 ⟨rfl, hbb⟩
      have H3 := hid hbb
      clear hbb
      go_wp2_with fail
      go_ret
      exact ⟨rfl, H3.out⟩
    · have H2 := hid (off_ok v b w hb (by omega))
      have H4 := hid (centre_ok ((v : Int) - b) b v w hb (by omega) (by omega) (by omega))
      have hv' : ¬ (b : Int) + b < v := by omega
      go_enter Try.func7, Try.ntmps7
      go_wp2_with fail
      with_reducible refine H1.out.mono ?_
      rintro e w1 ⟨rfl, rfl⟩
      go_wp2_with fail
      with_reducible refine H2.out.mono ?_
      rintro e w1 ⟨rfl, rfl⟩
      go_wp2_with fail
      with_reducible refine H5.out.mono ?_
      rintro e w1 ⟨rfl, rfl⟩
      go_wp2_with fail
      with_reducible refine H4.out.mono ?_
      rintro e w1 ⟨rfl, rfl⟩
      go_wp2_with fail
      with_reducible refine (known08 _).mono ?_
      rintro e w3 ⟨rfl, hbb⟩
      have H3 := hid hbb
      clear hbb
      go_wp2_with fail
      go_ret
      exact ⟨rfl, H3.out⟩

theorem walk {x : Int} {v : Nat} {bound : Int} {w : World} (hv : v < 18446744073709551616) :
    Calls Try.prog 7 #[.int .i64 x, .int .u64 (v : Int), .int .i64 bound] w fun e w' => e = .returned (.bool true) ∧ Below w.heap.size w w' := by
  by_cases h : bound < 0 ∨ 274877906944 < bound
  · exact walk_bad x v bound w h
  · obtain ⟨b, rfl⟩ := Int.eq_ofNat_of_zero_le (show 0 ≤ bound by omega)
    exact walk_ok x v b w hv (by omega)
end evenCentres
end Go.Proofs.Ytgjiffpiffphfaa
