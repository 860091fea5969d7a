/- Layer 1: Add of numbers that are held and not below 0, and the reference's. -/
import Derived.Test.YtgjiffpiffphfaaNum
namespace Go.Proofs.Ytgjiffpiffphfaa
open Go.RowKit

/-- Both together, held. -/
def addN (a b : Nat) : Nat := if 4611686018427387904 < a + b then 4611686018427387904 else a + b
theorem addN_le (a b : Nat) : addN a b ≤ 4611686018427387904 := by unfold addN; split <;> omega

theorem hold_id (x : Int) (h : 0 ≤ x) (h' : x ≤ 4611686018427387904) (w : World) : Calls Try.prog 87 #[.int .i64 x] w fun e w' => e = .returned (.int .i64 x) ∧ w = w' := by
  have := hold_any x w
  rwa [holdI_id x (by omega) h'] at this
theorem refhold_id (x : Int) (h : 0 ≤ x) (h' : x ≤ 4611686018427387904) (w : World) : Calls Try.prog 89 #[.int .i64 x] w fun e w' => e = .returned (.int .i64 x) ∧ w = w' := by
  have := refhold_any x w
  rwa [holdI_id x (by omega) h'] at this

theorem addn_any (a b : Nat) (w : World) (ha : a ≤ 4611686018427387904) (hb : b ≤ 4611686018427387904) : Calls Try.prog 69 #[.int .i64 (a : Int), .int .i64 (b : Int)] w fun e w' => e = .returned (.int .i64 (addN a b : Nat)) ∧ w = w' := by
  have HA := hid (hold_id (a : Int) (by omega) (by omega) w)
  have HB := hid (hold_id (b : Int) (by omega) (by omega) w)
  have h0 : ¬ (b : Int) < 0 := by omega
  by_cases hgt : 4611686018427387904 < a + b
  · have e : addN a b = 4611686018427387904 := by unfold addN; rw [if_pos hgt]
    have h1 : (0 : Int) < b := by omega
    have h2 : 4611686018427387904 - (b : Int) < a := by omega
    have HE := hid e
    clear e
    go_enter Try.func69, Try.ntmps69
    go_wp2_with fail
    with_reducible refine HA.out.mono ?_
    rintro e w1 ⟨rfl, rfl⟩
    go_wp2_with fail
    with_reducible refine HB.out.mono ?_
    rintro e w1 ⟨rfl, rfl⟩
    go_wp2_with fail
    go_ret
    exact ⟨by rw [HE.out]; rfl, rfl⟩
  · have e : addN a b = a + b := by unfold addN; rw [if_neg hgt]
    have h2 : ¬ 4611686018427387904 - (b : Int) < a := by omega
    have HE := hid e
    clear e
    by_cases h1 : (0 : Int) < b
    all_goals
      go_enter Try.func69, Try.ntmps69
      go_wp2_with fail
      with_reducible refine HA.out.mono ?_
      rintro e w1 ⟨rfl, rfl⟩
      go_wp2_with fail
      with_reducible refine HB.out.mono ?_
      rintro e w1 ⟨rfl, rfl⟩
      go_wp2_with fail
      go_ret
      exact ⟨by rw [HE.out]; first | rfl | simp, rfl⟩

theorem refaddn_any (a b : Nat) (w : World) (ha : a ≤ 4611686018427387904) (hb : b ≤ 4611686018427387904) : Calls Try.prog 71 #[.int .i64 (a : Int), .int .i64 (b : Int)] w fun e w' => e = .returned (.int .i64 (addN a b : Nat)) ∧ w = w' := by
  have HA := hid (refhold_id (a : Int) (by omega) (by omega) w)
  have HB := hid (refhold_id (b : Int) (by omega) (by omega) w)
  by_cases hm : a = 4611686018427387904 ∧ b = 4611686018427387904
  · have HE := hid (show addN a b = 4611686018427387904 by unfold addN; rw [if_pos (by omega)])
    have e1 : ((a : Int) == 4611686018427387904) = true := by simp; omega
    have e2 : ((b : Int) == 4611686018427387904) = true := by simp; omega
    clear hm
    go_enter Try.func71, Try.ntmps71
    go_wp2_with fail
    with_reducible refine HA.out.mono ?_
    rintro e w1 ⟨rfl, rfl⟩
    go_wp2_with fail
    with_reducible refine HB.out.mono ?_
    rintro e w1 ⟨rfl, rfl⟩
    go_wp2_with fail
    go_ret
    exact ⟨by rw [HE.out]; rfl, rfl⟩
  · have HS := hid (show Calls Try.prog 89 #[.int .i64 ((a : Int) + (b : Int))] w fun e w' => e = .returned (.int .i64 (addN a b : Nat)) ∧ w = w' by
      have h := refhold_any ((a : Int) + (b : Int)) w
      rw [show holdI ((a : Int) + (b : Int)) = ((addN a b : Nat) : Int) by unfold holdI addN; split <;> omega] at h
      exact h)
    have hsum : (a : Int) + (b : Int) < 9223372036854775808 := by omega
    by_cases ha' : a = 4611686018427387904
    · have e1 : ((a : Int) == 4611686018427387904) = true := by simp; omega
      have e2 : ((b : Int) == 4611686018427387904) = false := by simp; omega
      have HM := hid (And.intro hm ha')
      clear hm ha'
      go_enter Try.func71, Try.ntmps71
      go_wp2_with fail
      with_reducible refine HA.out.mono ?_
      rintro e w1 ⟨rfl, rfl⟩
      go_wp2_with fail
      with_reducible refine HB.out.mono ?_
      rintro e w1 ⟨rfl, rfl⟩
      go_wp2_with fail
      with_reducible refine HS.out.mono ?_
      rintro e w1 ⟨rfl, rfl⟩
      go_wp2_with fail
      go_ret
      exact ⟨rfl, rfl⟩
    · have e1 : ((a : Int) == 4611686018427387904) = false := by simp; omega
      have HM := hid (And.intro hm ha')
      clear hm ha'
      go_enter Try.func71, Try.ntmps71
      go_wp2_with fail
      with_reducible refine HA.out.mono ?_
      rintro e w1 ⟨rfl, rfl⟩
      go_wp2_with fail
      with_reducible refine HB.out.mono ?_
      rintro e w1 ⟨rfl, rfl⟩
      go_wp2_with fail
      with_reducible refine HS.out.mono ?_
      rintro e w1 ⟨rfl, rfl⟩
      go_wp2_with fail
      go_ret
      exact ⟨rfl, rfl⟩
end Go.Proofs.Ytgjiffpiffphfaa
