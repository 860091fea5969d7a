/- Layer 1 and its reference: numbers that are held, clamped, rounded; powers of two. -/
import Derived.Test.YtjboboaccjbebaaLen
import Derived.Test.YtjboboaccjbebaaMem
import Derived.WalkKit
import Derived.WalkSpells
import Derived.WalkLawsBesides
import Derived.Outline
import Derived.BigQuiet
import Derived.Deep.QuietTactic
import Derived.Laws.BitsAllLaws
import Derived.IntWalk
namespace Go.Proofs.Ytjboboaccjbebaa
open Go.RowKit

theorem i64_and1 (n : Int) : bits .and .i64 n 1 = n % 2 := by
  have h1 : (BitVec.ofInt 64 1).toNat = 2 ^ 1 - 1 := by decide
  have key : (BitVec.ofInt 64 n &&& BitVec.ofInt 64 1).toNat = (n % ((2 ^ 64 : Nat) : Int)).toNat % 2 ^ 1 := by
    rw [BitVec.toNat_and, BitVec.toNat_ofInt, h1, Nat.and_two_pow_sub_one_eq_mod]
  show IntKind.i64.wrap ((BitVec.ofInt 64 n &&& BitVec.ofInt 64 1).toNat : Nat) = n % 2
  rw [key, IntKind.wrap_i64]
  omega

/-- A number held. -/
def holdI (x : Int) : Int := min (max x (-4611686018427387904)) 4611686018427387904
theorem holdI_bd (x : Int) : -4611686018427387904 ≤ holdI x ∧ holdI x ≤ 4611686018427387904 := by unfold holdI; omega
theorem holdI_id (x : Int) (h : -4611686018427387904 ≤ x) (h' : x ≤ 4611686018427387904) : holdI x = x := by unfold holdI; omega
/-- A number between two others. -/
def clampI (x lo hi : Int) : Int := if x < lo ∨ hi < lo then lo else if hi < x then hi else x
theorem clampI_bd (x lo hi : Int) (h : lo ≤ hi) : lo ≤ clampI x lo hi ∧ clampI x lo hi ≤ hi := by
  unfold clampI
  split
  · omega
  · split <;> omega
theorem clampI_id (x lo hi : Int) (h : lo ≤ x) (h' : x ≤ hi) : clampI x lo hi = x := by
  unfold clampI
  rw [if_neg (by omega), if_neg (by omega)]

theorem hold_any (x : Int) (w : World) : Calls Try.prog 105 #[.int .i64 x] w fun e w' => e = .returned (.int .i64 (holdI x)) ∧ w = w' := by
  go_enter Try.func105, Try.ntmps105
  go_wp2_with fail
  go_ret
  exact ⟨rfl, rfl⟩

theorem clamp_any (x lo hi : Int) (w : World) : Calls Try.prog 166 #[.int .i64 x, .int .i64 lo, .int .i64 hi] w fun e w' => e = .returned (.int .i64 (clampI x lo hi)) ∧ w = w' := by
  by_cases h1 : x < lo
  · have e : clampI x lo hi = lo := by unfold clampI; rw [if_pos (.inl h1)]
    rw [e]
    clear e
    go_enter Try.func166, Try.ntmps166
    go_wp2_with fail
    go_ret
    exact ⟨rfl, rfl⟩
  by_cases h2 : hi < lo
  · have e : clampI x lo hi = lo := by unfold clampI; rw [if_pos (.inr h2)]
    rw [e]
    clear e
    go_enter Try.func166, Try.ntmps166
    go_wp2_with fail
    go_ret
    exact ⟨rfl, rfl⟩
  by_cases h3 : hi < x
  · have e : clampI x lo hi = hi := by unfold clampI; rw [if_neg (by omega), if_pos h3]
    rw [e]
    clear e
    go_enter Try.func166, Try.ntmps166
    go_wp2_with fail
    go_ret
    exact ⟨rfl, rfl⟩
  · have e : clampI x lo hi = x := by unfold clampI; rw [if_neg (by omega), if_neg h3]
    rw [e]
    clear e
    go_enter Try.func166, Try.ntmps166
    go_wp2_with fail
    go_ret
    exact ⟨rfl, rfl⟩

/-- A number without its lowest n bits, to the next one; 1 ≤ n. -/
def rnd (a : Int) (n : Nat) : Int := a / 2 ^ (n - 1) / 2 + a / 2 ^ (n - 1) % 2

theorem pow_pos_int (n : Nat) : (0 : Int) < 2 ^ n := Int.pow_pos (by decide)
theorem rnd_bd (a b : Int) (n : Nat) (h : -b ≤ a) (h' : a ≤ b) (hb : 0 ≤ b) : -b ≤ rnd a n ∧ rnd a n ≤ b := by
  unfold rnd
  have hp := pow_pos_int (n - 1)
  have e1 : -b ≤ a / 2 ^ (n - 1) := by
    refine (Int.le_ediv_iff_mul_le hp).2 ?_
    have : b * 1 ≤ b * 2 ^ (n - 1) := Int.mul_le_mul_of_nonneg_left (by omega) hb
    rw [Int.neg_mul]
    omega
  have e2 : a / 2 ^ (n - 1) ≤ b := by
    by_cases h0 : a < 0
    · have : a / 2 ^ (n - 1) < 0 := Int.ediv_neg_of_neg_of_pos h0 hp
      omega
    · exact Int.le_trans (Int.ediv_le_self _ (by omega)) h'
  omega

theorem tdiv_bd (a b : Int) (hb : 1 ≤ b) (ha : a < 0) : a ≤ a.tdiv b ∧ a.tdiv b ≤ 0 ∧ a.tmod b ≤ 0 ∧ -b < a.tmod b := by
  obtain ⟨c, rfl⟩ : ∃ c, a = -c := ⟨-a, by omega⟩
  rw [Int.neg_tdiv, Int.neg_tmod, Int.tdiv_eq_ediv_of_nonneg (by omega), Int.tmod_eq_emod_of_nonneg (by omega)]
  have h1 := Int.emod_nonneg c (show b ≠ 0 by omega)
  have h2 := Int.emod_lt_of_pos c (show 0 < b by omega)
  have h3 := Int.ediv_le_self b (show 0 ≤ c by omega)
  have h4 := Int.ediv_nonneg (show 0 ≤ c by omega) (show 0 ≤ b by omega)
  omega

theorem refhold_any (x : Int) (w : World) : Calls Try.prog 106 #[.int .i64 x] w fun e w' => e = .returned (.int .i64 (holdI x)) ∧ w = w' := by
  by_cases h1 : x < -4611686018427387904
  · have e : holdI x = -4611686018427387904 := by unfold holdI; omega
    rw [e]
    clear e
    go_enter Try.func106, Try.ntmps106
    go_wp2_with fail
    go_ret
    exact ⟨rfl, rfl⟩
  by_cases h2 : 4611686018427387904 < x
  · have e : holdI x = 4611686018427387904 := by unfold holdI; omega
    rw [e]
    clear e
    go_enter Try.func106, Try.ntmps106
    go_wp2_with fail
    go_ret
    exact ⟨rfl, rfl⟩
  · have e : holdI x = x := by unfold holdI; omega
    rw [e]
    clear e
    go_enter Try.func106, Try.ntmps106
    go_wp2_with fail
    go_ret
    exact ⟨rfl, rfl⟩

theorem pow_le_int {k n : Nat} (h : k ≤ n) : (2 : Int) ^ k ≤ 2 ^ n := by
  have := Nat.pow_le_pow_right (n := 2) (by omega) h
  have e1 : ((2 ^ k : Nat) : Int) = 2 ^ k := by simp
  have e2 : ((2 ^ n : Nat) : Int) = 2 ^ n := by simp
  omega
theorem pow_succ_int (k : Nat) : (2 : Int) ^ (k + 1) = 2 * 2 ^ k := by rw [Int.pow_succ]; omega

theorem power_any (n : Nat) (w : World) (hn : n ≤ 62) : Calls Try.prog 96 #[.int .i64 (n : Int)] w fun e w' => e = .returned (.int .i64 (2 ^ n)) ∧ w = w' := by
  go_enter Try.func96, Try.ntmps96
  go_wp2_with fail
  go_loop [3, 4] (fun p i => ∃ (k : Nat) (q : Int), k ≤ n ∧ i = .int .i64 k ∧ p = .int .i64 q ∧ q = 2 ^ k) (fun _ i => n - (intOf i).toNat)
  case atStart => exact ⟨0, 1, by omega, rfl, rfl, by simp⟩
  case round =>
    obtain ⟨k, q, hk, rfl, rfl, hq⟩ := hrel
    by_cases hkn : k < n
    · have h1 : (k : Int) < n := by omega
      have h2 : (k : Int) < 62 := by omega
      have h3 : q ≤ 2 ^ 61 := by rw [hq]; exact pow_le_int (by omega)
      have h3' : q ≤ 2305843009213693952 := h3
      have h4 : 0 ≤ q := by rw [hq]; exact Int.le_of_lt (pow_pos_int k)
      have HQ := hid hq
      clear hq h3
      go_wp2_with fail
      go_round
      case rel => exact ⟨k + 1, _, by omega, by go_num, rfl, by rw [HQ.out, pow_succ_int]⟩
      case measure => simp [intOf]; omega
    · have h1 : ¬ (k : Int) < n := by omega
      obtain rfl : k = n := by omega
      have HQ := hid hq
      clear hq
      go_wp2_with fail
      go_ret
      exact ⟨by rw [← HQ.out]; rfl, rfl⟩

theorem power_at (xi : Int) (n : Nat) (hx : xi = (n : Int)) (w : World) (hn : n ≤ 62) : Calls Try.prog 96 #[.int .i64 xi] w fun e w' => e = .returned (.int .i64 (2 ^ n)) ∧ w = w' := by
  subst hx
  exact power_any n w hn

theorem floor_neg (a b : Int) (hb : 1 ≤ b) (ha : a < 0) : a / b = if a.tmod b = 0 then a.tdiv b else a.tdiv b - 1 := by
  have h1 := Int.mul_tdiv_add_tmod a b
  have h2 : a.tmod b ≤ 0 := (tdiv_bd a b hb ha).2.2.1
  have h3 : -b < a.tmod b := (tdiv_bd a b hb ha).2.2.2
  split
  · next h0 =>
    rw [h0] at h1
    have e : a = b * a.tdiv b := by omega
    conv => lhs; rw [e]
    exact Int.mul_ediv_cancel_left _ (by omega)
  · next h0 =>
    have e : a = (a.tmod b + b) + b * (a.tdiv b - 1) := by rw [Int.mul_sub]; omega
    conv => lhs; rw [e]
    rw [Int.add_mul_ediv_left _ _ (by omega), Int.ediv_eq_zero_of_lt (by omega) (by omega)]
    omega

theorem mod_neg (a b : Int) (hb : 1 ≤ b) (ha : a < 0) : a % b = if a.tmod b < 0 then a.tmod b + b else a.tmod b := by
  have h1 := Int.mul_tdiv_add_tmod a b
  obtain ⟨_, _, h2, h3⟩ := tdiv_bd a b hb ha
  have e : a % b = a.tmod b % b := by
    conv => lhs; rw [← h1]
    rw [Int.add_comm, Int.add_mul_emod_self_left]
  rw [e]
  split
  · rw [← Int.add_emod_right, Int.emod_eq_of_lt (by omega) (by omega)]
  · have e0 : a.tmod b = 0 := by omega
    rw [e0]; rfl

/-- Rounding, the two ways. -/
theorem rnd_ref (a : Int) (m : Nat) : rnd a (m + 1) = if 2 ^ m ≤ a % 2 ^ (m + 1) then a / 2 ^ (m + 1) + 1 else a / 2 ^ (m + 1) := by
  unfold rnd
  simp only [Nat.add_sub_cancel]
  have hp := pow_pos_int m
  have e1 : a / 2 ^ (m + 1) = a / 2 ^ m / 2 := by rw [Int.pow_succ, Int.ediv_ediv_of_nonneg (by omega)]
  have h1 := Int.mul_ediv_add_emod a (2 ^ m)
  have h2 := Int.emod_nonneg a (show (2 : Int) ^ m ≠ 0 by omega)
  have h3 := Int.emod_lt_of_pos a hp
  have h4 := Int.mul_ediv_add_emod a (2 ^ (m + 1))
  rw [pow_succ_int] at h4
  rw [pow_succ_int] at e1 ⊢
  rw [e1] at h4 ⊢
  generalize a / 2 ^ m = h at *
  generalize (2 : Int) ^ m = p at *
  generalize a % (2 * p) = r at *
  generalize a % p = t at *
  have e2 : h = 2 * (h / 2) + h % 2 := by omega
  have e3 : p * (2 * (h / 2) + h % 2) = 2 * p * (h / 2) + p * (h % 2) := by rw [Int.mul_add, ← Int.mul_assoc, Int.mul_comm p 2]
  rw [← e2] at e3
  rcases (show h % 2 = 0 ∨ h % 2 = 1 by omega) with e | e
  · rw [e] at e3 ⊢
    rw [if_neg (by omega)]
    omega
  · rw [e] at e3 ⊢
    rw [if_pos (by omega)]

end Go.Proofs.Ytjboboaccjbebaa
