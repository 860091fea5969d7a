/- Layer 1 and its reference: how many bits a number has (Width), and takes (Need). -/
import Derived.Test.YtjboboaccjbebaaNum
namespace Go.Proofs.Ytjboboaccjbebaa
open Go.RowKit

theorem width_any (x : Nat) (w : World) (h : x < 18446744073709551616) : Calls Try.prog 77 #[.int .u64 (x : Int)] w fun e w' => e = .returned (.int .i64 (wid x : Nat)) ∧ w = w' := by
  have HX := hid h
  clear h
  go_enter Try.func77, Try.ntmps77
  go_wp2_with fail
  have HC := len_bits x w HX.out
  with_reducible refine HC.mono ?_
  clear HC
  rintro e w1 ⟨rfl, rfl⟩
  go_wp2_with fail
  go_ret
  exact ⟨rfl, rfl⟩
theorem width_at (xi : Int) (x : Nat) (hx : xi = (x : Int)) (w : World) (h : x < 18446744073709551616) : Calls Try.prog 77 #[.int .u64 xi] w fun e w' => e = .returned (.int .i64 (wid x : Nat)) ∧ w = w' := by
  subst hx
  exact width_any x w h

theorem refwidth_any (x : Nat) (w : World) (h : x < 18446744073709551616) : Calls Try.prog 74 #[.int .u64 (x : Int)] w fun e w' => e = .returned (.int .i64 (wid x : Nat)) ∧ w = w' := by
  have HX := hid h
  clear h
  go_enter Try.func74, Try.ntmps74
  go_wp2_with fail
  go_loop [0, 3, 4] (fun u n i => ∃ (k y : Nat) (z : Int), k ≤ 64 ∧ i = .int .i64 k ∧ n = .int .i64 k ∧ u = .int .u64 z ∧ 0 ≤ z ∧ z < 18446744073709551616 ∧ Hid (z = (y : Int) ∧ y < 2 ^ (64 - k) ∧ wid x = k + wid y)) (fun _ _ i => 64 - (intOf i).toNat)
  case atStart => exact ⟨0, x, x, by omega, rfl, rfl, rfl, by omega, by have := HX.out; omega, rfl, HX.out, by omega⟩
  case round =>
    obtain ⟨k, y, z, hk, rfl, rfl, rfl, hz1, hz2, hh⟩ := hrel
    by_cases hz : 0 < z
    · have hk64 : k < 64 := by
        rcases Nat.lt_or_ge k 64 with h | h
        · exact h
        · obtain ⟨h1, h2, _⟩ := hh.out
          rw [show 64 - k = 0 by omega] at h2
          simp at h2
          omega
      have hin : (k : Int) < 64 := by omega
      go_wp2_with fail
      go_round
      case rel =>
        obtain ⟨h1, h2, h3⟩ := hh.out
        refine ⟨k + 1, y / 2, z / 2, by omega, by go_num, by go_num, rfl, by omega, by omega, by rw [h1]; omega, ?_, ?_⟩
        · have e : 2 ^ (64 - k) = 2 * 2 ^ (64 - (k + 1)) := by rw [show 64 - k = (64 - (k + 1)) + 1 by omega, Nat.pow_succ]; omega
          omega
        · rw [h3, wid_half y (by omega) (by omega)]
          omega
      case measure => simp [intOf]; omega
    · have hz0 : z = 0 := by omega
      have HZ := hid hz0
      clear hz0
      by_cases hin : (k : Int) < 64
      all_goals
        go_wp2_with fail
        go_ret
        obtain ⟨h1, h2, h3⟩ := hh.out
        rw [HZ.out] at h1
        obtain rfl : y = 0 := by omega
        rw [wid_zero] at h3
        refine ⟨?_, rfl⟩
        rw [h3]
        simp
theorem refwidth_at (xi : Int) (x : Nat) (hx : xi = (x : Int)) (w : World) (h : x < 18446744073709551616) : Calls Try.prog 74 #[.int .u64 xi] w fun e w' => e = .returned (.int .i64 (wid x : Nat)) ∧ w = w' := by
  subst hx
  exact refwidth_any x w h

theorem i64_not (x : Int) (h : -9223372036854775808 ≤ x) (h' : x ≤ 9223372036854775807) : bits BinOp.xor IntKind.i64 (-1) x = -x - 1 := by
  have e : BitVec.ofInt 64 (-1) = BitVec.allOnes 64 := by decide
  show IntKind.i64.wrap ((BitVec.ofInt 64 (-1) ^^^ BitVec.ofInt 64 x).toNat : Int) = _
  rw [e, BitVec.allOnes_xor, BitVec.toNat_not, BitVec.toNat_ofInt, IntKind.wrap_i64]
  omega

/-- The bits that a number takes. -/
def needN (x : Int) : Nat := wid (if x < 0 then (-x - 1).toNat else x.toNat) + 1
theorem needN_neg {x : Int} {n : Nat} (h : x < 0) (hn : -x - 1 = (n : Int)) : needN x = wid n + 1 := by
  unfold needN
  rw [if_pos h, hn, Int.toNat_natCast]
theorem needN_pos {x : Int} {n : Nat} (hn : x = (n : Int)) : needN x = wid n + 1 := by
  unfold needN
  rw [if_neg (by omega), hn, Int.toNat_natCast]

theorem need_any (x : Int) (w : World) (h : -9223372036854775808 ≤ x) (h' : x ≤ 9223372036854775807) : Calls Try.prog 164 #[.int .i64 x] w fun e w' => e = .returned (.int .i64 (needN x : Nat)) ∧ w = w' := by
  by_cases h0 : x < 0
  · obtain ⟨n, hn⟩ := Int.eq_ofNat_of_zero_le (show 0 ≤ -x - 1 by omega)
    rw [needN_neg h0 hn]
    have hw := wid_max n (by omega)
    have HN := hid hn
    have hn2 : x = -(n : Int) - 1 := by omega
    clear hn
    subst hn2
    have hnot : bits BinOp.xor IntKind.i64 (-1) (-(n : Int) - 1) = (n : Int) := by rw [i64_not _ (by omega) (by omega)]; omega
    go_enter Try.func164, Try.ntmps164
    go_wp2_with fail
    have HC := fun xi hx => width_at xi n hx w (by omega)
    with_reducible refine (HC _ ?_).mono ?_
    · first | omega | (rw [IntWalk.u64_in _ (by omega)]; done) | (rw [IntWalk.u64_in _ (by omega)]; omega)
    rintro e w1 ⟨rfl, rfl⟩
    go_wp2_with fail
    go_ret
    exact ⟨rfl, rfl⟩
  · obtain ⟨n, hn⟩ := Int.eq_ofNat_of_zero_le (show 0 ≤ x by omega)
    rw [needN_pos hn]
    have hw := wid_max n (by omega)
    subst hn
    go_enter Try.func164, Try.ntmps164
    go_wp2_with fail
    have HC := fun xi hx => width_at xi n hx w (by omega)
    with_reducible refine (HC _ ?_).mono ?_
    · first | rfl | omega | (rw [IntWalk.u64_in _ (by omega)])
    rintro e w1 ⟨rfl, rfl⟩
    go_wp2_with fail
    go_ret
    exact ⟨rfl, rfl⟩

theorem refneed_any (x : Int) (w : World) (h : -9223372036854775808 ≤ x) (h' : x ≤ 9223372036854775807) : Calls Try.prog 103 #[.int .i64 x] w fun e w' => e = .returned (.int .i64 (needN x : Nat)) ∧ w = w' := by
  by_cases h0 : x < 0
  · obtain ⟨n, hn⟩ := Int.eq_ofNat_of_zero_le (show 0 ≤ -x - 1 by omega)
    rw [needN_neg h0 hn]
    have hw := wid_max n (by omega)
    have HN := hid hn
    have hn2 : x = -(n : Int) - 1 := by omega
    clear hn
    subst hn2
    go_enter Try.func103, Try.ntmps103
    go_wp2_with fail
    have HC := fun xi hx => refwidth_at xi n hx w (by omega)
    with_reducible refine (HC _ ?_).mono ?_
    · first | omega | (rw [IntWalk.u64_in _ (by omega)]; done) | (rw [IntWalk.u64_in _ (by omega)]; omega)
    rintro e w1 ⟨rfl, rfl⟩
    go_wp2_with fail
    go_ret
    exact ⟨rfl, rfl⟩
  · obtain ⟨n, hn⟩ := Int.eq_ofNat_of_zero_le (show 0 ≤ x by omega)
    rw [needN_pos hn]
    have hw := wid_max n (by omega)
    subst hn
    go_enter Try.func103, Try.ntmps103
    go_wp2_with fail
    have HC := fun xi hx => refwidth_at xi n hx w (by omega)
    with_reducible refine (HC _ ?_).mono ?_
    · first | rfl | omega | (rw [IntWalk.u64_in _ (by omega)])
    rintro e w1 ⟨rfl, rfl⟩
    go_wp2_with fail
    go_ret
    exact ⟨rfl, rfl⟩
end Go.Proofs.Ytjboboaccjbebaa
