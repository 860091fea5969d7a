/- math/bits.Len: the shelf's contract, laid at this translation in plain words. -/
import Derived.Shelf.Small.Bits
import Derived.Test.YtjboboaccjbebaaRows
namespace Go.Proofs.Ytjboboaccjbebaa
open Go.Shelf

def lenRen : Go.Shelf.Ren := ⟨fun | 125 => 124 | 128 => 153 | 129 => 154 | n => n, fun | 46 => 42 | 3 => 3 | 51 => 127 | 53 => 129 | 4 => 4 | 5 => 5 | 9 => 9 | n => n, fun | n => n⟩
theorem lenLays : Go.Proofs.Lays.n125 Try.prog lenRen := {
  mixed := by kernel_rfl
  f125 := Try.func124.trans (congrArg some (by kernel_rfl))
  f128 := Try.func153.trans (congrArg some (by kernel_rfl))
  f129 := Try.func154.trans (congrArg some (by kernel_rfl))
  t3 := Try.underlying3
  a3 := Try.isAgg3
  z3 := Try.sizeOf3
  v3 := Try.zeroValue3
  t4 := Try.underlying4
  a4 := Try.isAgg4
  z4 := Try.sizeOf4
  v4 := Try.zeroValue4
  t5 := Try.underlying5
  a5 := Try.isAgg5
  z5 := Try.sizeOf5
  v5 := Try.zeroValue5
  t9 := Try.underlying9
  a9 := Try.isAgg9
  z9 := Try.sizeOf9
  v9 := Try.zeroValue9
  t46 := Try.underlying42
  a46 := Try.isAgg42
  z46 := Try.sizeOf42
  v46 := Try.zeroValue42
  t51 := Try.underlying127
  a51 := Try.isAgg127
  z51 := Try.sizeOf127
  v51 := Try.zeroValue127
  t53 := Try.underlying129
  a53 := Try.isAgg129
  z53 := Try.sizeOf129
  v53 := Try.zeroValue129 }

/-- The bits of a number. -/
def wid (x : Nat) : Nat := Lib.bitLen x

theorem len_bits (x : Nat) (w : World) (h : x < 18446744073709551616) : Calls Try.prog 124 #[.int .u64 (x : Int)] w fun e w' => e = .returned (.int .i64 (wid x : Nat)) ∧ w = w' :=
  (Any.bits_Len lenLays (x : Int) w (by omega) (by omega)).mono fun _ _ ⟨he, hw⟩ => ⟨by rw [he, Int.toNat_natCast]; rfl, hw.symm⟩

theorem wid_zero : wid 0 = 0 := by decide
theorem wid_half (x : Nat) (h0 : x ≠ 0) (h : x < 18446744073709551616) : wid x = 1 + wid (x / 2) := Lib.bitLen_half x h0 h
theorem wid_le (x k : Nat) (hk : k ≤ 64) (h : x < 2 ^ k) : wid x ≤ k := Lib.bitLen_le x k hk h
/-- It lies just below that power of two. -/
theorem wid_spec : ∀ (k x : Nat), k ≤ 64 → x < 2 ^ k → x < 2 ^ wid x ∧ (0 < x → 2 ^ (wid x - 1) ≤ x ∧ 1 ≤ wid x) := by
  intro k
  induction k with
  | zero => intro x _ h; obtain rfl : x = 0 := by omega
            exact ⟨by rw [wid_zero]; omega, by omega⟩
  | succ k ih =>
    intro x hk h
    by_cases h0 : x = 0
    · subst h0
      exact ⟨by rw [wid_zero]; omega, by omega⟩
    · have hx : x < 18446744073709551616 := by
        have := Nat.pow_le_pow_right (n := 2) (by omega) hk
        omega
      have e := wid_half x h0 hx
      obtain ⟨h1, h2⟩ := ih (x / 2) (by omega) (by rw [Nat.pow_succ] at h; omega)
      rw [e]
      refine ⟨by rw [Nat.pow_add]; omega, fun _ => ⟨?_, by omega⟩⟩
      by_cases h3 : x / 2 = 0
      · rw [h3, wid_zero]; simp; omega
      · obtain ⟨h4, h5⟩ := h2 (by omega)
        obtain ⟨t, ht⟩ : ∃ t, wid (x / 2) = t + 1 := ⟨wid (x / 2) - 1, by omega⟩
        rw [ht] at h4 ⊢
        rw [show 1 + (t + 1) - 1 = (t + 1 - 1) + 1 from by omega, Nat.pow_succ]
        omega
theorem wid_lt (x : Nat) (h : x < 18446744073709551616) : x < 2 ^ wid x := (wid_spec 64 x (by omega) h).1
theorem wid_ge (x : Nat) (h : x < 18446744073709551616) (h0 : 0 < x) : 2 ^ (wid x - 1) ≤ x ∧ 1 ≤ wid x := (wid_spec 64 x (by omega) h).2 h0
theorem wid_max (x : Nat) (h : x < 18446744073709551616) : wid x ≤ 64 := wid_le x 64 (by omega) h
end Go.Proofs.Ytjboboaccjbebaa
