/- Bits that stand ahead are got as their number. -/
import Derived.Test.YtjboboaccjbebaaRGet
namespace Go.Proofs.Ytjboboaccjbebaa
open Go.RowKit

/-- Bits that stand at place i are got as their number. -/
theorem get_bits (w : World) (p : Nat) (v : Value) (F : List Nat) (i : Nat) (x n : Nat) (ni : Int) (hni : ni = (n : Int)) (h : Rd w p v F i) (hn : n ≤ 64) (hx : x < 2 ^ n) (hb : ((flat F).drop i).take n = bitsOf x n) (hi : i + n ≤ 8 * F.length) :
    Calls Try.prog 81 #[.pointer (some ⟨p, 0, none⟩), .int .i64 ni] w fun e w' => e = .returned (.tuple #[.int .u64 (x : Int), .int .i64 0]) ∧ RI w p v F (i + n) w' := by
  subst hni
  have h := get_ok w p v F i n h hn hi
  rw [hb, valOf_bitsOf, Nat.mod_eq_of_lt hx] at h
  exact h

/-- Bits ahead of others. -/
theorem drop_seg {L A T : List Bool} {i n : Nat} (h : L.drop i = A ++ T) (hn : A.length = n) : (L.drop i).take n = A ∧ L.drop (i + n) = T := by
  refine ⟨by rw [h, List.take_left' hn], ?_⟩
  rw [← List.drop_drop, h, List.drop_left' hn]
theorem drop_fits {L A T : List Bool} {i : Nat} (h : L.drop i = A ++ T) (hA : A ≠ []) : i + A.length ≤ L.length := by
  have := congrArg List.length h
  rw [List.length_drop, List.length_append] at this
  have : 0 < A.length := List.length_pos_iff.2 hA
  omega
end Go.Proofs.Ytjboboaccjbebaa
