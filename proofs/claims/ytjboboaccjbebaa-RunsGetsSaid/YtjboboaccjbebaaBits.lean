/- Plain facts on bits: the n bits of a number, the highest first ('bitsOf'), the number that bits are ('valOf'), the bits of bytes ('flat'), the bytes of bits ('pack'). No program in sight. -/
import Derived.Test.YtjboboaccjbebaaRows
namespace Go.Proofs.Ytjboboaccjbebaa

def bitsOf (v : Nat) : Nat → List Bool
  | 0 => []
  | n + 1 => v.testBit n :: bitsOf v n

def valOf (l : List Bool) : Nat := l.foldl (fun a b => 2 * a + b.toNat) 0

def flat (F : List Nat) : List Bool := F.flatMap fun x => bitsOf x 8

theorem bitsOf_length (v n : Nat) : (bitsOf v n).length = n := by
  induction n with
  | zero => rfl
  | succ n ih => simp [bitsOf, ih]
theorem flat_nil : flat [] = [] := rfl
theorem flat_append (F G : List Nat) : flat (F ++ G) = flat F ++ flat G := by simp [flat]
theorem flat_one (x : Nat) : flat [x] = bitsOf x 8 := by simp [flat]
theorem flat_length (F : List Nat) : (flat F).length = 8 * F.length := by
  induction F with
  | nil => rfl
  | cons x F ih =>
    rw [show flat (x :: F) = bitsOf x 8 ++ flat F from by simp [flat], List.length_append, bitsOf_length, ih]
    simp; omega

theorem valOf_append (l : List Bool) (b : Bool) : valOf (l ++ [b]) = 2 * valOf l + b.toNat := by simp [valOf]
theorem foldl_val (l : List Bool) (a : Nat) : l.foldl (fun a b => 2 * a + b.toNat) a = a * 2 ^ l.length + valOf l := by
  induction l generalizing a with
  | nil => simp [valOf]
  | cons b l ih =>
    have e : valOf (b :: l) = b.toNat * 2 ^ l.length + valOf l := by
      show l.foldl _ (2 * 0 + b.toNat) = _
      rw [ih]; simp
    rw [List.foldl_cons, ih, e, List.length_cons, Nat.pow_succ, Nat.add_mul, Nat.mul_comm 2 a, Nat.mul_assoc, Nat.mul_comm 2, Nat.add_assoc]
theorem valOf_cons (b : Bool) (l : List Bool) : valOf (b :: l) = b.toNat * 2 ^ l.length + valOf l := by
  show l.foldl _ (2 * 0 + b.toNat) = _
  rw [foldl_val]; simp
theorem valOf_app (l m : List Bool) : valOf (l ++ m) = valOf l * 2 ^ m.length + valOf m := by
  unfold valOf
  rw [List.foldl_append]
  exact foldl_val m _
theorem valOf_lt (l : List Bool) : valOf l < 2 ^ l.length := by
  induction l with
  | nil => simp [valOf]
  | cons b l ih =>
    rw [valOf_cons, List.length_cons, Nat.pow_succ]
    cases b <;> simp <;> omega
theorem valOf_bitsOf (v n : Nat) : valOf (bitsOf v n) = v % 2 ^ n := by
  induction n with
  | zero => simp [bitsOf, valOf, Nat.mod_one]
  | succ n ih =>
    rw [bitsOf, valOf_cons, bitsOf_length, ih, Nat.toNat_testBit, Nat.pow_succ, Nat.mod_mul, Nat.add_comm, Nat.mul_comm]
theorem bitsOf_mod (v n k : Nat) (h : n ≤ k) : bitsOf (v % 2 ^ k) n = bitsOf v n := by
  induction n with
  | zero => rfl
  | succ n ih =>
    simp only [bitsOf]
    rw [ih (by omega), Nat.testBit_mod_two_pow]
    simp; omega
theorem bitsOf_add (v m n : Nat) : bitsOf v (m + n) = bitsOf (v / 2 ^ n) m ++ bitsOf v n := by
  induction m with
  | zero => simp [bitsOf]
  | succ m ih =>
    rw [Nat.add_right_comm, bitsOf, ih, bitsOf, List.cons_append, ← Nat.shiftRight_eq_div_pow, Nat.testBit_shiftRight, Nat.add_comm n m]
theorem bitsOf_valOf (l : List Bool) : bitsOf (valOf l) l.length = l := by
  induction l with
  | nil => rfl
  | cons b l ih =>
    have hl := valOf_lt l
    rw [List.length_cons, bitsOf]
    congr 1
    · rw [valOf_cons, Nat.mul_comm, Nat.testBit_two_pow_mul_add _ hl]
      cases b <;> simp
    · rw [← bitsOf_mod _ _ _ (Nat.le_refl l.length), valOf_cons, Nat.mul_comm, Nat.mul_add_mod, Nat.mod_eq_of_lt hl, ih]
theorem bitsOf_byte (v n : Nat) (h : 8 ≤ n) : bitsOf v n = bitsOf (v / 2 ^ (n - 8) % 256) 8 ++ bitsOf v (n - 8) := by
  have e : n = 8 + (n - 8) := by omega
  rw [show bitsOf v n = bitsOf v (8 + (n - 8)) from by rw [← e], bitsOf_add, show (256 : Nat) = 2 ^ 8 from rfl, bitsOf_mod _ _ _ (Nat.le_refl _)]
theorem bitsOf_bit (v n : Nat) (h : 1 ≤ n) : bitsOf v n = v.testBit (n - 1) :: bitsOf v (n - 1) := by
  obtain ⟨k, rfl⟩ : ∃ k, n = k + 1 := ⟨n - 1, by omega⟩
  rfl
theorem bitsOf_inj (a b n : Nat) (ha : a < 2 ^ n) (hb : b < 2 ^ n) (h : bitsOf a n = bitsOf b n) : a = b := by
  have := congrArg valOf h
  rwa [valOf_bitsOf, valOf_bitsOf, Nat.mod_eq_of_lt ha, Nat.mod_eq_of_lt hb] at this

/-- One bit more in what there is of a byte. -/
def setBit (part n : Nat) (b : Bool) : Nat := if b then part + 2 ^ (7 - n) else part
theorem part_bit : ∀ part : Fin 256, ∀ n : Fin 8, ∀ b : Bool, part.val % 2 ^ (8 - n.val) = 0 →
    (bitsOf (setBit part.val n.val b) 8).take (n.val + 1) = (bitsOf part.val 8).take n.val ++ [b] ∧ setBit part.val n.val b % 2 ^ (7 - n.val) = 0 ∧ setBit part.val n.val b < 256 ∧
      (part.val ||| (2 ^ (7 - n.val) % 256)) = part.val + 2 ^ (7 - n.val) := by decide +kernel
theorem bits_take {part n : Nat} {b : Bool} (hp : part < 256) (hn : n < 8) (h0 : part % 2 ^ (8 - n) = 0) : (bitsOf (setBit part n b) 8).take (n + 1) = (bitsOf part 8).take n ++ [b] := (part_bit ⟨part, hp⟩ ⟨n, hn⟩ b h0).1
theorem bits_low {part n : Nat} {b : Bool} (hp : part < 256) (hn : n < 8) (h0 : part % 2 ^ (8 - n) = 0) : setBit part n b % 2 ^ (8 - (n + 1)) = 0 := by
  rw [show 8 - (n + 1) = 7 - n from by omega]
  exact (part_bit ⟨part, hp⟩ ⟨n, hn⟩ b h0).2.1
theorem bits_lt {part n : Nat} {b : Bool} (hp : part < 256) (hn : n < 8) (h0 : part % 2 ^ (8 - n) = 0) : setBit part n b < 256 := (part_bit ⟨part, hp⟩ ⟨n, hn⟩ b h0).2.2.1
theorem bits_or {part n : Nat} (hp : part < 256) (hn : n < 8) (h0 : part % 2 ^ (8 - n) = 0) : (part ||| (2 ^ (7 - n) % 256)) = setBit part n true := (part_bit ⟨part, hp⟩ ⟨n, hn⟩ true h0).2.2.2
end Go.Proofs.Ytjboboaccjbebaa
