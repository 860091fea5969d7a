/- Plain law of layer 7, the same from the front on: what is done, and how many noughts stand behind it; how many noughts stand ahead of each number. -/
import Derived.Test.YtjboboaccjbebaaRunP
namespace Go.Proofs.Ytjboboaccjbebaa
open Go.RowKit

def stp (s : List (Nat × Option Int) × Nat) (x : Int) : List (Nat × Option Int) × Nat := if x = 0 then (s.1, s.2 + 1) else (s.1 ++ [(s.2, some x)], 0)
def sts (l : List Int) : List (Nat × Option Int) × Nat := l.foldl stp ([], 0)
def tailI (n : Nat) : List (Nat × Option Int) := if 0 < n then [(n, none)] else []
theorem items_fold (l : List Int) : ∀ P n, P ++ items n l = (l.foldl stp (P, n)).1 ++ tailI (l.foldl stp (P, n)).2 := by
  induction l with
  | nil => intro P n; rfl
  | cons x xs ih =>
    intro P n
    rw [items, List.foldl_cons]
    by_cases hx : x = 0
    · rw [if_pos hx, ih P (n + 1)]
      unfold stp
      rw [if_pos hx]
    · rw [if_neg hx]
      have := ih (P ++ [(n, some x)]) 0
      unfold stp
      rw [if_neg hx]
      rw [List.append_assoc] at this
      exact this
theorem items_sts (l : List Int) : items 0 l = (sts l).1 ++ tailI (sts l).2 := by
  have := items_fold l [] 0
  rwa [List.nil_append] at this
theorem sts_snoc (xs : List Int) (x : Int) : sts (xs ++ [x]) = stp (sts xs) x := by simp [sts]
theorem sts_zero {xs : List Int} {x : Int} (h : x = 0) : sts (xs ++ [x]) = ((sts xs).1, (sts xs).2 + 1) := by rw [sts_snoc, stp, if_pos h]
theorem sts_some {xs : List Int} {x : Int} (h : x ≠ 0) : sts (xs ++ [x]) = ((sts xs).1 ++ [((sts xs).2, some x)], 0) := by rw [sts_snoc, stp, if_neg h]
theorem sts_le (xs : List Int) : (sts xs).1.length ≤ xs.length ∧ (sts xs).2 ≤ xs.length := by
  suffices ∀ ys : List Int, (sts ys.reverse).1.length ≤ ys.length ∧ (sts ys.reverse).2 ≤ ys.length by
    have := this xs.reverse
    rwa [List.reverse_reverse, List.length_reverse] at this
  intro ys
  induction ys with
  | nil => exact ⟨Nat.le_refl _, Nat.le_refl _⟩
  | cons y ys ih =>
    rw [List.reverse_cons, List.length_cons]
    by_cases hy : y = 0
    · rw [sts_zero hy]; exact ⟨Nat.le_succ_of_le ih.1, Nat.succ_le_succ ih.2⟩
    · rw [sts_some hy]; refine ⟨?_, Nat.zero_le _⟩
      show (_ ++ [_]).length ≤ _
      rw [List.length_append]
      have := ih.1
      simp; omega
theorem take_all {l : List Int} : l.take l.length = l := List.take_length

/-- The noughts ahead of each other number, and those at the end. -/
def runsF (n : Nat) : List Int → List Int
  | [] => [(n : Int)]
  | x :: xs => if x = 0 then runsF (n + 1) xs else (n : Int) :: runsF 0 xs
def stpR (s : List Int × Nat) (x : Int) : List Int × Nat := if x = 0 then (s.1, s.2 + 1) else (s.1 ++ [(s.2 : Int)], 0)
def stsR (l : List Int) : List Int × Nat := l.foldl stpR ([], 0)
theorem runs_fold (l : List Int) : ∀ P n, P ++ runsF n l = (l.foldl stpR (P, n)).1 ++ [((l.foldl stpR (P, n)).2 : Int)] := by
  induction l with
  | nil => intro P n; rfl
  | cons x xs ih =>
    intro P n
    rw [runsF, List.foldl_cons]
    by_cases hx : x = 0
    · rw [if_pos hx, ih P (n + 1)]
      unfold stpR
      rw [if_pos hx]
    · rw [if_neg hx]
      have := ih (P ++ [(n : Int)]) 0
      unfold stpR
      rw [if_neg hx]
      rw [List.append_assoc] at this
      exact this
theorem runs_sts (l : List Int) : runsF 0 l = (stsR l).1 ++ [((stsR l).2 : Int)] := by
  have := runs_fold l [] 0
  rwa [List.nil_append] at this
theorem stsR_zero {xs : List Int} {x : Int} (h : x = 0) : stsR (xs ++ [x]) = ((stsR xs).1, (stsR xs).2 + 1) := by simp [stsR, stpR, h]
theorem stsR_some {xs : List Int} {x : Int} (h : x ≠ 0) : stsR (xs ++ [x]) = ((stsR xs).1 ++ [((stsR xs).2 : Int)], 0) := by simp [stsR, stpR, h]
theorem stsR_le (xs : List Int) : (stsR xs).1.length ≤ xs.length ∧ (stsR xs).2 ≤ xs.length := by
  suffices ∀ ys : List Int, (stsR ys.reverse).1.length ≤ ys.length ∧ (stsR ys.reverse).2 ≤ ys.length by
    have := this xs.reverse
    rwa [List.reverse_reverse, List.length_reverse] at this
  intro ys
  induction ys with
  | nil => exact ⟨Nat.le_refl _, Nat.le_refl _⟩
  | cons y ys ih =>
    rw [List.reverse_cons, List.length_cons]
    by_cases hy : y = 0
    · rw [stsR_zero hy]; exact ⟨Nat.le_succ_of_le ih.1, Nat.succ_le_succ ih.2⟩
    · rw [stsR_some hy]; refine ⟨?_, Nat.zero_le _⟩
      show (_ ++ [_]).length ≤ _
      rw [List.length_append]
      have := ih.1
      simp; omega
theorem runsF_eq (n : Nat) (l : List Int) : runsF n l = if lz l < l.length then ((n + lz l : Nat) : Int) :: runsF 0 (l.drop (lz l + 1)) else [((n + lz l : Nat) : Int)] := by
  induction l generalizing n with
  | nil => rw [runsF, if_neg (by simp [lz])]; simp [lz]
  | cons x xs ih =>
    rw [runsF]
    by_cases hx : x = 0
    · have e : lz (x :: xs) = lz xs + 1 := by rw [lz, if_pos hx]
      rw [if_pos hx, ih (n + 1), e]
      by_cases h : lz xs < xs.length
      · rw [if_pos h, if_pos (by simpa using h), List.drop_succ_cons, show n + (lz xs + 1) = n + 1 + lz xs by omega]
      · rw [if_neg h, if_neg (by simpa using h), show n + (lz xs + 1) = n + 1 + lz xs by omega]
    · have e : lz (x :: xs) = 0 := by rw [lz, if_neg hx]
      rw [if_neg hx, e, if_pos (by simp)]
      simp
theorem runsF_length (n : Nat) (l : List Int) : (runsF n l).length ≤ l.length + 1 := by
  induction l generalizing n with
  | nil => simp [runsF]
  | cons x xs ih =>
    rw [runsF]
    split
    · have := ih (n + 1); simp; omega
    · have := ih 0; simp; omega
/-- Noughts alone. -/
theorem lz_zero (n : Nat) : lz (List.replicate n 0) = n := by
  induction n with
  | zero => rfl
  | succ n ih => rw [List.replicate_succ, lz, if_pos rfl, ih]
theorem items_zero (n : Nat) : items 0 (List.replicate n (0 : Int)) = tailI n := by
  rw [items_eq, dif_neg (by rw [lz_zero]; simp), lz_zero, Nat.zero_add]
  rfl
end Go.Proofs.Ytjboboaccjbebaa
