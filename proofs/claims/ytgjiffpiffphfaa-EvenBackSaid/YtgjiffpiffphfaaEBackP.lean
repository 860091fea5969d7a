/- Plain law of layer 8: codes that stand ahead are read as their numbers; what is read stood ahead as its code. -/
import Derived.Test.YtgjiffpiffphfaaEvenGA
import Derived.Test.YtgjiffpiffphfaaSegP
namespace Go.Proofs.Ytgjiffpiffphfaa
open Go.RowKit

/-- A code that stands ahead is read as its number. -/
theorem egT_code' {L T : List Bool} {i v n : Nat} (h1 : 1 ≤ n) (hn : n ≤ 1099511627776) (hv : v < n) (h : L.drop i = codeE v n ++ T) (hi : i ≤ L.length) : egT L i n = (v, 0, i + costE v n) := by
  obtain ⟨hf1, hf2, hf3⟩ := eS_fits h1 hn hv
  obtain ⟨hb, hnb⟩ := eB_le n h1 hn
  rw [egT]
  by_cases h0 : eB n = 0
  · have e1 : n = 1 := by rw [h0] at hnb; omega
    subst e1
    obtain rfl : v = 0 := by omega
    rw [if_pos h0]
    rfl
  rw [if_neg h0]
  have hm : ((eB n : Int) - 1) = ((eB n - 1 : Nat) : Int) := by omega
  rw [hm]
  by_cases hlt : v < eS n
  · unfold codeE at h
    rw [if_pos hlt] at h
    obtain ⟨g1, g2, g3, _, _⟩ := get_seg h (hf1 hlt).2 (by omega) hi
    rw [g1, g2, g3, if_neg (by simp), if_pos hlt]
    unfold costE
    rw [if_pos hlt]
  · unfold codeE at h
    have hbb : eB n = (eB n - 1) + 1 := by omega
    rw [if_neg hlt, hbb, bitsOf_add, List.append_assoc] at h
    have e2 : 2 ^ eB n = 2 * 2 ^ (eB n - 1) := by
      rw [show 2 * 2 ^ (eB n - 1) = 2 ^ (eB n - 1 + 1) from by rw [Nat.pow_succ]; omega, ← hbb]
    have hxl : (v + eS n) / 2 ^ 1 < 2 ^ (eB n - 1) := by omega
    obtain ⟨g1, g2, g3, g4, g5⟩ := get_seg h hxl (by omega) hi
    rw [← bitsOf_mod (v + eS n) 1 1 (Nat.le_refl _)] at g4
    obtain ⟨k1, k2, k3, _, _⟩ := get_seg g4 (by omega) (by omega) g5
    rw [show ((1 : Nat) : Int) = 1 from rfl] at k1 k2 k3
    rw [g1, g2, g3, k1, k2, k3, if_neg (by simp), if_neg (by omega), if_neg (by simp)]
    unfold costE
    rw [if_neg hlt, show i + (eB n - 1) + 1 = i + eB n by omega, show 2 * ((v + eS n) / 2 ^ 1) + (v + eS n) % 2 ^ 1 - eS n = v by omega]

theorem wid_pos {n : Nat} (h : eB n = 0) (h1 : 1 ≤ n) (hn : n ≤ 1099511627776) : n = 1 := by
  have := (eB_le n h1 hn).2
  rw [h] at this
  omega
/-- What is read stood ahead as its code. -/
theorem egT_conv {L : List Bool} {i n : Nat} (h1 : 1 ≤ n) (hn : n ≤ 1099511627776) (hi : i ≤ L.length) (h : (egT L i n).2.1 = 0) :
    (egT L i n).1 < n ∧ (egT L i n).2.2 = i + costE (egT L i n).1 n ∧ (egT L i n).2.2 ≤ L.length ∧ L.drop i = codeE (egT L i n).1 n ++ L.drop (egT L i n).2.2 := by
  obtain ⟨hb, hnb⟩ := eB_le n h1 hn
  have hf := eS_fits (v := n - 1) h1 hn (by omega)
  rw [egT] at h ⊢
  by_cases h0 : eB n = 0
  · rw [if_pos h0]
    obtain rfl := wid_pos h0 h1 hn
    exact ⟨by show 0 < 1; omega, by show i = i + costE 0 1; unfold costE; rw [h0]; simp, hi, by show L.drop i = codeE 0 1 ++ L.drop i; unfold codeE; rw [h0]; simp [bitsOf]⟩
  rw [if_neg h0] at h ⊢
  have hm : ((eB n : Int) - 1) = ((eB n - 1 : Nat) : Int) := by omega
  have hse : eS n = 2 ^ eB n - n := rfl
  have e2 : 2 ^ eB n = 2 * 2 ^ (eB n - 1) := by
    rw [show 2 * 2 ^ (eB n - 1) = 2 ^ (eB n - 1 + 1) from by rw [Nat.pow_succ]; omega, show eB n - 1 + 1 = eB n by omega]
  have hn1 : n ≠ 1 := fun e => by subst e; exact h0 wid_zero
  have hg : 2 ^ (eB n - 1) ≤ n - 1 := (wid_ge (n - 1) (by omega) (by omega)).1
  rw [hm] at h ⊢
  by_cases g1 : getErr L i ((eB n - 1 : Nat) : Int) = 0
  · rw [if_neg (by simp [g1])] at h ⊢
    obtain ⟨c1, c2, c3, c4⟩ := get_conv g1
    rw [c3] at h ⊢
    obtain ⟨x, hx⟩ : ∃ x, getVal L i ((eB n - 1 : Nat) : Int) = x := ⟨_, rfl⟩
    rw [hx] at h c1 c4 ⊢
    by_cases hlt : x < eS n
    · rw [if_pos hlt]
      refine ⟨by show x < n; omega, ?_, c2, ?_⟩
      · show i + (eB n - 1) = i + costE x n
        unfold costE; rw [if_pos hlt]
      · show L.drop i = codeE x n ++ L.drop (i + (eB n - 1))
        unfold codeE; rw [if_pos hlt]; exact c1
    · rw [if_neg hlt] at h ⊢
      by_cases g2 : getErr L (i + (eB n - 1)) 1 = 0
      · rw [if_neg (by simp [g2])] at h ⊢
        obtain ⟨d1, d2, d3, d4⟩ := get_conv (m := 1) g2
        rw [show ((1 : Nat) : Int) = 1 from rfl] at d1 d3 d4
        rw [d3] at h ⊢
        obtain ⟨y, hy⟩ : ∃ y, getVal L (i + (eB n - 1)) 1 = y := ⟨_, rfl⟩
        rw [hy] at h d1 d4 ⊢
        have hv : 2 * x + y - eS n < n := by omega
        have hnl : ¬ 2 * x + y - eS n < eS n := by omega
        have e3 : 2 * x + y - eS n + eS n = 2 * x + y := by omega
        refine ⟨hv, ?_, ?_, ?_⟩
        · show i + (eB n - 1) + 1 = i + costE (2 * x + y - eS n) n
          unfold costE; rw [if_neg hnl]; omega
        · show i + (eB n - 1) + 1 ≤ L.length
          exact d2
        · show L.drop i = codeE (2 * x + y - eS n) n ++ L.drop (i + (eB n - 1) + 1)
          unfold codeE
          rw [if_neg hnl, e3, show eB n = (eB n - 1) + 1 by omega, bitsOf_add, show (eB n - 1) + 1 - 1 = eB n - 1 by omega, show (2 * x + y) / 2 ^ 1 = x by omega, ← bitsOf_mod (2 * x + y) 1 1 (Nat.le_refl _), show (2 * x + y) % 2 ^ 1 = y by omega, c1, d1, List.append_assoc]
      · rw [if_pos g2] at h
        exact absurd h g2
  · rw [if_pos g1] at h
    exact absurd h g1
theorem codesE_snoc (xs : List Nat) (x : Nat) (n : Nat) : codesE (xs ++ [x]) n = codesE xs n ++ codeE x n := by simp [codesE]
/-- Codes that stand at the start are read as their numbers. -/
theorem egS_codes {L T : List Bool} {k : Nat} (h1 : 1 ≤ k) (h2 : k ≤ 1099511627776) : ∀ (n : Nat) (xs : List Nat), n ≤ xs.length → (∀ x ∈ xs, x < k) → L = codesE xs k ++ T → egS L k 0 n = .ok (xs.take n, (codesE (xs.take n) k).length)
  | 0, xs, _, _, _ => by rw [egS]; simp [codesE]
  | n + 1, xs, hn, hx, hL => by
    have e := egS_codes h1 h2 n xs (by omega) hx hL
    have hlt : n < xs.length := by omega
    have hs : xs.take (n + 1) = xs.take n ++ [xs[n]] := List.take_succ_eq_append_getElem hlt
    have hxn := hx xs[n] (List.getElem_mem _)
    have hd : L.drop (codesE (xs.take n) k).length = codeE xs[n] k ++ (codesE (xs.drop (n + 1)) k ++ T) := by
      have e3 : xs = xs.take n ++ xs[n] :: xs.drop (n + 1) := by rw [← List.drop_eq_getElem_cons hlt, List.take_append_drop]
      have e2 : codesE xs k = codesE (xs.take n) k ++ (codeE xs[n] k ++ codesE (xs.drop (n + 1)) k) := by
        refine (congrArg (codesE · k) e3).trans ?_
        simp only [codesE, List.flatMap_append, List.flatMap_cons]
      rw [hL, e2, List.append_assoc, List.drop_left, List.append_assoc]
    have hle : (codesE (xs.take n) k).length ≤ L.length := by
      have e2 : codesE xs k = codesE (xs.take n) k ++ codesE (xs.drop n) k := by
        refine (congrArg (codesE · k) (List.take_append_drop n xs).symm).trans ?_
        simp only [codesE, List.flatMap_append]
      rw [hL, e2, List.append_assoc, List.length_append]
      omega
    rw [egS_step e, egT_code' h1 h2 hxn hd hle, if_pos rfl, hs, codesE_snoc, List.length_append, codeE_length]
/-- Numbers that are got stood at the start as their codes. -/
theorem egS_conv {L : List Bool} {k : Nat} (h1 : 1 ≤ k) (h2 : k ≤ 1099511627776) : ∀ (n : Nat) (l : List Nat) (j : Nat), egS L k 0 n = .ok (l, j) → (∀ x ∈ l, x < k) ∧ j = (codesE l k).length ∧ j ≤ L.length ∧ L = codesE l k ++ L.drop j
  | 0, l, j, h => by
    rw [egS] at h
    injection h with h
    injection h with e1 e2
    subst e1 e2
    simp [codesE]
  | n + 1, l, j, h => by
    rw [egS] at h
    cases e : egS L k 0 n with
    | error x => rw [e] at h; cases h
    | ok a =>
      obtain ⟨l', j'⟩ := a
      rw [e] at h
      obtain ⟨c1, c2, c3, c4⟩ := egS_conv h1 h2 n l' j' e
      simp only at h
      split at h
      · rename_i hz
        injection h with h
        injection h with e1 e2
        obtain ⟨d1, d2, d3, d4⟩ := egT_conv h1 h2 c3 hz
        subst e1 e2
        refine ⟨?_, ?_, d3, ?_⟩
        · intro x hx
          rcases List.mem_append.1 hx with hx | hx
          · exact c1 x hx
          · simp at hx; rw [hx]; exact d1
        · rw [d2, codesE_snoc, List.length_append, codeE_length, ← c2]
        · rw [codesE_snoc, List.append_assoc, ← d4]; exact c4
      · cases h
end Go.Proofs.Ytgjiffpiffphfaa
