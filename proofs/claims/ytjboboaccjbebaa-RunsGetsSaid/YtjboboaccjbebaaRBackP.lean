/- Plain law of layer 6: a code that stands ahead is read as its number; what is read stood ahead as its code. -/
import Derived.Test.YtjboboaccjbebaaRiceGA
import Derived.Test.YtjboboaccjbebaaSegP
namespace Go.Proofs.Ytjboboaccjbebaa
open Go.RowKit

theorem rgT_code {L T : List Bool} {i u k : Nat} (hk : k ≤ 30) (hu : u < 1099511627776) (h : L.drop i = codeK u k ++ T) (hi : i ≤ L.length) : rgT L i k = (u, 0, i + costK u k) := by
  rw [rgT]
  by_cases hq : u / 2 ^ k < 24
  · unfold codeK at h
    rw [if_pos hq, List.append_assoc, List.append_assoc] at h
    obtain ⟨g1, g2, g3, g4, g5⟩ := ones_seg (m := 24) h hq hi
    rw [show ((24 : Nat) : Int) = 24 from rfl] at g1 g2 g3
    have hx : u % 2 ^ k < 2 ^ k := Nat.mod_lt _ (Nat.two_pow_pos k)
    rw [← bitsOf_mod u k k (Nat.le_refl _)] at g4
    obtain ⟨k1, k2, k3, _, _⟩ := get_seg g4 hx (by omega) g5
    rw [g1, g2, g3, if_neg (by simp), if_pos hq, k1, k2, k3, if_neg (by simp), Nat.div_add_mod']
    unfold costK
    rw [if_pos hq, show i + u / 2 ^ k + 1 + k = i + (u / 2 ^ k + 1 + k) by omega]
  · unfold codeK at h
    rw [if_neg hq, List.append_assoc] at h
    obtain ⟨g1, g2, g3, g4, g5⟩ := ones_seg_full h hi
    rw [show ((24 : Nat) : Int) = 24 from rfl] at g1 g2 g3
    obtain ⟨k1, k2, k3, _, _⟩ := get_seg g4 (show u < 2 ^ 40 by omega) (by omega) g5
    rw [show ((40 : Nat) : Int) = 40 from rfl] at k1 k2 k3
    rw [g1, g2, g3, if_neg (by simp), if_neg (by omega), k1, k2, k3, if_neg (by simp), if_neg hq]
    unfold costK
    rw [if_neg hq, show i + 24 + 40 = i + 64 by omega]

theorem rgT_conv {L : List Bool} {i k : Nat} (hk : k ≤ 30) (hi : i ≤ L.length) (h : (rgT L i k).2.1 = 0) :
    (rgT L i k).1 < 1099511627776 ∧ (rgT L i k).2.2 = i + costK (rgT L i k).1 k ∧ (rgT L i k).2.2 ≤ L.length ∧ L.drop i = codeK (rgT L i k).1 k ++ L.drop (rgT L i k).2.2 := by
  rw [rgT] at h ⊢
  by_cases h1 : onesErr L i 24 = 0
  · rw [if_neg (by simp [h1])] at h ⊢
    have hp : 2 ^ k ≤ 2 ^ 30 := Nat.pow_le_pow_right (by omega) hk
    rcases ones_conv (m := 24) h1 hi with ⟨v1, v2, v3, v4⟩ | ⟨v1, v2, v3, v4⟩
    · rw [show ((24 : Nat) : Int) = 24 from rfl] at v1 v3
      rw [if_neg (by omega)] at h ⊢
      by_cases h3 : getErr L (onesAt L i 24) 40 = 0
      · rw [if_neg (by simp [h3])] at h ⊢
        obtain ⟨c1, c2, c3, c4⟩ := get_conv (m := 40) h3
        rw [show ((40 : Nat) : Int) = 40 from rfl] at c1 c3 c4
        split at h
        · cases h
        rename_i hq
        rw [if_neg hq]
        rw [v3] at hq c1 c2 c3 c4 ⊢
        obtain ⟨x, hx⟩ : ∃ x, getVal L (i + 24) 40 = x := ⟨_, rfl⟩
        rw [hx] at hq c1 c4 ⊢
        have c5 : x < 1099511627776 := c4
        refine ⟨c5, ?_, ?_, ?_⟩
        · show getAt L (i + 24) 40 = i + costK x k
          rw [c3]; unfold costK; rw [if_neg hq]
        · show getAt L (i + 24) 40 ≤ _
          rw [c3]; exact c2
        · show L.drop i = codeK x k ++ L.drop (getAt L (i + 24) 40)
          rw [c3, v2, c1]
          unfold codeK
          rw [if_neg hq, List.append_assoc]
      · rw [if_pos h3] at h
        exact absurd h h3
    · rw [show ((24 : Nat) : Int) = 24 from rfl] at v1 v2 v3 v4
      rw [if_pos v1] at h ⊢
      by_cases h3 : getErr L (onesAt L i 24) k = 0
      · rw [if_neg (by simp [h3])] at h ⊢
        obtain ⟨c1, c2, c3, c4⟩ := get_conv h3
        rw [v3] at c1 c2 c3 c4 ⊢
        obtain ⟨q, hq⟩ : ∃ q, onesVal L i 24 = q := ⟨_, rfl⟩
        rw [hq] at v1 v2 v4 c1 c2 c3 c4 ⊢
        obtain ⟨x, hx⟩ : ∃ x, getVal L (i + q + 1) (k : Int) = x := ⟨_, rfl⟩
        rw [hx] at c1 c4 ⊢
        have hd : (q * 2 ^ k + x) / 2 ^ k = q := by
          rw [Nat.mul_comm, Nat.mul_add_div (Nat.two_pow_pos k), Nat.div_eq_of_lt c4, Nat.add_zero]
        have hmm : (q * 2 ^ k + x) % 2 ^ k = x := by rw [Nat.mul_comm, Nat.mul_add_mod, Nat.mod_eq_of_lt c4]
        have hlt : q * 2 ^ k + x < 1099511627776 := by
          have := Nat.mul_le_mul (show q ≤ 23 by omega) hp
          omega
        refine ⟨hlt, ?_, ?_, ?_⟩
        · show getAt L (i + q + 1) k = i + costK (q * 2 ^ k + x) k
          rw [c3]; unfold costK; rw [hd, if_pos v1]; omega
        · show getAt L (i + q + 1) k ≤ _
          rw [c3]; exact c2
        · show L.drop i = codeK (q * 2 ^ k + x) k ++ L.drop (getAt L (i + q + 1) k)
          rw [c3, v2, c1]
          unfold codeK
          rw [hd, if_pos v1, ← bitsOf_mod (q * 2 ^ k + x) k k (Nat.le_refl _), hmm]
          simp
      · rw [if_pos h3] at h
        exact absurd h h3
  · rw [if_pos h1] at h
    exact absurd h h1
theorem rgT_bad {L : List Bool} {i k : Nat} (h : (rgT L i k).2.1 ≠ 0) : (rgT L i k).1 = 0 := by
  rw [rgT] at h ⊢
  split
  · rfl
  · rename_i h1
    rw [if_neg h1] at h
    split
    · rename_i h2
      rw [if_pos h2] at h
      split
      · rfl
      · rename_i h3
        rw [if_neg h3] at h
        exact absurd rfl h
    · rename_i h2
      rw [if_neg h2] at h
      split
      · rfl
      · rename_i h3
        rw [if_neg h3] at h
        split
        · rfl
        · rename_i h4
          rw [if_neg h4] at h
          exact absurd rfl h
theorem codesR_snoc (xs : List Nat) (x : Nat) (k : Int) : codesR (xs ++ [x]) k = codesR xs k ++ codeR x k := by simp [codesR]
theorem codeR_ok {u : Nat} {k : Nat} (hk : k ≤ 30) (hu : u < 1099511627776) : codeR u (k : Int) = codeK u k := by
  unfold codeR
  rw [if_pos ⟨(paramB_iff _).2 (by omega), (mayB_iff u).2 hu⟩, Int.toNat_natCast]
/-- Codes that stand at the start are read as their numbers. -/
theorem rgS_codes {L T : List Bool} {k : Nat} (hk : k ≤ 30) : ∀ (n : Nat) (xs : List Nat), n ≤ xs.length → (∀ x ∈ xs, x < 1099511627776) → L = codesR xs k ++ T → rgS L k 0 n = .ok (xs.take n, (codesR (xs.take n) k).length)
  | 0, xs, _, _, _ => by rw [rgS]; simp [codesR]
  | n + 1, xs, hn, hx, hL => by
    have e := rgS_codes hk n xs (by omega) hx hL
    have hlt : n < xs.length := by omega
    have hs : xs.take (n + 1) = xs.take n ++ [xs[n]] := List.take_succ_eq_append_getElem hlt
    have hxn := hx xs[n] (List.getElem_mem _)
    have hd : L.drop (codesR (xs.take n) k).length = codeK xs[n] k ++ (codesR (xs.drop (n + 1)) k ++ T) := by
      have e3 : xs = xs.take n ++ xs[n] :: xs.drop (n + 1) := by rw [← List.drop_eq_getElem_cons hlt, List.take_append_drop]
      have e2 : codesR xs k = codesR (xs.take n) k ++ (codeR xs[n] k ++ codesR (xs.drop (n + 1)) k) := by
        refine (congrArg (codesR · k) e3).trans ?_
        simp only [codesR, List.flatMap_append, List.flatMap_cons]
      rw [hL, e2, codeR_ok hk hxn, List.append_assoc, List.drop_left, List.append_assoc]
    have hle : (codesR (xs.take n) k).length ≤ L.length := by
      have e2 : codesR xs k = codesR (xs.take n) k ++ codesR (xs.drop n) k := by
        refine (congrArg (codesR · k) (List.take_append_drop n xs).symm).trans ?_
        simp only [codesR, List.flatMap_append]
      rw [hL, e2, List.append_assoc, List.length_append]
      omega
    rw [rgS_step e, rgT_code hk hxn hd hle, if_pos rfl, hs, codesR_snoc, codeR_ok hk hxn, List.length_append, codeK_length]
end Go.Proofs.Ytjboboaccjbebaa
