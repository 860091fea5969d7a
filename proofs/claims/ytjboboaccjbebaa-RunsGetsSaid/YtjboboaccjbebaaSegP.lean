/- Plain law of reading: bits that stand ahead are read as their number; what is read stood ahead. No program in sight. -/
import Derived.Test.YtjboboaccjbebaaROnes
import Derived.Test.YtjboboaccjbebaaGetFit
namespace Go.Proofs.Ytjboboaccjbebaa
open Go.RowKit

/-- What is got stood ahead. -/
theorem get_conv {L : List Bool} {i m : Nat} (h : getErr L i (m : Int) = 0) :
    L.drop i = bitsOf (getVal L i (m : Int)) m ++ L.drop (i + m) ∧ i + m ≤ L.length ∧ getAt L i (m : Int) = i + m ∧ getVal L i (m : Int) < 2 ^ m := by
  unfold getErr at h
  split at h
  · cases h
  split at h
  · cases h
  have hl : ((L.drop i).take m).length = m := by rw [List.length_take, List.length_drop]; omega
  have hv : getVal L i (m : Int) = valOf ((L.drop i).take m) := by unfold getVal; rw [if_neg (by omega), Int.toNat_natCast]
  refine ⟨?_, by omega, ?_, ?_⟩
  · have e := bitsOf_valOf ((L.drop i).take m)
    rw [hl] at e
    rw [hv, e, ← List.drop_drop, List.take_append_drop]
  · unfold getAt; rw [if_neg (by omega), Int.toNat_natCast]
  · rw [hv]
    have := valOf_lt ((L.drop i).take m)
    rwa [hl] at this
theorem ones_split (l : List Bool) (m : Nat) : ∃ T, l = List.replicate (ones l m) true ++ T ∧ (ones l m = m ∨ T = [] ∨ ∃ T', T = false :: T') ∧ ones l m ≤ m := by
  induction l generalizing m with
  | nil => exact ⟨[], by simp [ones], .inr (.inl rfl), by simp [ones]⟩
  | cons b l ih =>
    rcases m with _ | m
    · exact ⟨b :: l, by simp [ones], .inl (by simp [ones]), by simp [ones]⟩
    · cases b
      · exact ⟨false :: l, by simp [ones], .inr (.inr ⟨l, rfl⟩), by simp [ones]⟩
      · obtain ⟨T, h1, h2, h3⟩ := ih m
        have e : ones (true :: l) (m + 1) = ones l m + 1 := by simp [ones]
        refine ⟨T, ?_, ?_, by omega⟩
        · rw [e, List.replicate_succ, List.cons_append, ← h1]
        · rcases h2 with h2 | h2
          · exact .inl (by omega)
          · exact .inr h2
theorem ones_rep {m q : Nat} {T : List Bool} (hq : q < m) : ones (List.replicate q true ++ false :: T) m = q :=
  ones_is (by omega) (fun j hj => by rw [List.getElem?_append_left (by simpa using hj), List.getElem?_replicate, if_pos hj]) (.inr (by rw [List.getElem?_append_right (by simp)]; simp))
theorem ones_full {m : Nat} {T : List Bool} : ones (List.replicate m true ++ T) m = m :=
  ones_is (Nat.le_refl _) (fun j hj => by rw [List.getElem?_append_left (by simpa using hj), List.getElem?_replicate, if_pos hj]) (.inl rfl)
/-- What Ones counts stood ahead. -/
theorem ones_conv {L : List Bool} {i m : Nat} (h : onesErr L i (m : Int) = 0) (hi : i ≤ L.length) :
    (onesVal L i (m : Int) = m ∧ L.drop i = List.replicate m true ++ L.drop (i + m) ∧ onesAt L i (m : Int) = i + m ∧ i + m ≤ L.length)
    ∨ (onesVal L i (m : Int) < m ∧ L.drop i = (List.replicate (onesVal L i (m : Int)) true ++ [false]) ++ L.drop (i + onesVal L i (m : Int) + 1) ∧ onesAt L i (m : Int) = i + onesVal L i (m : Int) + 1 ∧ i + onesVal L i (m : Int) + 1 ≤ L.length) := by
  obtain ⟨T, h1, h2, h3⟩ := ones_split (L.drop i) m
  have hl := congrArg List.length h1
  rw [List.length_drop, List.length_append, List.length_replicate] at hl
  unfold onesErr at h
  rw [if_neg (by omega), Int.toNat_natCast] at h
  have ev : onesVal L i (m : Int) = if ones (L.drop i) m = m then m else if L.length ≤ i + ones (L.drop i) m then 0 else ones (L.drop i) m := by
    unfold onesVal; rw [if_neg (by omega), Int.toNat_natCast]
  have ea : onesAt L i (m : Int) = if ones (L.drop i) m = m then i + m else if L.length ≤ i + ones (L.drop i) m then i else i + ones (L.drop i) m + 1 := by
    unfold onesAt; rw [if_neg (by omega), Int.toNat_natCast]
  rw [ev, ea]
  clear ev ea
  by_cases hm : ones (L.drop i) m = m
  · left
    simp only [if_pos hm]
    rw [hm] at h1 hl
    have hT : T = L.drop (i + m) := by rw [← List.drop_drop, h1, List.drop_left' (by simp)]
    exact ⟨trivial, hT ▸ h1, trivial, by omega⟩
  · right
    rw [if_neg hm] at h
    simp only [if_neg hm]
    split at h
    · cases h
    rename_i hlt
    simp only [if_neg hlt]
    have hne : T ≠ [] := by intro e; subst e; simp at hl; omega
    obtain ⟨T', rfl⟩ : ∃ T', T = false :: T' := by
      rcases h2 with h2 | h2 | h2
      · exact absurd h2 hm
      · exact absurd h2 hne
      · exact h2
    simp at hl
    refine ⟨by omega, ?_, trivial, by omega⟩
    have hT : T' = L.drop (i + ones (L.drop i) m + 1) := by
      rw [show i + ones (L.drop i) m + 1 = i + (ones (L.drop i) m + 1) by omega, ← List.drop_drop]
      have h4 := congrArg (List.drop (ones (L.drop i) m + 1)) h1
      rw [h4, ← List.drop_drop, List.drop_left' (by simp)]
      rfl
    rw [← hT]
    refine h1.trans ?_
    simp
/-- Bits that stand ahead are got. -/
theorem get_seg {L T : List Bool} {i x m : Nat} (h : L.drop i = bitsOf x m ++ T) (hx : x < 2 ^ m) (hm : m ≤ 64) (hi : i ≤ L.length) :
    getErr L i (m : Int) = 0 ∧ getVal L i (m : Int) = x ∧ getAt L i (m : Int) = i + m ∧ L.drop (i + m) = T ∧ i + m ≤ L.length := by
  obtain ⟨h1, h2⟩ := drop_seg h (bitsOf_length x m)
  have hl := congrArg List.length h
  rw [List.length_drop, List.length_append, bitsOf_length] at hl
  have hle : i + m ≤ L.length := by omega
  refine ⟨?_, ?_, ?_, h2, hle⟩
  · unfold getErr; rw [if_neg (by omega), if_neg (by omega)]
  · unfold getVal; rw [if_neg (by omega), Int.toNat_natCast, h1, valOf_bitsOf, Nat.mod_eq_of_lt hx]
  · unfold getAt; rw [if_neg (by omega), Int.toNat_natCast]
/-- Ones that stand ahead are counted: fewer than m, and a nought. -/
theorem ones_seg {L T : List Bool} {i q m : Nat} (h : L.drop i = List.replicate q true ++ false :: T) (hq : q < m) (hi : i ≤ L.length) :
    onesErr L i (m : Int) = 0 ∧ onesVal L i (m : Int) = q ∧ onesAt L i (m : Int) = i + q + 1 ∧ L.drop (i + q + 1) = T ∧ i + q + 1 ≤ L.length := by
  have ho : ones (L.drop i) m = q := by rw [h]; exact ones_rep hq
  have hl := congrArg List.length h
  rw [List.length_drop, List.length_append, List.length_replicate, List.length_cons] at hl
  have hT : L.drop (i + q + 1) = T := by
    rw [show i + q + 1 = i + (q + 1) by omega, ← List.drop_drop, h, ← List.drop_drop, List.drop_left' (by simp)]; rfl
  refine ⟨?_, ?_, ?_, hT, by omega⟩
  · unfold onesErr; rw [if_neg (by omega), Int.toNat_natCast, ho, if_neg (by omega), if_neg (by omega)]
  · unfold onesVal; rw [if_neg (by omega), Int.toNat_natCast, ho, if_neg (by omega), if_neg (by omega)]
  · unfold onesAt; rw [if_neg (by omega), Int.toNat_natCast, ho, if_neg (by omega), if_neg (by omega)]
theorem ones_seg_full {L T : List Bool} {i m : Nat} (h : L.drop i = List.replicate m true ++ T) (hi : i ≤ L.length) :
    onesErr L i (m : Int) = 0 ∧ onesVal L i (m : Int) = m ∧ onesAt L i (m : Int) = i + m ∧ L.drop (i + m) = T ∧ i + m ≤ L.length := by
  have ho : ones (L.drop i) m = m := by rw [h]; exact ones_full
  have hl := congrArg List.length h
  rw [List.length_drop, List.length_append, List.length_replicate] at hl
  have hT : L.drop (i + m) = T := by rw [← List.drop_drop, h, List.drop_left' (by simp)]
  refine ⟨?_, ?_, ?_, hT, by omega⟩
  · unfold onesErr; rw [if_neg (by omega), Int.toNat_natCast, if_pos ho]
  · unfold onesVal; rw [if_neg (by omega), Int.toNat_natCast, if_pos ho]
  · unfold onesAt; rw [if_neg (by omega), Int.toNat_natCast, if_pos ho]
theorem onesErr_cases (L : List Bool) (i m : Nat) : onesErr L i (m : Int) = 0 ∨ onesErr L i (m : Int) = 10 := by
  unfold onesErr
  rw [if_neg (by omega)]
  split
  · exact .inl rfl
  · split
    · exact .inr rfl
    · exact .inl rfl
end Go.Proofs.Ytjboboaccjbebaa
