/- CoefNears: the plain law, and its walk. -/
import Derived.Test.YtfbccmogiafgfaaKnown12
namespace Go.Proofs.Ytfbccmogiafgfaa
open Go.RowKit

/-- Rounding is to the next one. -/
theorem rnd_near (y : Int) (m : Nat) : 2 * (y - rnd y (m + 1) * (2 * 2 ^ m)) < 2 * 2 ^ m ∧ -(2 * 2 ^ m) ≤ 2 * (y - rnd y (m + 1) * (2 * 2 ^ m)) := by
  unfold rnd
  simp only [Nat.add_sub_cancel]
  have hp := pow_pos_int m
  have h1 := Int.mul_ediv_add_emod y (2 ^ m)
  have h2 := Int.emod_nonneg y (show (2 : Int) ^ m ≠ 0 by omega)
  have h3 := Int.emod_lt_of_pos y hp
  generalize y / 2 ^ m = h at *
  generalize y % 2 ^ m = r at *
  generalize (2 : Int) ^ m = p at *
  have e3 : p * (2 * (h / 2) + h % 2) = 2 * p * (h / 2) + p * (h % 2) := by rw [Int.mul_add, ← Int.mul_assoc, Int.mul_comm p 2]
  rw [show 2 * (h / 2) + h % 2 = h by omega] at e3
  have e4 : (h / 2 + h % 2) * (2 * p) = 2 * p * (h / 2) + (h % 2) * (2 * p) := by rw [Int.add_mul, Int.mul_comm (h / 2)]
  rcases (show h % 2 = 0 ∨ h % 2 = 1 by omega) with e | e
  · rw [e] at e3 e4 ⊢
    omega
  · rw [e] at e3 e4 ⊢
    omega

theorem mul_le_of {a b p : Int} (hp : 0 < p) (h : a * p < (b + 1) * p) : a ≤ b := by
  have := Int.lt_of_mul_lt_mul_right h (by omega)
  omega

/-- A step of Quant's loop where nothing is too great. -/
theorem step_near (x r T : Int) (m : Nat) (hm : m ≤ 23) (hT2 : T ≤ 32766) (h1 : x ≤ T * (2 * 2 ^ m)) (h2 : -(T * (2 * 2 ^ m)) ≤ x) (hr1 : 2 * r < 2 * 2 ^ m) (hr2 : -(2 * 2 ^ m) ≤ 2 * r) :
    nearI x = x ∧ clampI (rnd (x + r) (m + 1)) (-(T + 1)) (T + 1) = rnd (x + r) (m + 1) ∧ nearI (x + r - rnd (x + r) (m + 1) * 2 ^ (m + 1)) = x + r - rnd (x + r) (m + 1) * 2 ^ (m + 1) := by
  have hp := pow_pos_int m
  have hp2 : (2 : Int) ^ m ≤ 8388608 := pow_le_int (n := 23) hm
  have hTP : T * (2 * 2 ^ m) ≤ 32766 * (2 * 2 ^ m) := Int.mul_le_mul_of_nonneg_right hT2 (by omega)
  obtain ⟨hn1, hn2⟩ := rnd_near (x + r) m
  rw [pow_succ_int]
  generalize rnd (x + r) (m + 1) = q at *
  generalize (2 : Int) ^ m = p at *
  have eT : (T + 1) * (2 * p) = T * (2 * p) + 2 * p := by rw [Int.add_mul, Int.one_mul]
  have eT2 : (T + 1 + 1) * (2 * p) = T * (2 * p) + 2 * p + 2 * p := by rw [Int.add_mul, eT, Int.one_mul]
  have eN : (-q) * (2 * p) = -(q * (2 * p)) := by rw [Int.neg_mul]
  refine ⟨clampI_id _ _ _ (by omega) (by omega), clampI_id _ _ _ ?_ ?_, clampI_id _ _ _ (by omega) (by omega)⟩
  · have : -q ≤ T + 1 := mul_le_of (p := 2 * p) (by omega) (by rw [eT2, eN]; omega)
    omega
  · exact mul_le_of (p := 2 * p) (by omega) (by rw [eT2]; omega)

/-- What is left over stays within half a unit, and each coefficient is near what it stands for. -/
theorem quant_near (T : Int) (m : Nat) (hm : m ≤ 23) (hT2 : T ≤ 32766) (xs : List Int) : (∀ x ∈ xs, x ≤ T * 2 ^ (m + 1) ∧ -(T * 2 ^ (m + 1)) ≤ x) →
    (2 * (quantS (T + 1) (m + 1) xs).2 < 2 * 2 ^ m ∧ -(2 * 2 ^ m) ≤ 2 * (quantS (T + 1) (m + 1) xs).2) ∧
    ∀ (i : Nat) (x q : Int), xs[i]? = some x → (quantS (T + 1) (m + 1) xs).1[i]? = some q → 2 * (x - q * 2 ^ (m + 1)) < 3 * 2 ^ (m + 1) ∧ -(3 * 2 ^ (m + 1)) < 2 * (x - q * 2 ^ (m + 1)) := by
  suffices hrev : ∀ ys : List Int, (∀ x ∈ ys.reverse, x ≤ T * 2 ^ (m + 1) ∧ -(T * 2 ^ (m + 1)) ≤ x) →
      (2 * (quantS (T + 1) (m + 1) ys.reverse).2 < 2 * 2 ^ m ∧ -(2 * 2 ^ m) ≤ 2 * (quantS (T + 1) (m + 1) ys.reverse).2) ∧
      ∀ (i : Nat) (x q : Int), ys.reverse[i]? = some x → (quantS (T + 1) (m + 1) ys.reverse).1[i]? = some q → 2 * (x - q * 2 ^ (m + 1)) < 3 * 2 ^ (m + 1) ∧ -(3 * 2 ^ (m + 1)) < 2 * (x - q * 2 ^ (m + 1)) by
    have := hrev xs.reverse
    rwa [List.reverse_reverse] at this
  intro ys
  induction ys with
  | nil =>
    intro _
    have hp := pow_pos_int m
    refine ⟨by simp [quantS]; omega, by simp⟩
  | cons x ys ih =>
    rw [List.reverse_cons]
    intro h
    obtain ⟨⟨hr1, hr2⟩, hall⟩ := ih fun z hz => h z (List.mem_append_left _ hz)
    obtain ⟨hx1, hx2⟩ := h x (by simp)
    rw [pow_succ_int] at hx1 hx2
    obtain ⟨e1, e2, e3⟩ := step_near x (quantS (T + 1) (m + 1) ys.reverse).2 T m hm hT2 hx1 hx2 hr1 hr2
    have hlen := quantS_length (T + 1) (m + 1) ys.reverse
    rw [quantS_snoc, qStep, e1, e2, e3]
    obtain ⟨hn1, hn2⟩ := rnd_near (x + (quantS (T + 1) (m + 1) ys.reverse).2) m
    generalize hst : quantS (T + 1) (m + 1) ys.reverse = st at *
    rw [pow_succ_int] at *
    refine ⟨⟨hn1, hn2⟩, fun i z q hz hq => ?_⟩
    by_cases hi : i < ys.reverse.length
    · rw [List.getElem?_append_left hi] at hz
      rw [List.getElem?_append_left (by omega)] at hq
      exact hall i z q hz hq
    · have hi' : i = ys.reverse.length := by
        have := (List.getElem?_eq_some_iff.1 hz).1
        simp at this hi ⊢
        omega
      subst hi'
      rw [List.getElem?_append_right (Nat.le_refl _), Nat.sub_self] at hz
      rw [List.getElem?_append_right (by omega), hlen, Nat.sub_self] at hq
      simp at hz hq
      subst hz hq
      generalize rnd (x + st.2) (m + 1) = q at *
      generalize (2 : Int) ^ m = p at *
      omega
end Go.Proofs.Ytfbccmogiafgfaa
