/- Layer 8: cost, Cost, Put; the reference's Span, Short, Code. -/
import Derived.Test.YtgjiffpiffphfaaEvenG
import Derived.Test.YtgjiffpiffphfaaCode06
namespace Go.Proofs.Ytgjiffpiffphfaa
open Go.RowKit

theorem refspan_any (n : Nat) (w : World) : Calls Try.prog 34 #[.int .u64 (n : Int)] w fun e w' => e = .returned (.bool (spanB n)) ∧ w = w' := by
  by_cases h1 : 1 ≤ n
  · by_cases h2 : n ≤ 1099511627776
    · have e : spanB n = true := by unfold spanB; rw [decide_eq_true_iff]; omega
      rw [e]
      clear e
      go_enter Try.func34, Try.ntmps34
      go_wp2_with fail
      go_ret
      exact ⟨by first | (simp; done) | (simp; omega), rfl⟩
    · have e : spanB n = false := by unfold spanB; rw [decide_eq_false_iff_not]; omega
      rw [e]
      clear e
      go_enter Try.func34, Try.ntmps34
      go_wp2_with fail
      go_ret
      exact ⟨by first | (simp; done) | (simp; omega), rfl⟩
  · have e : spanB n = false := by unfold spanB; rw [decide_eq_false_iff_not]; omega
    rw [e]
    clear e
    go_enter Try.func34, Try.ntmps34
    go_wp2_with fail
    go_ret
    exact ⟨by first | (simp; done) | (simp; omega), rfl⟩

theorem refshort_any (n : Nat) (w : World) (h1 : 1 ≤ n) (hn : n ≤ 1099511627776) : Calls Try.prog 77 #[.int .u64 (n : Int)] w fun e w' => e = .returned (.int .u64 (eS n : Nat)) ∧ w = w' := by
  obtain ⟨hb, hs⟩ := eB_le n h1 hn
  have HC := refwidth_at ((n : Int) - 1) (n - 1) (by omega) w (by omega)
  rw [show wid (n - 1) = eB n from rfl] at HC
  have hes : eS n = 2 ^ eB n - n := rfl
  obtain ⟨b, hbe⟩ : ∃ b, eB n = b := ⟨_, rfl⟩
  rw [hbe] at hb hs HC hes
  have hp : 2 ^ b ≤ 2 ^ 40 := Nat.pow_le_pow_right (by omega) hb
  have HPW := power_at (b : Int) b rfl w (by omega)
  have e : (2 : Int) ^ b = ((2 ^ b : Nat) : Int) := (Int.natCast_pow 2 b).symm
  rw [e] at HPW
  obtain ⟨P, hP⟩ : ∃ P, 2 ^ b = P := ⟨_, rfl⟩
  rw [hP] at hs hes hp HPW
  rw [hes]
  clear e hP hes hbe
  replace hp : P ≤ 1099511627776 := hp
  replace HC := hid HC
  replace HPW := hid HPW
  have HE := hid (show ((P : Int) - n) = ((P - n : Nat) : Int) by omega)
  go_enter Try.func77, Try.ntmps77
  go_wp2_with fail
  with_reducible refine HC.out.mono ?_
  rintro e w1 ⟨rfl, rfl⟩
  go_wp2_with fail
  with_reducible refine HPW.out.mono ?_
  rintro e w1 ⟨rfl, rfl⟩
  go_wp2_with fail
  go_ret
  exact ⟨by rw [← HE.out]; rfl, rfl⟩

/-- The code of a number, if there is one. -/
def codeF (v n : Nat) : List Bool := if spanB n = true ∧ v < n then codeE v n else []
def costF (v n : Nat) : Nat := if spanB n = true ∧ v < n then costE v n else 0
theorem codeF_length (v n : Nat) : (codeF v n).length = costF v n := by
  unfold codeF costF
  split
  · exact codeE_length _ _
  · rfl
theorem codeE_one (v : Nat) : codeE v 1 = if v < 0 then bitsOf v (0 - 1) else bitsOf (v + 0) 0 := rfl

set_option maxRecDepth 100000 in
theorem refcode08_none (v n : Nat) (w : World) (h : ¬ (spanB n = true ∧ v < n) ∨ n = 1) :
    Calls Try.prog 39 #[.int .u64 (v : Int), .int .u64 (n : Int)] w fun e w' => e = .returned (.slice none 0 0) ∧ w = w' := by
  have HP := refspan_any n w
  have HH := hid h
  obtain ⟨b, hb⟩ : ∃ b, spanB n = b := ⟨_, rfl⟩
  rw [hb] at HP HH
  clear hb h
  replace HP := hid HP
  cases b
  · go_enter Try.func39, Try.ntmps39
    go_wp2_with fail
    with_reducible refine HP.out.mono ?_
    rintro e w1 ⟨rfl, rfl⟩
    go_wp2_with fail
    go_ret
    exact ⟨rfl, rfl⟩
  · by_cases hv : v < n
    · have h1 : n = 1 := by rcases HH.out with h | h; exact absurd ⟨rfl, hv⟩ h; exact h
      have hv' : ¬ (n : Int) ≤ v := by omega
      have hn1 : ((n : Int) == 1) = true := by rw [beq_iff_eq]; omega
      clear h1
      go_enter Try.func39, Try.ntmps39
      go_wp2_with fail
      with_reducible refine HP.out.mono ?_
      rintro e w1 ⟨rfl, rfl⟩
      go_wp2_with fail
      go_ret
      exact ⟨rfl, rfl⟩
    · have hv' : (n : Int) ≤ v := by omega
      go_enter Try.func39, Try.ntmps39
      go_wp2_with fail
      with_reducible refine HP.out.mono ?_
      rintro e w1 ⟨rfl, rfl⟩
      go_wp2_with fail
      go_ret
      exact ⟨rfl, rfl⟩

set_option maxRecDepth 100000 in
theorem refcode08_ok (v n : Nat) (w : World) (h1 : 1 < n) (hn : n ≤ 1099511627776) (hv : v < n) :
    Calls Try.prog 39 #[.int .u64 (v : Int), .int .u64 (n : Int)] w (CodeS w (codeE v n) (costE v n)) := by
  have HP := refspan_any n w
  rw [(spanB_iff n).2 ⟨by omega, hn⟩] at HP
  replace HP := hid HP
  have HW := refwidth_at ((n : Int) - 1) (n - 1) (by omega) w (by omega)
  rw [show wid (n - 1) = eB n from rfl] at HW
  have HS := refshort_any n w (by omega) hn
  obtain ⟨hf1, hf2, hf3⟩ := eS_fits (v := v) (by omega) hn hv
  have hb := (eB_le n (by omega) hn).1
  have HC := hid (And.intro (codeE.eq_1 v n) (costE.eq_1 v n))
  obtain ⟨b, hbe⟩ : ∃ b, eB n = b := ⟨_, rfl⟩
  obtain ⟨s, hse⟩ : ∃ s, eS n = s := ⟨_, rfl⟩
  rw [hbe] at hf1 hf2 hf3 hb HC HW
  rw [hse] at hf1 hf2 HC HS
  replace HW := hid HW
  replace HS := hid HS
  have hsb : v + s < 1099511627776 := by omega
  have hv' : ¬ (n : Int) ≤ v := by omega
  have hn1 : ((n : Int) == 1) = false := by rw [beq_eq_false_iff_ne]; omega
  clear hf2 hf3 hbe hse
  by_cases hlt : v < s
  · have hlt' : (v : Int) < s := by omega
    have hb1 := (hf1 hlt).1
    clear hf1
    go_enter Try.func39, Try.ntmps39
    go_wp2_with fail
    with_reducible refine HP.out.mono ?_
    rintro e w1 ⟨rfl, rfl⟩
    go_wp2_with fail
    with_reducible refine HW.out.mono ?_
    rintro e w1 ⟨rfl, rfl⟩
    go_wp2_with fail
    with_reducible refine HS.out.mono ?_
    rintro e w1 ⟨rfl, rfl⟩
    go_wp2_with fail
    have HCC := bits_sl (v : Int) ((b : Int) - 1) v (b - 1) rfl (by omega) w (by omega) (by omega)
    with_reducible refine HCC.mono ?_
    clear HCC
    rintro e w1 ⟨A1, c1, rfl, hf⟩
    have HF := hid hf
    clear hf
    go_wp2_with fail
    go_ret
    rw [HC.out.1, HC.out.2, if_pos hlt, if_pos hlt]
    exact ⟨A1, c1, rfl, HF.out⟩
  · have hlt' : ¬ (v : Int) < s := by omega
    clear hf1
    go_enter Try.func39, Try.ntmps39
    go_wp2_with fail
    with_reducible refine HP.out.mono ?_
    rintro e w1 ⟨rfl, rfl⟩
    go_wp2_with fail
    with_reducible refine HW.out.mono ?_
    rintro e w1 ⟨rfl, rfl⟩
    go_wp2_with fail
    with_reducible refine HS.out.mono ?_
    rintro e w1 ⟨rfl, rfl⟩
    go_wp2_with fail
    with_reducible refine HS.out.mono ?_
    rintro e w1 ⟨rfl, rfl⟩
    go_wp2_with fail
    have HCC := bits_sl ((v : Int) + s) (b : Int) (v + s) b (by omega) rfl w (by omega) (by omega)
    with_reducible refine HCC.mono ?_
    clear HCC
    rintro e w1 ⟨A1, c1, rfl, hf⟩
    have HF := hid hf
    clear hf
    go_wp2_with fail
    go_ret
    rw [HC.out.1, HC.out.2, if_neg hlt, if_neg hlt]
    exact ⟨A1, c1, rfl, HF.out⟩

theorem refcode08_any (v n : Nat) (w : World) :
    Calls Try.prog 39 #[.int .u64 (v : Int), .int .u64 (n : Int)] w (CodeS w (codeF v n) (costF v n)) := by
  by_cases h : ¬ (spanB n = true ∧ v < n) ∨ n = 1
  · have e2 : codeF v n = [] := by
      unfold codeF
      by_cases hh : spanB n = true ∧ v < n
      · have e : n = 1 := by rcases h with h | h; exact absurd hh h; exact h
        subst e
        rw [if_pos hh]
        obtain rfl : v = 0 := by omega
        decide +kernel
      · rw [if_neg hh]
    have e1 : costF v n = 0 := by rw [← codeF_length, e2]; rfl
    rw [e1, e2]
    refine (refcode08_none v n w h).mono ?_
    rintro e w' ⟨rfl, rfl⟩
    exact ⟨none, 0, rfl, ⟨World.ownsRow_nil _ _ _ _, .refl _ _, by simp [Value.ownBlock]⟩⟩
  · have hh : spanB n = true ∧ v < n := Decidable.byContradiction fun hc => h (.inl hc)
    have hs := (spanB_iff n).1 hh.1
    have e2 : codeF v n = codeE v n := by unfold codeF; rw [if_pos hh]
    have e1 : costF v n = costE v n := by unfold costF; rw [if_pos hh]
    rw [e1, e2]
    exact refcode08_ok v n w (by omega) hs.2 hh.2

set_option maxRecDepth 100000 in
theorem ecost_any (v n : Nat) (w : World) (h1 : 1 ≤ n) (hn : n ≤ 1099511627776) (hv : v < n) : Calls Try.prog 74 #[.int .u64 (v : Int), .int .u64 (n : Int)] w (DrawnI w (.int .i64 (costE v n : Nat))) := by
  have hf := (eS_fits h1 hn hv).1
  have hb := (eB_le n h1 hn).1
  have HP := hid (parts_any n w h1 hn)
  have HC := hid (costE.eq_1 v n)
  obtain ⟨b, hbe⟩ : ∃ b, eB n = b := ⟨_, rfl⟩
  obtain ⟨s, hse⟩ : ∃ s, eS n = s := ⟨_, rfl⟩
  rw [hbe] at hf hb HC HP
  rw [hse] at hf HC HP
  clear hbe hse
  by_cases hlt : v < s
  · have hlt' : (v : Int) < s := by omega
    have hb1 := (hf hlt).1
    have HB := hid (show ((b : Int) - 1) = ((b - 1 : Nat) : Int) by omega)
    clear hf
    go_enter Try.func74, Try.ntmps74
    go_wp2_with fail
    with_reducible refine HP.out.mono ?_
    rintro e w1 ⟨rfl, m, rfl⟩
    go_wp2_with fail
    go_ret
    rw [HC.out, if_pos hlt, ← HB.out]
    exact ⟨rfl, m, rfl⟩
  · have hlt' : ¬ (v : Int) < s := by omega
    clear hf
    go_enter Try.func74, Try.ntmps74
    go_wp2_with fail
    with_reducible refine HP.out.mono ?_
    rintro e w1 ⟨rfl, m, rfl⟩
    go_wp2_with fail
    go_ret
    rw [HC.out, if_neg hlt]
    exact ⟨rfl, m, rfl⟩

theorem eCost_any (v n : Nat) (w : World) : Calls Try.prog 35 #[.int .u64 (v : Int), .int .u64 (n : Int)] w (DrawnI w (.int .i64 (costF v n : Nat))) := by
  have HP := span_any n w
  have HC := hid (costF.eq_1 v n)
  have HX := hid (spanB_iff n)
  have HE := hid (fun h1 h2 h3 => ecost_any v n w h1 h2 h3)
  obtain ⟨b, hb⟩ : ∃ b, spanB n = b := ⟨_, rfl⟩
  rw [hb] at HP HC HX
  replace HP := hid HP
  clear hb
  cases b
  · go_enter Try.func35, Try.ntmps35
    go_wp2_with fail
    with_reducible refine HP.out.mono ?_
    rintro e w1 ⟨rfl, rfl⟩
    go_wp2_with fail
    go_ret
    rw [HC.out, if_neg (by simp)]
    exact ⟨rfl, 0, rfl⟩
  · by_cases hv : v < n
    · have hv' : ¬ (n : Int) ≤ v := by omega
      obtain ⟨h1, h2⟩ := HX.out.1 (by simp)
      have HEE := hid (HE.out h1 h2 hv)
      clear HE h1 h2
      go_enter Try.func35, Try.ntmps35
      go_wp2_with fail
      with_reducible refine HP.out.mono ?_
      rintro e w1 ⟨rfl, rfl⟩
      go_wp2_with fail
      with_reducible refine HEE.out.mono ?_
      rintro e w1 ⟨rfl, m, rfl⟩
      go_wp2_with fail
      go_ret
      rw [HC.out, if_pos (by exact ⟨by simp, hv⟩)]
      exact ⟨rfl, m, rfl⟩
    · have hv' : (n : Int) ≤ v := by omega
      have HV := hid hv
      go_enter Try.func35, Try.ntmps35
      go_wp2_with fail
      with_reducible refine HP.out.mono ?_
      rintro e w1 ⟨rfl, rfl⟩
      go_wp2_with fail
      go_ret
      rw [HC.out, if_neg (fun h => HV.out h.2)]
      exact ⟨rfl, 0, rfl⟩
end Go.Proofs.Ytgjiffpiffphfaa
