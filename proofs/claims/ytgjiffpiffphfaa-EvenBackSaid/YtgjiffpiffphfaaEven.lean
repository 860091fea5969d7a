/- Layer 8: span, parts, cost, Cost, Centre, Off. -/
import Derived.Test.YtgjiffpiffphfaaNumW
import Derived.Test.YtgjiffpiffphfaaPutFit
import Derived.Test.YtgjiffpiffphfaaGetFit
import Derived.Test.YtgjiffpiffphfaaU64
import Derived.Test.YtgjiffpiffphfaaRicePA
import Derived.Test.YtgjiffpiffphfaaInts
import Derived.Test.YtgjiffpiffphfaaCFuncU
namespace Go.Proofs.Ytgjiffpiffphfaa
open Go.RowKit

/-- Is there such a span? -/
def spanB (n : Nat) : Bool := decide (1 ≤ n ∧ n ≤ 1099511627776)
theorem spanB_iff (n : Nat) : spanB n = true ↔ 1 ≤ n ∧ n ≤ 1099511627776 := by unfold spanB; rw [decide_eq_true_iff]
theorem span_any (n : Nat) (w : World) : Calls Try.prog 73 #[.int .u64 (n : Int)] w fun e w' => e = .returned (.bool (spanB n)) ∧ w = w' := by
  by_cases h1 : 1 ≤ n
  · by_cases h2 : n ≤ 1099511627776
    · have e : spanB n = true := by unfold spanB; rw [decide_eq_true_iff]; omega
      rw [e]
      clear e
      go_enter Try.func73, Try.ntmps73
      go_wp2_with fail
      go_ret
      exact ⟨by first | (simp; done) | (simp; omega), rfl⟩
    · have e : spanB n = false := by unfold spanB; rw [decide_eq_false_iff_not]; omega
      rw [e]
      clear e
      go_enter Try.func73, Try.ntmps73
      go_wp2_with fail
      go_ret
      exact ⟨by first | (simp; done) | (simp; omega), rfl⟩
  · have e : spanB n = false := by unfold spanB; rw [decide_eq_false_iff_not]; omega
    rw [e]
    clear e
    go_enter Try.func73, Try.ntmps73
    go_wp2_with fail
    go_ret
    exact ⟨by first | (simp; done) | (simp; omega), rfl⟩

/-- The bits of the greatest number, and how many numbers take one bit less. -/
def eB (n : Nat) : Nat := wid (n - 1)
def eS (n : Nat) : Nat := 2 ^ eB n - n
theorem eB_le (n : Nat) (h : 1 ≤ n) (hn : n ≤ 1099511627776) : eB n ≤ 40 ∧ n ≤ 2 ^ eB n := by
  refine ⟨wid_le (n - 1) 40 (by omega) (by omega), ?_⟩
  have := wid_lt (n - 1) (by omega)
  show n ≤ 2 ^ wid (n - 1)
  omega

set_option maxRecDepth 100000 in
theorem parts_any (n : Nat) (w : World) (h1 : 1 ≤ n) (hn : n ≤ 1099511627776) : Calls Try.prog 90 #[.int .u64 (n : Int)] w (DrawnI w (.tuple #[.int .i64 (eB n : Nat), .int .u64 (eS n : Nat)])) := by
  obtain ⟨hb, hs⟩ := eB_le n h1 hn
  have HC := width_at ((n : Int) - 1) (n - 1) (by omega) w (by omega)
  rw [show wid (n - 1) = eB n from rfl] at HC
  have hes : eS n = 2 ^ eB n - n := rfl
  obtain ⟨b, hbe⟩ : ∃ b, eB n = b := ⟨_, rfl⟩
  rw [hbe] at hb hs HC hes ⊢
  have hp : 2 ^ b ≤ 2 ^ 40 := Nat.pow_le_pow_right (by omega) hb
  have hrule : ∀ Y : Int, Y = (n : Int) → IntKind.u64.wrap (IntKind.u64.wrap (2 ^ b) - Y) = (eS n : Int) := by
    rintro Y rfl
    have e : (2 : Int) ^ b = ((2 ^ b : Nat) : Int) := (Int.natCast_pow 2 b).symm
    rw [e, hes]
    generalize 2 ^ b = p at *
    rw [IntWalk.u64_in (p : Int) (by omega), IntWalk.u64_in _ (by omega)]
    omega
  obtain ⟨s, hse⟩ : ∃ s, eS n = s := ⟨_, rfl⟩
  rw [hse] at hrule ⊢
  clear hes hse hbe hs hp
  replace HC := hid HC
  go_enter Try.func90, Try.ntmps90
  go_wp2_with fail
  with_reducible refine HC.out.mono ?_
  rintro e w1 ⟨rfl, rfl⟩
  go_wp2_with fail
  go_quiet (fail)
  go_wp2_with fail
  go_ret2
  exact ⟨rfl, _, rfl⟩
/-- A number is told in its bits. -/
theorem eS_fits {n v : Nat} (h1 : 1 ≤ n) (hn : n ≤ 1099511627776) (hv : v < n) : (v < eS n → 1 ≤ eB n ∧ v < 2 ^ (eB n - 1)) ∧ v + eS n < 2 ^ eB n ∧ 2 ^ eB n ≤ 1099511627776 := by
  obtain ⟨hb, hs⟩ := eB_le n h1 hn
  have hp : 2 ^ eB n ≤ 2 ^ 40 := Nat.pow_le_pow_right (by omega) hb
  refine ⟨fun hlt => ?_, ?_, hp⟩
  · by_cases h0 : n = 1
    · subst h0
      have : eS 1 = 0 := by decide
      omega
    · have hg := wid_ge (n - 1) (by omega) (by omega)
      have e : 2 ^ eB n = 2 * 2 ^ (eB n - 1) := by
        rw [show 2 * 2 ^ (eB n - 1) = 2 ^ (eB n - 1 + 1) from by rw [Nat.pow_succ]; omega, show eB n - 1 + 1 = eB n from by have := hg.2; unfold eB; omega]
      have hg1 : 2 ^ (eB n - 1) ≤ n - 1 := hg.1
      have hg2 : 1 ≤ eB n := hg.2
      unfold eS at hlt
      omega
  · unfold eS
    omega

/-- The code of a number of a span. -/
def codeE (v n : Nat) : List Bool := if v < eS n then bitsOf v (eB n - 1) else bitsOf (v + eS n) (eB n)
def costE (v n : Nat) : Nat := if v < eS n then eB n - 1 else eB n
theorem codeE_length (v n : Nat) : (codeE v n).length = costE v n := by
  unfold codeE costE
  split <;> rw [bitsOf_length]
theorem costE_le {n : Nat} (v : Nat) (h1 : 1 ≤ n) (hn : n ≤ 1099511627776) : costE v n ≤ 40 := by
  have := (eB_le n h1 hn).1
  unfold costE
  split <;> omega

set_option maxRecDepth 100000 in
theorem eput_any (w : World) (p : Nat) (v : Value) (L : List Bool) (u n : Nat) (h : Wr w p v L) (hL : L.length ≤ 66000000000) (h1 : 1 ≤ n) (hn : n ≤ 1099511627776) (hu : u < n) :
    Calls Try.prog 79 #[.pointer (some ⟨p, 0, none⟩), .int .u64 (u : Int), .int .u64 (n : Int)] w fun e w' => e = .returned (.tuple #[]) ∧ WI w p v (L ++ codeE u n) w' := by
  obtain ⟨hf1, hf2, hf3⟩ := eS_fits h1 hn hu
  have hb := (eB_le n h1 hn).1
  have HC := hid (codeE.eq_1 u n)
  have HP := hid (parts_any n w h1 hn)
  obtain ⟨b, hbe⟩ : ∃ b, eB n = b := ⟨_, rfl⟩
  obtain ⟨s, hse⟩ : ∃ s, eS n = s := ⟨_, rfl⟩
  rw [hbe] at hf1 hf2 hf3 hb HC HP
  rw [hse] at hf1 hf2 HC HP
  have hsb : u + s < 1099511627776 := by omega
  have HF := hid (And.intro hf1 (And.intro hf2 h))
  by_cases hlt : u < s
  · have hlt' : (u : Int) < s := by omega
    have hb1 := (hf1 hlt).1
    clear hf1 hf2 hf3 hbe hse h
    go_enter Try.func79, Try.ntmps79
    go_wp2_with fail
    with_reducible refine HP.out.mono ?_
    rintro e w1 ⟨rfl, m, rfl⟩
    go_wp2_with fail
    have HCC := put_fit (w.drewN m) p v L (u : Int) ((b : Int) - 1) u (b - 1) rfl (by omega) (HF.out.2.2.drewN m) (by omega) (by omega) (HF.out.1 hlt).2
    with_reducible refine HCC.mono ?_
    clear HCC
    rintro e w2 ⟨rfl, hw2⟩
    have H2 := hid hw2
    clear hw2
    go_wp2_with fail
    go_end0
    rw [HC.out, if_pos hlt]
    exact ⟨rfl, H2.out.after_below (below_drewN' (.refl _ _) m)⟩
  · have hlt' : ¬ (u : Int) < s := by omega
    clear hf1 hf2 hf3 hbe hse h
    go_enter Try.func79, Try.ntmps79
    go_wp2_with fail
    with_reducible refine HP.out.mono ?_
    rintro e w1 ⟨rfl, m, rfl⟩
    go_wp2_with fail
    have HCC := put_fit (w.drewN m) p v L ((u : Int) + s) (b : Int) (u + s) b (by omega) rfl (HF.out.2.2.drewN m) (by omega) (by omega) HF.out.2.1
    with_reducible refine HCC.mono ?_
    clear HCC
    rintro e w2 ⟨rfl, hw2⟩
    have H2 := hid hw2
    clear hw2
    go_wp2_with fail
    go_end0
    rw [HC.out, if_neg hlt]
    exact ⟨rfl, H2.out.after_below (below_drewN' (.refl _ _) m)⟩
end Go.Proofs.Ytgjiffpiffphfaa
