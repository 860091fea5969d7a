/- The reference's Same of two predictors. -/
import Derived.Test.YtfbccmogiafgfaaRef12
namespace Go.Proofs.Ytfbccmogiafgfaa
open Go.RowKit

set_option maxRecDepth 100000 in
theorem refsame_any (a b : Value) (xs ys : List Int) (s t : Int) (w : World) (ha : Sl w a (i64s xs)) (hb : Sl w b (i64s ys)) :
    Calls Try.prog 16 #[.agg #[a, .int .i64 s], .agg #[b, .int .i64 t]] w fun e w' => e = .returned (.bool (decide (s = t ∧ xs = ys))) ∧ Below w.heap.size w w' := by
  obtain ⟨A, c, rfl, hm⟩ := i64s_form ha
  obtain ⟨B, d, rfl, hm2⟩ := i64s_form hb
  have hbel := ((Below.refl _ w).alloc (Nat.le_refl _) (.cells #[.slice A xs.length c, .int .i64 s] 25)).alloc (by simp) (.cells #[.slice B ys.length d, .int .i64 t] 25)
  by_cases hst : s = t
  · subst hst
    have e : decide (s = s ∧ xs = ys) = decide (xs = ys) := by simp
    rw [e]
    clear e
    have H := hid (And.intro hbel (And.intro (ha.below hbel) (hb.below hbel)))
    have hss : (s == s) = true := by simp
    clear ha hb hbel
    go_enter Try.func16, Try.ntmps16
    go_wp2_with fail
    have HC := ints_any _ _ xs ys _ H.out.2.1 H.out.2.2
    with_reducible refine HC.mono ?_
    clear HC
    rintro e w1 ⟨rfl, n, rfl⟩
    go_wp2_with fail
    go_ret
    exact ⟨rfl, below_drewN' H.out.1 n⟩
  · have e : decide (s = t ∧ xs = ys) = false := by rw [decide_eq_false_iff_not]; intro h; exact hst h.1
    rw [e]
    clear e
    have hss : (s == t) = false := by simpa using hst
    have H := hid hbel
    clear ha hb hbel hst
    go_enter Try.func16, Try.ntmps16
    go_wp2_with fail
    go_ret
    exact ⟨rfl, H.out⟩

theorem refsame_same (a b : Value) (xs : List Int) (s : Int) (w : World) (ha : Sl w a (i64s xs)) (hb : Sl w b (i64s xs)) :
    Calls Try.prog 16 #[.agg #[a, .int .i64 s], .agg #[b, .int .i64 s]] w fun e w' => e = .returned (.bool true) ∧ Below w.heap.size w w' :=
  (refsame_any a b xs xs s s w ha hb).mono fun _ _ ⟨he, h⟩ => ⟨by rw [he]; simp, h⟩
end Go.Proofs.Ytfbccmogiafgfaa
