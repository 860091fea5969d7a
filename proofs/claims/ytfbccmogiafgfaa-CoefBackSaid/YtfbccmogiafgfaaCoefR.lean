/- Layer 12: whether a predictor may be, the program's way and the reference's. -/
import Derived.Test.YtfbccmogiafgfaaCFunc
import Derived.Test.YtfbccmogiafgfaaCoefQ
namespace Go.Proofs.Ytfbccmogiafgfaa
open Go.RowKit

/-- A coefficient that may be. -/
def okC (c : Int) : Bool := decide (-32767 ≤ c ∧ c ≤ 32767)
/-- A predictor that may be. -/
def rightB (xs : List Int) (s : Int) : Bool := decide (xs.length ≤ 32 ∧ 0 ≤ s ∧ s ≤ 15) && xs.all okC

theorem badC_any (x : Int) (w : World) : Calls Try.prog 60 #[.int .i64 x] w fun e w' => e = .returned (.bool (!okC x)) ∧ w = w' := by
  by_cases h1 : x < -32767
  · have e : okC x = false := by unfold okC; rw [decide_eq_false_iff_not]; omega
    rw [e]
    clear e
    go_enter Try.func60, Try.ntmps60
    go_wp2_with fail
    go_ret
    exact ⟨rfl, rfl⟩
  · by_cases h2 : 32767 < x
    · have e : okC x = false := by unfold okC; rw [decide_eq_false_iff_not]; omega
      rw [e]
      clear e
      go_enter Try.func60, Try.ntmps60
      go_wp2_with fail
      go_ret
      exact ⟨rfl, rfl⟩
    · have e : okC x = true := by unfold okC; rw [decide_eq_true_iff]; omega
      rw [e]
      clear e
      go_enter Try.func60, Try.ntmps60
      go_wp2_with fail
      go_ret
      exact ⟨by simp, rfl⟩
theorem enters_bad : ∀ args w, (callFunc 60 args).run Try.prog w = .ok (.enter 60 args) w := enters_of Try.func60 (by kernel_rfl) rfl
theorem any_not_okC (xs : List Int) : xs.any (fun x => !okC x) = !xs.all okC := by
  induction xs with
  | nil => rfl
  | cons x xs ih => rw [List.any_cons, List.all_cons, ih, Bool.not_and]

set_option maxRecDepth 100000 in
theorem right_any (l : Value) (xs : List Int) (s : Int) (w : World) (hl : Sl w l (i64s xs)) :
    Calls Try.prog 19 #[.agg #[l, .int .i64 s]] w fun e w' => e = .returned (.bool (rightB xs s)) ∧ Below w.heap.size w w' := by
  obtain ⟨A, c, rfl, hm⟩ := i64s_form hl
  by_cases h : 32 < xs.length ∨ s < 0 ∨ 15 < s
  · have e : rightB xs s = false := by unfold rightB; rw [Bool.and_eq_false_iff]; left; rw [decide_eq_false_iff_not]; omega
    rw [e]
    clear e hl
    by_cases h1 : 32 < xs.length
    · have h1' : (32 : Int) < xs.length := by omega
      clear h
      go_enter Try.func19, Try.ntmps19
      go_wp2_with fail
      go_ret
      exact ⟨rfl, (Below.refl _ _).alloc (Nat.le_refl _) _⟩
    have h1' : ¬ (32 : Int) < xs.length := by omega
    by_cases h2 : s < 0
    · clear h
      go_enter Try.func19, Try.ntmps19
      go_wp2_with fail
      go_ret
      exact ⟨rfl, (Below.refl _ _).alloc (Nat.le_refl _) _⟩
    have h3 : 15 < s := by omega
    clear h
    go_enter Try.func19, Try.ntmps19
    go_wp2_with fail
    go_ret
    exact ⟨rfl, (Below.refl _ _).alloc (Nat.le_refl _) _⟩
  · have e : rightB xs s = xs.all okC := by unfold rightB; rw [decide_eq_true (by omega), Bool.true_and]
    have h1 : ¬ (32 : Int) < xs.length := by omega
    have h2 : ¬ s < 0 := by omega
    have h3 : ¬ 15 < s := by omega
    rw [e]
    have H := hid hl
    clear e h hl
    go_enter Try.func19, Try.ntmps19
    go_wp2_with fail
    have HC := contains_any 60 #[] enters_bad (fun x => !okC x) (fun _ => True) (.slice A xs.length c) xs (w.alloc (.cells #[.slice A xs.length c, .int .i64 s] 25)) (H.out.alloc _) (fun _ _ => trivial) (fun x n _ => (badC_any x _).mono fun _ _ ⟨he, hw⟩ => ⟨he, 0, hw.symm⟩)
    rw [any_not_okC] at HC
    with_reducible refine HC.mono ?_
    clear HC
    rintro e w1 ⟨rfl, n, rfl⟩
    go_wp2_with fail
    go_ret
    exact ⟨by simp, below_drewN' ((Below.refl _ _).alloc (Nat.le_refl _) _) n⟩

set_option maxRecDepth 100000 in
theorem refright_any (l : Value) (xs : List Int) (s : Int) (w : World) (hl : Sl w l (i64s xs)) :
    Calls Try.prog 18 #[.agg #[l, .int .i64 s]] w fun e w' => e = .returned (.bool (rightB xs s)) ∧ Below w.heap.size w w' := by
  obtain ⟨A, c, rfl, hm⟩ := i64s_form hl
  by_cases h : 32 < xs.length ∨ s < 0 ∨ 15 < s
  · have e : rightB xs s = false := by unfold rightB; rw [Bool.and_eq_false_iff]; left; rw [decide_eq_false_iff_not]; omega
    rw [e]
    clear e hl
    by_cases h1 : 32 < xs.length
    · have h1' : (32 : Int) < xs.length := by omega
      clear h
      go_enter Try.func18, Try.ntmps18
      go_wp2_with fail
      go_ret
      exact ⟨rfl, (Below.refl _ _).alloc (Nat.le_refl _) _⟩
    have h1' : ¬ (32 : Int) < xs.length := by omega
    by_cases h2 : s < 0
    · clear h
      go_enter Try.func18, Try.ntmps18
      go_wp2_with fail
      go_ret
      exact ⟨rfl, (Below.refl _ _).alloc (Nat.le_refl _) _⟩
    have h3 : 15 < s := by omega
    clear h
    go_enter Try.func18, Try.ntmps18
    go_wp2_with fail
    go_ret
    exact ⟨rfl, (Below.refl _ _).alloc (Nat.le_refl _) _⟩
  · have e : rightB xs s = xs.all okC := by unfold rightB; rw [decide_eq_true (by omega), Bool.true_and]
    have h1 : ¬ (32 : Int) < xs.length := by omega
    have h2 : ¬ s < 0 := by omega
    have h3 : ¬ 15 < s := by omega
    have HE := hid e
    have H := hid hl
    clear e h hl
    go_enter Try.func18, Try.ntmps18
    go_wp2_with fail
    go_loop [3] (fun i => ∃ k : Nat, k ≤ xs.length ∧ i = .int .i64 k ∧ Hid ((xs.take k).all okC = true)) (fun i => xs.length - (intOf i).toNat)
    case atStart => exact ⟨0, by omega, rfl, by simp [Hid]⟩
    case round =>
      obtain ⟨k, hk, rfl, hall⟩ := hrel
      by_cases hkm : k < xs.length
      · have hin : (k : Int) < xs.length := by omega
        obtain ⟨ad, rfl, hc⟩ := i64s_at (H.out.alloc (.cells #[.slice A xs.length c, .int .i64 s] 25)) hkm
        obtain ⟨x, hx⟩ : ∃ x, xs[k] = x := ⟨_, rfl⟩
        rw [hx] at hc
        have HX := hid hx
        clear hx
        have hbad : okC x = false → xs.all okC = false := fun hb => by
          rw [List.all_eq_false]
          exact ⟨x, by rw [← HX.out]; exact List.getElem_mem _, by rw [hb]; simp⟩
        have HB := hid hbad
        clear hbad
        by_cases g1 : x < -32767
        · go_wp2_with fail
          go_ret
          exact ⟨by rw [HE.out, HB.out (by unfold okC; rw [decide_eq_false_iff_not]; omega)]; rfl, (Below.refl _ _).alloc (Nat.le_refl _) _⟩
        by_cases g2 : 32767 < x
        · go_wp2_with fail
          go_ret
          exact ⟨by rw [HE.out, HB.out (by unfold okC; rw [decide_eq_false_iff_not]; omega)]; rfl, (Below.refl _ _).alloc (Nat.le_refl _) _⟩
        · go_wp2_with fail
          go_round
          case rel =>
            refine ⟨k + 1, by omega, by go_num, ?_⟩
            show _ = _
            rw [take_snocI xs k hkm, List.all_append, hall.out, HX.out]
            simp [okC]; omega
          case measure => simp [intOf]; omega
      · have hin : ¬ (k : Int) < xs.length := by omega
        obtain rfl : k = xs.length := by omega
        go_wp2_with fail
        go_ret
        have h := hall.out
        rw [List.take_length] at h
        exact ⟨by rw [HE.out, h]; rfl, (Below.refl _ _).alloc (Nat.le_refl _) _⟩
end Go.Proofs.Ytfbccmogiafgfaa
