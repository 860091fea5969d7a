/- The reference's Uints: are two lists the same? -/
import Derived.Test.YtgjiffpiffphfaaU64
namespace Go.Proofs.Ytgjiffpiffphfaa
open Go.RowKit

set_option maxRecDepth 100000 in
theorem uints_any (a b : Value) (xs ys : List Nat) (w : World) (ha : Sl w a (u64s xs)) (hb : Sl w b (u64s ys)) :
    Calls Try.prog 49 #[a, b] w (DrawnI w (.bool (decide (xs = ys)))) := by
  obtain ⟨A, c, rfl, hm⟩ := u64s_form ha
  obtain ⟨B, d, rfl, hm2⟩ := u64s_form hb
  have H := hid (And.intro ha hb)
  clear ha hb
  by_cases hl : xs.length = ys.length
  · have hlb : ((xs.length : Int) != (ys.length : Int)) = false := by rw [hl]; simp
    have HL := hid hl
    clear hl
    go_enter Try.func49, Try.ntmps49
    go_wp2_with fail
    go_loopw [5] (fun i wr => ∃ (k n : Nat), k ≤ xs.length ∧ i = .int .i64 k ∧ wr = w.drewN n ∧ Hid (xs.take k = ys.take k)) (fun i _ => xs.length - (intOf i).toNat)
    case atStart => exact ⟨0, 0, by omega, rfl, rfl, by simp [Hid]⟩
    case round =>
      obtain ⟨k, n, hk, rfl, rfl, ht⟩ := hrel
      by_cases hkm : k < xs.length
      · have hin : (k : Int) < xs.length := by omega
        have hkn : k < ys.length := by rw [← HL.out]; exact hkm
        have hin2 : (k : Int) < ys.length := by omega
        obtain ⟨ad, rfl, hc⟩ := u64s_at H.out.1 hkm
        obtain ⟨bd, rfl, hc2⟩ := u64s_at H.out.2 hkn
        obtain ⟨x, hx⟩ : ∃ x, xs[k] = x := ⟨_, rfl⟩
        obtain ⟨y, hy⟩ : ∃ y, ys[k] = y := ⟨_, rfl⟩
        rw [hx] at hc
        rw [hy] at hc2
        have HXY := hid (And.intro hx hy)
        clear hx hy
        by_cases he : x = y
        · subst he
          have hne : ((x : Int) != (x : Int)) = false := by simp
          go_wp2_with fail
          go_quiet (fail)
          go_wp2_with fail
          go_roundw
          case rel => exact ⟨k + 1, _, by omega, by go_num, rfl, by show _ = _; rw [take_snocI xs k hkm, take_snocI ys k hkn, ht.out, HXY.out.1, HXY.out.2]⟩
          case measure => simp [intOf]; omega
        · have hne : ((x : Int) != (y : Int)) = true := by rw [bne_iff_ne]; omega
          have HE := hid he
          clear he
          go_wp2_with fail
          go_quiet (fail)
          go_wp2_with fail
          go_ret
          refine ⟨?_, _, World.drewN_drewN _ _ _⟩
          have e : decide (xs = ys) = false := by
            simp only [decide_eq_false_iff_not]
            intro e
            subst e
            exact HE.out (HXY.out.1.symm.trans HXY.out.2)
          rw [e]
          rfl
      · have hin : ¬ (k : Int) < xs.length := by omega
        obtain rfl : k = xs.length := by omega
        go_wp2_with fail
        go_ret
        refine ⟨?_, _, rfl⟩
        have h := ht.out
        rw [List.take_length, HL.out, List.take_length] at h
        rw [h]
        simp
  · have hlb : ((xs.length : Int) != (ys.length : Int)) = true := by simp; omega
    have e : decide (xs = ys) = false := by
      simp only [decide_eq_false_iff_not]
      intro e
      exact hl (by rw [e])
    rw [e]
    clear e hl
    go_enter Try.func49, Try.ntmps49
    go_wp2_with fail
    go_ret
    exact ⟨rfl, 0, rfl⟩
end Go.Proofs.Ytgjiffpiffphfaa
