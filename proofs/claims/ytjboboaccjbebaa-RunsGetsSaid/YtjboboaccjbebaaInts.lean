/- The reference's comparison of two lists of ints. -/
import Derived.Test.YtjboboaccjbebaaNum
import Derived.Test.YtjboboaccjbebaaRef02
namespace Go.Proofs.Ytjboboaccjbebaa
open Go.RowKit

/-- It hands back v and only draws. -/
def DrawnI (w : World) (v : Value) (e : Ending) (w' : World) : Prop := e = .returned v ∧ ∃ n, w' = w.drewN n

theorem take_snocI {α : Type} (xs : List α) (k : Nat) (h : k < xs.length) : xs.take (k + 1) = xs.take k ++ [xs[k]] := List.take_succ_eq_append_getElem h

theorem i64s_at {w : World} {xs : List Int} {A : Option Addr} {n c k : Nat} (h : Sl w (.slice A n c) (i64s xs)) (hk : k < xs.length) : ∃ ad, A = some ad ∧ w.cell? (ad.add k) = some (.int .i64 xs[k]) := by
  obtain ⟨ad, e, hc⟩ := h.at_ (show k < (i64s xs).length by rw [i64s_length]; exact hk)
  refine ⟨ad, e, ?_⟩
  rw [hc]
  simp [i64s]
theorem i64s_form {w : World} {v : Value} {xs : List Int} (h : Sl w v (i64s xs)) : ∃ A c, v = .slice A xs.length c ∧ xs.length ≤ 9223372036854775807 := by
  obtain ⟨A, c, e, _⟩ := h.form
  rw [i64s_length] at e
  have := h.max
  rw [i64s_length] at this
  exact ⟨A, c, e, this⟩

set_option maxRecDepth 100000 in
theorem ints_any (a b : Value) (xs ys : List Int) (w : World) (ha : Sl w a (i64s xs)) (hb : Sl w b (i64s ys)) :
    Calls Try.prog 30 #[a, b] w (DrawnI w (.bool (decide (xs = ys)))) := by
  obtain ⟨A, c, rfl, hm⟩ := i64s_form ha
  obtain ⟨B, d, rfl, hm2⟩ := i64s_form hb
  have H := hid (And.intro ha hb)
  clear ha hb
  by_cases hl : xs.length = ys.length
  · have hlb : ((xs.length : Int) != (ys.length : Int)) = false := by rw [hl]; simp
    have HL := hid hl
    clear hl
    go_enter Try.func30, Try.ntmps30
    go_wp2_with fail
    go_loopw [5] (fun i wr => ∃ (k n : Nat), k ≤ xs.length ∧ i = .int .i64 k ∧ wr = w.drewN n ∧ Hid (xs.take k = ys.take k)) (fun i _ => xs.length - (intOf i).toNat)
    case atStart => exact ⟨0, 0, by omega, rfl, rfl, by simp [Hid]⟩
    case round =>
      obtain ⟨k, n, hk, rfl, rfl, ht⟩ := hrel
      by_cases hkm : k < xs.length
      · have hin : (k : Int) < xs.length := by omega
        have hkn : k < ys.length := by rw [← HL.out]; exact hkm
        have hin2 : (k : Int) < ys.length := by omega
        obtain ⟨ad, rfl, hc⟩ := i64s_at H.out.1 hkm
        obtain ⟨bd, rfl, hc2⟩ := i64s_at H.out.2 hkn
        obtain ⟨x, hx⟩ : ∃ x, xs[k] = x := ⟨_, rfl⟩
        obtain ⟨y, hy⟩ : ∃ y, ys[k] = y := ⟨_, rfl⟩
        rw [hx] at hc
        rw [hy] at hc2
        have HXY := hid (And.intro hx hy)
        clear hx hy
        by_cases he : x = y
        · subst he
          have hne : (x != x) = false := by simp
          go_wp2_with fail
          go_quiet (fail)
          go_wp2_with fail
          go_roundw
          case rel => exact ⟨k + 1, _, by omega, by go_num, rfl, by show _ = _; rw [take_snocI xs k hkm, take_snocI ys k hkn, ht.out, HXY.out.1, HXY.out.2]⟩
          case measure => simp [intOf]; omega
        · have hne : (x != y) = true := by simpa using he
          have HE := hid he
          clear he
          go_wp2_with fail
          go_quiet (fail)
          go_wp2_with fail
          go_ret
          refine ⟨?_, _, World.drewN_drewN _ _ _⟩
          have e : decide (xs = ys) = false := by
            simp only [decide_eq_false_iff_not]
            intro e
            subst e
            exact HE.out (HXY.out.1.symm.trans HXY.out.2)
          rw [e]
          rfl
      · have hin : ¬ (k : Int) < xs.length := by omega
        obtain rfl : k = xs.length := by omega
        go_wp2_with fail
        go_ret
        refine ⟨?_, _, rfl⟩
        have h := ht.out
        rw [List.take_length, HL.out, List.take_length] at h
        rw [h]
        simp
  · have hlb : ((xs.length : Int) != (ys.length : Int)) = true := by simp; omega
    have e : decide (xs = ys) = false := by
      simp only [decide_eq_false_iff_not]
      intro e
      exact hl (by rw [e])
    rw [e]
    clear e hl
    go_enter Try.func30, Try.ntmps30
    go_wp2_with fail
    go_ret
    exact ⟨rfl, 0, rfl⟩
end Go.Proofs.Ytjboboaccjbebaa
