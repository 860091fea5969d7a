/- (*Writer).many, Ones, Zeros, Len, Align: what they add and answer. -/
import Derived.Test.YtjboboaccjbebaaWBytes
import Derived.Deep.LoopGhost
namespace Go.Proofs.Ytjboboaccjbebaa
open Go.RowKit

/-- The error of Ones and Zeros. -/
def manyErr (n : Int) : Int := if n < 0 then 1 else if 1048576 < n then 4 else 0
/-- The bits that they add. -/
def manyBits (b : Bool) (n : Int) : List Bool := if manyErr n = 0 then List.replicate n.toNat b else []

theorem many_nil (b : Bool) (n : Int) (w : World) : Calls Try.prog 125 #[.pointer none, .bool b, .int .i64 n] w fun e w' => e = .returned (.int .i64 2) ∧ w = w' := by
  go_enter Try.func125, Try.ntmps125
  go_wp2_with fail
  go_ret
  exact ⟨rfl, rfl⟩

theorem many_bad (p : Nat) (b : Bool) (n : Int) (w : World) (h : n < 0 ∨ 1048576 < n) : Calls Try.prog 125 #[.pointer (some ⟨p, 0, none⟩), .bool b, .int .i64 n] w fun e w' => e = .returned (.int .i64 (manyErr n)) ∧ w = w' := by
  rcases h with h | h
  · have e : manyErr n = 1 := by simp [manyErr, h]
    rw [e]
    clear e
    go_enter Try.func125, Try.ntmps125
    go_wp2_with fail
    go_ret
    exact ⟨rfl, rfl⟩
  · have h0 : ¬ n < 0 := by omega
    have e : manyErr n = 4 := by simp [manyErr, h0, h]
    rw [e]
    clear e
    go_enter Try.func125, Try.ntmps125
    go_wp2_with fail
    go_ret
    exact ⟨rfl, rfl⟩

set_option maxHeartbeats 800000 in
theorem many_ok (w : World) (p : Nat) (v : Value) (L : List Bool) (b : Bool) (n : Nat) (h : Wr w p v L) (hL : L.length + n ≤ 68719476736) (hn : n ≤ 1048576) :
    Calls Try.prog 125 #[.pointer (some ⟨p, 0, none⟩), .bool b, .int .i64 n] w fun e w' => e = .returned (.int .i64 0) ∧ WI w p v (L ++ List.replicate n b) w' := by
  have h0 : ¬ (n : Int) < 0 := by omega
  have h1 : ¬ (1048576 : Int) < n := by omega
  have H := hid h
  clear h
  go_enter Try.func125, Try.ntmps125
  go_wp2_with fail
  go_loopw [17] (fun i wr => ∃ k : Nat, k ≤ n ∧ i = .int .i64 k ∧ WI w p v (L ++ List.replicate k b) wr) (fun i _ => n - (intOf i).toNat)
  case atStart => exact ⟨0, Nat.zero_le _, rfl, by simpa using H.out.refl⟩
  case round =>
    obtain ⟨k, hk, rfl, HW⟩ := hrel
    replace HW := hid HW
    by_cases hkn : (k : Int) < n
    · go_wp2_with fail
      obtain ⟨v1, hv1, hm, hkp⟩ := HW.out
      refine (bit_wr wr p v1 _ _ hv1 ?_).mono ?_
      · simp; omega
      · rintro e w2 ⟨rfl, hw2⟩
        have HW2 := hid (show WI w p v (L ++ List.replicate (k + 1) b) w2 from by
          obtain ⟨v2, h2, hm2, hk2⟩ := hw2
          exact ⟨v2, by rw [List.replicate_succ', ← List.append_assoc]; exact h2, hm.trans hkp.size hm2, hkp.trans hk2 fun i hi hf => hm.foot hi hf⟩)
        clear hw2 hm hkp hv1
        go_wp2_with fail
        go_roundw
        case rel => exact ⟨k + 1, by omega, by go_num, HW2.out⟩
        case measure => simp [intOf]; omega
    · go_wp2_with fail
      go_ret
      obtain rfl : k = n := by omega
      exact ⟨rfl, HW.out⟩

theorem many_any (w : World) (p : Nat) (v : Value) (L : List Bool) (b : Bool) (n : Int) (h : Wr w p v L) (hL : L.length + 1048576 ≤ 68719476736) :
    Calls Try.prog 125 #[.pointer (some ⟨p, 0, none⟩), .bool b, .int .i64 n] w fun e w' => e = .returned (.int .i64 (manyErr n)) ∧ WI w p v (L ++ manyBits b n) w' := by
  by_cases h1 : n < 0 ∨ 1048576 < n
  · have e : manyErr n ≠ 0 := by
      unfold manyErr
      split
      · decide
      · rw [if_pos (by omega)]; decide
    refine (many_bad p b n w h1).mono ?_
    rintro e' w' ⟨rfl, rfl⟩
    simpa [manyBits, e] using h.refl
  · obtain ⟨m, rfl⟩ := Int.eq_ofNat_of_zero_le (show 0 ≤ n by omega)
    have e : manyErr m = 0 := by
      unfold manyErr
      rw [if_neg (by omega), if_neg (by omega)]
    simpa [manyBits, e] using many_ok w p v L b m h (by omega) (by omega)

theorem ones_any (w : World) (p : Nat) (v : Value) (L : List Bool) (n : Int) (h : Wr w p v L) (hL : L.length + 1048576 ≤ 68719476736) :
    Calls Try.prog 112 #[.pointer (some ⟨p, 0, none⟩), .int .i64 n] w fun e w' => e = .returned (.int .i64 (manyErr n)) ∧ WI w p v (L ++ manyBits true n) w' := by
  have H := hid h
  clear h
  go_enter Try.func112, Try.ntmps112
  go_wp2_with fail
  refine (many_any w p v L true n H.out hL).mono ?_
  rintro e w2 ⟨rfl, hw2⟩
  replace hw2 := hid hw2
  go_wp2_with fail
  go_ret
  exact ⟨rfl, hw2.out⟩
theorem zeros_any (w : World) (p : Nat) (v : Value) (L : List Bool) (n : Int) (h : Wr w p v L) (hL : L.length + 1048576 ≤ 68719476736) :
    Calls Try.prog 78 #[.pointer (some ⟨p, 0, none⟩), .int .i64 n] w fun e w' => e = .returned (.int .i64 (manyErr n)) ∧ WI w p v (L ++ manyBits false n) w' := by
  have H := hid h
  clear h
  go_enter Try.func78, Try.ntmps78
  go_wp2_with fail
  refine (many_any w p v L false n H.out hL).mono ?_
  rintro e w2 ⟨rfl, hw2⟩
  replace hw2 := hid hw2
  go_wp2_with fail
  go_ret
  exact ⟨rfl, hw2.out⟩
theorem ones_nil (n : Int) (w : World) : Calls Try.prog 112 #[.pointer none, .int .i64 n] w fun e w' => e = .returned (.int .i64 2) ∧ w = w' := by
  go_enter Try.func112, Try.ntmps112
  go_wp2_with fail
  refine (many_nil true n w).mono ?_
  rintro e w2 ⟨rfl, rfl⟩
  go_wp2_with fail
  go_ret
  exact ⟨rfl, rfl⟩
theorem zeros_nil (n : Int) (w : World) : Calls Try.prog 78 #[.pointer none, .int .i64 n] w fun e w' => e = .returned (.int .i64 2) ∧ w = w' := by
  go_enter Try.func78, Try.ntmps78
  go_wp2_with fail
  refine (many_nil false n w).mono ?_
  rintro e w2 ⟨rfl, rfl⟩
  go_wp2_with fail
  go_ret
  exact ⟨rfl, rfl⟩

theorem len_nil (w : World) : Calls Try.prog 21 #[.pointer none] w fun e w' => e = .returned (.int .i64 0) ∧ w = w' := by
  go_enter Try.func21, Try.ntmps21
  go_wp2_with fail
  go_ret
  exact ⟨rfl, rfl⟩
theorem len_any (w : World) (p : Nat) (v : Value) (L : List Bool) (h : Wr w p v L) (hL : L.length ≤ 68719476736) :
    Calls Try.prog 21 #[.pointer (some ⟨p, 0, none⟩)] w fun e w' => e = .returned (.int .i64 (L.length : Int)) ∧ ∃ n, w' = w.drewN n := by
  obtain ⟨F, part, n, h, rfl⟩ := h
  have hl := h.len
  rw [hl] at hL ⊢
  clear hl
  obtain ⟨A, c, rfl⟩ := h.slice
  have c0 := h.blk.cell 0
  have c2 := h.blk.cell 2
  simp at c0 c2
  have hn := h.hn
  have hw8 : IntKind.i64.wrap (8 * (F.length : Int)) = 8 * (F.length : Int) := IntWalk.i64_in _ (by omega)
  have hw9 : IntKind.i64.wrap (8 * (F.length : Int) + (n : Int)) = 8 * (F.length : Int) + (n : Int) := IntWalk.i64_in _ (by omega)
  clear h
  go_enter Try.func21, Try.ntmps21
  go_wp2_with fail
  go_quiet (fail)
  go_wp2_with fail
  go_ret
  exact ⟨by simp, _, rfl⟩

end Go.Proofs.Ytjboboaccjbebaa
