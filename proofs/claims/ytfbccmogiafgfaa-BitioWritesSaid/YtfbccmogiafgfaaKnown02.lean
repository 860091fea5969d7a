/- What the fixed calls of the statements of layer 2 come to: true. -/
import Derived.Test.YtfbccmogiafgfaaWMany
import Derived.Test.YtfbccmogiafgfaaWAdd
import Derived.Test.YtfbccmogiafgfaaROnes
import Derived.Test.YtfbccmogiafgfaaStr
namespace Go.Proofs.Ytfbccmogiafgfaa
open Go.RowKit

set_option maxRecDepth 100000 in
set_option maxHeartbeats 1600000 in
theorem known02 (w : World) : Calls Try.prog 21 #[] w fun e w' => e = .returned (.bool true) ∧ Below w.heap.size w w' := by
  have hW0 := hid (Wr.new w)
  go_enter Try.func21, Try.ntmps21
  go_wp2_with fail
  have HC := put_at _ _ _ _ 5 5 3 rfl hW0.out (by simp) (by omega) [true, false, true] ⟨by decide, by decide⟩
  with_reducible refine HC.mono ?_
  clear HC
  rintro e w1 ⟨rfl, hw⟩
  have hw1 := hid hw
  clear hw
  go_wp2_with fail
  have HC := hw1.out.calls (R := fun e => e = .returned (.int .i64 0)) fun v1 h1 => ones_any w1 _ v1 _ 2 h1 (by simp)
  with_reducible refine HC.mono ?_
  clear HC
  rintro e w2 ⟨rfl, hw⟩
  have hw2 := hid hw
  clear hw
  go_wp2_with fail
  have HC := hw2.out.calls (R := fun e => e = .returned (.int .i64 0)) fun v1 h1 => zeros_any w2 _ v1 _ 1 h1 (by simp [manyBits, manyErr])
  with_reducible refine HC.mono ?_
  clear HC
  rintro e w3 ⟨rfl, hw⟩
  have hw3 := hid hw
  clear hw
  go_wp2_with fail
  have HC := hw3.out.calls (R := fun e => e = .returned (.int .i64 0)) fun v1 h1 => put_at w3 _ v1 _ 1 1 4 rfl h1 (by simp [manyBits, manyErr]) (by omega) [false, false, false, true] ⟨by decide, by decide⟩
  with_reducible refine HC.mono ?_
  clear HC
  rintro e w4 ⟨rfl, hw⟩
  have hw4 := hid (show WI (w.alloc (.cells #[.slice none 0 0, .int .u8 0, .int .i64 0] 38)) w.heap.size (.slice none 0 0) [true, false, true, true, true, false, false, false, false, true] w4 from hw)
  clear hw hw1 hw2 hw3
  go_wp2_with fail
  obtain ⟨v4, h4, hm4, hk4⟩ := hw4.out
  have h4' := hid h4
  have HC := bytes_any w4 _ v4 _ h4 (by simp)
  with_reducible refine HC.mono ?_
  clear HC h4 hm4 hk4
  rintro e w5 ⟨F, A, c, rfl, hf, hfl, hby⟩
  obtain rfl : F = [184, 64] := flat_inj hby (by decide) (by rw [hfl]; decide)
  have hstr : (convert 36 9 (.slice A 2 c)).run Try.prog w5 = .ok (.string (strOf [184, 64])) w5 := str_of w5 _ [184, 64] (Sl.of_own hf.1) hby
  have hf' := hid hf
  clear hf hfl hby
  have he : ((strOf [184, 64]).toList == [184, 64]) = true := by rw [strOf_list]; decide
  go_wp2_with fail
  have h5 := h4'.out.below hf'.out.2.1
  have h5' := hid h5
  have HC := len_any w5 _ v4 _ h5 (by simp)
  with_reducible refine HC.mono ?_
  clear HC h5
  rintro e w6 ⟨rfl, n6, rfl⟩
  go_wp2_with fail
  go_ret
  refine ⟨rfl, below_drewN' ?_ n6⟩
  have hb : Below w.heap.size w w4 := (((Below.refl _ w).alloc (Nat.le_refl _) _).trans (hw4.out.below (by simp) (fun k hk => by rw [foot_nil hk]; exact Nat.le_refl _)))
  exact hb.trans (hf'.out.2.1.mono hb.size)
end Go.Proofs.Ytfbccmogiafgfaa
