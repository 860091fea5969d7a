/- What the fixed calls of the statements of layer 12 come to: true. -/
import Derived.Test.YtfbccmogiafgfaaCoefQ
import Derived.Test.YtfbccmogiafgfaaInts
namespace Go.Proofs.Ytfbccmogiafgfaa
open Go.RowKit

theorem known_shift : shiftN [8388608, -4194304] 127 = 7 := by decide +kernel
theorem known_quant : (quantS 127 17 [8388608, -4194304]).1 = [64, -32] := by decide +kernel

theorem blk_sl {w : World} {g : Nat} {xs : List Int} (h : Blk w g 3 (i64s xs).toArray) (hm : xs.length ≤ 1000) : Sl w (.slice (some ⟨g, 0, none⟩) xs.length xs.length) (i64s xs) := by
  have hl := i64s_length xs
  have h2 := own_of_blk (xs := i64s xs) h (Nat.le_refl xs.length) (by unfold maxLen; omega) (by simpa using hl) (by rw [List.take_of_length_le (by simpa using Nat.le_of_eq hl)]) hl
  exact Sl.of_own h2

theorem known_q (w : World) (g : Nat) (h : Blk w g 3 #[.int .i64 8388608, .int .i64 (-4194304)]) :
    Calls Try.prog 15 #[.slice (some ⟨g, 0, none⟩) 2 2, .int .i64 8] w (PredPost w [64, -32] 7 0) := by
  have hq := quant_ok (.slice (some ⟨g, 0, none⟩) 2 2) [8388608, -4194304] 8 w (blk_sl (xs := [8388608, -4194304]) h (by simp)) (by omega) (by omega) (by simp)
  rw [show (2 : Int) ^ (8 - 1) - 1 = 127 from by decide, known_shift, show 24 - 7 = 17 from rfl, known_quant] at hq
  exact hq

set_option maxRecDepth 100000 in
set_option maxHeartbeats 800000 in
theorem known12 (w : World) : Calls Try.prog 14 #[] w fun e w' => e = .returned (.bool true) ∧ Below w.heap.size w w' := by
  go_enter Try.func14, Try.ntmps14
  go_wp2_with fail
  have HC := known_q (w.alloc (.cells #[.int .i64 8388608, .int .i64 (-4194304)] 3)) w.heap.size (Blk.new _ _ _)
  with_reducible refine HC.mono ?_
  clear HC
  rintro e w1 ⟨A, c, rfl, hf⟩
  have HF := hid hf
  clear hf
  go_wp2_with fail
  have h2 := (Blk.new (w1.alloc (.cells #[.slice A 2 c, .int .i64 7] 25)) 3 #[.int .i64 64, .int .i64 (-32)])
  have hA : Sl ((w1.alloc (.cells #[.slice A 2 c, .int .i64 7] 25)).alloc (.cells #[.int .i64 64, .int .i64 (-32)] 3)) (.slice A 2 c) (i64s [64, -32]) := (HF.out.sl.alloc _).alloc _
  have HC := ints_any (.slice A 2 c) (.slice (some ⟨w1.heap.size + 1, 0, none⟩) 2 2) [64, -32] [64, -32] _ hA (blk_sl (xs := [64, -32]) (by simpa [i64s] using h2) (by simp))
  clear hA h2
  with_reducible refine HC.mono ?_
  clear HC
  rintro e w2 ⟨rfl, n, rfl⟩
  go_wp2_with fail
  go_ret
  refine ⟨rfl, below_drewN' ?_ n⟩
  have hb := ((Below.refl _ w).alloc (Nat.le_refl _) (.cells #[.int .i64 8388608, .int .i64 (-4194304)] 3)).trans (HF.out.2.1.mono (by simp))
  exact (hb.alloc hb.size _).alloc (by have := hb.size; simp; omega) _
end Go.Proofs.Ytfbccmogiafgfaa
