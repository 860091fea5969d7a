/- What the fixed calls of the statements of layer 7 come to: true. -/
import Derived.Test.YtjboboaccjbebaaRunU
import Derived.Test.YtjboboaccjbebaaWBytes
import Derived.Test.YtjboboaccjbebaaStr
import Derived.Deep.RegionWith
namespace Go.Proofs.Ytjboboaccjbebaa
open Go.RowKit

theorem blk_slI {w : World} {g : Nat} {xs : List Int} (h : Blk w g 3 (i64s xs).toArray) (hm : xs.length ≤ 1000) : Sl w (.slice (some ⟨g, 0, none⟩) xs.length xs.length) (i64s xs) := by
  have hl := i64s_length xs
  have h2 := own_of_blk (xs := i64s xs) h (Nat.le_refl xs.length) (by unfold maxLen; omega) (by simpa using hl) (by rw [List.take_of_length_le (by simpa using Nat.le_of_eq hl)]) hl
  exact Sl.of_own h2

theorem codeL005 : codeL [0, 0, 5] 0 = [false, true, true, true, true, true, true, true, true, true, true, true, false] := by decide +kernel

set_option maxRecDepth 100000 in
set_option maxHeartbeats 1600000 in
theorem known07 (w : World) : Calls Try.prog 18 #[] w fun e w' => e = .returned (.bool true) ∧ Below w.heap.size w w' := by
  have hW0 := Wr.new w
  have hb0 := (Below.refl _ w).alloc (Nat.le_refl _) (.cells #[.slice none 0 0, .int .u8 0, .int .i64 0] 27)
  have hb1 := hb0.alloc hb0.size (.cells #[.int .i64 0, .int .i64 0, .int .i64 5] 3)
  have hW1 := hW0.below ((Below.refl _ _).alloc (Nat.le_refl _) (.cells #[.int .i64 0, .int .i64 0, .int .i64 5] 3))
  have hbk := Blk.new (w.alloc (.cells #[.slice none 0 0, .int .u8 0, .int .i64 0] 27)) 3 #[.int .i64 0, .int .i64 0, .int .i64 5]
  have HP := putl_ok w.heap.size (.slice none 0 0) [] _ [0, 0, 5] 0 _ hW1 (by simp) (blk_slI (xs := [0, 0, 5]) hbk (by simp)) (by simp [InI]) (by simp) (fun _ g hg => by
    simp [Value.ownBlock] at hg
    subst hg
    refine ⟨fun hf => ?_, by simp⟩
    have e := foot_nil hf
    simp at e) (by decide) (by decide)
  rw [show ((0 : Nat) : Int) = 0 from rfl, codeL005, List.nil_append, show (w.alloc (.cells #[.slice none 0 0, .int .u8 0, .int .i64 0] 27)).heap.size = w.heap.size + 1 by simp, show ([0, 0, 5] : List Int).length = 3 from rfl] at HP
  replace HP := hid HP
  have HB := hid hb1
  clear hW0 hb0 hb1 hW1 hbk
  go_enter Try.func18, Try.ntmps18
  go_wp2_with fail
  with_reducible refine HP.out.mono ?_
  rintro e w1 ⟨rfl, hw⟩
  obtain ⟨v1, h1, hm1, hk1⟩ := hw
  have hbw : Below w.heap.size w w1 := Kept.after HB.out (Nat.le_refl _) hk1 fun i hi => by rw [foot_nil hi]; exact Nat.le_refl _
  have H1 := hid (And.intro h1 hbw)
  clear h1 hm1 hk1 hbw
  go_wp2_with fail
  with_reducible refine (len_any w1 _ v1 _ H1.out.1 (by simp)).mono ?_
  rintro e w5 ⟨rfl, n5, rfl⟩
  have H5 := hid (And.intro (H1.out.1.drewN n5) (below_drewN' H1.out.2 n5))
  go_wp2_with fail
  with_reducible refine (bytes_any _ _ v1 _ H5.out.1 (by simp)).mono ?_
  rintro e w6 ⟨F, A6, c6, rfl, hf, hfl, hby⟩
  obtain rfl : F = [127, 240] := flat_inj hby (by decide) (by rw [hfl]; decide)
  have hstr : (convert 25 9 (.slice A6 2 c6)).run Try.prog w6 = .ok (.string (strOf [127, 240])) w6 := str_of w6 _ [127, 240] (Sl.of_own hf.1) hby
  have H6 := hid (H5.out.2.trans (hf.2.1.mono H5.out.2.size))
  clear hf hfl hby
  have he : ((strOf [127, 240]).toList == [127, 240]) = true := by rw [strOf_list]; decide
  go_wp2_with fail
  have HC := gamcost_any 8 w6 (by omega)
  rw [show ((8 : Nat) : Int) = 8 from rfl, show gamCost 8 = 7 from by decide +kernel] at HC
  with_reducible refine HC.mono ?_
  clear HC
  rintro e w7 ⟨rfl, rfl⟩
  go_wp2_with fail
  go_ret
  exact ⟨rfl, H6.out⟩
end Go.Proofs.Ytjboboaccjbebaa
