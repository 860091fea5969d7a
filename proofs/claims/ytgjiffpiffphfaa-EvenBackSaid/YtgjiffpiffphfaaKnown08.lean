/- What the fixed calls of the statements of layer 8 come to: true. -/
import Derived.Test.YtgjiffpiffphfaaEvenG
import Derived.Test.YtgjiffpiffphfaaWBytes
import Derived.Test.YtgjiffpiffphfaaStr
import Derived.Deep.RegionWith
namespace Go.Proofs.Ytgjiffpiffphfaa
open Go.RowKit

theorem blk_slU {w : World} {g : Nat} {xs : List Nat} (h : Blk w g 22 (u64s xs).toArray) (hm : xs.length ≤ 1000) : Sl w (.slice (some ⟨g, 0, none⟩) xs.length xs.length) (u64s xs) := by
  have hl := u64s_length xs
  have h2 := own_of_blk (xs := u64s xs) h (Nat.le_refl xs.length) (by unfold maxLen; omega) (by simpa using hl) (by rw [List.take_of_length_le (by simpa using Nat.le_of_eq hl)]) hl
  exact Sl.of_own h2

theorem codes234 : codesE [2, 3, 4] 5 = [true, false, true, true, false, true, true, true] := by decide +kernel
theorem egT234 : egT (flat [183]) 0 5 = (2, 0, 2) := by decide +kernel

set_option maxRecDepth 100000 in
set_option maxHeartbeats 1600000 in
theorem known08 (w : World) : Calls Try.prog 36 #[] w fun e w' => e = .returned (.bool true) ∧ Below w.heap.size w w' := by
  have hW0 := Wr.new w
  have hb0 := (Below.refl _ w).alloc (Nat.le_refl _) (.cells #[.slice none 0 0, .int .u8 0, .int .i64 0] 33)
  have hb1 := hb0.alloc hb0.size (.cells #[.int .u64 2, .int .u64 3, .int .u64 4] 22)
  have hW1 := hW0.below ((Below.refl _ _).alloc (Nat.le_refl _) (.cells #[.int .u64 2, .int .u64 3, .int .u64 4] 22))
  have hbk := Blk.new (w.alloc (.cells #[.slice none 0 0, .int .u8 0, .int .i64 0] 33)) 22 #[.int .u64 2, .int .u64 3, .int .u64 4]
  have HP := eputall_ok w.heap.size (.slice none 0 0) [] _ [2, 3, 4] 5 _ hW1 (by simp) (blk_slU (xs := [2, 3, 4]) hbk (by simp)) (by simp [InU]) (by simp) (fun _ g hg => by
    simp [Value.ownBlock] at hg
    subst hg
    refine ⟨fun hf => ?_, by simp⟩
    have e := foot_nil hf
    simp at e) (by decide) (by decide)
  rw [codes234, List.nil_append, show (w.alloc (.cells #[.slice none 0 0, .int .u8 0, .int .i64 0] 33)).heap.size = w.heap.size + 1 by simp, show ([2, 3, 4] : List Nat).length = 3 from rfl, show ((5 : Nat) : Int) = 5 from rfl] at HP
  replace HP := hid HP
  have HB := hid hb1
  clear hW0 hb0 hb1 hW1 hbk
  go_enter Try.func36, Try.ntmps36
  go_wp2_with fail
  with_reducible refine HP.out.mono ?_
  rintro e w1 ⟨rfl, hw⟩
  obtain ⟨v1, h1, hm1, hk1⟩ := hw
  have hbw : Below w.heap.size w w1 := Kept.after HB.out (Nat.le_refl _) hk1 fun i hi => by rw [foot_nil hi]; exact Nat.le_refl _
  have H1 := hid (And.intro h1 hbw)
  clear h1 hm1 hk1 hbw
  go_wp2_with fail
  with_reducible refine (bytes_any w1 _ v1 _ H1.out.1 (by simp)).mono ?_
  rintro e w2 ⟨F, A, c, rfl, hf, hfl, hby⟩
  obtain rfl : F = [183] := flat_inj hby (by decide) (by rw [hfl]; decide)
  have H2 := hid (And.intro (H1.out.1.below hf.2.1) (And.intro (H1.out.2.trans (hf.2.1.mono H1.out.2.size)) (And.intro (Sl.of_own hf.1) hby)))
  clear hf hfl hby
  go_wp2_with fail
  have HRD := read_any w2 (.slice A 1 c) [183] H2.out.2.2.1 (by simp) H2.out.2.2.2
  with_reducible refine HRD.mono ?_
  clear HRD
  rintro e w3 ⟨q, vq, rfl, hrd, hb3, hq, hvq⟩
  have H3 := hid (And.intro (H2.out.1.below hb3) (And.intro (H2.out.2.1.trans (hb3.mono H2.out.2.1.size)) (And.intro hrd (show w2.heap.size ≤ q ∧ w.heap.size ≤ q from ⟨hq, Nat.le_trans H2.out.2.1.size hq⟩))))
  clear hrd hb3 hq hvq
  go_wp2_with fail
  have HG := eget_any w3 q vq [183] 0 5 H3.out.2.2.1 (by decide)
  rw [egT234, show ((5 : Nat) : Int) = 5 from rfl] at HG
  with_reducible refine HG.mono ?_
  clear HG
  rintro e w4 ⟨rfl, hri⟩
  have hft := H2.out.1
  have H4 := hid (And.intro (H3.out.1.keep hri.2 (fun k hk e => by have := H2.out.1.footlt hk; have := H3.out.2.2.2.1; omega)) (show Below w.heap.size w w4 from Kept.after H3.out.2.1 (Nat.le_refl _) hri.2 fun i hi => by have := H3.out.2.2.2.2; omega))
  clear hri hft
  go_wp2_with fail
  with_reducible refine (len_any w4 _ v1 _ H4.out.1 (by simp)).mono ?_
  rintro e w5 ⟨rfl, n5, rfl⟩
  have H5 := hid (And.intro (H4.out.1.drewN n5) (below_drewN' H4.out.2 n5))
  go_wp2_with fail
  with_reducible refine (bytes_any _ _ v1 _ H5.out.1 (by simp)).mono ?_
  rintro e w6 ⟨F, A6, c6, rfl, hf, hfl, hby⟩
  obtain rfl : F = [183] := flat_inj hby (by decide) (by rw [hfl]; decide)
  have hstr : (convert 31 9 (.slice A6 1 c6)).run Try.prog w6 = .ok (.string (strOf [183])) w6 := str_of w6 _ [183] (Sl.of_own hf.1) hby
  have H6 := hid (H5.out.2.trans (hf.2.1.mono H5.out.2.size))
  clear hf hfl hby
  have he : ((strOf [183]).toList == [183]) = true := by rw [strOf_list]; decide
  go_wp2_with fail
  go_ret
  exact ⟨rfl, H6.out⟩
end Go.Proofs.Ytgjiffpiffphfaa
