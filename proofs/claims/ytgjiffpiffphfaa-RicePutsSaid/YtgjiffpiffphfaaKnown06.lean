/- What the fixed calls of the statements of layer 6 come to: true. -/
import Derived.Test.YtgjiffpiffphfaaRice
import Derived.Test.YtgjiffpiffphfaaWBytes
import Derived.Test.YtgjiffpiffphfaaStr
namespace Go.Proofs.Ytgjiffpiffphfaa
open Go.RowKit

set_option maxRecDepth 100000 in
set_option maxHeartbeats 1600000 in
theorem known06 (w : World) : Calls Try.prog 15 #[] w fun e w' => e = .returned (.bool true) ∧ Below w.heap.size w w' := by
  have hW0 := hid (Wr.new w)
  go_enter Try.func15, Try.ntmps15
  go_wp2_with fail
  have HC := rput_ok _ _ _ [] 11 2 hW0.out (by simp) (by omega) (by omega)
  rw [show ((11 : Nat) : Int) = 11 from rfl, show ((2 : Nat) : Int) = 2 from rfl, show ([] : List Bool) ++ codeK 11 2 = [true, true, false, true, true] from by decide] at HC
  with_reducible refine HC.mono ?_
  clear HC
  rintro e w4 ⟨rfl, hw⟩
  have hw4 := hid (show WI (w.alloc (.cells #[.slice none 0 0, .int .u8 0, .int .i64 0] 33)) w.heap.size (.slice none 0 0) [true, true, false, true, true] w4 from hw)
  clear hw
  go_wp2_with fail
  obtain ⟨v4, h4, hm4, hk4⟩ := hw4.out
  have h4' := hid h4
  have HC := bytes_any w4 _ v4 _ h4 (by simp)
  with_reducible refine HC.mono ?_
  clear HC h4 hm4 hk4
  rintro e w5 ⟨F, A, c, rfl, hf, hfl, hby⟩
  obtain rfl : F = [216] := flat_inj hby (by decide) (by rw [hfl]; decide)
  have hstr : (convert 31 9 (.slice A 1 c)).run Try.prog w5 = .ok (.string (strOf [216])) w5 := str_of w5 _ [216] (Sl.of_own hf.1) hby
  have hf' := hid hf
  clear hf hfl hby
  have he : ((strOf [216]).toList == [216]) = true := by rw [strOf_list]; decide
  go_wp2_with fail
  have h5 := h4'.out.below hf'.out.2.1
  have h5' := hid h5
  have HC := len_any w5 _ v4 _ h5 (by simp)
  with_reducible refine HC.mono ?_
  clear HC h5
  rintro e w6 ⟨rfl, n6, rfl⟩
  go_wp2_with fail
  have HC := rcost_any 24 0 (w5.drewN n6) (by omega)
  rw [show ((24 : Nat) : Int) = 24 from rfl, show costR 24 0 = 64 from by decide] at HC
  with_reducible refine HC.mono ?_
  clear HC
  rintro e w7 ⟨rfl, rfl⟩
  go_wp2_with fail
  go_ret
  refine ⟨rfl, below_drewN' ?_ n6⟩
  have hb : Below w.heap.size w w4 := (((Below.refl _ w).alloc (Nat.le_refl _) _).trans (hw4.out.below (by simp) (fun k hk => by rw [foot_nil hk]; exact Nat.le_refl _)))
  exact hb.trans (hf'.out.2.1.mono hb.size)
end Go.Proofs.Ytgjiffpiffphfaa
