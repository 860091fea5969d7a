/- The walk of CoefNil. -/
import Derived.Test.YtfbccmogiafgfaaCoefP
import Derived.Test.YtfbccmogiafgfaaKnown12
import Derived.Test.YtfbccmogiafgfaaSame12
namespace Go.Proofs.Ytfbccmogiafgfaa
open Go.RowKit

theorem cget_nil (w : World) : Calls Try.prog 48 #[.pointer none] w fun e w' => e = .returned (.tuple #[.agg #[.slice none 0 0, .int .i64 0], .int .i64 2]) ∧ Below w.heap.size w w' := by
  go_enter Try.func48, Try.ntmps48
  go_wp2_with fail
  exact bodyPost_ret (v := .tuple #[.agg #[.slice none 0 0, .int .i64 0], .int .i64 2]) (by simp [results, Try.results48, go_sem]) rfl ⟨rfl, (Below.refl _ _).alloc (Nat.le_refl _) _⟩

namespace coefNil
set_option maxRecDepth 100000 in
theorem walk {l : Value} {xs : List Int} {s : Int} {w : World} (hl : Sl w l (i64s xs)) :
    Calls Try.prog 12 #[.agg #[l, .int .i64 s]] w fun e w' => e = .returned (.bool true) ∧ Below w.heap.size w w' := by
  obtain ⟨A, c, rfl, _⟩ := i64s_form hl
  have hb0 := hid (show Below w.heap.size w (w.alloc (.cells #[.slice A xs.length c, .int .i64 s] 25)) from (Below.refl _ _).alloc (Nat.le_refl _) _)
  have HB := hid (Blk.new w 25 #[.slice A xs.length c, .int .i64 s])
  clear hl
  go_enter Try.func12, Try.ntmps12
  go_wp2_with fail
  with_reducible refine (cget_nil _).mono ?_
  rintro e w1 ⟨rfl, hb1⟩
  have hB1 : Blk w1 w.heap.size 25 #[.slice A xs.length c, .int .i64 s] := (hb1.block _ HB.out.lt).trans HB.out
  have hlt := hB1.lt
  have hbel : Below w.heap.size w w1 := hb0.out.trans (hb1.mono (by simp))
  have c0 := (hB1.alloc (.cells #[.slice none 0 0, .int .i64 0] 25)).cell 0
  have c1 := (hB1.alloc (.cells #[.slice none 0 0, .int .i64 0] 25)).cell 1
  have H1 := hid (hbel.alloc hbel.size (.cells #[.slice none 0 0, .int .i64 0] 25))
  have hN := Blk.new w1 25 #[.slice none 0 0, .int .i64 0]
  have HN := hid hN
  simp at c0 c1
  clear hB1 hb1 hbel hN
  go_wp2_with fail
  with_reducible refine (cput_nil _ _ _).mono ?_
  rintro e w2 ⟨rfl, hb2⟩
  have hN2 : Blk w2 w1.heap.size 25 #[.slice none 0 0, .int .i64 0] := (hb2.block _ HN.out.lt).trans HN.out
  have d0 := hN2.cell 0
  have d1 := hN2.cell 1
  simp at d0 d1
  have H2 := hid (H1.out.trans (hb2.mono H1.out.size))
  clear hb2 hN2 c0 c1
  go_wp2_with fail
  with_reducible refine (refsame_same _ _ [] 0 _ (Sl.nil_ _) (Sl.nil_ _)).mono ?_
  rintro e w3 ⟨rfl, hb3⟩
  have H3 := hid (H2.out.trans (hb3.mono H2.out.size))
  clear hb3 d0 d1
  go_wp2_with fail
  with_reducible refine (known12 _).mono ?_
  rintro e w4 ⟨rfl, hb4⟩
  have H4 := hid (H3.out.trans (hb4.mono H3.out.size))
  clear hb4
  go_wp2_with fail
  go_ret
  exact ⟨rfl, H4.out⟩
end coefNil
end Go.Proofs.Ytfbccmogiafgfaa
