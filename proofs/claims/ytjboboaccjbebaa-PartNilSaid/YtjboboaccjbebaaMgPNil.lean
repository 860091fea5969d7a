/- The walk of PartNil. -/
import Derived.Test.YtjboboaccjbebaaMgE

namespace Go.Proofs.Ytjboboaccjbebaa
open Go.RowKit
theorem pGet_nil (n : Int) (w : World) : Calls Try.prog 57 #[.pointer none, .int .i64 n] w fun e w' => e = .returned (.tuple #[.slice none 0 0, .int .i64 0, .int .i64 2]) ∧ w = w' := by
  go_enter Try.func57, Try.ntmps57
  go_wp2_with fail
  refine bodyPost_ret (results_tmp3 rfl _ _ _) rfl ?_
  exact ⟨rfl, rfl⟩
namespace partNil
set_option maxRecDepth 100000 in
set_option maxHeartbeats 1600000 in
theorem walk {l : Value} {xs : List Int} {n p : Int} {w : World} (hl : Sl w l (i64s xs)) :
    Calls Try.prog 14 #[l, .int .i64 n, .int .i64 p] w fun e w' => e = .returned (.bool true) ∧ Below w.heap.size w w' := by
  have HL := hid (fun W (h : Sl W l (i64s xs)) => pPut_nil l xs p W h)
  have hb0 : Below w.heap.size w (w.alloc (.cells #[.slice none 0 0, .int .u8 0, .int .i64 0] 27)) := (Below.refl _ _).alloc (Nat.le_refl _) _
  have H := hid (And.intro (hl.below hb0) (And.intro hb0 (Wr.new w)))
  obtain ⟨A, c, rfl, _⟩ := i64s_form hl
  have hmk := fun W => make_int 65537 (by omega) W
  rw [show ((65537 : Nat) : Int) = 65537 from rfl] at hmk
  have HLO := hid (fun W A => pPut_long w.heap.size A 65537 65537 p W (by omega))
  clear hl hb0
  go_enter Try.func14, Try.ntmps14
  go_wp2_with fail
  with_reducible refine (pGet_nil n _).mono ?_
  rintro e w1 ⟨rfl, rfl⟩
  go_wp2_with fail
  with_reducible refine (HL.out _ H.out.1).mono ?_
  rintro e w1 ⟨rfl, hb1⟩
  have H1 := hid (And.intro (H.out.2.1.trans (hb1.mono (by simp))) (H.out.2.2.below hb1))
  clear hb1
  go_wp2_with fail
  with_reducible refine (HLO.out _ _).mono ?_
  rintro e w2 ⟨rfl, hb2⟩
  have hA := (Below.refl w1.heap.size w1).alloc (Nat.le_refl _) (.cells (madeCells #[.int .i64 0] 65537) 3)
  have hB := hA.trans (hb2.mono hA.size)
  have H2 := hid (And.intro (H1.out.1.trans (hB.mono H1.out.1.size)) (H1.out.2.below hB))
  clear hb2 hA hB hmk
  go_wp2_with fail
  with_reducible refine (len_any _ _ _ _ H2.out.2 (by simp)).mono ?_
  rintro e w3 ⟨rfl, n3, rfl⟩
  have H3 := hid (below_drewN' H2.out.1 n3)
  go_wp2_with fail
  with_reducible refine (known09 _).mono ?_
  rintro e w4 ⟨rfl, hb⟩
  have H4 := hid (H3.out.trans (hb.mono H3.out.size))
  clear hb
  go_wp2_with fail
  go_ret
  exact ⟨rfl, H4.out⟩
end partNil
end Go.Proofs.Ytjboboaccjbebaa
