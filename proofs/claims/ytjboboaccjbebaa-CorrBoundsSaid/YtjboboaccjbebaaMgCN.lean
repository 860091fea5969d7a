/- The walks of CorrNil and CorrBounds. -/
import Derived.Test.YtjboboaccjbebaaMgI

namespace Go.Proofs.Ytjboboaccjbebaa
open Go.RowKit

theorem corrGet_nil (n b : Int) (w : World) : Calls Try.prog 62 #[.pointer none, .int .i64 n, .int .i64 b] w fun e w' => e = .returned (.tuple #[.slice none 0 0, .int .i64 2]) ∧ w = w' := by
  go_enter Try.func62, Try.ntmps62
  go_wp2_with fail
  go_ret2
  exact ⟨rfl, rfl⟩
theorem corrCost_long (A : Option Addr) (n c b : Nat) (w : World) (hb : b ≤ 2147483648) (hn : 65536 < n) : Calls Try.prog 61 #[.slice A n c, .int .i64 (b : Int)] w
    fun e w' => e = .returned (.tuple #[.int .i64 0, .int .i64 4]) ∧ Below w.heap.size w w' := by
  have HR := hid (refused_long A n c b w hb hn)
  clear hb hn
  go_enter Try.func61, Try.ntmps61
  go_wp2_with fail
  with_reducible refine HR.out.mono ?_
  rintro e w1 ⟨rfl, hb1⟩
  have H1 := hid hb1
  clear hb1
  go_wp2_with fail
  go_ret2
  exact ⟨rfl, H1.out⟩
namespace corrNil
set_option maxRecDepth 100000 in
set_option maxHeartbeats 1600000 in
theorem walk {l : Value} {xs : List Int} {n b : Int} {w : World} (hl : Sl w l (i64s xs)) :
    Calls Try.prog 17 #[l, .int .i64 n, .int .i64 b] w fun e w' => e = .returned (.bool true) ∧ Below w.heap.size w w' := by
  have HL := hid (fun W (h : Sl W l (i64s xs)) => corrPut_nil l xs b W h)
  have hmk := fun W => make_int 65537 (by omega) W
  rw [show ((65537 : Nat) : Int) = 65537 from rfl] at hmk
  have HC := hid (fun W A => corrCost_long A 65537 65537 1 W (by omega) (by omega))
  simp only [show ((1 : Nat) : Int) = 1 from rfl] at HC
  have H := hid hl
  obtain ⟨A, c, rfl, _⟩ := i64s_form hl
  clear hl
  go_enter Try.func17, Try.ntmps17
  go_wp2_with fail
  with_reducible refine (corrGet_nil n b _).mono ?_
  rintro e w1 ⟨rfl, rfl⟩
  go_wp2_with fail
  with_reducible refine (HC.out _ _).mono ?_
  rintro e w2 ⟨rfl, hb2⟩
  have hA := (Below.refl w.heap.size w).alloc (Nat.le_refl _) (.cells (madeCells #[.int .i64 0] 65537) 3)
  have H2 := hid (hA.trans (hb2.mono hA.size))
  clear hb2 hA hmk
  go_wp2_with fail
  with_reducible refine (HL.out _ (H.out.below H2.out)).mono ?_
  rintro e w3 ⟨rfl, rfl⟩
  go_wp2_with fail
  with_reducible refine (known21 _).mono ?_
  rintro e w4 ⟨rfl, hb⟩
  have H4 := hid (H2.out.trans (hb.mono H2.out.size))
  clear hb
  go_wp2_with fail
  go_ret
  exact ⟨rfl, H4.out⟩
end corrNil

namespace corrBounds
set_option maxRecDepth 100000 in
set_option maxHeartbeats 4000000 in
theorem walk {l : Value} {xs : List Int} {w : World} (hl : Sl w l (i64s xs)) (hx : InI xs) :
    Calls Try.prog 16 #[l] w fun e w' => e = .returned (.bool true) ∧ Below w.heap.size w w' := by
  obtain ⟨A, c, rfl, _⟩ := i64s_form hl
  by_cases h : 120 < xs.length
  · have h' : (120 : Int) < xs.length := by omega
    clear hl hx
    go_enter Try.func16, Try.ntmps16
    go_wp2_with fail
    with_reducible refine (known21 _).mono ?_
    rintro e w1 ⟨rfl, hb⟩
    replace hb := hid hb
    go_wp2_with fail
    go_ret
    exact ⟨rfl, hb.out⟩
  have h' : ¬ (120 : Int) < xs.length := by omega
  have HB1 := hid (cbound_any _ xs w hl)
  have HB2 := hid (refcbound_any _ xs w hl)
  obtain ⟨r1, r2, r3, r4⟩ := @boundL_refE xs (by omega)
  have HC := hid (fun W (hW : Sl W (.slice A xs.length c) (i64s xs)) b => corrCost_any (.slice A xs.length c) xs b W hW hx)
  have hbl := (boundL_le xs).1
  have H := hid hl
  obtain ⟨b, hb⟩ : ∃ b, boundL xs = b := ⟨_, rfl⟩
  rw [hb] at HB1 HB2 r1 r2 r3 r4 hbl
  clear hl hx hb h
  have eb : ((b : Int) != (b : Int)) = false := by simp
  have HC1 := hid (fun W hW => HC.out W hW (b : Int))
  have HC2 := hid (fun W hW => HC.out W hW ((b : Int) - 1))
  have hwb : IntKind.i64.wrap ((b : Int) - 1) = (b : Int) - 1 := IntWalk.i64_in _ (by omega)
  obtain ⟨x, hxx⟩ : ∃ x, corrC xs (b : Int) = x := ⟨_, rfl⟩
  obtain ⟨y, hyy⟩ : ∃ y, corrC xs ((b : Int) - 1) = y := ⟨_, rfl⟩
  simp only [hxx] at HC1
  simp only [hyy] at HC2
  clear hxx hyy HC
  by_cases hbig : 2147483648 < b
  · have hb1 : (2147483648 : Int) < b := by omega
    simp only [r2 hbig] at HC1
    clear r1 r2 r3 r4 hbig HC2
    go_enter Try.func16, Try.ntmps16
    go_wp2_with fail
    with_reducible refine HB1.out.mono ?_
    rintro e w1 ⟨rfl, rfl⟩
    go_wp2_with fail
    with_reducible refine HB2.out.mono ?_
    rintro e w1 ⟨rfl, rfl⟩
    go_wp2_with fail
    with_reducible refine (HC1.out _ H.out).mono ?_
    rintro e w2 ⟨rfl, hb2⟩
    have H2 := hid hb2
    clear hb2
    go_wp2_with fail
    with_reducible refine (known21 _).mono ?_
    rintro e w4 ⟨rfl, hb⟩
    have H4 := hid (H2.out.trans (hb.mono H2.out.size))
    clear hb
    go_wp2_with fail
    go_ret
    exact ⟨rfl, H4.out⟩
  have hb1 : ¬ (2147483648 : Int) < b := by omega
  simp only [r1 (by omega)] at HC1
  have h2 : (((b : Int) == 0) = true ∧ refE xs ((b : Int) - 1) = 1) ∨ (((b : Int) == 0) = false ∧ (0 : Int) < b ∧ refE xs ((b : Int) - 1) = 37) := by
    by_cases e : b = 0
    · exact .inl ⟨by rw [beq_iff_eq]; omega, r3 e⟩
    · exact .inr ⟨by rw [beq_eq_false_iff_ne]; omega, by omega, r4 (by omega) (by omega)⟩
  clear r1 r2 r3 r4 hbig
  rcases h2 with ⟨h2, h3⟩ | ⟨h2, h4, h3⟩
  all_goals (
    simp only [h3] at HC2
    clear h3
    go_enter Try.func16, Try.ntmps16
    go_wp2_with fail
    with_reducible refine HB1.out.mono ?_
    rintro e w1 ⟨rfl, rfl⟩
    go_wp2_with fail
    with_reducible refine HB2.out.mono ?_
    rintro e w1 ⟨rfl, rfl⟩
    go_wp2_with fail
    with_reducible refine (HC1.out _ H.out).mono ?_
    rintro e w2 ⟨rfl, hb2⟩
    have H2 := hid hb2
    clear hb2
    go_wp2_with fail
    with_reducible refine (HC2.out _ (H.out.below H2.out)).mono ?_
    rintro e w3 ⟨rfl, hb3⟩
    have H3 := hid (H2.out.trans (hb3.mono H2.out.size))
    clear hb3
    go_wp2_with fail
    with_reducible refine (known21 _).mono ?_
    rintro e w4 ⟨rfl, hb⟩
    have H4 := hid (H3.out.trans (hb.mono H3.out.size))
    clear hb
    go_wp2_with fail
    go_ret
    exact ⟨rfl, H4.out⟩)
end corrBounds
end Go.Proofs.Ytjboboaccjbebaa
