/- Layer 8: the reference's Get. -/
import Derived.Test.YtgjiffpiffphfaaEvenGA
import Derived.Test.YtgjiffpiffphfaaERef
import Derived.Test.YtgjiffpiffphfaaRefRd
namespace Go.Proofs.Ytgjiffpiffphfaa
open Go.RowKit

set_option maxRecDepth 100000 in
set_option maxHeartbeats 4000000 in
theorem refget08_any (w : World) (p : Nat) (v : Value) (L : List Bool) (i n : Nat) (h : RefRd w p v L i) (h1 : 1 ≤ n) (hn : n ≤ 1099511627776) :
    Calls Try.prog 80 #[.pointer (some ⟨p, 0, none⟩), .int .u64 (n : Int)] w fun e w' => e = .returned (.tuple #[.int .u64 ((egT L i n).1 : Int), .int .i64 (egT L i n).2.1]) ∧ RRI w p v L (egT L i n).2.2 w' := by
  have HT := hid (egT.eq_1 L i n)
  have hb := (eB_le n h1 hn).1
  have hsb : eS n < 1099511627776 := by have := eS_fits (v := 0) h1 hn (by omega); omega
  have HPW := refwidth_at ((n : Int) - 1) (n - 1) (by omega) w (by omega)
  rw [show wid (n - 1) = eB n from rfl] at HPW
  have HSH := hid (fun W => refshort_any n W h1 hn)
  have hn1 : n = 1 → eB n = 0 := fun e => by subst e; decide +kernel
  have hn2 : n ≠ 1 → 1 ≤ eB n := fun e => by
    have := (wid_ge (n - 1) (by omega) (by omega)).2
    exact this
  have HG := hid (fun (m : Int) w' j (h : RefRd w' p v L j) => refget_any w' p v L j m h)
  have H := hid h
  clear h
  obtain ⟨b, hbe⟩ : ∃ b, eB n = b := ⟨_, rfl⟩
  obtain ⟨s, hse⟩ : ∃ s, eS n = s := ⟨_, rfl⟩
  rw [hbe] at hb HT HPW hn1 hn2
  rw [hse] at hsb HT HSH
  replace HPW := hid HPW
  clear hbe hse
  obtain ⟨r, hr⟩ : ∃ r, egT L i n = r := ⟨_, rfl⟩
  rw [hr] at HT ⊢
  clear hr
  by_cases h0 : b = 0
  · have hb00 : n = 1 := Decidable.byContradiction fun hc => by have := hn2 hc; omega
    have hb0 : ((n : Int) == 1) = true := by rw [beq_iff_eq]; omega
    clear hb00
    have HB0 := hid h0
    clear h0
    go_enter Try.func80, Try.ntmps80
    go_wp2_with fail
    go_ret2
    rw [HT.out, if_pos HB0.out]
    exact ⟨rfl, H.out, .refl _ _⟩
  have hb0 : ((n : Int) == 1) = false := by rw [beq_eq_false_iff_ne]; intro hc; exact h0 (hn1 (by omega))
  have HT2 := HT.out
  rw [if_neg h0] at HT2
  have hb1 : 1 ≤ b := by omega
  have hvl := getVal_lt L i (b - 1)
  rw [show ((b - 1 : Nat) : Int) = (b : Int) - 1 by omega] at hvl
  have hp : 2 ^ (b - 1) ≤ 2 ^ 39 := Nat.pow_le_pow_right (by omega) (by omega)
  have HG1 := HG.out ((b : Int) - 1)
  obtain ⟨x, hx⟩ : ∃ x, getVal L i ((b : Int) - 1) = x := ⟨_, rfl⟩
  obtain ⟨e1, he1⟩ : ∃ e1, getErr L i ((b : Int) - 1) = e1 := ⟨_, rfl⟩
  obtain ⟨j, hj⟩ : ∃ j, getAt L i ((b : Int) - 1) = j := ⟨_, rfl⟩
  rw [hx, he1, hj] at HT2
  have hxl : x < 549755813888 := by rw [hx] at hvl; omega
  have hx0 : e1 ≠ 0 → x = 0 := fun h => by rw [← hx]; rw [← he1] at h; unfold getErr at h; unfold getVal; split at h; rw [if_pos (by omega)]; split at h; rw [if_pos (by omega)]; exact absurd rfl h
  have HGI := hid (fun w' (hw : RefRd w' p v L i) => by have := HG1 w' i hw; rw [hx, he1, hj] at this; exact this)
  have hyl := getVal_lt L j 1
  rw [show ((1 : Nat) : Int) = 1 from rfl] at hyl
  have HG2 := HG.out 1
  obtain ⟨y, hy⟩ : ∃ y, getVal L j 1 = y := ⟨_, rfl⟩
  obtain ⟨e2, he2⟩ : ∃ e2, getErr L j 1 = e2 := ⟨_, rfl⟩
  obtain ⟨a, ha⟩ : ∃ a, getAt L j 1 = a := ⟨_, rfl⟩
  rw [hy, he2, ha] at HT2
  rw [hy] at hyl
  have HGJ := hid (fun w' (hw : RefRd w' p v L j) => by have := HG2 w' j hw; rw [hy, he2, ha] at this; exact this)
  clear hvl hp HG1 hx he1 hj HG2 hy he2 ha HT h0
  replace hyl : y < 2 := hyl
  replace HT2 := hid HT2
  by_cases hz : e1 = 0
  · subst hz
    by_cases hlt : x < s
    · have hlt' : (x : Int) < s := by omega
      go_enter Try.func80, Try.ntmps80
      go_wp2_with fail
      with_reducible refine HPW.out.mono ?_
      rintro e w1 ⟨rfl, rfl⟩
      go_wp2_with fail
      with_reducible refine (HGI.out _ H.out).mono ?_
      rintro e w2 ⟨rfl, hr2⟩
      have H2 := hid (show RRI w p v L j w2 from ⟨hr2.1, hr2.2⟩)
      clear hr2
      go_wp2_with fail
      with_reducible refine (HSH.out _).mono ?_
      rintro e w9 ⟨rfl, rfl⟩
      go_wp2_with fail
      go_ret2
      rw [HT2.out, if_neg (by simp), if_pos hlt]
      exact ⟨rfl, H2.out⟩
    · have hlt' : ¬ (x : Int) < s := by omega
      have hmul : IntKind.u64.wrap ((x : Int) * 2) = ((2 * x : Nat) : Int) := by rw [IntWalk.u64_in _ (by omega)]; omega
      by_cases hz2 : e2 = 0
      · subst hz2
        go_enter Try.func80, Try.ntmps80
        go_wp2_with fail
        with_reducible refine HPW.out.mono ?_
        rintro e w1 ⟨rfl, rfl⟩
        go_wp2_with fail
        with_reducible refine (HGI.out _ H.out).mono ?_
        rintro e w2 ⟨rfl, hr2⟩
        have H2 := hid (show RRI w p v L j w2 from ⟨hr2.1, hr2.2⟩)
        clear hr2
        go_wp2_with fail
        with_reducible refine (HSH.out _).mono ?_
        rintro e w9 ⟨rfl, rfl⟩
        go_wp2_with fail
        with_reducible refine (HGJ.out _ (RRI.rd H2.out)).mono ?_
        rintro e w3 ⟨rfl, hr3⟩
        have H3 := hid hr3
        clear hr3
        go_wp2_with fail
        with_reducible refine (HSH.out _).mono ?_
        rintro e w9 ⟨rfl, rfl⟩
        go_wp2_with fail
        go_ret2
        rw [HT2.out, if_neg (by simp), if_neg hlt, if_neg (by simp)]
        exact ⟨by show Ending.returned (.tuple #[.int .u64 (2 * (x : Int) + y - s), .int .i64 0]) = Ending.returned (.tuple #[.int .u64 ((2 * x + y - s : Nat) : Int), .int .i64 0]); rw [show (2 * (x : Int) + y - s) = ((2 * x + y - s : Nat) : Int) by omega], H2.out.trans H3.out⟩
      · have hz2' : (e2 == 0) = false := by rw [beq_eq_false_iff_ne]; exact hz2
        go_enter Try.func80, Try.ntmps80
        go_wp2_with fail
        with_reducible refine HPW.out.mono ?_
        rintro e w1 ⟨rfl, rfl⟩
        go_wp2_with fail
        with_reducible refine (HGI.out _ H.out).mono ?_
        rintro e w2 ⟨rfl, hr2⟩
        have H2 := hid (show RRI w p v L j w2 from ⟨hr2.1, hr2.2⟩)
        clear hr2
        go_wp2_with fail
        with_reducible refine (HSH.out _).mono ?_
        rintro e w9 ⟨rfl, rfl⟩
        go_wp2_with fail
        with_reducible refine (HGJ.out _ (RRI.rd H2.out)).mono ?_
        rintro e w3 ⟨rfl, hr3⟩
        have H3 := hid hr3
        clear hr3
        go_wp2_with fail
        go_ret2
        rw [HT2.out, if_neg (by simp), if_neg hlt, if_pos hz2]
        exact ⟨rfl, H2.out.trans H3.out⟩
  · have hz' : (e1 == 0) = false := by rw [beq_eq_false_iff_ne]; exact hz
    go_enter Try.func80, Try.ntmps80
    go_wp2_with fail
    with_reducible refine HPW.out.mono ?_
    rintro e w1 ⟨rfl, rfl⟩
    go_wp2_with fail
    with_reducible refine (HGI.out _ H.out).mono ?_
    rintro e w2 ⟨rfl, hr2⟩
    have H2 := hid (show RRI w p v L j w2 from ⟨hr2.1, hr2.2⟩)
    clear hr2
    go_wp2_with fail
    go_ret2
    rw [HT2.out, if_pos hz, hx0 hz]
    exact ⟨rfl, H2.out⟩

end Go.Proofs.Ytgjiffpiffphfaa
