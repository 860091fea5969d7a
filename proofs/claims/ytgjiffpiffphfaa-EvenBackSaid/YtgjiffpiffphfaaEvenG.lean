/- Layer 8: get, Get, Put. -/
import Derived.Test.YtgjiffpiffphfaaEvenPA
import Derived.Test.YtgjiffpiffphfaaRiceG
namespace Go.Proofs.Ytgjiffpiffphfaa
open Go.RowKit

/-- The number, the error, the place behind. -/
def egT (L : List Bool) (i n : Nat) : Nat × Int × Nat :=
  if eB n = 0 then (0, 0, i)
  else if getErr L i ((eB n : Int) - 1) ≠ 0 then (getVal L i ((eB n : Int) - 1), getErr L i ((eB n : Int) - 1), getAt L i ((eB n : Int) - 1))
  else if getVal L i ((eB n : Int) - 1) < eS n then (getVal L i ((eB n : Int) - 1), 0, getAt L i ((eB n : Int) - 1))
  else if getErr L (getAt L i ((eB n : Int) - 1)) 1 ≠ 0 then (0, getErr L (getAt L i ((eB n : Int) - 1)) 1, getAt L (getAt L i ((eB n : Int) - 1)) 1)
  else (2 * getVal L i ((eB n : Int) - 1) + getVal L (getAt L i ((eB n : Int) - 1)) 1 - eS n, 0, getAt L (getAt L i ((eB n : Int) - 1)) 1)

theorem eget_nil (n : Nat) (w : World) : Calls Try.prog 37 #[.pointer none, .int .u64 (n : Int)] w fun e w' => e = .returned (.tuple #[.int .u64 0, .int .i64 2]) ∧ w = w' := by
  go_enter Try.func37, Try.ntmps37
  go_wp2_with fail
  go_ret2
  exact ⟨rfl, rfl⟩

set_option maxRecDepth 100000 in
set_option maxHeartbeats 4000000 in
theorem egetlow_any (w : World) (p : Nat) (v : Value) (F : List Nat) (i n : Nat) (h : Rd w p v F i) (h1 : 1 ≤ n) (hn : n ≤ 1099511627776) :
    Calls Try.prog 75 #[.pointer (some ⟨p, 0, none⟩), .int .u64 (n : Int)] w fun e w' => e = .returned (.tuple #[.int .u64 ((egT (flat F) i n).1 : Int), .int .i64 (egT (flat F) i n).2.1]) ∧ RI w p v F (egT (flat F) i n).2.2 w' := by
  have HT := hid (egT.eq_1 (flat F) i n)
  have hb := (eB_le n h1 hn).1
  have hsb : eS n < 1099511627776 := by have := eS_fits (v := 0) h1 hn (by omega); omega
  have HP := hid (parts_any n w h1 hn)
  have HG := hid (fun (m : Int) w' j (h : Rd w' p v F j) => get_any w' p v F j m h)
  have H := hid h
  clear h
  obtain ⟨L, hL⟩ : ∃ L, flat F = L := ⟨_, rfl⟩
  rw [hL] at HT HG ⊢
  clear hL
  obtain ⟨b, hbe⟩ : ∃ b, eB n = b := ⟨_, rfl⟩
  obtain ⟨s, hse⟩ : ∃ s, eS n = s := ⟨_, rfl⟩
  rw [hbe] at hb HT HP
  rw [hse] at hsb HT HP
  clear hbe hse
  obtain ⟨r, hr⟩ : ∃ r, egT L i n = r := ⟨_, rfl⟩
  rw [hr] at HT ⊢
  clear hr
  by_cases h0 : b = 0
  · have hb0 : ((b : Int) == 0) = true := by rw [beq_iff_eq]; omega
    have HB0 := hid h0
    clear h0
    go_enter Try.func75, Try.ntmps75
    go_wp2_with fail
    with_reducible refine HP.out.mono ?_
    rintro e w1 ⟨rfl, m, rfl⟩
    go_wp2_with fail
    go_ret2
    rw [HT.out, if_pos HB0.out]
    exact ⟨rfl, H.out.drewN m, (Kept.refl _ _).drewN m⟩
  have hb0 : ((b : Int) == 0) = false := by rw [beq_eq_false_iff_ne]; omega
  have HT2 := HT.out
  rw [if_neg h0] at HT2
  have hb1 : 1 ≤ b := by omega
  have hvl := getVal_lt L i (b - 1)
  rw [show ((b - 1 : Nat) : Int) = (b : Int) - 1 by omega] at hvl
  have hp : 2 ^ (b - 1) ≤ 2 ^ 39 := Nat.pow_le_pow_right (by omega) (by omega)
  have HG1 := HG.out ((b : Int) - 1)
  obtain ⟨x, hx⟩ : ∃ x, getVal L i ((b : Int) - 1) = x := ⟨_, rfl⟩
  obtain ⟨e1, he1⟩ : ∃ e1, getErr L i ((b : Int) - 1) = e1 := ⟨_, rfl⟩
  obtain ⟨j, hj⟩ : ∃ j, getAt L i ((b : Int) - 1) = j := ⟨_, rfl⟩
  rw [hx, he1, hj] at HT2
  have hxl : x < 549755813888 := by rw [hx] at hvl; omega
  have HGI := hid (fun w' (hw : Rd w' p v F i) => by have := HG1 w' i hw; rw [hx, he1, hj] at this; exact this)
  have hyl := getVal_lt L j 1
  rw [show ((1 : Nat) : Int) = 1 from rfl] at hyl
  have HG2 := HG.out 1
  obtain ⟨y, hy⟩ : ∃ y, getVal L j 1 = y := ⟨_, rfl⟩
  obtain ⟨e2, he2⟩ : ∃ e2, getErr L j 1 = e2 := ⟨_, rfl⟩
  obtain ⟨a, ha⟩ : ∃ a, getAt L j 1 = a := ⟨_, rfl⟩
  rw [hy, he2, ha] at HT2
  rw [hy] at hyl
  have HGJ := hid (fun w' (hw : Rd w' p v F j) => by have := HG2 w' j hw; rw [hy, he2, ha] at this; exact this)
  clear hvl hp HG1 hx he1 hj HG2 hy he2 ha HT h0
  replace hyl : y < 2 := hyl
  replace HT2 := hid HT2
  by_cases hz : e1 = 0
  · subst hz
    by_cases hlt : x < s
    · have hlt' : (x : Int) < s := by omega
      go_enter Try.func75, Try.ntmps75
      go_wp2_with fail
      with_reducible refine HP.out.mono ?_
      rintro e w1 ⟨rfl, m, rfl⟩
      go_wp2_with fail
      with_reducible refine (HGI.out _ (H.out.drewN m)).mono ?_
      rintro e w2 ⟨rfl, hr2⟩
      have H2 := hid (show RI w p v F j w2 from ⟨hr2.1, ((Kept.refl _ _).drewN m).trans hr2.2 fun _ _ => id⟩)
      clear hr2
      go_wp2_with fail
      go_ret2
      rw [HT2.out, if_neg (by simp), if_pos hlt]
      exact ⟨rfl, H2.out⟩
    · have hlt' : ¬ (x : Int) < s := by omega
      have hmul : IntKind.u64.wrap ((x : Int) * 2) = ((2 * x : Nat) : Int) := by rw [IntWalk.u64_in _ (by omega)]; omega
      by_cases hz2 : e2 = 0
      · subst hz2
        go_enter Try.func75, Try.ntmps75
        go_wp2_with fail
        with_reducible refine HP.out.mono ?_
        rintro e w1 ⟨rfl, m, rfl⟩
        go_wp2_with fail
        with_reducible refine (HGI.out _ (H.out.drewN m)).mono ?_
        rintro e w2 ⟨rfl, hr2⟩
        have H2 := hid (show RI w p v F j w2 from ⟨hr2.1, ((Kept.refl _ _).drewN m).trans hr2.2 fun _ _ => id⟩)
        clear hr2
        go_wp2_with fail
        with_reducible refine (HGJ.out _ (RI.rd H2.out)).mono ?_
        rintro e w3 ⟨rfl, hr3⟩
        have H3 := hid hr3
        clear hr3
        go_wp2_with fail
        go_ret2
        rw [HT2.out, if_neg (by simp), if_neg hlt, if_neg (by simp)]
        exact ⟨by show Ending.returned (.tuple #[.int .u64 (2 * (x : Int) + y - s), .int .i64 0]) = Ending.returned (.tuple #[.int .u64 ((2 * x + y - s : Nat) : Int), .int .i64 0]); rw [show (2 * (x : Int) + y - s) = ((2 * x + y - s : Nat) : Int) by omega], H2.out.trans H3.out⟩
      · have hz2' : (e2 == 0) = false := by rw [beq_eq_false_iff_ne]; exact hz2
        go_enter Try.func75, Try.ntmps75
        go_wp2_with fail
        with_reducible refine HP.out.mono ?_
        rintro e w1 ⟨rfl, m, rfl⟩
        go_wp2_with fail
        with_reducible refine (HGI.out _ (H.out.drewN m)).mono ?_
        rintro e w2 ⟨rfl, hr2⟩
        have H2 := hid (show RI w p v F j w2 from ⟨hr2.1, ((Kept.refl _ _).drewN m).trans hr2.2 fun _ _ => id⟩)
        clear hr2
        go_wp2_with fail
        with_reducible refine (HGJ.out _ (RI.rd H2.out)).mono ?_
        rintro e w3 ⟨rfl, hr3⟩
        have H3 := hid hr3
        clear hr3
        go_wp2_with fail
        go_ret2
        rw [HT2.out, if_neg (by simp), if_neg hlt, if_pos hz2]
        exact ⟨rfl, H2.out.trans H3.out⟩
  · have hz' : (e1 == 0) = false := by rw [beq_eq_false_iff_ne]; exact hz
    go_enter Try.func75, Try.ntmps75
    go_wp2_with fail
    with_reducible refine HP.out.mono ?_
    rintro e w1 ⟨rfl, m, rfl⟩
    go_wp2_with fail
    with_reducible refine (HGI.out _ (H.out.drewN m)).mono ?_
    rintro e w2 ⟨rfl, hr2⟩
    have H2 := hid (show RI w p v F j w2 from ⟨hr2.1, ((Kept.refl _ _).drewN m).trans hr2.2 fun _ _ => id⟩)
    clear hr2
    go_wp2_with fail
    go_ret2
    rw [HT2.out, if_pos hz]
    exact ⟨rfl, H2.out⟩
theorem eget_arg (p n : Nat) (w : World) (h : spanB n = false) : Calls Try.prog 37 #[.pointer (some ⟨p, 0, none⟩), .int .u64 (n : Int)] w fun e w' => e = .returned (.tuple #[.int .u64 0, .int .i64 1]) ∧ w = w' := by
  have HP := span_any n w
  rw [h] at HP
  replace HP := hid HP
  go_enter Try.func37, Try.ntmps37
  go_wp2_with fail
  with_reducible refine HP.out.mono ?_
  rintro e w1 ⟨rfl, rfl⟩
  go_wp2_with fail
  go_ret2
  exact ⟨rfl, rfl⟩
theorem eget_any (w : World) (p : Nat) (v : Value) (F : List Nat) (i n : Nat) (h : Rd w p v F i) (hs : spanB n = true) :
    Calls Try.prog 37 #[.pointer (some ⟨p, 0, none⟩), .int .u64 (n : Int)] w fun e w' => e = .returned (.tuple #[.int .u64 ((egT (flat F) i n).1 : Int), .int .i64 (egT (flat F) i n).2.1]) ∧ RI w p v F (egT (flat F) i n).2.2 w' := by
  obtain ⟨h1, hn⟩ := (spanB_iff n).1 hs
  have HP := span_any n w
  rw [hs] at HP
  replace HP := hid HP
  have HG := hid (egetlow_any w p v F i n h h1 hn)
  obtain ⟨r, hr⟩ : ∃ r, egT (flat F) i n = r := ⟨_, rfl⟩
  rw [hr] at HG ⊢
  clear hr h
  go_enter Try.func37, Try.ntmps37
  go_wp2_with fail
  with_reducible refine HP.out.mono ?_
  rintro e w1 ⟨rfl, rfl⟩
  go_wp2_with fail
  with_reducible refine HG.out.mono ?_
  rintro e w1 ⟨rfl, hr1⟩
  have H1 := hid hr1
  clear hr1
  go_wp2_with fail
  go_ret2
  exact ⟨rfl, H1.out⟩

theorem eputone_nil (v n : Nat) (w : World) : Calls Try.prog 33 #[.pointer none, .int .u64 (v : Int), .int .u64 (n : Int)] w fun e w' => e = .returned (.int .i64 2) ∧ Below w.heap.size w w' := by
  go_enter Try.func33, Try.ntmps33
  go_wp2_with fail
  with_reducible refine (eputall_nil _ n _).mono ?_
  rintro e w1 ⟨rfl, hb⟩
  have HB := hid hb
  clear hb
  go_wp2_with fail
  go_ret
  exact ⟨rfl, ((Below.refl _ _).alloc (Nat.le_refl _) _).trans (HB.out.mono (by simp))⟩
end Go.Proofs.Ytgjiffpiffphfaa
