/- The walk of CoefQuants. -/
import Derived.Test.YtfbccmogiafgfaaSame12
import Derived.Test.YtfbccmogiafgfaaKnown12
import Derived.Deep.RegionHeld3
namespace Go.Proofs.Ytfbccmogiafgfaa
open Go.RowKit

namespace coefQuants
/-- Behind the fixed calls. -/
theorem known_end {w w1 : World} (hb : Below w.heap.size w w1) : Calls Try.prog 14 #[] w1 fun e w' => e = .returned (.bool true) ∧ Below w.heap.size w w' :=
  (known12 w1).mono fun _ _ ⟨he, hb1⟩ => ⟨he, hb.trans (hb1.mono hb.size)⟩

set_option maxRecDepth 100000 in
set_option maxHeartbeats 4000000 in
theorem walk_long (A : Option Addr) (c : Nat) (xs : List Int) (n : Int) (w : World) (h1 : 100 < xs.length) :
    Calls Try.prog 4 #[.slice A xs.length c, .int .i64 n] w fun e w' => e = .returned (.bool true) ∧ Below w.heap.size w w' := by
  have h1' : (100 : Int) < xs.length := by omega
  go_enter Try.func4, Try.ntmps4
  go_wp2_with fail
  with_reducible refine (known_end (Below.refl _ w)).mono ?_
  rintro e w1 ⟨rfl, hb⟩
  replace hb := hid hb
  go_wp2_with fail
  go_ret
  exact ⟨rfl, hb.out⟩

/-- A predictor of nothing, behind a call. -/
theorem none_same {w w1 w2 : World} {A1 : Option Addr} {c1 : Nat} (hf : FreshI w [] (.slice A1 0 c1) w1) (hb : Below w1.heap.size w1 w2) :
    Calls Try.prog 16 #[.agg #[.slice A1 0 c1, .int .i64 0], .agg #[.slice none 0 0, .int .i64 0]] w2 fun e w' => e = .returned (.bool true) ∧ Below w.heap.size w w' :=
  (refsame_same _ _ [] 0 w2 (hf.sl.below hb) (Sl.nil_ _)).mono fun _ _ ⟨he, h⟩ => ⟨he, (hf.2.1.trans (hb.mono hf.2.1.size)).trans (h.mono (Nat.le_trans hf.2.1.size hb.size))⟩

set_option maxRecDepth 100000 in
set_option maxHeartbeats 4000000 in
theorem walk_arg (l : Value) (xs : List Int) (n : Int) (w : World) (hl : Sl w l (i64s xs)) (hm : xs.length ≤ 100) (hn : n < 2 ∨ 16 < n) :
    Calls Try.prog 4 #[l, .int .i64 n] w fun e w' => e = .returned (.bool true) ∧ Below w.heap.size w w' := by
  obtain ⟨A, c, rfl, _⟩ := i64s_form hl
  have h1' : ¬ (100 : Int) < xs.length := by omega
  have hQ := hid (quant_arg (.slice A xs.length c) n w hn)
  clear hl
  rcases hn with hn | hn
  all_goals
    try have hn' : ¬ n < 2 := by omega
    go_enter Try.func4, Try.ntmps4
    go_wp2_with fail
    with_reducible refine hQ.out.mono ?_
    rintro e w1 ⟨A1, c1, rfl, hf⟩
    have HF := hid hf
    clear hf
    go_wp2_with fail
    have HC := none_same HF.out ((Below.refl _ w1).alloc (Nat.le_refl _) (.cells #[.slice A1 0 c1, .int .i64 0] 25))
    with_reducible refine HC.mono ?_
    clear HC
    rintro e w2 ⟨rfl, hb2⟩
    have HB := hid hb2
    clear hb2
    go_wp2_with fail
    with_reducible refine (known_end HB.out).mono ?_
    rintro e w3 ⟨rfl, hb⟩
    replace hb := hid hb
    go_wp2_with fail
    go_ret
    exact ⟨rfl, hb.out⟩

set_option maxRecDepth 100000 in
set_option maxHeartbeats 4000000 in
theorem walk_many (l : Value) (xs : List Int) (n : Int) (w : World) (hl : Sl w l (i64s xs)) (hm : xs.length ≤ 100) (hm2 : 32 < xs.length) (hn : 2 ≤ n) (hn2 : n ≤ 16) :
    Calls Try.prog 4 #[l, .int .i64 n] w fun e w' => e = .returned (.bool true) ∧ Below w.heap.size w w' := by
  obtain ⟨A, c, rfl, _⟩ := i64s_form hl
  have h1' : ¬ (100 : Int) < xs.length := by omega
  have h2' : (32 : Int) < xs.length := by omega
  have h3 : ¬ n < 2 := by omega
  have h4 : ¬ 16 < n := by omega
  have hQ := hid (quant_long A xs.length c n w hn hn2 hm2)
  clear hl
  go_enter Try.func4, Try.ntmps4
  go_wp2_with fail
  with_reducible refine hQ.out.mono ?_
  rintro e w1 ⟨A1, c1, rfl, hf⟩
  have HF := hid hf
  clear hf
  go_wp2_with fail
  have HC := none_same HF.out ((Below.refl _ w1).alloc (Nat.le_refl _) (.cells #[.slice A1 0 c1, .int .i64 0] 25))
  with_reducible refine HC.mono ?_
  clear HC
  rintro e w2 ⟨rfl, hb2⟩
  have HB := hid hb2
  clear hb2
  go_wp2_with fail
  with_reducible refine (known_end HB.out).mono ?_
  rintro e w3 ⟨rfl, hb⟩
  replace hb := hid hb
  go_wp2_with fail
  go_ret
  exact ⟨rfl, hb.out⟩

/-- What Quant makes is right. -/
theorem quant_right (t : Int) (k sh : Nat) (xs : List Int) (ht : 0 ≤ t) (ht2 : t ≤ 32767) (hm : xs.length ≤ 32) (hs : sh ≤ 15) : rightB (quantS t k xs).1 (sh : Int) = true := by
  unfold rightB
  rw [quantS_length, decide_eq_true (by omega), Bool.true_and]
  suffices h : ∀ ys : List Int, (quantS t k ys.reverse).1.all okC = true by
    have := h xs.reverse
    rwa [List.reverse_reverse] at this
  intro ys
  induction ys with
  | nil => simp [quantS]
  | cons y ys ih =>
    rw [List.reverse_cons, quantS_snoc, qStep, List.all_append, ih]
    have := clampI_bd (rnd (nearI y + (quantS t k ys.reverse).2) k) (-t) t (by omega)
    simp [okC]
    omega

/-- The predictor that was made, in its variable, and the coefficients that came in. -/
structure QS (w : World) (q : Nat) (v l : Value) (L xs : List Int) (sh : Nat) (wr : World) : Prop where
  bel : Below w.heap.size w wr
  cell : wr.cell? ⟨q, 0, none⟩ = some v ∧ wr.cell? ⟨q, 1, none⟩ = some (.int .i64 (sh : Int))
  lt : q < wr.heap.size
  sl : Sl wr v (i64s L)
  old : Sl wr l (i64s xs)
theorem QS.later {w wr w' : World} {q : Nat} {v l : Value} {L xs : List Int} {sh : Nat} (h : QS w q v l L xs sh wr) (hb : Below wr.heap.size wr w') : QS w q v l L xs sh w' :=
  ⟨h.bel.trans (hb.mono h.bel.size), ⟨(hb.cell (p := ⟨q, 0, none⟩) h.lt).trans h.cell.1, (hb.cell (p := ⟨q, 1, none⟩) h.lt).trans h.cell.2⟩, Nat.lt_of_lt_of_le h.lt hb.size, h.sl.below hb, h.old.below hb⟩
theorem QS.drew {w wr : World} {q : Nat} {v l : Value} {L xs : List Int} {sh : Nat} (h : QS w q v l L xs sh wr) : QS w q v l L xs sh wr.drew := h.later (Below.refl _ _).drew

set_option maxRecDepth 100000 in
set_option maxHeartbeats 4000000 in
theorem walk_main (l : Value) (xs : List Int) (n : Nat) (w : World) (hl : Sl w l (i64s xs)) (hm : xs.length ≤ 32) (hn : 2 ≤ n) (hn2 : n ≤ 16) :
    Calls Try.prog 4 #[l, .int .i64 (n : Int)] w fun e w' => e = .returned (.bool true) ∧ Below w.heap.size w w' := by
  have hQ := quant_ok l xs n w hl hn hn2 hm
  have hR := fun W => fun h : Sl W l (i64s xs) => refquant_any l xs n W h hn hn2 hm
  have ht1 : (1 : Int) ≤ 2 ^ (n - 1) := pow_le_int (k := 0) (by omega)
  have ht2 : (2 : Int) ^ (n - 1) ≤ 32768 := pow_le_int (n := 15) (by omega)
  have hsh15 : shiftN xs (2 ^ (n - 1) - 1) ≤ 15 := downTo_le _ 15
  have hright := quant_right (2 ^ (n - 1) - 1) (24 - shiftN xs (2 ^ (n - 1) - 1)) (shiftN xs (2 ^ (n - 1) - 1)) xs (by omega) (by omega) hm hsh15
  generalize (quantS (2 ^ (n - 1) - 1) (24 - shiftN xs (2 ^ (n - 1) - 1)) xs).1 = L at *
  generalize shiftN xs (2 ^ (n - 1) - 1) = sh at *
  clear ht1 ht2 hsh15
  obtain ⟨A, c, rfl, _⟩ := i64s_form hl
  have h1' : ¬ (100 : Int) < xs.length := by omega
  have h2' : ¬ (32 : Int) < xs.length := by omega
  have h3 : ¬ (n : Int) < 2 := by omega
  have h4 : ¬ 16 < (n : Int) := by omega
  have HH := hid (And.intro hQ (And.intro hR (And.intro hright hl)))
  clear hQ hR hright hl
  go_enter Try.func4, Try.ntmps4
  go_wp2_with fail
  with_reducible refine HH.out.1.mono ?_
  rintro e w1 ⟨A1, c1, rfl, hf⟩
  have hb1 := hf.2.1.alloc hf.2.1.size (.cells #[.slice A1 L.length c1, .int .i64 (sh : Int)] 25)
  have HF := hid (show QS w w1.heap.size (.slice A1 L.length c1) (.slice A xs.length c) L xs sh (w1.alloc (.cells #[.slice A1 L.length c1, .int .i64 (sh : Int)] 25)) from
    ⟨hb1, by simp, by simp, hf.sl.alloc _, HH.out.2.2.2.below hb1⟩)
  clear hf hb1
  go_wp2_with fail
  go_region_held3 (fun w' => w'.cell? ⟨w1.heap.size, 0, none⟩ = some (.slice A1 L.length c1) ∧ w'.cell? ⟨w1.heap.size, 1, none⟩ = some (.int .i64 (sh : Int))) (first | exact k6 | exact k5 | exact k4 | exact k3 | exact k2 | go_keep)
    (first
      | (go_at_call 17; go_must (refine (HH.out.2.1 _ HF.out.drew.old).mono ?_); rintro e w2 ⟨A2, c2, rfl, hf⟩; have h2 := HF.out.drew.later hf.2.1; have k2 := h2.cell; have H2 := hid (And.intro h2 hf.sl); clear hf h2)
      | (go_at_call 16; go_must (refine (refsame_same _ _ L (sh : Int) _ H2.out.1.sl H2.out.2).mono ?_); rintro e w3 ⟨rfl, hb⟩; have h3 := H2.out.1.later hb; have k3 := h3.cell; have H3 := hid h3; clear hb h3)
      | (go_at_call 18; go_must (refine (refright_any _ L (sh : Int) _ H3.out.sl).mono ?_); rintro e w4 ⟨he4, hb⟩; rw [HH.out.2.2.1] at he4; subst he4; have h4 := H3.out.later hb; have k4 := h4.cell; have H4 := hid h4; clear hb h4)
      | (go_at_call 19; go_must (refine (right_any _ L (sh : Int) _ H4.out.sl).mono ?_); rintro e w5 ⟨he5, hb⟩; rw [HH.out.2.2.1] at he5; subst he5; have h5 := H4.out.later hb; have k5 := h5.cell; have H5 := hid h5; clear hb h5)
      | (go_at_call 14; go_must (refine (known12 _).mono ?_); rintro e w6 ⟨rfl, hb6⟩; have h6 := H5.out.later hb6; have k6 := h6.cell; replace hb6 := hid h6.bel; clear h6))
  all_goals (go_wp2_with fail)
  all_goals (go_ret)
  all_goals exact ⟨rfl, hb6.out⟩
theorem walk {v : Value} {xs : List Int} {n : Int} {w : World} (hl : Sl w v (i64s xs)) :
    Calls Try.prog 4 #[v, .int .i64 n] w fun e w' => e = .returned (.bool true) ∧ Below w.heap.size w w' := by
  by_cases h : 100 < xs.length
  · obtain ⟨A, c, rfl, hm⟩ := i64s_form hl
    exact walk_long A c xs n w h
  by_cases h2 : n < 2 ∨ 16 < n
  · exact walk_arg v xs n w hl (by omega) h2
  by_cases h3 : 32 < xs.length
  · exact walk_many v xs n w hl (by omega) h3 (by omega) (by omega)
  · obtain ⟨m, rfl⟩ := Int.eq_ofNat_of_zero_le (show 0 ≤ n by omega)
    exact walk_main v xs m w hl (by omega) (by omega) (by omega)
end coefQuants
end Go.Proofs.Ytfbccmogiafgfaa
