/- The walk of CoefRights. -/
import Derived.Test.YtfbccmogiafgfaaTrim
import Derived.Test.YtfbccmogiafgfaaKnown12
import Derived.Deep.RegionHeld3
namespace Go.Proofs.Ytfbccmogiafgfaa
open Go.RowKit

namespace coefRights
/-- Two predictors in their variables. -/
structure RS (w : World) (l m : Value) (xs ys : List Int) (s t : Int) (wr : World) : Prop where
  bel : Below w.heap.size w wr
  cell : wr.cell? ⟨w.heap.size, 0, none⟩ = some l ∧ wr.cell? ⟨w.heap.size, 1, none⟩ = some (.int .i64 s) ∧ wr.cell? ⟨w.heap.size + 1, 0, none⟩ = some m ∧ wr.cell? ⟨w.heap.size + 1, 1, none⟩ = some (.int .i64 t)
  lt : w.heap.size + 1 < wr.heap.size
  sl : Sl wr l (i64s xs)
  sm : Sl wr m (i64s ys)
theorem RS.later {w wr w' : World} {l m : Value} {xs ys : List Int} {s t : Int} (h : RS w l m xs ys s t wr) (hb : Below wr.heap.size wr w') : RS w l m xs ys s t w' := by
  have hl := h.lt
  exact ⟨h.bel.trans (hb.mono h.bel.size), ⟨(hb.cell (p := ⟨w.heap.size, 0, none⟩) (by show w.heap.size < _; omega)).trans h.cell.1, (hb.cell (p := ⟨w.heap.size, 1, none⟩) (by show w.heap.size < _; omega)).trans h.cell.2.1, (hb.cell (p := ⟨w.heap.size + 1, 0, none⟩) hl).trans h.cell.2.2.1, (hb.cell (p := ⟨w.heap.size + 1, 1, none⟩) hl).trans h.cell.2.2.2⟩, Nat.lt_of_lt_of_le hl hb.size, h.sl.below hb, h.sm.below hb⟩
theorem RS.drew {w wr : World} {l m : Value} {xs ys : List Int} {s t : Int} (h : RS w l m xs ys s t wr) : RS w l m xs ys s t wr.drew := h.later (Below.refl _ _).drew

theorem known_end {w w1 : World} (hb : Below w.heap.size w w1) : Calls Try.prog 14 #[] w1 fun e w' => e = .returned (.bool true) ∧ Below w.heap.size w w' :=
  (known12 w1).mono fun _ _ ⟨he, hb1⟩ => ⟨he, hb.trans (hb1.mono hb.size)⟩

set_option maxRecDepth 100000 in
set_option maxHeartbeats 4000000 in
theorem walk_long (A B : Option Addr) (c d : Nat) (xs ys : List Int) (s t : Int) (w : World) (h : 100 < xs.length ∨ 100 < ys.length) :
    Calls Try.prog 7 #[.agg #[.slice A xs.length c, .int .i64 s], .agg #[.slice B ys.length d, .int .i64 t]] w fun e w' => e = .returned (.bool true) ∧ Below w.heap.size w w' := by
  have hb := hid (((Below.refl _ w).alloc (Nat.le_refl _) (.cells #[.slice A xs.length c, .int .i64 s] 25)).alloc (by simp) (.cells #[.slice B ys.length d, .int .i64 t] 25))
  by_cases h1 : 100 < xs.length
  · have h1' : (100 : Int) < xs.length := by omega
    clear h
    go_enter Try.func7, Try.ntmps7
    go_wp2_with fail
    with_reducible refine (known_end hb.out).mono ?_
    rintro e w1 ⟨rfl, hb1⟩
    replace hb1 := hid hb1
    go_wp2_with fail
    go_ret
    exact ⟨rfl, hb1.out⟩
  · have h1' : ¬ (100 : Int) < xs.length := by omega
    have h2' : (100 : Int) < ys.length := by omega
    clear h
    go_enter Try.func7, Try.ntmps7
    go_wp2_with fail
    with_reducible refine (known_end hb.out).mono ?_
    rintro e w1 ⟨rfl, hb1⟩
    replace hb1 := hid hb1
    go_wp2_with fail
    go_ret
    exact ⟨rfl, hb1.out⟩

def sameB (xs ys : List Int) (s t : Int) : Bool := decide (s = t ∧ xs = ys)
theorem sameB_self (xs : List Int) (s : Int) : sameB xs xs s s = true := by simp [sameB]
theorem sameb (a b : Value) (xs ys : List Int) (s t : Int) (w : World) (ha : Sl w a (i64s xs)) (hb : Sl w b (i64s ys)) :
    Calls Try.prog 30 #[.agg #[a, .int .i64 s], .agg #[b, .int .i64 t]] w fun e w' => e = .returned (.bool (sameB xs ys s t)) ∧ Below w.heap.size w w' := same_any a b xs ys s t w ha hb
theorem refsameb (a b : Value) (xs ys : List Int) (s t : Int) (w : World) (ha : Sl w a (i64s xs)) (hb : Sl w b (i64s ys)) :
    Calls Try.prog 16 #[.agg #[a, .int .i64 s], .agg #[b, .int .i64 t]] w fun e w' => e = .returned (.bool (sameB xs ys s t)) ∧ Below w.heap.size w w' := refsame_any a b xs ys s t w ha hb

set_option maxRecDepth 100000 in
set_option maxHeartbeats 8000000 in
theorem walk_main (l m : Value) (xs ys : List Int) (s t : Int) (w : World) (hl : Sl w l (i64s xs)) (hm : Sl w m (i64s ys)) (h1 : xs.length ≤ 100) (h2 : ys.length ≤ 100) :
    Calls Try.prog 7 #[.agg #[l, .int .i64 s], .agg #[m, .int .i64 t]] w fun e w' => e = .returned (.bool true) ∧ Below w.heap.size w w' := by
  obtain ⟨A, c, rfl, _⟩ := i64s_form hl
  obtain ⟨B, d, rfl, _⟩ := i64s_form hm
  have h1' : ¬ (100 : Int) < xs.length := by omega
  have h2' : ¬ (100 : Int) < ys.length := by omega
  have hb := ((Below.refl _ w).alloc (Nat.le_refl _) (.cells #[.slice A xs.length c, .int .i64 s] 25)).alloc (by simp) (.cells #[.slice B ys.length d, .int .i64 t] 25)
  have H0 := hid (show RS w (.slice A xs.length c) (.slice B ys.length d) xs ys s t ((w.alloc (.cells #[.slice A xs.length c, .int .i64 s] 25)).alloc (.cells #[.slice B ys.length d, .int .i64 t] 25)) from
    ⟨hb, by simp, by simp, hl.below hb, hm.below hb⟩)
  clear hl hm hb
  have hcut : (xs.take (cutN xs xs.length)).length ≤ 1000 := by rw [List.length_take]; omega
  obtain ⟨L, hL⟩ : ∃ L, xs.take (cutN xs xs.length) = L := ⟨_, rfl⟩
  have HT := hid (And.intro (fun W (h : Sl W (.slice A xs.length c) (i64s xs)) => trim_any (.slice A xs.length c) xs s W h (by omega)) (fun W (h : Sl W (.slice A xs.length c) (i64s xs)) => reftrim_any (.slice A xs.length c) xs s W h (by omega)))
  rw [hL] at HT
  clear hL hcut
  go_enter Try.func7, Try.ntmps7
  go_wp2_with fail
  go_region_held3 (fun w' => w'.cell? ⟨w.heap.size, 0, none⟩ = some (.slice A xs.length c) ∧ w'.cell? ⟨w.heap.size, 1, none⟩ = some (.int .i64 s) ∧ w'.cell? ⟨w.heap.size + 1, 0, none⟩ = some (.slice B ys.length d) ∧ w'.cell? ⟨w.heap.size + 1, 1, none⟩ = some (.int .i64 t))
    (first | exact k9 | exact k8 | exact k7 | exact k6 | exact k5 | exact k4 | exact k3 | exact k2 | exact k1 | go_keep)
    (first
      | (go_at_call 19; go_must (refine (right_any _ xs s _ H0.out.drew.sl).mono ?_); rintro e w1 ⟨rfl, hb⟩; have h1 := H0.out.drew.later hb; have k1 := h1.cell; have H1 := hid h1; clear hb h1)
      | (go_at_call 18; go_must (refine (refright_any _ xs s _ H1.out.sl).mono ?_); rintro e w2 ⟨rfl, hb⟩; have h2 := H1.out.later hb; have k2 := h2.cell; have H2 := hid h2; clear hb h2)
      | (go_at_call 28; go_must (refine (HT.out.1 _ H2.out.sl).mono ?_); rintro e w3 ⟨v3, rfl, hs3, hb⟩; have h3 := H2.out.later hb; have k3 := h3.cell; have H3 := hid (And.intro h3 hs3); clear hb h3 hs3)
      | (go_at_call 29; go_must (refine (HT.out.2 _ H3.out.1.sl).mono ?_); rintro e w4 ⟨v4, rfl, hs4, hb⟩; have h4 := H3.out.1.later hb; have k4 := h4.cell; have H4 := hid (And.intro h4 (And.intro (H3.out.2.below hb) hs4)); clear hb h4 hs4)
      | (go_at_call 16; (with_reducible refine (refsame_same v3 v4 L s _ H4.out.2.1 H4.out.2.2).mono ?_); rintro e w5 ⟨rfl, hb⟩; have h5 := H4.out.1.later hb; have k5 := h5.cell; have H5 := hid h5; clear hb h5)
      | (go_at_call 30; (with_reducible refine (sameb _ _ xs ys s t _ H5.out.sl H5.out.sm).mono ?_); rintro e w6 ⟨rfl, hb⟩; have h6 := H5.out.later hb; have k6 := h6.cell; have H6 := hid h6; clear hb h6)
      | (go_at_call 16; (with_reducible refine (refsameb _ _ xs ys s t _ H6.out.sl H6.out.sm).mono ?_); rintro e w7 ⟨rfl, hb⟩; have h7 := H6.out.later hb; have k7 := h7.cell; have H7 := hid h7; clear hb h7)
      | (go_at_call 30; go_must (refine (sameb _ _ xs xs s s _ H7.out.sl H7.out.sl).mono ?_); rintro e w8 ⟨he8, hb⟩; rw [sameB_self] at he8; subst he8; have h8 := H7.out.later hb; have k8 := h8.cell; have H8 := hid h8; clear hb h8)
      | (go_at_call 14; go_must (refine (known12 _).mono ?_); rintro e w9 ⟨rfl, hb⟩; have h9 := H8.out.later hb; have k9 := h9.cell; have H9 := hid h9; clear hb h9))
  all_goals (go_wp2_with fail)
  all_goals (go_ret)
  all_goals exact ⟨rfl, H9.out.bel⟩
theorem walk {l m : Value} {xs ys : List Int} {s t : Int} {w : World} (hl : Sl w l (i64s xs)) (hm : Sl w m (i64s ys)) :
    Calls Try.prog 7 #[.agg #[l, .int .i64 s], .agg #[m, .int .i64 t]] w fun e w' => e = .returned (.bool true) ∧ Below w.heap.size w w' := by
  by_cases h : 100 < xs.length ∨ 100 < ys.length
  · obtain ⟨A, c, rfl, _⟩ := i64s_form hl
    obtain ⟨B, d, rfl, _⟩ := i64s_form hm
    exact walk_long A B c d xs ys s t w h
  · exact walk_main l m xs ys s t w hl hm (by omega) (by omega)
end coefRights
end Go.Proofs.Ytfbccmogiafgfaa
