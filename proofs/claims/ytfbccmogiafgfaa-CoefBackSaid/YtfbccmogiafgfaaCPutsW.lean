/- The walk of CoefPuts. -/
import Derived.Test.YtfbccmogiafgfaaCode12
import Derived.Test.YtfbccmogiafgfaaKnown12
import Derived.Test.YtfbccmogiafgfaaRef02b
import Derived.Test.YtfbccmogiafgfaaWMany
import Derived.Test.YtfbccmogiafgfaaStr
import Derived.Deep.RegionWith
namespace Go.Proofs.Ytfbccmogiafgfaa
open Go.RowKit

/-- A predictor in its variable, and a writer, in memory that is new since w. -/
structure CW (w : World) (p : Nat) (u l : Value) (xs : List Int) (s : Int) (L : List Bool) (wr : World) : Prop where
  pv : PV w l xs s wr
  wr : Wr wr p u L
  low : ∀ k, Foot p u k → w.heap.size < k
section
variable {w wr w1 : World} {p : Nat} {u l : Value} {xs : List Int} {s : Int} {L L' : List Bool}
theorem CW.later (h : CW w p u l xs s L wr) (hb : Below wr.heap.size wr w1) : CW w p u l xs s L w1 := ⟨h.pv.later hb, h.wr.below hb, h.low⟩
theorem CW.drew (h : CW w p u l xs s L wr) : CW w p u l xs s L wr.drew := h.later (Below.refl _ _).drew
theorem CW.drewN (h : CW w p u l xs s L wr) (n : Nat) : CW w p u l xs s L (wr.drewN n) := h.later (below_drewN' (.refl _ _) n)
/-- Behind a call that writes. -/
theorem CW.step (h : CW w p u l xs s L wr) (k : WI wr p u L' w1) : ∃ u', CW w p u' l xs s L' w1 := by
  obtain ⟨u', hw, hm, hk⟩ := k
  refine ⟨u', ⟨Kept.after h.pv.bel (Nat.le_refl _) hk fun i hi => Nat.le_of_lt (h.low i hi), h.pv.bx.kept hk fun hf => by have := h.low _ hf; omega, h.pv.old⟩, hw, fun i hi => ?_⟩
  rcases Nat.lt_or_ge i wr.heap.size with hl | hl
  · exact h.low i (hm.foot hl hi)
  · have := h.pv.bx.lt; omega
theorem CW.new {w : World} {l : Value} {xs : List Int} {s : Int} (h : Sl w l (i64s xs)) :
    CW w (w.heap.size + 1) (.slice none 0 0) l xs s [] ((w.alloc (.cells #[l, .int .i64 s] 25)).alloc (.cells #[.slice none 0 0, .int .u8 0, .int .i64 0] 38)) := by
  have hw := Wr.new (w.alloc (.cells #[l, .int .i64 s] 25))
  rw [show (w.alloc (.cells #[l, .int .i64 s] 25)).heap.size = w.heap.size + 1 by simp] at hw
  exact ⟨(PV.new h).later ((Below.refl _ _).alloc (Nat.le_refl _) _), hw, fun k hk => by rw [foot_nil hk]; omega⟩
theorem CW.apart (h : CW w p u l xs s L wr) (hne : xs ≠ []) (g : Nat) (hg : l.ownBlock = some g) : ¬ Foot p u g ∧ g < wr.heap.size := by
  obtain ⟨g', e, hlt⟩ := h.pv.old.block_lt (fun e => hne (List.map_eq_nil_iff.1 e))
  rw [hg] at e
  injection e with e
  subst e
  exact ⟨fun hf => by have := h.low _ hf; omega, Nat.lt_of_lt_of_le hlt h.pv.bel.size⟩
/-- Behind Len. -/
theorem CW.len (h : CW w p u l xs s L wr) (hL : L.length ≤ 100000) : Calls Try.prog 23 #[.pointer (some ⟨p, 0, none⟩)] wr fun e w' => e = .returned (.int .i64 (L.length : Int)) ∧ Below wr.heap.size wr w' :=
  (len_any wr p u L h.wr (by omega)).mono fun _ _ ⟨he, n, hw⟩ => ⟨he, hw ▸ below_drewN' (Below.refl _ _) n⟩
end

namespace coefPuts
set_option maxRecDepth 100000 in
set_option maxHeartbeats 4000000 in
theorem walk_long (A : Option Addr) (c : Nat) (xs : List Int) (s : Int) (w : World) (h1 : 100 < xs.length) :
    Calls Try.prog 11 #[.agg #[.slice A xs.length c, .int .i64 s]] w fun e w' => e = .returned (.bool true) ∧ Below w.heap.size w w' := by
  have h1' : (100 : Int) < xs.length := by omega
  go_enter Try.func11, Try.ntmps11
  go_wp2_with fail
  with_reducible refine (known12 _).mono ?_
  rintro e w1 ⟨rfl, hb⟩
  replace hb := hid hb
  go_wp2_with fail
  go_ret
  exact ⟨rfl, ((Below.refl _ w).alloc (Nat.le_refl _) _).trans (hb.out.mono (by simp))⟩

set_option maxRecDepth 100000 in
set_option maxHeartbeats 4000000 in
theorem walk_bad (l : Value) (xs : List Int) (s : Int) (w : World) (hl : Sl w l (i64s xs)) (hx : In64 xs) (hm : xs.length ≤ 100) (hr : rightB xs s = false) :
    Calls Try.prog 11 #[.agg #[l, .int .i64 s]] w fun e w' => e = .returned (.bool true) ∧ Below w.heap.size w w' := by
  obtain ⟨A, c, rfl, _⟩ := i64s_form hl
  have h1' : ¬ (100 : Int) < xs.length := by omega
  have HR := hid (And.intro hr hx)
  have H0 := hid (CW.new (s := s) hl)
  clear hl hr hx
  go_enter Try.func11, Try.ntmps11
  go_wp2_with fail
  have HC := cput_bad (w.heap.size + 1) (.slice A xs.length c) xs s _ H0.out.pv.sl HR.out.1
  with_reducible refine HC.mono ?_
  clear HC
  rintro e w1 ⟨rfl, hb1⟩
  have H1 := hid (H0.out.later hb1)
  clear hb1
  obtain ⟨p0, p1⟩ := H1.out.pv.cells
  go_wp2_with fail
  have HC := refright_any (.slice A xs.length c) xs s w1 H1.out.pv.sl
  rw [HR.out.1] at HC
  with_reducible refine HC.mono ?_
  clear HC p0 p1
  rintro e w2 ⟨rfl, hb2⟩
  have H2 := hid (H1.out.later hb2)
  clear hb2
  obtain ⟨p0, p1⟩ := H2.out.pv.cells
  go_wp2_with fail
  have HC := H2.out.len (by simp)
  with_reducible refine HC.mono ?_
  clear HC p0 p1
  rintro e w3 ⟨rfl, hb3⟩
  have H3 := hid (H2.out.later hb3)
  clear hb3
  obtain ⟨p0, p1⟩ := H3.out.pv.cells
  go_wp2_with fail
  have HC := ccost_any (.slice A xs.length c) xs s w3 H3.out.pv.sl HR.out.2
  rw [show costC xs s = 0 by simp [costC, HR.out.1]] at HC
  with_reducible refine HC.mono ?_
  clear HC p0 p1
  rintro e w4 ⟨rfl, hb4⟩
  have H4 := hid (H3.out.later hb4)
  clear hb4
  go_wp2_with fail
  with_reducible refine (known12 _).mono ?_
  rintro e w5 ⟨rfl, hb5⟩
  have H5 := hid (H4.out.later hb5)
  clear hb5
  go_wp2_with fail
  go_ret
  exact ⟨rfl, H5.out.pv.bel⟩

set_option maxRecDepth 100000 in
set_option maxHeartbeats 4000000 in
theorem walk_main (l : Value) (xs : List Int) (s : Int) (w : World) (hl : Sl w l (i64s xs)) (hx : In64 xs) (hm : xs.length ≤ 100) (hr : rightB xs s = true) :
    Calls Try.prog 11 #[.agg #[l, .int .i64 s]] w fun e w' => e = .returned (.bool true) ∧ Below w.heap.size w w' := by
  obtain ⟨A, c, rfl, _⟩ := i64s_form hl
  have h1' : ¬ (100 : Int) < xs.length := by omega
  have hcl := codeC_length xs s
  obtain ⟨r1, _, _, _, r5⟩ := widN_right xs s hr
  have hcl2 : (codeC xs s).length ≤ 526 := by have := Nat.mul_le_mul r1 r5; omega
  have hcost : costC xs s = (codeC xs s).length := by rw [hcl]; simp [costC, hr]
  have HR := hid (And.intro hr (And.intro hx hcost))
  have H0 := hid (CW.new (s := s) hl)
  have HCD := hid (fun W (h : Sl W (.slice A xs.length c) (i64s xs)) => refcode_any (.slice A xs.length c) xs s W h hx hr)
  have HCP := hid (fun p u W (h : CW w p u (.slice A xs.length c) xs s [] W) => cput_ok p u [] (.slice A xs.length c) xs s W h.wr (by simp) h.pv.sl h.apart hx hr)
  rw [List.nil_append] at HCP
  obtain ⟨B, hB⟩ : ∃ B, codeC xs s = B := ⟨_, rfl⟩
  rw [hB] at HR hcl2 HCD HCP
  clear hl hr hx hcl hcost hB r1 r5
  go_enter Try.func11, Try.ntmps11
  go_wp2_with fail
  have HC := HCP.out _ _ _ H0.out
  with_reducible refine HC.mono ?_
  clear HC
  rintro e w1 ⟨rfl, hw1⟩
  obtain ⟨u, h1⟩ := H0.out.step hw1
  have H1 := hid h1
  clear hw1 h1
  obtain ⟨p0, p1⟩ := H1.out.pv.cells
  go_wp2_with fail
  have HC := refright_any (.slice A xs.length c) xs s w1 H1.out.pv.sl
  rw [HR.out.1] at HC
  with_reducible refine HC.mono ?_
  clear HC p0 p1
  rintro e w2 ⟨rfl, hb2⟩
  have H2 := hid (H1.out.later hb2)
  clear hb2
  obtain ⟨p0, p1⟩ := H2.out.pv.cells
  go_wp2_with fail
  have HC := HCD.out w2 H2.out.pv.sl
  with_reducible refine HC.mono ?_
  clear HC p0 p1
  rintro e w3 ⟨A3, c3, rfl, hf3⟩
  have H3 := hid (And.intro (H2.out.later hf3.bel) hf3.sl)
  clear hf3
  obtain ⟨p0, p1⟩ := H3.out.1.pv.cells
  have hbb : ((B.length : Int) == (B.length : Int)) = true := by simp
  go_wp2_with fail
  go_region_with
    (first
      | (go_at_call 23; (with_reducible refine (H3.out.1.drew.len (by omega)).mono ?_); rintro e w4 ⟨rfl, hb⟩; have h4 := H3.out.1.drew.later hb; obtain ⟨k4, m4⟩ := h4.pv.cells; have H4 := hid (And.intro h4 (H3.out.2.drew.below hb)); clear hb h4)
      | (go_at_call 46; (with_reducible refine (ccost_any _ xs s _ H4.out.1.pv.sl HR.out.2.1).mono ?_); rintro e w5 ⟨he5, hb⟩; rw [HR.out.2.2] at he5; subst he5; have h5 := H4.out.1.later hb; obtain ⟨k5, m5⟩ := h5.pv.cells; have H5 := hid (And.intro h5 (H4.out.2.below hb)); clear hb h5)
      | (go_at_call 25; (with_reducible refine (bytes_any _ _ _ B H5.out.1.wr (by omega)).mono ?_); rintro e w6 ⟨F1, A1, c1, rfl, hf, hf1, hb1⟩; have hs1 := Sl.of_own hf.1; have hstr1 := str_of w6 _ F1 hs1 hb1; have h6 := H5.out.1.later hf.2.1; obtain ⟨k6, m6⟩ := h6.pv.cells; have H6 := hid (And.intro h6 (And.intro (H5.out.2.below hf.2.1) (And.intro hf1 (And.intro hb1 hs1)))); clear hs1 hb1 hf1 hf h6)
      | (go_at_call 27; (with_reducible refine (refbytes_any _ B _ H6.out.2.1 (by omega)).mono ?_); rintro e w7 ⟨F2, A2, c2, rfl, hf, hf2, hb2⟩; obtain rfl : F2 = F1 := flat_inj hb2 H6.out.2.2.2.1 (hf2.trans H6.out.2.2.1.symm); have hstr2 := str_of w7 _ F2 (Sl.of_own hf.1) hb2; have hstr3 := str_of w7 _ F2 (H6.out.2.2.2.2.below hf.2.1) hb2; have h7 := H6.out.1.later hf.2.1; obtain ⟨k7, m7⟩ := h7.pv.cells; have H7 := hid h7; clear hb2 hf2 hf h7)
      | (go_at_call 14; (with_reducible refine (known12 _).mono ?_); rintro e w8 ⟨rfl, hb⟩; have h8 := H7.out.later hb; obtain ⟨k8, m8⟩ := h8.pv.cells; have H8 := hid h8.pv.bel; clear hb h8))
  all_goals (go_wp2_with fail)
  all_goals (go_ret)
  all_goals exact ⟨rfl, H8.out⟩

theorem walk {l : Value} {xs : List Int} {s : Int} {w : World} (hl : Sl w l (i64s xs)) (hx : In64 xs) :
    Calls Try.prog 11 #[.agg #[l, .int .i64 s]] w fun e w' => e = .returned (.bool true) ∧ Below w.heap.size w w' := by
  by_cases h : 100 < xs.length
  · obtain ⟨A, c, rfl, _⟩ := i64s_form hl
    exact walk_long A c xs s w h
  cases hr : rightB xs s
  · exact walk_bad l xs s w hl hx (by omega) hr
  · exact walk_main l xs s w hl hx (by omega) hr
end coefPuts
end Go.Proofs.Ytfbccmogiafgfaa
