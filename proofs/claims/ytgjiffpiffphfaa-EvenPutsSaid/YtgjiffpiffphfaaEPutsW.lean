/- The walk of EvenPuts. -/
import Derived.Test.YtgjiffpiffphfaaECodes
import Derived.Test.YtgjiffpiffphfaaKnown08
import Derived.Test.YtgjiffpiffphfaaRef02b
import Derived.Test.YtgjiffpiffphfaaWMany
import Derived.Deep.RegionWith
namespace Go.Proofs.Ytgjiffpiffphfaa
open Go.RowKit

/-- A writer in new memory, and a list in old. -/
structure EW (w : World) (p : Nat) (u l : Value) (xs : List Nat) (L : List Bool) (wr : World) : Prop where
  ww : Wr wr p u L
  bel : Below w.heap.size w wr
  low : ∀ k, Foot p u k → w.heap.size ≤ k
  old : Sl w l (u64s xs)
section
variable {w wr w1 : World} {p : Nat} {u l : Value} {xs : List Nat} {L L' : List Bool}
theorem EW.sl (h : EW w p u l xs L wr) : Sl wr l (u64s xs) := h.old.below h.bel
theorem EW.later (h : EW w p u l xs L wr) (hb : Below wr.heap.size wr w1) : EW w p u l xs L w1 := ⟨h.ww.below hb, h.bel.trans (hb.mono h.bel.size), h.low, h.old⟩
theorem EW.drew (h : EW w p u l xs L wr) : EW w p u l xs L wr.drew := h.later (Below.refl _ _).drew
theorem EW.step (h : EW w p u l xs L wr) (k : WI wr p u L' w1) : ∃ u', EW w p u' l xs L' w1 := by
  obtain ⟨u', hw, hm, hk⟩ := k
  refine ⟨u', hw, Kept.after h.bel (Nat.le_refl _) hk h.low, fun i hi => ?_, h.old⟩
  rcases Nat.lt_or_ge i wr.heap.size with hl | hl
  · exact h.low i (hm.foot hl hi)
  · have := h.bel.size; omega
theorem EW.new {w : World} {l : Value} {xs : List Nat} (h : Sl w l (u64s xs)) : EW w w.heap.size (.slice none 0 0) l xs [] (w.alloc (.cells #[.slice none 0 0, .int .u8 0, .int .i64 0] 33)) :=
  ⟨Wr.new w, (Below.refl _ _).alloc (Nat.le_refl _) _, fun k hk => by rw [foot_nil hk]; exact Nat.le_refl _, h⟩
theorem EW.apart (h : EW w p u l xs L wr) (hne : u64s xs ≠ []) (g : Nat) (hg : l.ownBlock = some g) : ¬ Foot p u g ∧ g < wr.heap.size := by
  obtain ⟨g', e, hlt⟩ := h.old.block_lt hne
  rw [hg] at e
  injection e with e
  subst e
  exact ⟨fun hf => by have := h.low _ hf; omega, Nat.lt_of_lt_of_le hlt h.bel.size⟩
theorem EW.len (h : EW w p u l xs L wr) (hL : L.length ≤ 100000) : Calls Try.prog 27 #[.pointer (some ⟨p, 0, none⟩)] wr fun e w' => e = .returned (.int .i64 (L.length : Int)) ∧ Below wr.heap.size wr w' :=
  (len_any wr p u L h.ww (by omega)).mono fun _ _ ⟨he, n, hw⟩ => ⟨he, hw ▸ below_drewN' (Below.refl _ _) n⟩
end
theorem codesF_eq {xs : List Nat} {n : Nat} (hs : spanB n = true) (h : belowB xs n = true) : codesF xs n = codesE xs n := by
  unfold codesF codesE belowB at *
  rw [List.all_eq_true] at h
  induction xs with
  | nil => rfl
  | cons x xs ih =>
    rw [List.flatMap_cons, List.flatMap_cons, ih fun y hy => h y (List.mem_cons_of_mem _ hy)]
    congr 1
    unfold codeF
    rw [if_pos ⟨hs, by simpa using h x (List.mem_cons_self)⟩]
theorem codesF_none {xs : List Nat} {n : Nat} (hs : spanB n = false) : codesF xs n = [] := by
  unfold codesF
  rw [List.flatMap_eq_nil_iff]
  intro x _
  unfold codeF
  rw [if_neg (by simp [hs])]

namespace evenPuts
set_option maxRecDepth 100000 in
set_option maxHeartbeats 4000000 in
theorem walk_long (A : Option Addr) (c : Nat) (xs : List Nat) (n : Nat) (w : World) (h1 : 200 < xs.length) :
    Calls Try.prog 9 #[.slice A xs.length c, .int .u64 (n : Int)] w fun e w' => e = .returned (.bool true) ∧ Below w.heap.size w w' := by
  have h1' : (200 : Int) < xs.length := by omega
  go_enter Try.func9, Try.ntmps9
  go_wp2_with fail
  with_reducible refine (known08 _).mono ?_
  rintro e w1 ⟨rfl, hb⟩
  replace hb := hid hb
  go_wp2_with fail
  go_ret
  exact ⟨rfl, hb.out⟩

set_option maxRecDepth 100000 in
set_option maxHeartbeats 4000000 in
theorem walk_bad (l : Value) (xs : List Nat) (n : Nat) (w : World) (hl : Sl w l (u64s xs)) (hx : InU xs) (hm : xs.length ≤ 200) (hr : ¬ (spanB n = true ∧ belowB xs n = true)) :
    Calls Try.prog 9 #[l, .int .u64 (n : Int)] w fun e w' => e = .returned (.bool true) ∧ Below w.heap.size w w' := by
  obtain ⟨A, c, rfl, _⟩ := u64s_form hl
  have h1' : ¬ (200 : Int) < xs.length := by omega
  have H0 := hid (EW.new hl)
  have HP := hid (fun p W (h : Sl W (.slice A xs.length c) (u64s xs)) => eputall_bad p (.slice A xs.length c) xs n W h hx hr)
  have HS := hid (fun W => refspan_any n W)
  have HB := hid (fun W (h : Sl W (.slice A xs.length c) (u64s xs)) => refbelow_any (.slice A xs.length c) xs n W h)
  have HT := hid (fun W (h : Sl W (.slice A xs.length c) (u64s xs)) => etotal_any (.slice A xs.length c) xs n W h (by omega))
  have HCD := hid (fun W (h : Sl W (.slice A xs.length c) (u64s xs)) => refcodes08_any (.slice A xs.length c) xs n W h (by omega))
  have HN := hid (@codesF_none xs n)
  rw [show (xs.all fun v => decide (v < n)) = belowB xs n from rfl] at HB
  have HE := hid (ePErr.eq_1 xs n)
  have HH := hid hr
  obtain ⟨b, hb⟩ : ∃ b, spanB n = b := ⟨_, rfl⟩
  obtain ⟨d, hd⟩ : ∃ d, belowB xs n = d := ⟨_, rfl⟩
  obtain ⟨x, hxx⟩ : ∃ x, ePErr xs n = x := ⟨_, rfl⟩
  rw [hb] at HS HE HH HN
  rw [hd] at HB HE HH
  rw [hxx] at HP HE
  clear hb hd hxx hr hl hx
  cases b
  · obtain rfl : x = 1 := by rw [HE.out]; rfl
    rw [HN.out (by simp)] at HT
    clear HE HH HN
    go_enter Try.func9, Try.ntmps9
    go_wp2_with fail
    with_reducible refine (HP.out _ _ H0.out.sl).mono ?_
    rintro e w1 ⟨rfl, hb1⟩
    have H1 := hid (H0.out.later hb1)
    clear hb1
    go_wp2_with fail
    with_reducible refine (HS.out _).mono ?_
    rintro e w2 ⟨rfl, rfl⟩
    go_wp2_with fail
    with_reducible refine (H1.out.len (by simp)).mono ?_
    rintro e w3 ⟨rfl, hb3⟩
    have H3 := hid (H1.out.later hb3)
    clear hb3
    go_wp2_with fail
    with_reducible refine (HT.out _ H3.out.sl).mono ?_
    rintro e w4 ⟨rfl, m, hw4⟩
    have H4 := hid (H3.out.later (w1 := w4) (hw4 ▸ below_drewN' (.refl _ _) m))
    clear hw4
    go_wp2_with fail
    with_reducible refine (known08 _).mono ?_
    rintro e w5 ⟨rfl, hbb⟩
    have H5 := hid (H4.out.later hbb)
    clear hbb
    go_wp2_with fail
    go_ret
    exact ⟨rfl, H5.out.bel⟩
  · obtain rfl : d = false := by cases d; rfl; exact absurd ⟨rfl, rfl⟩ HH.out
    obtain rfl : x = 3 := by rw [HE.out]; rfl
    obtain ⟨k, hk⟩ : ∃ k, (codesF xs n).length = k := ⟨_, rfl⟩
    rw [hk] at HT HCD
    clear HE HH HN hk
    have hkk : ((k : Int) == (k : Int)) = true := by simp
    go_enter Try.func9, Try.ntmps9
    go_wp2_with fail
    with_reducible refine (HP.out _ _ H0.out.sl).mono ?_
    rintro e w1 ⟨rfl, hb1⟩
    have H1 := hid (H0.out.later hb1)
    clear hb1
    go_wp2_with fail
    with_reducible refine (HS.out _).mono ?_
    rintro e w2 ⟨rfl, rfl⟩
    go_wp2_with fail
    with_reducible refine (HB.out _ H1.out.sl).mono ?_
    rintro e w2 ⟨rfl, rfl⟩
    go_wp2_with fail
    with_reducible refine (H1.out.len (by simp)).mono ?_
    rintro e w3 ⟨rfl, hb3⟩
    have H3 := hid (H1.out.later hb3)
    clear hb3
    go_wp2_with fail
    with_reducible refine (HT.out _ H3.out.sl).mono ?_
    rintro e w4 ⟨rfl, m, hw4⟩
    have H4 := hid (H3.out.later (w1 := w4) (hw4 ▸ below_drewN' (.refl _ _) m))
    clear hw4
    go_wp2_with fail
    with_reducible refine (HCD.out _ H4.out.sl).mono ?_
    rintro e w5 ⟨A5, c5, rfl, hf5⟩
    have H5 := hid (H4.out.later hf5.bel)
    clear hf5
    go_wp2_with fail
    with_reducible refine (known08 _).mono ?_
    rintro e w6 ⟨rfl, hbb⟩
    have H6 := hid (H5.out.later hbb)
    clear hbb
    go_wp2_with fail
    go_ret
    exact ⟨rfl, H6.out.bel⟩

set_option maxRecDepth 100000 in
set_option maxHeartbeats 8000000 in
theorem walk_main (l : Value) (xs : List Nat) (n : Nat) (w : World) (hl : Sl w l (u64s xs)) (hx : InU xs) (hm : xs.length ≤ 200) (hs : spanB n = true) (hbl : belowB xs n = true) :
    Calls Try.prog 9 #[l, .int .u64 (n : Int)] w fun e w' => e = .returned (.bool true) ∧ Below w.heap.size w w' := by
  obtain ⟨A, c, rfl, _⟩ := u64s_form hl
  have h1' : ¬ (200 : Int) < xs.length := by omega
  have H0 := hid (EW.new hl)
  have HP := hid (fun p u W (h : EW w p u (.slice A xs.length c) xs [] W) => eputall_ok p u [] (.slice A xs.length c) xs n W h.ww (by simp) h.sl hx (by omega) h.apart hs hbl)
  have HS := hid (fun W => refspan_any n W)
  have HB := hid (fun W (h : Sl W (.slice A xs.length c) (u64s xs)) => refbelow_any (.slice A xs.length c) xs n W h)
  have HT := hid (fun W (h : Sl W (.slice A xs.length c) (u64s xs)) => etotal_any (.slice A xs.length c) xs n W h (by omega))
  have HCD := hid (fun W (h : Sl W (.slice A xs.length c) (u64s xs)) => refcodes08_any (.slice A xs.length c) xs n W h (by omega))
  rw [show (xs.all fun v => decide (v < n)) = belowB xs n from rfl, hbl] at HB
  rw [hs] at HS
  have hcl := codesF_le xs n
  rw [codesF_eq hs hbl] at HT HCD hcl
  obtain ⟨B, hB⟩ : ∃ B, codesE xs n = B := ⟨_, rfl⟩
  rw [hB] at HT HCD hcl HP
  rw [List.nil_append] at HP
  have hcl2 : B.length ≤ 8000 := by omega
  clear hs hbl hl hx hB hcl
  have hbb : ((B.length : Int) == (B.length : Int)) = true := by simp
  go_enter Try.func9, Try.ntmps9
  go_wp2_with fail
  with_reducible refine (HP.out _ _ _ H0.out).mono ?_
  rintro e w1 ⟨rfl, hw1⟩
  obtain ⟨u, h1⟩ := H0.out.step hw1
  have H1 := hid h1
  clear hw1 h1
  go_wp2_with fail
  with_reducible refine (HS.out _).mono ?_
  rintro e w2 ⟨rfl, rfl⟩
  go_wp2_with fail
  with_reducible refine (HB.out _ H1.out.sl).mono ?_
  rintro e w2 ⟨rfl, rfl⟩
  go_wp2_with fail
  with_reducible refine (HCD.out _ H1.out.sl).mono ?_
  rintro e w3 ⟨A3, c3, rfl, hf3⟩
  have H3 := hid (And.intro (H1.out.later hf3.bel) hf3.sl)
  clear hf3
  go_wp2_with fail
  go_region_with
    (first
      | (go_at_call 27; (with_reducible refine (H3.out.1.drew.len (by omega)).mono ?_); rintro e w4 ⟨rfl, hb⟩; have h4 := H3.out.1.drew.later hb; have H4 := hid (And.intro h4 (H3.out.2.drew.below hb)); clear hb h4)
      | (go_at_call 44; (with_reducible refine (HT.out _ H4.out.1.sl).mono ?_); rintro e w5 ⟨rfl, m5, hw5⟩; have hb : Below w4.heap.size w4 w5 := (hw5 ▸ below_drewN' (.refl _ _) m5); have h5 := H4.out.1.later hb; have H5 := hid (And.intro h5 (H4.out.2.below hb)); clear hb h5 hw5)
      | (go_at_call 25; (with_reducible refine (bytes_any _ _ _ B H5.out.1.ww (by omega)).mono ?_); rintro e w6 ⟨F1, A1, c1, rfl, hf, hf1, hb1⟩; have hs1 := Sl.of_own hf.1; have hstr1 := str_of w6 _ F1 hs1 hb1; have h6 := H5.out.1.later hf.2.1; have H6 := hid (And.intro h6 (And.intro (H5.out.2.below hf.2.1) (And.intro hf1 (And.intro hb1 hs1)))); clear hs1 hb1 hf1 hf h6)
      | (go_at_call 26; (with_reducible refine (refbytes_any _ B _ H6.out.2.1 (by omega)).mono ?_); rintro e w7 ⟨F2, A2, c2, rfl, hf, hf2, hb2⟩; obtain rfl : F2 = F1 := flat_inj hb2 H6.out.2.2.2.1 (hf2.trans H6.out.2.2.1.symm); have hstr2 := str_of w7 _ F2 (Sl.of_own hf.1) hb2; have hstr3 := str_of w7 _ F2 (H6.out.2.2.2.2.below hf.2.1) hb2; have h7 := H6.out.1.later hf.2.1; have H7 := hid h7; clear hb2 hf2 hf h7)
      | (go_at_call 36; (with_reducible refine (known08 _).mono ?_); rintro e w8 ⟨rfl, hb⟩; have h8 := H7.out.later hb; have H8 := hid h8.bel; clear hb h8))
  all_goals (go_wp2_with fail)
  all_goals (go_ret)
  all_goals exact ⟨rfl, H8.out⟩

theorem walk {l : Value} {xs : List Nat} {n : Nat} {w : World} (hl : Sl w l (u64s xs)) (hx : InU xs) :
    Calls Try.prog 9 #[l, .int .u64 (n : Int)] w fun e w' => e = .returned (.bool true) ∧ Below w.heap.size w w' := by
  by_cases h : 200 < xs.length
  · obtain ⟨A, c, rfl, _⟩ := u64s_form hl
    exact walk_long A c xs n w h
  by_cases hr : spanB n = true ∧ belowB xs n = true
  · exact walk_main l xs n w hl hx (by omega) hr.1 hr.2
  · exact walk_bad l xs n w hl hx (by omega) hr
end evenPuts
end Go.Proofs.Ytgjiffpiffphfaa
