/- The walk of RunsPuts. -/
import Derived.Test.YtjboboaccjbebaaEWI
import Derived.Test.YtjboboaccjbebaaRunS
import Derived.Test.YtjboboaccjbebaaKnown07
namespace Go.Proofs.Ytjboboaccjbebaa
open Go.RowKit
namespace runsPuts
set_option maxRecDepth 100000 in
set_option maxHeartbeats 4000000 in
theorem walk_long (A : Option Addr) (c : Nat) (xs : List Int) (k : Int) (w : World) (h1 : 200 < xs.length) :
    Calls Try.prog 3 #[.slice A xs.length c, .int .i64 k] w fun e w' => e = .returned (.bool true) ∧ Below w.heap.size w w' := by
  have h1' : (200 : Int) < xs.length := by omega
  go_enter Try.func3, Try.ntmps3
  go_wp2_with fail
  with_reducible refine (known07 _).mono ?_
  rintro e w1 ⟨rfl, hb⟩
  replace hb := hid hb
  go_wp2_with fail
  go_ret
  exact ⟨rfl, hb.out⟩

set_option maxRecDepth 100000 in
set_option maxHeartbeats 4000000 in
theorem walk_bad (l : Value) (xs : List Int) (k : Int) (w : World) (hl : Sl w l (i64s xs)) (hx : InI xs) (hm : xs.length ≤ 200) (hr : ¬ (paramB k = true ∧ codedB xs = true)) :
    Calls Try.prog 3 #[l, .int .i64 k] w fun e w' => e = .returned (.bool true) ∧ Below w.heap.size w w' := by
  obtain ⟨A, c, rfl, _⟩ := i64s_form hl
  have h1' : ¬ (200 : Int) < xs.length := by omega
  have H0 := hid (EWI.new hl)
  have hne : putLErr xs k ≠ 0 := by
    unfold putLErr
    split
    · rw [if_neg (by omega)]
      split
      · exact absurd ⟨by assumption, by assumption⟩ hr
      · decide
    · decide
  have HP := hid (fun p W (h : Sl W (.slice A xs.length c) (i64s xs)) => putl_bad p (.slice A xs.length c) xs k W h hx hne)
  have HS := hid (fun W => refparam_any k W)
  have HB := hid (fun W (h : Sl W (.slice A xs.length c) (i64s xs)) => refcoded_any (.slice A xs.length c) xs W h hx)
  have HE := hid (putLErr.eq_1 xs k)
  rw [if_neg (show ¬ 1048576 < xs.length by omega)] at HE
  have HH := hid hr
  obtain ⟨b, hb⟩ : ∃ b, paramB k = b := ⟨_, rfl⟩
  obtain ⟨d, hd⟩ : ∃ d, codedB xs = d := ⟨_, rfl⟩
  obtain ⟨x, hxx⟩ : ∃ x, putLErr xs k = x := ⟨_, rfl⟩
  rw [hb] at HS HE HH
  rw [hd] at HB HE HH
  rw [hxx] at HP HE
  clear hb hd hxx hr hl hx hne
  cases b
  · obtain rfl : x = 1 := by rw [HE.out]; rfl
    clear HE HH
    go_enter Try.func3, Try.ntmps3
    go_wp2_with fail
    with_reducible refine (HP.out _ _ H0.out.sl).mono ?_
    rintro e w1 ⟨rfl, hb1⟩
    have H1 := hid (H0.out.later hb1)
    clear hb1
    go_wp2_with fail
    with_reducible refine (HS.out _).mono ?_
    rintro e w2 ⟨rfl, rfl⟩
    go_wp2_with fail
    with_reducible refine (H1.out.len (by simp)).mono ?_
    rintro e w3 ⟨rfl, hb3⟩
    have H3 := hid (H1.out.later hb3)
    clear hb3
    go_wp2_with fail
    with_reducible refine (known07 _).mono ?_
    rintro e w5 ⟨rfl, hbb⟩
    have H5 := hid (H3.out.later hbb)
    clear hbb
    go_wp2_with fail
    go_ret
    exact ⟨rfl, H5.out.bel⟩
  · obtain rfl : d = false := by cases d; rfl; exact absurd ⟨rfl, rfl⟩ HH.out
    obtain rfl : x = 3 := by rw [HE.out]; rfl
    clear HE HH
    go_enter Try.func3, Try.ntmps3
    go_wp2_with fail
    with_reducible refine (HP.out _ _ H0.out.sl).mono ?_
    rintro e w1 ⟨rfl, hb1⟩
    have H1 := hid (H0.out.later hb1)
    clear hb1
    go_wp2_with fail
    with_reducible refine (HS.out _).mono ?_
    rintro e w2 ⟨rfl, rfl⟩
    go_wp2_with fail
    with_reducible refine (HB.out _ H1.out.sl).mono ?_
    rintro e w2 ⟨rfl, rfl⟩
    go_wp2_with fail
    with_reducible refine (H1.out.len (by simp)).mono ?_
    rintro e w3 ⟨rfl, hb3⟩
    have H3 := hid (H1.out.later hb3)
    clear hb3
    go_wp2_with fail
    with_reducible refine (known07 _).mono ?_
    rintro e w6 ⟨rfl, hbb⟩
    have H6 := hid (H3.out.later hbb)
    clear hbb
    go_wp2_with fail
    go_ret
    exact ⟨rfl, H6.out.bel⟩

set_option maxRecDepth 100000 in
set_option maxHeartbeats 8000000 in
theorem walk_main (l : Value) (xs : List Int) (k : Nat) (w : World) (hl : Sl w l (i64s xs)) (hx : InI xs) (hm : xs.length ≤ 200) (hk : k ≤ 30) (hcd : codedB xs = true) :
    Calls Try.prog 3 #[l, .int .i64 (k : Int)] w fun e w' => e = .returned (.bool true) ∧ Below w.heap.size w w' := by
  obtain ⟨A, c, rfl, _⟩ := i64s_form hl
  have h1' : ¬ (200 : Int) < xs.length := by omega
  have H0 := hid (EWI.new hl)
  have HP := hid (fun p u W (h : EWI w p u (.slice A xs.length c) xs [] W) => putl_ok p u [] (.slice A xs.length c) xs k W h.ww (by simp) h.sl hx (by omega) h.apart hk hcd)
  have HS := hid (fun W => refparam_any (k : Int) W)
  have HB := hid (fun W (h : Sl W (.slice A xs.length c) (i64s xs)) => refcoded_any (.slice A xs.length c) xs W h hx)
  have HCD := hid (fun W (h : Sl W (.slice A xs.length c) (i64s xs)) => refcodel_any (.slice A xs.length c) xs (k : Int) W h hx (by omega))
  rw [hcd] at HB
  rw [(paramB_iff (k : Int)).2 (by omega)] at HS
  have hcl := codeL_le xs (k : Int)
  obtain ⟨B, hB⟩ : ∃ B, codeL xs (k : Int) = B := ⟨_, rfl⟩
  rw [hB] at HCD hcl
  simp only [hB, List.nil_append] at HP
  have hcl2 : B.length ≤ 30000 := by omega
  clear hcd hl hx hB hcl
  have hbb : ((B.length : Int) == (B.length : Int)) = true := by simp
  go_enter Try.func3, Try.ntmps3
  go_wp2_with fail
  with_reducible refine (HP.out _ _ _ H0.out).mono ?_
  rintro e w1 ⟨rfl, hw1⟩
  obtain ⟨u, h1⟩ := H0.out.step hw1
  have H1 := hid h1
  clear hw1 h1
  go_wp2_with fail
  with_reducible refine (HS.out _).mono ?_
  rintro e w2 ⟨rfl, rfl⟩
  go_wp2_with fail
  with_reducible refine (HB.out _ H1.out.sl).mono ?_
  rintro e w2 ⟨rfl, rfl⟩
  go_wp2_with fail
  with_reducible refine (HCD.out _ H1.out.sl).mono ?_
  rintro e w3 ⟨A3, c3, rfl, hf3⟩
  have H3 := hid (And.intro (H1.out.later hf3.bel) hf3.sl)
  clear hf3
  go_wp2_with fail
  go_region_with
    (first
      | (go_at_call 21; (with_reducible refine (H3.out.1.drew.len (by omega)).mono ?_); rintro e w4 ⟨rfl, hb⟩; have h4 := H3.out.1.drew.later hb; have H4 := hid (And.intro h4 (H3.out.2.drew.below hb)); clear hb h4)
      | (go_at_call 24; (with_reducible refine (bytes_any _ _ _ B H4.out.1.ww (by omega)).mono ?_); rintro e w6 ⟨F1, A1, c1, rfl, hf, hf1, hb1⟩; have hs1 := Sl.of_own hf.1; have hstr1 := str_of w6 _ F1 hs1 hb1; have h6 := H4.out.1.later hf.2.1; have H6 := hid (And.intro h6 (And.intro (H4.out.2.below hf.2.1) (And.intro hf1 (And.intro hb1 hs1)))); clear hs1 hb1 hf1 hf h6)
      | (go_at_call 25; (with_reducible refine (refbytes_any _ B _ H6.out.2.1 (by omega)).mono ?_); rintro e w7 ⟨F2, A2, c2, rfl, hf, hf2, hb2⟩; obtain rfl : F2 = F1 := flat_inj hb2 H6.out.2.2.2.1 (hf2.trans H6.out.2.2.1.symm); have hstr2 := str_of w7 _ F2 (Sl.of_own hf.1) hb2; have hstr3 := str_of w7 _ F2 (H6.out.2.2.2.2.below hf.2.1) hb2; have h7 := H6.out.1.later hf.2.1; have H7 := hid h7; clear hb2 hf2 hf h7)
      | (go_at_call 18; (with_reducible refine (known07 _).mono ?_); rintro e w8 ⟨rfl, hb⟩; have h8 := H7.out.later hb; have H8 := hid h8.bel; clear hb h8))
  all_goals (go_wp2_with fail)
  all_goals (go_ret)
  all_goals exact ⟨rfl, H8.out⟩

theorem walk {l : Value} {xs : List Int} {k : Int} {w : World} (hl : Sl w l (i64s xs)) (hx : InI xs) :
    Calls Try.prog 3 #[l, .int .i64 k] w fun e w' => e = .returned (.bool true) ∧ Below w.heap.size w w' := by
  by_cases h : 200 < xs.length
  · obtain ⟨A, c, rfl, _⟩ := i64s_form hl
    exact walk_long A c xs k w h
  by_cases hr : paramB k = true ∧ codedB xs = true
  · obtain ⟨h1, h2⟩ := (paramB_iff k).1 hr.1
    obtain ⟨k, rfl⟩ := Int.eq_ofNat_of_zero_le h1
    exact walk_main l xs k w hl hx (by omega) (by omega) hr.2
  · exact walk_bad l xs k w hl hx (by omega) hr
end runsPuts
end Go.Proofs.Ytjboboaccjbebaa
