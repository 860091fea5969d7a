/- The walk of RunsGammas. -/
import Derived.Test.YtjboboaccjbebaaEWI
import Derived.Test.YtjboboaccjbebaaRunR
import Derived.Test.YtjboboaccjbebaaRunG
import Derived.Test.YtjboboaccjbebaaKnown07
namespace Go.Proofs.Ytjboboaccjbebaa
open Go.RowKit
namespace runsGammas
set_option maxRecDepth 100000 in
set_option maxHeartbeats 8000000 in
theorem walk_bad (v : Nat) (w : World) (hv : v < 18446744073709551616) (hg : gamB v = false) :
    Calls Try.prog 6 #[.int .u64 (v : Int)] w fun e w' => e = .returned (.bool true) ∧ Below w.heap.size w w' := by
  have H0 := hid (EWI.new (l := .slice none 0 0) (xs := []) (Sl.nil_ w))
  have HP := hid (fun p W => putgamma_bad p v W hv hg)
  have e0 : gamCost v = 0 := by unfold gamCost; rw [if_neg (by simp [hg])]
  have eC : gamC v = [] := by unfold gamC; rw [if_neg (by simp [hg])]
  have HR := hid (fun W => refgamma_any v W hv)
  have HG := hid (fun W => gamcost_any v W hv)
  simp only [e0, eC] at HR HG
  clear e0 eC hg hv
  go_enter Try.func6, Try.ntmps6
  go_wp2_with fail
  with_reducible refine (HP.out _ _).mono ?_
  rintro e w1 ⟨rfl, rfl⟩
  go_wp2_with fail
  with_reducible refine (HR.out _).mono ?_
  rintro e w3 ⟨A3, c3, rfl, hf3⟩
  have H3 := hid (And.intro (H0.out.later hf3.bel) hf3.sl)
  clear hf3
  go_wp2_with fail
  go_region_with
    (first
      | (go_at_call 35; (with_reducible refine (HG.out _).mono ?_); rintro e w4 ⟨rfl, rfl⟩)
      | (go_at_call 21; (with_reducible refine (H3.out.1.drew.len (by simp)).mono ?_); rintro e w4 ⟨rfl, hb⟩; have h4 := H3.out.1.drew.later hb; have H4 := hid (And.intro h4 (H3.out.2.drew.below hb)); clear hb h4)
      | (go_at_call 24; (with_reducible refine (bytes_any _ _ _ [] H4.out.1.ww (by simp)).mono ?_); rintro e w6 ⟨F1, A1, c1, rfl, hf, hf1, hb1⟩; have hs1 := Sl.of_own hf.1; have hstr1 := str_of w6 _ F1 hs1 hb1; have h6 := H4.out.1.later hf.2.1; have H6 := hid (And.intro h6 (And.intro (H4.out.2.below hf.2.1) (And.intro hf1 (And.intro hb1 hs1)))); clear hs1 hb1 hf1 hf h6)
      | (go_at_call 25; (with_reducible refine (refbytes_any _ [] _ H6.out.2.1 (by simp)).mono ?_); rintro e w7 ⟨F2, A2, c2, rfl, hf, hf2, hb2⟩; obtain rfl : F2 = F1 := flat_inj hb2 H6.out.2.2.2.1 (hf2.trans H6.out.2.2.1.symm); have hstr2 := str_of w7 _ F2 (Sl.of_own hf.1) hb2; have hstr3 := str_of w7 _ F2 (H6.out.2.2.2.2.below hf.2.1) hb2; have h7 := H6.out.1.later hf.2.1; have H7 := hid h7; clear hb2 hf2 hf h7))
  all_goals (
    go_wp2_with fail
    with_reducible refine (known07 _).mono ?_
    rintro e w8 ⟨rfl, hb⟩
    have H8 := hid (H7.out.later hb).bel
    clear hb
    go_wp2_with fail
    go_ret
    exact ⟨rfl, H8.out⟩)

set_option maxRecDepth 100000 in
set_option maxHeartbeats 8000000 in
theorem walk_main (v : Nat) (w : World) (hg : gamB v = true) :
    Calls Try.prog 6 #[.int .u64 (v : Int)] w fun e w' => e = .returned (.bool true) ∧ Below w.heap.size w w' := by
  have hv := (gamB_iff v).1 hg
  have H0 := hid (EWI.new (l := .slice none 0 0) (xs := []) (Sl.nil_ w))
  have HP := hid (fun p u W (h : Wr W p u []) => putgamma_ok W p v u [] h (by simp) hg)
  have HR := hid (fun W => refgamma_any v W (by omega))
  have HG := hid (fun W => gamcost_any v W (by omega))
  have hgl := gamC_length v
  have hgc := gamCost_le v
  have hg1 : 1 ≤ gamCost v := by
    have := gam_wid hg
    unfold gamCost
    rw [if_pos hg]
    omega
  have HGG : Hid (∀ (W : World) (q : Nat) (u : Value) (F : List Nat), Rd W q u F 0 → flat F = padded (gamC v) → Calls Try.prog 36 #[.pointer (some ⟨q, 0, none⟩)] W fun e w' => e = .returned (.tuple #[.int .u64 (v : Int), .int .i64 0]) ∧ RI W q u F (gamCost v) w') := by
    intro W q u F h hf
    have g := getgamma_any W q u F 0 h
    have e := gg_code (L := padded (gamC v)) (T := List.replicate ((8 - (gamC v).length % 8) % 8) false) (i := 0) hg (by rw [List.drop_zero]; rfl) (by omega)
    rw [hf, e, Nat.zero_add] at g
    exact g
  simp only [List.nil_append] at HP
  rw [← hgl] at hg1 hgc
  simp only [← hgl] at HR HG HGG
  obtain ⟨B, hB⟩ : ∃ B, gamC v = B := ⟨_, rfl⟩
  rw [hB] at hgc hg1
  simp only [hB] at HP HR HG HGG
  have hbb : ((B.length : Int) != (B.length : Int)) = false := by simp
  have hb0 : ((B.length : Int) == 0) = false := by rw [beq_eq_false_iff_ne]; omega
  have hvv : ((v : Int) == (v : Int)) = true := by simp
  clear hgl hB hg hv
  go_enter Try.func6, Try.ntmps6
  go_wp2_with fail
  with_reducible refine (HP.out _ _ _ H0.out.ww).mono ?_
  rintro e w1 ⟨rfl, hw1⟩
  obtain ⟨u, h1⟩ := H0.out.step hw1
  have H1 := hid h1
  clear hw1 h1
  go_wp2_with fail
  with_reducible refine (HR.out _).mono ?_
  rintro e w3 ⟨A3, c3, rfl, hf3⟩
  have H3 := hid (And.intro (H1.out.later hf3.bel) hf3.sl)
  clear hf3
  go_wp2_with fail
  go_region_with
    (first
      | (go_at_call 35; (with_reducible refine (HG.out _).mono ?_); rintro e w4 ⟨rfl, rfl⟩)
      | (go_at_call 21; (with_reducible refine (H3.out.1.drew.len (by omega)).mono ?_); rintro e w4 ⟨rfl, hb⟩; have h4 := H3.out.1.drew.later hb; have H4 := hid (And.intro h4 (H3.out.2.drew.below hb)); clear hb h4)
      | (go_at_call 24; (with_reducible refine (bytes_any _ _ _ B H4.out.1.ww (by omega)).mono ?_); rintro e w6 ⟨F1, A1, c1, rfl, hf, hf1, hb1⟩; have hs1 := Sl.of_own hf.1; have hstr1 := str_of w6 _ F1 hs1 hb1; have h6 := H4.out.1.later hf.2.1; have H6 := hid (And.intro h6 (And.intro (H4.out.2.below hf.2.1) (And.intro hf1 (And.intro hb1 hs1)))); clear hs1 hb1 hf1 hf h6)
      | (go_at_call 25; (with_reducible refine (refbytes_any _ B _ H6.out.2.1 (by omega)).mono ?_); rintro e w7 ⟨F2, A2, c2, rfl, hf, hf2, hb2⟩; obtain rfl : F2 = F1 := flat_inj hb2 H6.out.2.2.2.1 (hf2.trans H6.out.2.2.1.symm); have hstr2 := str_of w7 _ F2 (Sl.of_own hf.1) hb2; have hstr3 := str_of w7 _ F2 (H6.out.2.2.2.2.below hf.2.1) hb2; have h7 := H6.out.1.later hf.2.1; have H7 := hid h7; clear hb2 hf2 hf h7))
  all_goals (
    go_wp2_with fail
    with_reducible refine (bytes_any _ _ u B H7.out.ww (by omega)).mono ?_
    rintro e w8 ⟨F, A8, c8, rfl, hf, hfl, hby⟩
    have hlen : F.length ≤ 1000 := by
      have h := congrArg List.length hfl
      rw [flat_length] at h
      unfold padded at h
      rw [List.length_append, List.length_replicate] at h
      omega
    have H8 := hid (And.intro (H7.out.later hf.2.1) (And.intro (Sl.of_own hf.1) (And.intro hfl hby)))
    clear hf hfl hby
    go_wp2_with fail
    with_reducible refine (read_any w8 _ F H8.out.2.1 (by omega) H8.out.2.2.2).mono ?_
    rintro e w9 ⟨q, vq, rfl, hr⟩
    have H9 := hid (RS.new H8.out.1.bel hr)
    clear hr
    go_wp2_with fail
    with_reducible refine (HGG.out w9 q vq F H9.out.rd H8.out.2.2.1).mono ?_
    rintro e w10 ⟨rfl, hri⟩
    have H10 := hid (H9.out.get hri).bel
    clear hri
    go_wp2_with fail
    with_reducible refine (known07 _).mono ?_
    rintro e w11 ⟨rfl, hb⟩
    have H11 := hid (H10.out.trans (hb.mono H10.out.size))
    clear hb
    go_wp2_with fail
    go_ret
    exact ⟨rfl, H11.out⟩)

theorem walk {v : Nat} {w : World} (hv : v < 18446744073709551616) :
    Calls Try.prog 6 #[.int .u64 (v : Int)] w fun e w' => e = .returned (.bool true) ∧ Below w.heap.size w w' := by
  by_cases hg : gamB v = true
  · exact walk_main v w hg
  · exact walk_bad v w hv (by simpa using hg)
end runsGammas
end Go.Proofs.Ytjboboaccjbebaa
