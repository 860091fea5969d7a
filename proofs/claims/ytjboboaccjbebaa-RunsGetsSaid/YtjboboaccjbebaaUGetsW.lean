/- The walk of RunsGets, its chief part. -/
import Derived.Test.YtjboboaccjbebaaUGetsX
namespace Go.Proofs.Ytjboboaccjbebaa
open Go.RowKit
namespace runsGets
set_option maxRecDepth 100000 in
set_option maxHeartbeats 40000000 in
theorem walk_main (A : Option Addr) (c : Nat) (F : List Nat) (n k : Nat) (w : World) (hv : Sl w (.slice A F.length c) (u8s F)) (hb : ∀ x ∈ F, x < 256) (h1 : F.length ≤ 200) (hk : k ≤ 30) (hn : n ≤ 3000) :
    Calls Try.prog 8 #[.slice A F.length c, .int .i64 (n : Int), .int .i64 (k : Int)] w fun e w' => e = .returned (.bool true) ∧ Below w.heap.size w w' := by
  have h1' : ¬ (200 : Int) < F.length := by omega
  have H := hid (And.intro hv hb)
  have hn0 : ¬ (n : Int) < 0 := by omega
  have hn1 : ¬ (1048576 : Int) < n := by omega
  have hn2 : ¬ (3000 : Int) < n := by omega
  have HP := hid (fun W => refparam_any (k : Int) W)
  rw [(paramB_iff (k : Int)).2 (by omega)] at HP
  have HG1 := hid (fun W q v (h : Rd W q v F 0) (hv : ∀ g, v.ownBlock = some g → g < W.heap.size) => getl_any W q v F 0 k n h hk (by omega) hv)
  have HG2 := hid (fun W q v (h : RefRd W q v (flat F) 0) (hv : ∀ g, v.ownBlock = some g → g < W.heap.size) => refgetl_any W q v (flat F) 0 k n h hk (by omega) hv)
  obtain ⟨S, hS⟩ : ∃ S, rnT (flat F) k n 0 = S := ⟨_, rfl⟩
  rw [hS] at HG1 HG2
  have HX := hid (fun x (h : S = .error x) => rn_errs hk (hS.trans h))
  clear hv hb hS
  go_enter Try.func8, Try.ntmps8
  go_wp2_with fail
  with_reducible refine (read_any w _ F H.out.1 (by omega) H.out.2).mono ?_
  rintro e w1 ⟨q1, v1, rfl, hr1⟩
  have H1 := hid hr1
  clear hr1
  go_wp2_with fail
  with_reducible refine (refread_any w1 _ F (H.out.1.below H1.out.2.1) (by omega) H.out.2).mono ?_
  rintro e w2 ⟨q2, v2, rfl, hr2⟩
  have H2 := hid (RI2.new H1.out hr2)
  clear hr2
  go_wp2_with fail
  with_reducible refine (HP.out w2).mono ?_
  rintro e w4 ⟨rfl, rfl⟩
  go_wp2_with fail
  with_reducible refine (HG1.out w2 q1 v1 H2.out.rd1 H2.out.l1).mono ?_
  rintro e w3 hga
  cases S with
  | ok a =>
    obtain ⟨l, j⟩ := a
    obtain ⟨A3, c3, rfl, hg3⟩ := hga
    have H3 := hid hg3
    clear hg3
    go_wp2_with fail
    with_reducible refine (HG2.out w3 q2 v2 (H2.out.rd2.keep H3.out.kp (Ne.symm H2.out.ne) fun g hg e => absurd (show v2.ownBlock = some q1 by rw [hg, e]) H2.out.n2) (fun g hg => Nat.lt_of_lt_of_le (H2.out.l2 g hg) H3.out.kp.size)).mono ?_
    rintro e w4 ⟨A4, c4, rfl, hg4⟩
    have H4 := hid (bothI_ok H2.out H3.out hg4)
    clear hg4
    have p0 := H4.out.cell
    have hjj : ((j : Int) == (j : Int)) = true := by simp
    go_wp2_with fail
    go_region_held3 (fun w' => w'.cell? ⟨q2, 1, none⟩ = some (.int .i64 (j : Int)))
      (first | exact k7 | exact k6 | exact k5 | go_keep)
      (first
        | (go_at_call 30; go_must (refine (ints_any _ _ l l _ H4.out.drew.s1 H4.out.drew.s2).mono ?_); rintro e w5 ⟨he5, n5, hw5⟩; rw [decide_eq_true rfl] at he5; subst he5; have h5 := H4.out.drew.later (w1 := w5) (hw5 ▸ below_drewN' (Below.refl _ _) n5); clear hw5; have k5 := h5.cell; have H5 := hid h5; clear h5)
        | (go_at_call 41; go_must (refine (at_any _ _ _ _ _ H5.out.rd1).mono ?_); rintro e w6 ⟨rfl, rfl⟩; have k6 := H5.out.cell)
        | (go_at_call 18; go_must (refine (known07 _).mono ?_); rintro e w7 ⟨rfl, hb⟩; have h7 := H5.out.later hb; have k7 := h7.cell; have H7 := hid h7; clear hb h7))
    all_goals (go_wp2_with fail)
    all_goals (go_ret)
    all_goals exact ⟨rfl, H7.out.bel⟩
  | error x =>
    have hxs := HX.out x rfl
    clear HX
    obtain ⟨rfl, hkp, hx0, j1, hrd1⟩ := hga
    have H3 := hid (And.intro hkp hrd1)
    clear hkp hrd1 hx0
    rcases hxs with rfl | rfl
    all_goals (
      go_wp2_with fail
      with_reducible refine (HG2.out w3 q2 v2 (H2.out.rd2.keep H3.out.1 (Ne.symm H2.out.ne) fun g hg e => absurd (show v2.ownBlock = some q1 by rw [hg, e]) H2.out.n2) (fun g hg => Nat.lt_of_lt_of_le (H2.out.l2 g hg) H3.out.1.size)).mono ?_
      rintro e w4 ⟨rfl, hkp4, _, j2, hrd4⟩
      have H4 := hid (bothI_err H2.out H3.out.2 H3.out.1 hrd4 hkp4)
      clear hkp4 hrd4
      have p0 := H4.out.cell
      go_wp2_with fail
      first
      | go_region_with
        (first
          | (go_at_call 30; go_must (refine (ints_any _ _ [] [] _ (Sl.nil_ _) (Sl.nil_ _)).mono ?_); rintro e w5 ⟨he5, n5, hw5⟩; rw [decide_eq_true rfl] at he5; subst he5; have h5 := H4.out.drew.later (w1 := w5) (hw5 ▸ below_drewN' (Below.refl _ _) n5); clear hw5; have k5 := h5.cell; have H5 := hid h5; clear h5)
          | (go_at_call 18; go_must (refine (known07 _).mono ?_); rintro e w7 ⟨rfl, hb⟩; have h7 := H5.out.later hb; have k7 := h7.cell; have H7 := hid h7; clear hb h7))
      | fail
      all_goals (go_wp2_with fail)
      all_goals (go_ret)
      all_goals exact ⟨rfl, H7.out.bel⟩)

theorem walk {A : Option Addr} {c : Nat} {F : List Nat} {n k : Int} {w : World} (hv : Sl w (.slice A F.length c) (u8s F)) (hb : ∀ x ∈ F, x < 256) :
    Calls Try.prog 8 #[.slice A F.length c, .int .i64 n, .int .i64 k] w fun e w' => e = .returned (.bool true) ∧ Below w.heap.size w w' := by
  by_cases h1 : 200 < F.length
  · exact walk_long A c F n k w h1
  cases hp : paramB k
  · exact walk_bad A c F n k w hv hb (by omega) (.inl hp)
  by_cases h0 : n < 0 ∨ 1048576 < n
  · exact walk_bad A c F n k w hv hb (by omega) (.inr h0)
  obtain ⟨hk1, hk2⟩ := (paramB_iff k).1 hp
  obtain ⟨k, rfl⟩ := Int.eq_ofNat_of_zero_le hk1
  obtain ⟨n, rfl⟩ := Int.eq_ofNat_of_zero_le (show 0 ≤ n by omega)
  by_cases h2 : 3000 < n
  · exact walk_deep A c F n k w hv hb (by omega) (by omega) (by omega) h2
  · exact walk_main A c F n k w hv hb (by omega) (by omega) (by omega)
end runsGets
end Go.Proofs.Ytjboboaccjbebaa
