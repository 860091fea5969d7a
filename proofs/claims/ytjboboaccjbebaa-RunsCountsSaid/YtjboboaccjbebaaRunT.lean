/- The reference of layer 7: Cost, Best. -/
import Derived.Test.YtjboboaccjbebaaRunR
import Derived.Test.YtjboboaccjbebaaRunD
namespace Go.Proofs.Ytjboboaccjbebaa
open Go.RowKit

theorem gamCost_w (n : Nat) (h : n ≤ 1048576) : gamCost (n + 1) = 2 * wid (n + 1) - 1 ∧ 1 ≤ wid (n + 1) ∧ wid (n + 1) ≤ 32 := by
  have hg : gamB (n + 1) = true := (gamB_iff _).2 (by omega)
  have hw := gam_wid hg
  exact ⟨by unfold gamCost; rw [if_pos hg], hw.1, hw.2.1⟩
theorem sumI_app (k : Int) (P Q : List (Nat × Option Int)) : sumI k (P ++ Q) = sumI k P + sumI k Q := by simp [sumI]

set_option maxRecDepth 100000 in
set_option maxHeartbeats 4000000 in
theorem refcostl_any (l : Value) (xs : List Int) (k : Int) (w : World) (hl : Sl w l (i64s xs)) (hx : InI xs) (hn : xs.length ≤ 1048576) :
    Calls Try.prog 29 #[l, .int .i64 k] w (DrawnI w (.int .i64 (costL xs k : Nat))) := by
  obtain ⟨A, c, rfl, hm⟩ := i64s_form hl
  have HP := hid (refparam_any k w)
  have HC := hid (refcoded_any (.slice A xs.length c) xs w hl hx)
  have H := hid (And.intro hl hx)
  obtain ⟨b, hb⟩ : ∃ b, paramB k = b := ⟨_, rfl⟩
  obtain ⟨d, hd⟩ : ∃ d, codedB xs = d := ⟨_, rfl⟩
  rw [hb] at HP
  rw [hd] at HC
  have HB := hid (And.intro hb hd)
  clear hl hx hb hd
  cases b
  · have HE := hid (show costL xs k = 0 by unfold costL; rw [if_neg (by intro h; rw [HB.out.1] at h; cases h.1)])
    go_enter Try.func29, Try.ntmps29
    go_wp2_with fail
    with_reducible refine HP.out.mono ?_
    rintro e w1 ⟨rfl, rfl⟩
    go_wp2_with fail
    go_ret
    exact ⟨by rw [HE.out]; rfl, 0, rfl⟩
  cases d
  · have HE := hid (show costL xs k = 0 by unfold costL; rw [if_neg (by intro h; rw [HB.out.2] at h; cases h.2)])
    go_enter Try.func29, Try.ntmps29
    go_wp2_with fail
    with_reducible refine HP.out.mono ?_
    rintro e w1 ⟨rfl, rfl⟩
    go_wp2_with fail
    with_reducible refine HC.out.mono ?_
    rintro e w1 ⟨rfl, rfl⟩
    go_wp2_with fail
    go_ret
    exact ⟨by rw [HE.out]; rfl, 0, rfl⟩
  have HE := hid (show costL xs k = sumI k (sts xs).1 + sumI k (tailI (sts xs).2) by rw [costL_ok HB.out.1 HB.out.2, items_sts, sumI_app])
  go_enter Try.func29, Try.ntmps29
  go_wp2_with fail
  with_reducible refine HP.out.mono ?_
  rintro e w1 ⟨rfl, rfl⟩
  go_wp2_with fail
  with_reducible refine HC.out.mono ?_
  rintro e w1 ⟨rfl, rfl⟩
  go_wp2_with fail
  go_loopw [5, 6, 7] (fun s n i wr => ∃ j t m d : Nat, j ≤ xs.length ∧ i = .int .i64 j ∧ s = .int .i64 t ∧ n = .int .i64 m ∧ t ≤ 134217728 ∧ m ≤ j ∧ Hid (t = sumI k (sts (xs.take j)).1 ∧ m = (sts (xs.take j)).2) ∧ wr = w.drewN d) (fun _ _ i _ => xs.length - (intOf i).toNat)
  case atStart => exact ⟨0, 0, 0, 0, by omega, rfl, rfl, rfl, by omega, by omega, ⟨rfl, rfl⟩, rfl⟩
  case round =>
    obtain ⟨j, t, m, d, hj, rfl, rfl, rfl, ht, hmj, hst, rfl⟩ := hrel
    by_cases hjm : j < xs.length
    · have hin : (j : Int) < xs.length := by omega
      obtain ⟨ad, rfl, hc⟩ := i64s_at H.out.1 hjm
      have hxb := H.out.2 xs[j] (List.getElem_mem _)
      obtain ⟨x, hxe⟩ : ∃ x, xs[j] = x := ⟨_, rfl⟩
      rw [hxe] at hc hxb
      have HX := hid hxe
      clear hxe
      by_cases h0 : x = 0
      · subst h0
        go_wp2_with fail
        go_roundw
        case rel =>
          refine ⟨j + 1, t, m + 1, d, by omega, by go_num, rfl, by go_num, ht, by omega, ?_, rfl⟩
          show _ ∧ _
          rw [take_snocI xs j hjm, HX.out, sts_zero rfl]
          exact ⟨hst.out.1, by rw [← hst.out.2]⟩
        case measure => simp [intOf]; omega
      · have hb0 : (x != 0) = true := by rw [bne_iff_ne]; exact h0
        obtain ⟨g1, g2, g3⟩ := gamCost_w m (by omega)
        have HW := hid (fun W => refwidth_any (m + 1) W (by omega))
        have hz1 := zig_zero h0
        have hz2 := zig_lt hxb.1 hxb.2
        have HZ := hid (fun W => refzig_any x W hxb.1 hxb.2)
        have HC2 := hid (fun W => refcost_any (zigN x - 1) k W)
        have hcl := costR_le (zigN x - 1) k
        have HS := hid (show sumI k (sts (xs.take (j + 1))).1 = t + (gamCost (m + 1) + costR (zigN x - 1) k) ∧ (sts (xs.take (j + 1))).2 = 0 from by
          rw [take_snocI xs j hjm, HX.out, sts_some h0]
          refine ⟨?_, rfl⟩
          show sumI k (_ ++ [_]) = _
          rw [sumI_snoc, ← hst.out.1, ← hst.out.2]
          rfl)
        have hle := sumI_le k (sts (xs.take (j + 1))).1
        have hle2 := (sts_le (xs.take (j + 1))).1
        rw [List.length_take] at hle2
        have hw1 : IntKind.u64.wrap (m : Int) = (m : Int) := IntWalk.u64_in _ (by omega)
        have hw2 : IntKind.u64.wrap ((m : Int) + 1) = ((m + 1 : Nat) : Int) := by rw [IntWalk.u64_in _ (by omega)]; omega
        have hw3 : IntKind.u64.wrap ((zigN x : Int) - 1) = ((zigN x - 1 : Nat) : Int) := by rw [IntWalk.u64_in _ (by omega)]; omega
        rw [HS.out.1] at hle
        rw [g1] at hle HS
        obtain ⟨q, hq⟩ : ∃ q, wid (m + 1) = q := ⟨_, rfl⟩
        rw [hq] at HW hle HS g2 g3
        obtain ⟨m1, hm1⟩ : ∃ m1, m + 1 = m1 := ⟨_, rfl⟩
        rw [hm1] at hw2 HW
        obtain ⟨z, hz⟩ : ∃ z, zigN x = z := ⟨_, rfl⟩
        rw [hz] at hw3 HZ HC2 hcl hle HS
        obtain ⟨y, hy⟩ : ∃ y, z - 1 = y := ⟨_, rfl⟩
        rw [hy] at hw3 HC2 hcl hle HS
        obtain ⟨u, hu⟩ : ∃ u, costR y k = u := ⟨_, rfl⟩
        rw [hu] at HC2 hcl hle HS
        obtain ⟨r, hr⟩ : ∃ r, t + (2 * q - 1 + u) = r := ⟨_, rfl⟩
        rw [hr] at hle HS
        have hw4 : IntKind.i64.wrap (2 * (q : Int)) = ((2 * q : Nat) : Int) := by rw [IntWalk.i64_in _ (by omega)]; omega
        obtain ⟨q2, hq2⟩ : ∃ q2, 2 * q = q2 := ⟨_, rfl⟩
        rw [hq2] at hw4
        have hw5 : IntKind.i64.wrap ((t : Int) + (q2 : Int)) = ((t + q2 : Nat) : Int) := by rw [IntWalk.i64_in _ (by omega)]; omega
        obtain ⟨q3, hq3⟩ : ∃ q3, t + q2 = q3 := ⟨_, rfl⟩
        rw [hq3] at hw5
        have hw6 : IntKind.i64.wrap ((q3 : Int) - 1) = ((q3 - 1 : Nat) : Int) := by rw [IntWalk.i64_in _ (by omega)]; omega
        obtain ⟨q4, hq4⟩ : ∃ q4, q3 - 1 = q4 := ⟨_, rfl⟩
        rw [hq4] at hw6
        have hw7 : IntKind.i64.wrap ((q4 : Int) + (u : Int)) = (r : Int) := by rw [IntWalk.i64_in _ (by omega)]; omega
        have HR := hid (show r ≤ 134217728 by omega)
        clear hq hm1 hz hy hu hr hq2 hq3 hq4 hle hle2 hz1 hz2 g1 h0 hxb hcl
        go_wp2_with fail
        go_region_held3 (fun w' => w'.cell? (ad.add j) = some (.int .i64 x)) (first | exact hc | go_keep)
          (first
            | (go_at_call 74; (with_reducible refine (HW.out _).mono ?_); rintro e w2 ⟨rfl, rfl⟩)
            | (go_at_call 69; (with_reducible refine (HZ.out _).mono ?_); rintro e w2 ⟨rfl, rfl⟩)
            | (go_at_call 75; (with_reducible refine (HC2.out _).mono ?_); rintro e w2 ⟨rfl, rfl⟩))
        all_goals (go_wp2_with fail)
        all_goals (go_roundw)
        all_goals first
          | exact ⟨j + 1, r, 0, d + 1, by omega, by go_num, rfl, rfl, HR.out, by omega, ⟨HS.out.1.symm, HS.out.2.symm⟩, rfl⟩
          | (simp [intOf]; omega)
    · have hin : ¬ (j : Int) < xs.length := by omega
      obtain rfl : j = xs.length := by omega
      have hst2 := hst.out
      rw [List.take_length] at hst2
      by_cases hm0 : 0 < m
      · have hmi : (0 : Int) < m := by omega
        obtain ⟨g1, g2, g3⟩ := gamCost_w m (by omega)
        have HW := hid (fun W => refwidth_any (m + 1) W (by omega))
        have hw1 : IntKind.u64.wrap (m : Int) = (m : Int) := IntWalk.u64_in _ (by omega)
        have hw2 : IntKind.u64.wrap ((m : Int) + 1) = ((m + 1 : Nat) : Int) := by rw [IntWalk.u64_in _ (by omega)]; omega
        have HE2 := hid (show costL xs k = t + gamCost (m + 1) from by rw [HE.out, ← hst2.1, ← hst2.2]; unfold tailI; rw [if_pos hm0]; simp [sumI, costI])
        rw [g1] at HE2
        obtain ⟨q, hq⟩ : ∃ q, wid (m + 1) = q := ⟨_, rfl⟩
        rw [hq] at HW HE2 g2 g3
        obtain ⟨m1, hm1⟩ : ∃ m1, m + 1 = m1 := ⟨_, rfl⟩
        rw [hm1] at hw2 HW
        obtain ⟨r, hr⟩ : ∃ r, t + (2 * q - 1) = r := ⟨_, rfl⟩
        rw [hr] at HE2
        have hw4 : IntKind.i64.wrap (2 * (q : Int)) = ((2 * q : Nat) : Int) := by rw [IntWalk.i64_in _ (by omega)]; omega
        obtain ⟨q2, hq2⟩ : ∃ q2, 2 * q = q2 := ⟨_, rfl⟩
        rw [hq2] at hw4
        have hw5 : IntKind.i64.wrap ((t : Int) + (q2 : Int)) = ((t + q2 : Nat) : Int) := by rw [IntWalk.i64_in _ (by omega)]; omega
        obtain ⟨q3, hq3⟩ : ∃ q3, t + q2 = q3 := ⟨_, rfl⟩
        rw [hq3] at hw5
        have hw6 : IntKind.i64.wrap ((q3 : Int) - 1) = (r : Int) := by rw [IntWalk.i64_in _ (by omega)]; omega
        clear hq hm1 hr hq2 hq3 g1 hst2 hst
        go_wp2_with fail
        with_reducible refine (HW.out _).mono ?_
        rintro e w2 ⟨rfl, rfl⟩
        go_wp2_with fail
        go_ret
        rw [HE2.out]
        exact ⟨rfl, d, rfl⟩
      · have hmi : ¬ (0 : Int) < m := by omega
        have HE2 := hid (show costL xs k = t from by rw [HE.out, ← hst2.1, ← hst2.2]; unfold tailI; rw [if_neg hm0]; simp [sumI])
        clear hst2 hst
        go_wp2_with fail
        go_ret
        rw [HE2.out]
        exact ⟨rfl, d, rfl⟩

set_option maxRecDepth 100000 in
set_option maxHeartbeats 1600000 in
theorem refbestl_any (l : Value) (xs : List Int) (w : World) (hl : Sl w l (i64s xs)) (hx : InI xs) (hn : xs.length ≤ 1048576) :
    Calls Try.prog 27 #[l] w (BestL w xs) := by
  have HT := hid (fun (k : Int) n => refcostl_any l xs k (w.drewN n) (hl.drewN n) hx hn)
  clear hl hx
  obtain ⟨c, hc⟩ : ∃ c : Nat → Nat, (fun k : Nat => costL xs (k : Int)) = c := ⟨_, rfl⟩
  have hcb : ∀ k : Nat, costL xs (k : Int) = c k := fun k => by rw [← hc]
  have HCB := hid (And.intro hcb hc)
  clear hcb hc
  go_enter Try.func27, Try.ntmps27
  go_wp2_with fail
  go_loopw [4, 5] (fun b i wr => ∃ (k bb n : Nat), k ≤ 30 ∧ i = .int .i64 ((k : Int) + 1) ∧ b = .int .i64 bb ∧ wr = w.drewN n ∧ Hid (bb = bestTo c k)) (fun _ i _ => 31 - (intOf i).toNat)
  case atStart => exact ⟨0, 0, 0, by omega, rfl, rfl, rfl, rfl⟩
  case round =>
    obtain ⟨k, bb, n, hk, rfl, rfl, rfl, hd⟩ := hrel
    by_cases hkm : k < 30
    · have hin : (k : Int) + 1 ≤ 30 := by omega
      have HC1 := HT.out ((k : Int) + 1)
      rw [show costL xs ((k : Int) + 1) = c (k + 1) from HCB.out.1 (k + 1)] at HC1
      have HC2 := HT.out (bb : Int)
      rw [HCB.out.1 bb] at HC2
      obtain ⟨y, hy⟩ : ∃ y, c (k + 1) = y := ⟨_, rfl⟩
      obtain ⟨z, hz⟩ : ∃ z, c bb = z := ⟨_, rfl⟩
      rw [hy] at HC1
      rw [hz] at HC2
      have HY := hid (And.intro hy hz)
      replace HC1 := hid HC1
      replace HC2 := hid HC2
      clear hy hz
      go_wp2_with fail
      with_reducible refine (HC1.out n).mono ?_
      rintro e w1 ⟨rfl, n1, rfl⟩
      rw [World.drewN_drewN]
      go_wp2_with fail
      with_reducible refine (HC2.out _).mono ?_
      rintro e w1 ⟨rfl, n2, hw2⟩
      rw [World.drewN_drewN] at hw2
      subst hw2
      by_cases hlt : y < z
      · have hlt' : (y : Int) < z := by omega
        go_wp2_with fail
        go_roundw
        case rel => exact ⟨k + 1, k + 1, _, by omega, by go_num, by go_num, rfl, by show _ = _; rw [bestTo, if_pos (by rw [HY.out.1, ← hd.out, HY.out.2]; exact hlt)]⟩
        case measure => simp [intOf]; omega
      · have hlt' : ¬ (y : Int) < z := by omega
        go_wp2_with fail
        go_roundw
        case rel => exact ⟨k + 1, bb, _, by omega, by go_num, rfl, rfl, by show _ = _; rw [bestTo, if_neg (by rw [HY.out.1, ← hd.out, HY.out.2]; exact hlt)]; exact hd.out⟩
        case measure => simp [intOf]; omega
    · have hin : ¬ (k : Int) + 1 ≤ 30 := by omega
      obtain rfl : k = 30 := by omega
      have HC2 := HT.out (bb : Int)
      rw [HCB.out.1 bb] at HC2
      obtain ⟨z, hz⟩ : ∃ z, c bb = z := ⟨_, rfl⟩
      rw [hz] at HC2
      have HY := hid hz
      replace HC2 := hid HC2
      clear hz
      go_wp2_with fail
      with_reducible refine (HC2.out n).mono ?_
      rintro e w1 ⟨rfl, n1, rfl⟩
      rw [World.drewN_drewN]
      go_wp2_with fail
      go_ret2
      refine ⟨?_, below_drewN' (.refl _ _) _⟩
      rw [HCB.out.2, HCB.out.1, ← hd.out, HY.out]
      rfl
end Go.Proofs.Ytjboboaccjbebaa
