/- The reference of layer 6: Param, May, Quotient, Code, Cost, Total, All, Best, Guess. -/
import Derived.Test.YtjboboaccjbebaaRicePA
import Derived.Test.YtjboboaccjbebaaBitsL
namespace Go.Proofs.Ytjboboaccjbebaa
open Go.RowKit

theorem refparam_any (k : Int) (w : World) : Calls Try.prog 20 #[.int .i64 k] w fun e w' => e = .returned (.bool (paramB k)) ∧ w = w' := by
  by_cases h1 : 0 ≤ k
  · by_cases h2 : k ≤ 30
    · have e : paramB k = true := by unfold paramB; rw [decide_eq_true_iff]; omega
      rw [e]
      clear e
      go_enter Try.func20, Try.ntmps20
      go_wp2_with fail
      go_ret
      exact ⟨rfl, rfl⟩
    · have e : paramB k = false := by unfold paramB; rw [decide_eq_false_iff_not]; omega
      rw [e]
      clear e
      go_enter Try.func20, Try.ntmps20
      go_wp2_with fail
      go_ret
      exact ⟨by simp, rfl⟩
  · have e : paramB k = false := by unfold paramB; rw [decide_eq_false_iff_not]; omega
    rw [e]
    clear e
    go_enter Try.func20, Try.ntmps20
    go_wp2_with fail
    go_ret
    exact ⟨rfl, rfl⟩
theorem refmay_any (u : Nat) (w : World) : Calls Try.prog 121 #[.int .u64 (u : Int)] w fun e w' => e = .returned (.bool (mayB u)) ∧ w = w' := by
  have HE := hid (show decide ((u : Int) < 1099511627776) = mayB u by unfold mayB; rw [Bool.eq_iff_iff, decide_eq_true_iff, decide_eq_true_iff]; omega)
  go_enter Try.func121, Try.ntmps121
  go_wp2_with fail
  go_ret
  exact ⟨by rw [← HE.out]; rfl, rfl⟩
theorem refquo_any (u k : Nat) (hk : k ≤ 30) (w : World) : Calls Try.prog 122 #[.int .u64 (u : Int), .int .i64 (k : Int)] w fun e w' => e = .returned (.int .u64 (u / 2 ^ k : Nat)) ∧ w = w' := by
  have hsh := shr_rule u k
  obtain ⟨q, hqe⟩ : ∃ q, u / 2 ^ k = q := ⟨_, rfl⟩
  rw [hqe] at hsh ⊢
  clear hqe
  go_enter Try.func122, Try.ntmps122
  go_wp2_with fail
  go_ret
  exact ⟨rfl, rfl⟩

theorem refcost_any (u : Nat) (k : Int) (w : World) : Calls Try.prog 75 #[.int .u64 (u : Int), .int .i64 k] w fun e w' => e = .returned (.int .i64 (costR u k : Nat)) ∧ w = w' := by
  have HP := hid (refparam_any k w)
  have HM := hid (refmay_any u w)
  obtain ⟨b, hb⟩ : ∃ b, paramB k = b := ⟨_, rfl⟩
  obtain ⟨c, hc⟩ : ∃ c, mayB u = c := ⟨_, rfl⟩
  rw [hb] at HP
  rw [hc] at HM
  have HB := hid (And.intro hb hc)
  clear hb hc
  cases b
  · have HE := hid (show costR u k = 0 by simp [costR, HB.out.1])
    go_enter Try.func75, Try.ntmps75
    go_wp2_with fail
    with_reducible refine HP.out.mono ?_
    rintro e w1 ⟨rfl, rfl⟩
    go_wp2_with fail
    go_ret
    exact ⟨by rw [HE.out]; rfl, rfl⟩
  cases c
  · have HE := hid (show costR u k = 0 by simp [costR, HB.out.2])
    go_enter Try.func75, Try.ntmps75
    go_wp2_with fail
    with_reducible refine HP.out.mono ?_
    rintro e w1 ⟨rfl, rfl⟩
    go_wp2_with fail
    with_reducible refine HM.out.mono ?_
    rintro e w1 ⟨rfl, rfl⟩
    go_wp2_with fail
    go_ret
    exact ⟨by rw [HE.out]; rfl, rfl⟩
  · have hk := (paramB_iff k).1 HB.out.1
    have hu := (mayB_iff u).1 HB.out.2
    obtain ⟨m, rfl⟩ := Int.eq_ofNat_of_zero_le hk.1
    have HQ := refquo_any u m (by omega) w
    have hq := Nat.div_le_self u (2 ^ m)
    obtain ⟨q, hqe⟩ : ∃ q, u / 2 ^ m = q := ⟨_, rfl⟩
    rw [hqe] at HQ hq
    have HE := hid (show costR u (m : Int) = if q < 24 then q + 1 + m else 64 by simp [costR, HB.out.1, HB.out.2, costK, hqe])
    have HQQ := hid HQ
    clear HQ hqe
    by_cases hlt : q < 24
    · have h' : (q : Int) < 24 := by omega
      go_enter Try.func75, Try.ntmps75
      go_wp2_with fail
      with_reducible refine HP.out.mono ?_
      rintro e w1 ⟨rfl, rfl⟩
      go_wp2_with fail
      with_reducible refine HM.out.mono ?_
      rintro e w1 ⟨rfl, rfl⟩
      go_wp2_with fail
      with_reducible refine HQQ.out.mono ?_
      rintro e w1 ⟨rfl, rfl⟩
      go_wp2_with fail
      go_ret
      exact ⟨by rw [HE.out, if_pos hlt]; rfl, rfl⟩
    · have h' : ¬ (q : Int) < 24 := by omega
      go_enter Try.func75, Try.ntmps75
      go_wp2_with fail
      with_reducible refine HP.out.mono ?_
      rintro e w1 ⟨rfl, rfl⟩
      go_wp2_with fail
      with_reducible refine HM.out.mono ?_
      rintro e w1 ⟨rfl, rfl⟩
      go_wp2_with fail
      with_reducible refine HQQ.out.mono ?_
      rintro e w1 ⟨rfl, rfl⟩
      go_wp2_with fail
      go_ret
      exact ⟨by rw [HE.out, if_neg hlt]; rfl, rfl⟩

theorem reftotal_any (l : Value) (xs : List Nat) (k : Int) (w : World) (hl : Sl w l (u64s xs)) (hn : xs.length ≤ 1048576) :
    Calls Try.prog 135 #[l, .int .i64 k] w fun e w' => e = .returned (.int .i64 (totalR xs k : Nat)) ∧ w = w' := by
  obtain ⟨A, c, rfl, hm⟩ := u64s_form hl
  have H := hid hl
  clear hl
  go_enter Try.func135, Try.ntmps135
  go_wp2_with fail
  go_loop [5, 6] (fun s i => ∃ k' t : Nat, k' ≤ xs.length ∧ i = .int .i64 k' ∧ s = .int .i64 t ∧ t ≤ 67108864 ∧ Hid (t = totalR (xs.take k') k)) (fun _ i => xs.length - (intOf i).toNat)
  case atStart => exact ⟨0, 0, by omega, rfl, rfl, by omega, by simp [Hid, totalR, sumN]⟩
  case round =>
    obtain ⟨j, t, hj, rfl, rfl, ht, hd⟩ := hrel
    by_cases hjm : j < xs.length
    · have hin : (j : Int) < xs.length := by omega
      obtain ⟨ad, rfl, hc⟩ := u64s_at H.out hjm
      obtain ⟨x, hx⟩ : ∃ x, xs[j] = x := ⟨_, rfl⟩
      rw [hx] at hc
      have HX := hid hx
      clear hx
      have HC := refcost_any x k w
      have h64 := costR_le x k
      obtain ⟨y, hy⟩ : ∃ y, costR x k = y := ⟨_, rfl⟩
      rw [hy] at HC h64
      have HY := hid hy
      have HCC := hid HC
      clear hy HC
      go_wp2_with fail
      with_reducible refine HCC.out.mono ?_
      rintro e w1 ⟨rfl, rfl⟩
      go_wp2_with fail
      go_round
      case rel =>
        have hs : t + y = totalR (xs.take (j + 1)) k := by unfold totalR; rw [take_snocI xs j hjm, sumN_snoc, HX.out, HY.out, hd.out]; rfl
        have hle := totalR_le (xs.take (j + 1)) k
        rw [List.length_take] at hle
        exact ⟨j + 1, t + y, by omega, by go_num, by go_num, by omega, hs⟩
      case measure => simp [intOf]; omega
    · have hin : ¬ (j : Int) < xs.length := by omega
      obtain rfl : j = xs.length := by omega
      go_wp2_with fail
      go_ret
      have h := hd.out
      rw [List.take_length] at h
      exact ⟨by rw [← h]; rfl, rfl⟩

theorem refbest_any (l : Value) (xs : List Nat) (most : Int) (w : World) (hl : Sl w l (u64s xs)) (hn : xs.length ≤ 1048576) :
    Calls Try.prog 94 #[l, .int .i64 most] w (BestPost w xs (mostK most)) := by
  obtain ⟨hm30, hmc⟩ := mostK_spec most
  have HT := hid (fun (k : Int) => reftotal_any l xs k w hl hn)
  obtain ⟨m, hm⟩ : ∃ m, mostK most = m := ⟨_, rfl⟩
  rw [hm] at hm30 hmc
  have hmm : ∀ k : Nat, k < m → (k : Int) + 1 ≤ 30 ∧ (k : Int) + 1 ≤ most := fun k hk => by
    unfold clampI at hmc
    split at hmc
    · omega
    · split at hmc <;> omega
  have hme : ¬ ((m : Int) + 1 ≤ 30 ∧ (m : Int) + 1 ≤ most) := by
    unfold clampI at hmc
    split at hmc
    · omega
    · split at hmc <;> omega
  have HM := hid (And.intro hm (And.intro hmm hme))
  clear hl hmc hm hmm hme
  obtain ⟨c, hc⟩ : ∃ c : Nat → Nat, (fun k : Nat => totalR xs (k : Int)) = c := ⟨_, rfl⟩
  have hcb : ∀ k : Nat, totalR xs (k : Int) = c k := fun k => by rw [← hc]
  have HCB := hid (And.intro hcb hc)
  clear hcb hc
  go_enter Try.func94, Try.ntmps94
  go_wp2_with fail
  go_loop [6, 7] (fun b i => ∃ (k bb : Nat), k ≤ m ∧ i = .int .i64 ((k : Int) + 1) ∧ b = .int .i64 bb ∧ Hid (bb = bestTo c k)) (fun _ i => (m + 1) - (intOf i).toNat)
  case atStart => exact ⟨0, 0, by omega, rfl, rfl, rfl⟩
  case round =>
    obtain ⟨k, bb, hk, rfl, rfl, hd⟩ := hrel
    by_cases hkm : k < m
    · obtain ⟨g1, g2⟩ := HM.out.2.1 k hkm
      have HC1 := HT.out ((k : Int) + 1)
      rw [show totalR xs ((k : Int) + 1) = c (k + 1) from HCB.out.1 (k + 1)] at HC1
      have HC2 := HT.out (bb : Int)
      rw [HCB.out.1 bb] at HC2
      obtain ⟨y, hy⟩ : ∃ y, c (k + 1) = y := ⟨_, rfl⟩
      obtain ⟨z, hz⟩ : ∃ z, c bb = z := ⟨_, rfl⟩
      rw [hy] at HC1
      rw [hz] at HC2
      have HY := hid (And.intro hy (And.intro hz (And.intro HC1 HC2)))
      clear hy hz HC1 HC2
      go_wp2_with fail
      with_reducible refine HY.out.2.2.1.mono ?_
      rintro e w3 ⟨rfl, rfl⟩
      go_wp2_with fail
      with_reducible refine HY.out.2.2.2.mono ?_
      rintro e w3 ⟨rfl, rfl⟩
      by_cases hlt : y < z
      · have hlt' : (y : Int) < z := by omega
        go_wp2_with fail
        go_round
        case rel => exact ⟨k + 1, k + 1, by omega, by go_num, by go_num, by show _ = _; rw [bestTo, if_pos (by rw [HY.out.1, ← hd.out, HY.out.2.1]; exact hlt)]⟩
        case measure => simp [intOf]; omega
      · have hlt' : ¬ (y : Int) < z := by omega
        go_wp2_with fail
        go_round
        case rel => exact ⟨k + 1, bb, by omega, by go_num, rfl, by show _ = _; rw [bestTo, if_neg (by rw [HY.out.1, ← hd.out, HY.out.2.1]; exact hlt)]; exact hd.out⟩
        case measure => simp [intOf]; omega
    · obtain rfl : k = m := by omega
      have HC2 := HT.out (bb : Int)
      rw [HCB.out.1 bb] at HC2
      have HCC := hid HC2
      clear HC2
      by_cases g1 : (k : Int) + 1 ≤ 30
      · have g2 : ¬ (k : Int) + 1 ≤ most := fun h => HM.out.2.2 ⟨g1, h⟩
        go_wp2_with fail
        with_reducible refine HCC.out.mono ?_
        rintro e w3 ⟨rfl, rfl⟩
        go_wp2_with fail
        go_ret2
        refine ⟨?_, .refl _ _⟩
        rw [HM.out.1, HCB.out.2, HCB.out.1, ← hd.out]
        rfl
      · go_wp2_with fail
        with_reducible refine HCC.out.mono ?_
        rintro e w3 ⟨rfl, rfl⟩
        go_wp2_with fail
        go_ret2
        refine ⟨?_, .refl _ _⟩
        rw [HM.out.1, HCB.out.2, HCB.out.1, ← hd.out]
        rfl
end Go.Proofs.Ytjboboaccjbebaa
