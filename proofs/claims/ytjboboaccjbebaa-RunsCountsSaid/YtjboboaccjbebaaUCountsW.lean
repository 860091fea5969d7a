/- The walk of RunsCounts. -/
import Derived.Test.YtjboboaccjbebaaRunV
import Derived.Test.YtjboboaccjbebaaRunT
import Derived.Test.YtjboboaccjbebaaKnown07
namespace Go.Proofs.Ytjboboaccjbebaa
open Go.RowKit
theorem i64_and511 (n : Int) : bits .and .i64 n 511 = n % 512 := by
  have h1 : (BitVec.ofInt 64 511).toNat = 2 ^ 9 - 1 := by decide
  have key : (BitVec.ofInt 64 n &&& BitVec.ofInt 64 511).toNat = (n % ((2 ^ 64 : Nat) : Int)).toNat % 2 ^ 9 := by
    rw [BitVec.toNat_and, BitVec.toNat_ofInt, h1, Nat.and_two_pow_sub_one_eq_mod]
  show IntKind.i64.wrap ((BitVec.ofInt 64 n &&& BitVec.ofInt 64 511).toNat : Nat) = n % 512
  rw [key, IntKind.wrap_i64]
  omega
/-- Noughts alone take few bits. -/
theorem cost_zero (n : Nat) (hn : n ≤ 511) : costL (List.replicate n (0 : Int)) 3 ≤ 2 * wid (n + 1) + 1 := by
  have hc : codedB (List.replicate n (0 : Int)) = true := by
    unfold codedB
    rw [List.all_eq_true]
    intro x hx
    rw [List.eq_of_mem_replicate hx]
    decide
  rw [costL_ok (by decide) hc, items_zero]
  unfold tailI
  split
  · have := (gamCost_w n (by omega)).1
    simp [sumI, costI, this]
    omega
  · simp [sumI]
theorem zero_inI (n : Nat) : InI (List.replicate n (0 : Int)) := by
  intro x hx
  rw [List.eq_of_mem_replicate hx]
  omega
namespace runsCounts
set_option maxRecDepth 100000 in
set_option maxHeartbeats 4000000 in
theorem walk {l : Value} {xs : List Int} {n : Int} {w : World} (hl : Sl w l (i64s xs)) (_hx : InI xs) :
    Calls Try.prog 5 #[l, .int .i64 n] w fun e w' => e = .returned (.bool true) ∧ Below w.heap.size w w' := by
  obtain ⟨A, c, rfl, _⟩ := i64s_form hl
  by_cases h : 200 < xs.length
  · have h' : (200 : Int) < xs.length := by omega
    clear hl
    go_enter Try.func5, Try.ntmps5
    go_wp2_with fail
    with_reducible refine (known07 _).mono ?_
    rintro e w1 ⟨rfl, hb⟩
    replace hb := hid hb
    go_wp2_with fail
    go_ret
    exact ⟨rfl, hb.out⟩
  have h' : ¬ (200 : Int) < xs.length := by omega
  have HR1 := hid (runs_any (.slice A xs.length c) xs w hl (by omega))
  have HR2 := hid (fun W (h : Sl W (.slice A xs.length c) (i64s xs)) => refruns_any (.slice A xs.length c) xs W h (by omega))
  unfold FreshIS at HR1 HR2
  have hrl := runsF_length 0 xs
  obtain ⟨F, hF⟩ : ∃ F, runsF 0 xs = F := ⟨_, rfl⟩
  rw [hF] at hrl
  simp only [hF] at HR1 HR2
  have HN := hid (i64_and511 n)
  obtain ⟨m, hm⟩ : ∃ m : Nat, n % 512 = (m : Int) := ⟨(n % 512).toNat, by omega⟩
  have hand : bits .and .i64 n 511 = (m : Int) := by rw [HN.out, hm]
  have hm511 : m ≤ 511 := by omega
  have H := hid (And.intro hl (And.intro (cost_zero m hm511) (zero_inI m)))
  have HM := hid hm
  clear hl hF hm HN
  go_enter Try.func5, Try.ntmps5
  go_wp2_with fail
  with_reducible refine HR1.out.mono ?_
  rintro e w1 ⟨A1, c1, rfl, hf1⟩
  have H1 := hid (And.intro hf1.2.1 hf1.sl)
  clear hf1
  go_wp2_with fail
  with_reducible refine (HR2.out _ (H.out.1.below H1.out.1)).mono ?_
  rintro e w2 ⟨A2, c2, rfl, hf2⟩
  have H2 := hid (And.intro (H1.out.1.trans (hf2.2.1.mono H1.out.1.size)) (And.intro (H1.out.2.below hf2.2.1) hf2.sl))
  clear hf2
  go_wp2_with fail
  with_reducible refine (ints_any _ _ F F _ H2.out.2.1 H2.out.2.2).mono ?_
  rintro e w3 ⟨he3, n3, hw3⟩
  rw [decide_eq_true rfl] at he3
  subst he3
  have H3 := hid (show Below w.heap.size w w3 from hw3 ▸ below_drewN' H2.out.1 n3)
  clear hw3
  go_wp2_with fail
  go_loopw [5, 6] (fun d x wr => ∃ j y : Nat, j ≤ 10 ∧ y ≤ 512 ∧ y * 2 ^ j ≤ 512 ∧ d = .int .i64 j ∧ x = .int .i64 y ∧ wr = w3 ∧ Hid (wid (m + 1) = j + wid y)) (fun _ x _ => (intOf x).toNat)
  case atStart => exact ⟨0, m + 1, by omega, by omega, by omega, rfl, by first | rfl | go_num, rfl, by show _ = _; omega⟩
  case round =>
    obtain ⟨j, y, hj, hy, hjy, rfl, rfl, rfl, hd⟩ := hrel
    by_cases hy0 : 0 < y
    · have hin : (0 : Int) < y := by omega
      have hq : (y : Int).tdiv 2 = ((y / 2 : Nat) : Int) := by rw [Int.tdiv_eq_ediv_of_nonneg (by omega)]; omega
      have hj9 : j ≤ 9 := by
        rcases Nat.lt_or_ge j 10 with h | h
        · omega
        · have : 2 ^ 10 ≤ 2 ^ j := Nat.pow_le_pow_right (by omega) h
          have := Nat.mul_le_mul hy0 this
          omega
      have HP := hid hjy
      clear hjy
      go_wp2_with fail
      go_roundw
      case rel =>
        refine ⟨j + 1, y / 2, by omega, by omega, ?_, by go_num, by first | rfl | go_num, by first | rfl | trivial, ?_⟩
        · have e := HP.out
          have e2 : y / 2 * 2 ^ (j + 1) = (y / 2 * 2) * 2 ^ j := by rw [Nat.pow_succ]; rw [Nat.mul_assoc, Nat.mul_comm 2 (2 ^ j)]
          have e3 : (y / 2 * 2) * 2 ^ j ≤ y * 2 ^ j := Nat.mul_le_mul_right _ (by omega)
          omega
        · show _ = _
          rw [hd.out, wid_half y (by omega) (by omega)]
          omega
      case measure => simp [intOf]; omega
    · have hin : ¬ (0 : Int) < y := by omega
      obtain rfl : y = 0 := by omega
      have hmk := fun W => make_int m (by omega) W
      have hwj : wid (m + 1) = j := by have := hd.out; rw [wid_zero] at this; omega
      have HC := hid (fun (W : World) => costl_any (.slice (some ⟨W.heap.size, 0, none⟩) m m) (List.replicate m 0) 3 (W.alloc (.cells (madeCells #[.int .i64 0] m) 3)) (by
        have hb := Blk.new W 3 (madeCells #[.int .i64 0] m)
        rw [made_zero] at hb
        rw [made_zero]
        exact Sl.of_own (own_of_blk (xs := i64s (List.replicate m 0)) hb (Nat.le_refl m) (by unfold maxLen; omega) (by simp [i64s]) (by rw [List.take_of_length_le (by simp [i64s])]) (by simp [i64s]))) H.out.2.2 (by simp; omega))
      have hcz := H.out.2.1
      rw [hwj] at hcz
      obtain ⟨t, ht⟩ : ∃ t, costL (List.replicate m (0 : Int)) 3 = t := ⟨_, rfl⟩
      rw [ht] at hcz
      simp only [ht] at HC
      have hcz' : (t : Int) ≤ 2 * (j : Int) + 1 := by omega
      clear ht hwj hd hjy
      go_wp2_with fail
      with_reducible refine (HC.out _).mono ?_
      rintro e w4 ⟨rfl, hb4⟩
      have H4 := hid (show Below w.heap.size w w4 from (H3.out.alloc H3.out.size _).trans (hb4.mono (H3.out.alloc H3.out.size _).size))
      clear hb4
      go_wp2_with fail
      with_reducible refine (known07 _).mono ?_
      rintro e w5 ⟨rfl, hb⟩
      have H5 := hid (H4.out.trans (hb.mono H4.out.size))
      clear hb
      go_wp2_with fail
      go_ret
      exact ⟨rfl, H5.out⟩
end runsCounts
end Go.Proofs.Ytjboboaccjbebaa
