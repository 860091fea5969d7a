/- The walk of CoefNears. -/
import Derived.Test.YtfbccmogiafgfaaCoefN
namespace Go.Proofs.Ytfbccmogiafgfaa
open Go.RowKit

namespace coefNears
/-- Behind the fixed calls. -/
theorem known_end {w w1 : World} (hb : Below w.heap.size w w1) : Calls Try.prog 14 #[] w1 fun e w' => e = .returned (.bool true) ∧ Below w.heap.size w w' :=
  (known12 w1).mono fun _ _ ⟨he, hb1⟩ => ⟨he, hb.trans (hb1.mono hb.size)⟩

set_option maxRecDepth 100000 in
set_option maxHeartbeats 4000000 in
theorem walk_few (A : Option Addr) (c : Nat) (xs : List Int) (n : Int) (w : World) (h : 32 < xs.length ∨ n < 3 ∨ 16 < n) (hm : xs.length ≤ 9223372036854775807) :
    Calls Try.prog 3 #[.slice A xs.length c, .int .i64 n] w fun e w' => e = .returned (.bool true) ∧ Below w.heap.size w w' := by
  by_cases h1 : 32 < xs.length
  · have h1' : (32 : Int) < xs.length := by omega
    clear h
    go_enter Try.func3, Try.ntmps3
    go_wp2_with fail
    with_reducible refine (known_end (Below.refl _ w)).mono ?_
    rintro e w1 ⟨rfl, hb⟩
    replace hb := hid hb
    go_wp2_with fail
    go_ret
    exact ⟨rfl, hb.out⟩
  have h1' : ¬ (32 : Int) < xs.length := by omega
  by_cases h2 : n < 3
  · clear h
    go_enter Try.func3, Try.ntmps3
    go_wp2_with fail
    with_reducible refine (known_end (Below.refl _ w)).mono ?_
    rintro e w1 ⟨rfl, hb⟩
    replace hb := hid hb
    go_wp2_with fail
    go_ret
    exact ⟨rfl, hb.out⟩
  have h3 : 16 < n := by omega
  clear h
  go_enter Try.func3, Try.ntmps3
  go_wp2_with fail
  with_reducible refine (known_end (Below.refl _ w)).mono ?_
  rintro e w1 ⟨rfl, hb⟩
  replace hb := hid hb
  go_wp2_with fail
  go_ret
  exact ⟨rfl, hb.out⟩

theorem tu_bd {t u : Int} (h1 : 2 ≤ t) (h2 : t ≤ 32766) (h3 : 1 ≤ u) (h4 : u ≤ 16777216) : 0 ≤ t * u ∧ t * u ≤ 549755813888 := by
  have a1 : t * u ≤ 32766 * u := Int.mul_le_mul_of_nonneg_right h2 (by omega)
  have a2 : 2 * u ≤ t * u := Int.mul_le_mul_of_nonneg_right h1 (by omega)
  omega

set_option maxRecDepth 100000 in
set_option maxHeartbeats 4000000 in
theorem walk_main (A : Option Addr) (c : Nat) (xs : List Int) (n : Nat) (w : World) (hl : Sl w (.slice A xs.length c) (i64s xs)) (hm : xs.length ≤ 32) (hn : 3 ≤ n) (hn2 : n ≤ 16) :
    Calls Try.prog 3 #[.slice A xs.length c, .int .i64 (n : Int)] w fun e w' => e = .returned (.bool true) ∧ Below w.heap.size w w' := by
  have h1' : ¬ (32 : Int) < xs.length := by omega
  have h2' : ¬ (n : Int) < 3 := by omega
  have h3' : ¬ (16 : Int) < (n : Int) := by omega
  have hQ := quant_ok (.slice A xs.length c) xs n w hl (by omega) hn2 hm
  obtain ⟨k, rfl⟩ : ∃ k, n = k + 1 := ⟨n - 1, by omega⟩
  rw [Nat.add_sub_cancel] at hQ
  have ek : ((k + 1 : Nat) : Int) = (k : Int) + 1 := by omega
  rw [ek] at hQ h2' h3' ⊢
  clear ek
  obtain ⟨t, ht⟩ : ∃ t : Int, 2 ^ k = t + 2 := ⟨2 ^ k - 2, by omega⟩
  have ht1 : 2 ≤ t := by have : (2 : Int) ^ 2 ≤ 2 ^ k := pow_le_int (by omega); rw [ht] at this; omega
  have ht2 : t ≤ 32766 := by have : (2 : Int) ^ k ≤ 2 ^ 15 := pow_le_int (by omega); rw [ht] at this; omega
  obtain ⟨sh, hsh⟩ : ∃ sh, shiftN xs (2 ^ k - 1) = sh := ⟨_, rfl⟩
  have hsh15 : sh ≤ 15 := by rw [← hsh]; exact downTo_le _ 15
  rw [hsh] at hQ
  obtain ⟨m, hmm⟩ : ∃ m, 24 - sh = m + 1 := ⟨23 - sh, by omega⟩
  have hN := quant_near t m (by omega) ht2 xs
  rw [hmm, ht, show t + 2 - 1 = t + 1 by omega] at hQ
  obtain ⟨L, hL⟩ : ∃ L, (quantS (t + 1) (m + 1) xs).1 = L := ⟨_, rfl⟩
  have hLl : L.length = xs.length := by rw [← hL]; exact quantS_length _ _ _
  rw [hL] at hQ hN
  obtain ⟨u, hu⟩ : ∃ u : Int, 2 ^ (m + 1) = u := ⟨_, rfl⟩
  rw [hu] at hN
  have hu1 : 1 ≤ u := by rw [← hu]; exact pow_le_int (k := 0) (by omega)
  have hu2 : u ≤ 16777216 := by rw [← hu]; exact pow_le_int (n := 24) (by omega)
  have HH := hid (And.intro hQ (And.intro hN (And.intro hL (And.intro hLl (And.intro ht (And.intro hmm (And.intro hu hl)))))))
  have hLl' : ((L.length : Int) != (xs.length : Int)) = false := by rw [hLl]; simp
  have hws : IntKind.i64.wrap (24 - (sh : Int)) = 24 - (sh : Int) := IntWalk.i64_in _ (by omega)
  clear hQ hN hL hLl hsh hl
  go_enter Try.func3, Try.ntmps3
  go_wp2_with fail
  with_reducible refine HH.out.1.mono ?_
  rintro e w1 ⟨A1, c1, rfl, hf⟩
  have HF := hid hf
  clear hf
  go_wp2_with fail
  have hb1 := HF.out.2.1.alloc HF.out.2.1.size (.cells #[.slice A1 L.length c1, .int .i64 (sh : Int)] 25)
  have HS := hid (And.intro hb1 (And.intro (HH.out.2.2.2.2.2.2.2.below hb1) (HF.out.sl.alloc (.cells #[.slice A1 L.length c1, .int .i64 (sh : Int)] 25))))
  have HP0 := hid (show (w1.alloc (.cells #[.slice A1 L.length c1, .int .i64 (sh : Int)] 25)).cell? ⟨w1.heap.size, 0, none⟩ = some (.slice A1 L.length c1) by simp)
  have htu := tu_bd ht1 ht2 hu1 hu2
  obtain ⟨z, hz⟩ : ∃ z, t * u = z := ⟨_, rfl⟩
  have hz2 : -t * u = -z := by rw [Int.neg_mul, hz]
  rw [hz] at htu
  have hw1 : IntKind.i64.wrap (t * u) = z := by rw [hz, IntWalk.i64_in _ (by omega)]
  have hw2 : IntKind.i64.wrap (-t * u) = -z := by rw [hz2, IntWalk.i64_in _ (by omega)]
  have HZ := hid hz
  clear hb1 ht hmm hu hz hz2
  obtain ⟨w2, hw2'⟩ : ∃ w2, w1.alloc (.cells #[.slice A1 L.length c1, .int .i64 (sh : Int)] 25) = w2 := ⟨_, rfl⟩
  rw [hw2'] at HS HP0 ⊢
  clear hw2'
  go_loop [9] (fun i => ∃ j : Nat, j ≤ xs.length ∧ i = .int .i64 j ∧ Hid (∀ x ∈ xs.take j, x ≤ t * u ∧ -(t * u) ≤ x)) (fun i => xs.length - (intOf i).toNat)
  case atStart => exact ⟨0, by omega, rfl, by simp [Hid]⟩
  case round =>
    obtain ⟨j, hj, rfl, hall⟩ := hrel
    by_cases hjm : j < xs.length
    · have hin : (j : Int) < xs.length := by omega
      obtain ⟨ad, rfl, hc⟩ := i64s_at HS.out.2.1 hjm
      obtain ⟨x, hx⟩ : ∃ x, xs[j] = x := ⟨_, rfl⟩
      rw [hx] at hc
      have HX := hid hx
      clear hx
      by_cases g1 : z < x
      · go_wp2_with fail
        with_reducible refine (known_end HS.out.1).mono ?_
        rintro e w3 ⟨rfl, hb⟩
        replace hb := hid hb
        go_wp2_with fail
        go_ret
        exact ⟨rfl, hb.out⟩
      · by_cases g2 : x < -z
        · go_wp2_with fail
          with_reducible refine (known_end HS.out.1).mono ?_
          rintro e w3 ⟨rfl, hb⟩
          replace hb := hid hb
          go_wp2_with fail
          go_ret
          exact ⟨rfl, hb.out⟩
        · go_wp2_with fail
          go_round
          case rel =>
            refine ⟨j + 1, by omega, by go_num, ?_⟩
            intro y hy
            rw [take_snoc xs j hjm] at hy
            rcases List.mem_append.1 hy with hy | hy
            · exact hall.out y hy
            · simp at hy
              rw [hy, HX.out, HZ.out]
              omega
          case measure => simp [intOf]; omega
    · have hin : ¬ (j : Int) < xs.length := by omega
      go_wp2_with fail
      obtain rfl : j = xs.length := by omega
      have hq := HH.out.2.1 (by have h := hall.out; rwa [List.take_length] at h)
      have HQ := hid (And.intro hall.out hq.2)
      clear hall hq
      go_loopw [10] (fun i wr => ∃ j n : Nat, j ≤ xs.length ∧ i = .int .i64 j ∧ wr = w2.drewN n) (fun i _ => xs.length - (intOf i).toNat)
      case atStart => exact ⟨0, 0, by omega, rfl, rfl⟩
      case round =>
        obtain ⟨j, n, hj, rfl, rfl⟩ := hrel
        by_cases hjm : j < xs.length
        · have hin : (j : Int) < xs.length := by omega
          have hjL : j < L.length := by rw [HH.out.2.2.2.1]; exact hjm
          have hinL : (j : Int) < L.length := by omega
          obtain ⟨ad, rfl, hc⟩ := i64s_at HS.out.2.1 hjm
          obtain ⟨bd, rfl, hc2⟩ := i64s_at HS.out.2.2 hjL
          have hq := HQ.out.2 j xs[j] L[j] (List.getElem?_eq_getElem hjm) (List.getElem?_eq_getElem hjL)
          have hx := HQ.out.1 xs[j] (by rw [List.take_length]; exact List.getElem_mem _)
          have hp0 := HP0.out
          generalize xs[j] = x at *
          generalize L[j] = q at *
          rw [HZ.out] at hx
          obtain ⟨y, hy⟩ : ∃ y, q * u = y := ⟨_, rfl⟩
          rw [hy] at hq
          obtain ⟨hq1, hq2⟩ := hq
          obtain ⟨hx1, hx2⟩ := hx
          have hw3 : IntKind.i64.wrap (q * u) = y := by rw [hy, IntWalk.i64_in _ (by omega)]
          have hw4 : IntKind.i64.wrap (x - y) = x - y := IntWalk.i64_in _ (by omega)
          clear hy
          go_wp2_with fail
          go_quiet (fail)
          have hq3 : ¬ 3 * u ≤ 2 * (x - y) := by omega
          have hq4 : ¬ 2 * (x - y) ≤ -3 * u := by omega
          have hw5 : IntKind.i64.wrap (2 * (x - y)) = 2 * (x - y) := IntWalk.i64_in _ (by omega)
          have hw6 : IntKind.i64.wrap (-3 * u) = -3 * u := IntWalk.i64_in _ (by omega)
          have hw7 : IntKind.i64.wrap (3 * u) = 3 * u := IntWalk.i64_in _ (by omega)
          go_wp2_with fail
          go_roundw
          case rel => exact ⟨j + 1, _, by omega, by go_num, rfl⟩
          case measure => simp [intOf]; omega
        · have hin : ¬ (j : Int) < xs.length := by omega
          go_wp2_with fail
          with_reducible refine (known_end (below_drewN' HS.out.1 n)).mono ?_
          rintro e w3 ⟨rfl, hb⟩
          replace hb := hid hb
          go_wp2_with fail
          go_ret
          exact ⟨rfl, hb.out⟩
theorem walk {v : Value} {xs : List Int} {n : Int} {w : World} (hl : Sl w v (i64s xs)) (_hn : -9223372036854775808 ≤ n ∧ n ≤ 9223372036854775807) :
    Calls Try.prog 3 #[v, .int .i64 n] w fun e w' => e = .returned (.bool true) ∧ Below w.heap.size w w' := by
  obtain ⟨A, c, rfl, hm⟩ := i64s_form hl
  by_cases h : 32 < xs.length ∨ n < 3 ∨ 16 < n
  · exact walk_few A c xs n w h hm
  · obtain ⟨m, rfl⟩ := Int.eq_ofNat_of_zero_le (show 0 ≤ n by omega)
    exact walk_main A c xs m w hl (by omega) (by omega) (by omega)
end coefNears
end Go.Proofs.Ytfbccmogiafgfaa
