/- The walk of PartBounds. -/
import Derived.Test.YtjboboaccjbebaaMgE
import Derived.Test.YtjboboaccjbebaaMgF

namespace Go.Proofs.Ytjboboaccjbebaa
open Go.RowKit
set_option maxHeartbeats 1600000 in
theorem bounds_bad (n p i : Int) (w : World) (h : bdB n p i = false) : Calls Try.prog 50 #[.int .i64 n, .int .i64 p, .int .i64 i] w fun e w' => e = .returned (.tuple #[.int .i64 0, .int .i64 0]) ∧ w = w' := by
  have h' : ¬ (0 ≤ n ∧ n ≤ 65536 ∧ 0 ≤ p ∧ p ≤ 6 ∧ 0 ≤ i ∧ i < 2 ^ p.toNat) := fun e => by rw [(bdB_iff n p i).2 e] at h; cases h
  clear h
  by_cases h1 : n < 0
  · clear h'
    go_enter Try.func50, Try.ntmps50
    go_wp2_with fail
    go_ret2
    exact ⟨rfl, rfl⟩
  by_cases h2 : 65536 < n
  · clear h'
    go_enter Try.func50, Try.ntmps50
    go_wp2_with fail
    go_ret2
    exact ⟨rfl, rfl⟩
  by_cases h3 : p < 0
  · clear h'
    go_enter Try.func50, Try.ntmps50
    go_wp2_with fail
    go_ret2
    exact ⟨rfl, rfl⟩
  by_cases h4 : 6 < p
  · clear h'
    go_enter Try.func50, Try.ntmps50
    go_wp2_with fail
    go_ret2
    exact ⟨rfl, rfl⟩
  by_cases h5 : i < 0
  · clear h'
    go_enter Try.func50, Try.ntmps50
    go_wp2_with fail
    go_ret2
    exact ⟨rfl, rfl⟩
  have h6 : 2 ^ p.toNat ≤ i := by
    by_cases h : i < 2 ^ p.toNat
    · exact absurd ⟨by omega, by omega, by omega, by omega, by omega, h⟩ h'
    · omega
  obtain ⟨p, rfl⟩ := Int.eq_ofNat_of_zero_le (show 0 ≤ p by omega)
  rw [Int.toNat_natCast] at h6
  have hp : p = 0 ∨ p = 1 ∨ p = 2 ∨ p = 3 ∨ p = 4 ∨ p = 5 ∨ p = 6 := by omega
  clear h' h3 h4
  rcases hp with rfl | rfl | rfl | rfl | rfl | rfl | rfl
  all_goals (
    simp only [Int.reducePow] at h6
    go_enter Try.func50, Try.ntmps50
    go_wp2_with fail
    go_ret2
    exact ⟨rfl, rfl⟩)

namespace partBounds
set_option maxRecDepth 100000 in
set_option maxHeartbeats 4000000 in
theorem walk_bad (n p i : Int) (w : World) (h : bdB n p i = false) : Calls Try.prog 12 #[.int .i64 n, .int .i64 p, .int .i64 i] w fun e w' => e = .returned (.bool true) ∧ Below w.heap.size w w' := by
  have h' : ¬ (0 ≤ n ∧ n ≤ 65536 ∧ 0 ≤ p ∧ p ≤ 6 ∧ 0 ≤ i ∧ i < 2 ^ p.toNat) := fun e => by rw [(bdB_iff n p i).2 e] at h; cases h
  have HB := hid (bounds_bad n p i w h)
  clear h
  have HK := hid (known09 w)
  by_cases h1 : n < 0
  · clear h'
    go_enter Try.func12, Try.ntmps12
    go_wp2_with fail
    with_reducible refine HB.out.mono ?_
    rintro e w1 ⟨rfl, rfl⟩
    go_wp2_with fail
    with_reducible refine HK.out.mono ?_
    rintro e w1 ⟨rfl, hb⟩
    have H1 := hid hb
    clear hb
    go_wp2_with fail
    go_ret
    exact ⟨rfl, H1.out⟩
  by_cases h2 : 65536 < n
  · clear h'
    go_enter Try.func12, Try.ntmps12
    go_wp2_with fail
    with_reducible refine HB.out.mono ?_
    rintro e w1 ⟨rfl, rfl⟩
    go_wp2_with fail
    with_reducible refine HK.out.mono ?_
    rintro e w1 ⟨rfl, hb⟩
    have H1 := hid hb
    clear hb
    go_wp2_with fail
    go_ret
    exact ⟨rfl, H1.out⟩
  by_cases h3 : p < 0
  · clear h'
    go_enter Try.func12, Try.ntmps12
    go_wp2_with fail
    with_reducible refine HB.out.mono ?_
    rintro e w1 ⟨rfl, rfl⟩
    go_wp2_with fail
    with_reducible refine HK.out.mono ?_
    rintro e w1 ⟨rfl, hb⟩
    have H1 := hid hb
    clear hb
    go_wp2_with fail
    go_ret
    exact ⟨rfl, H1.out⟩
  by_cases h4 : 6 < p
  · clear h'
    go_enter Try.func12, Try.ntmps12
    go_wp2_with fail
    with_reducible refine HB.out.mono ?_
    rintro e w1 ⟨rfl, rfl⟩
    go_wp2_with fail
    with_reducible refine HK.out.mono ?_
    rintro e w1 ⟨rfl, hb⟩
    have H1 := hid hb
    clear hb
    go_wp2_with fail
    go_ret
    exact ⟨rfl, H1.out⟩
  by_cases h5 : i < 0
  · clear h'
    go_enter Try.func12, Try.ntmps12
    go_wp2_with fail
    with_reducible refine HB.out.mono ?_
    rintro e w1 ⟨rfl, rfl⟩
    go_wp2_with fail
    with_reducible refine HK.out.mono ?_
    rintro e w1 ⟨rfl, hb⟩
    have H1 := hid hb
    clear hb
    go_wp2_with fail
    go_ret
    exact ⟨rfl, H1.out⟩
  by_cases h6 : 64 ≤ i
  · clear h'
    go_enter Try.func12, Try.ntmps12
    go_wp2_with fail
    with_reducible refine HB.out.mono ?_
    rintro e w1 ⟨rfl, rfl⟩
    go_wp2_with fail
    with_reducible refine HK.out.mono ?_
    rintro e w1 ⟨rfl, hb⟩
    have H1 := hid hb
    clear hb
    go_wp2_with fail
    go_ret
    exact ⟨rfl, H1.out⟩
  have h7 : 2 ^ p.toNat ≤ i := by
    by_cases h : i < 2 ^ p.toNat
    · exact absurd ⟨by omega, by omega, by omega, by omega, by omega, h⟩ h'
    · omega
  obtain ⟨p, rfl⟩ := Int.eq_ofNat_of_zero_le (show 0 ≤ p by omega)
  rw [Int.toNat_natCast] at h7
  have hp : p = 0 ∨ p = 1 ∨ p = 2 ∨ p = 3 ∨ p = 4 ∨ p = 5 ∨ p = 6 := by omega
  clear h' h3 h4
  rcases hp with rfl | rfl | rfl | rfl | rfl | rfl | rfl
  all_goals (
    simp only [Int.reducePow] at h7
    go_enter Try.func12, Try.ntmps12
    go_wp2_with fail
    refine HB.out.mono ?_
    rintro e w1 ⟨rfl, rfl⟩
    go_wp2_with fail
    with_reducible refine HK.out.mono ?_
    rintro e w1 ⟨rfl, hb⟩
    have H1 := hid hb
    clear hb
    go_wp2_with fail
    go_ret
    exact ⟨rfl, H1.out⟩)

set_option maxRecDepth 100000 in
set_option maxHeartbeats 8000000 in
theorem walk_main (n p i : Nat) (w : World) (h : bdB n p i = true) : Calls Try.prog 12 #[.int .i64 (n : Int), .int .i64 (p : Int), .int .i64 (i : Int)] w fun e w' => e = .returned (.bool true) ∧ Below w.heap.size w w' := by
  obtain ⟨_, h2, _, h4, _, h6⟩ := (bdB_iff n p i).1 h
  rw [Int.toNat_natCast, show (2 : Int) ^ p = ((2 ^ p : Nat) : Int) from (Int.natCast_pow 2 p).symm] at h6
  have h64 : 2 ^ p ≤ 2 ^ 6 := Nat.pow_le_pow_right (by omega) (by omega)
  have HB := hid (bounds_ok n p i w h)
  have HR := hid (fun m => refbounds_any n p i (w.drewN m) (by omega) (by omega) (by omega))
  have HN := hid (fun W => show ∃ c d : Nat, Calls Try.prog 50 #[.int .i64 (n : Int), .int .i64 (p : Int), .int .i64 ((i + 1 : Nat) : Int)] W (fun e w' => e = .returned (.tuple #[.int .i64 (c : Int), .int .i64 (d : Int)]) ∧ ∃ m, w' = W.drewN m) ∧ (i + 1 < 2 ^ p → c = bndN n p (i + 1)) from by
    by_cases hl : i + 1 < 2 ^ p
    · have hb : bdB n p ((i + 1 : Nat) : Int) = true := (bdB_iff _ _ _).2 ⟨by omega, by omega, by omega, by omega, by omega, by rw [Int.toNat_natCast, show (2 : Int) ^ p = ((2 ^ p : Nat) : Int) from (Int.natCast_pow 2 p).symm]; omega⟩
      exact ⟨_, _, bounds_ok n p (i + 1) W hb, fun _ => rfl⟩
    · have hb : bdB n p ((i + 1 : Nat) : Int) = false := by
        unfold bdB
        rw [decide_eq_false_iff_not]
        rintro ⟨_, _, _, _, _, h⟩
        rw [Int.toNat_natCast, show (2 : Int) ^ p = ((2 ^ p : Nat) : Int) from (Int.natCast_pow 2 p).symm] at h
        omega
      exact ⟨0, 0, (bounds_bad n p _ W hb).mono fun _ _ ⟨he, hw⟩ => ⟨he, 0, hw.symm⟩, fun h => absurd h hl⟩)
  have ha0 := bnd_zero n p
  have hbe := bnd_end n p
  have hab := bnd_mono n p i
  have hbn := bnd_le n p (i := i + 1) (by omega)
  have HA := hid (fun hi : i = 0 => show bndN n p i = 0 from by rw [hi]; exact ha0)
  have HE := hid (fun hi : i + 1 = 2 ^ p => show bndN n p (i + 1) = n from by rw [hi]; exact hbe)
  obtain ⟨a, ha⟩ : ∃ a, bndN n p i = a := ⟨_, rfl⟩
  obtain ⟨b, hb⟩ : ∃ b, bndN n p (i + 1) = b := ⟨_, rfl⟩
  rw [ha] at HB hab HA
  rw [hb] at HB hab hbn HE
  simp only [ha, hb] at HR HN
  have q1 : ¬ (n : Int) < 0 := by omega
  have q2 : ¬ (65536 : Int) < n := by omega
  have q3 : ¬ (i : Int) < 0 := by omega
  have q4 : ¬ (64 : Int) ≤ i := by omega
  have ea : ((a : Int) != (a : Int)) = false := by simp
  have eb : ((b : Int) != (b : Int)) = false := by simp
  have eab : ¬ (b : Int) < a := by omega
  have hwi : IntKind.i64.wrap ((i : Int) + 1) = ((i + 1 : Nat) : Int) := by rw [IntWalk.i64_in _ (by omega)]; omega
  have hp : p = 0 ∨ p = 1 ∨ p = 2 ∨ p = 3 ∨ p = 4 ∨ p = 5 ∨ p = 6 := by omega
  have hz : ((i : Int) == 0) = true ∧ ((a : Int) != 0) = false ∨ ((i : Int) == 0) = false := by
    by_cases hi : i = 0
    · exact .inl ⟨by rw [beq_iff_eq]; omega, by rw [bne_eq_false_iff_eq, HA.out hi]; rfl⟩
    · exact .inr (by rw [beq_eq_false_iff_ne]; omega)
  have hpw : (2 : Int) ^ p = ((2 ^ p : Nat) : Int) := (Int.natCast_pow 2 p).symm
  have hN1 := Nat.two_pow_pos p
  obtain ⟨N, hN⟩ : ∃ N, 2 ^ p = N := ⟨_, rfl⟩
  rw [hN] at hpw h64 h6 hN1
  simp only [hN] at HN HE
  have hpN : IntKind.i64.wrap ((2 : Int) ^ p) = (N : Int) := by rw [hpw]; exact IntWalk.i64_in _ (by omega)
  have hp0 : ¬ (p : Int) < 0 := by omega
  have hp6 : ¬ (6 : Int) < p := by omega
  have hp64 : (p : Int) < 64 := by omega
  have hge : ¬ (N : Int) ≤ (i : Int) := by omega
  have hwN : IntKind.i64.wrap ((N : Int) - 1) = ((N - 1 : Nat) : Int) := by rw [IntWalk.i64_in _ (by omega)]; omega
  have hl : (((i : Int) == ((N - 1 : Nat) : Int)) = true ∧ ((b : Int) != (n : Int)) = false) ∨ (((i : Int) == ((N - 1 : Nat) : Int)) = false ∧ i + 1 < N) := by
    by_cases hi : i + 1 = N
    · exact .inl ⟨by rw [beq_iff_eq]; omega, by rw [bne_eq_false_iff_eq, HE.out hi]⟩
    · exact .inr ⟨by rw [beq_eq_false_iff_ne]; omega, by omega⟩
  have HL := hid (show ∀ c : Nat, (i + 1 < N → c = b) → i + 1 < N → ((c : Int) == (b : Int)) = true from fun c h h2 => by rw [beq_iff_eq, h h2])
  obtain ⟨i1, hi1⟩ : ∃ i1, i + 1 = i1 := ⟨_, rfl⟩
  simp only [hi1] at HN hwi HL
  rw [hi1] at hl
  obtain ⟨N1, hN1'⟩ : ∃ N1, N - 1 = N1 := ⟨_, rfl⟩
  rw [hN1'] at hwN hl
  clear h h2 h4 h6 h64 ha0 hbe hab hbn ha hb hi1 HA HE hpw hp hN hN1 hN1'
  rcases hl with ⟨hl1, hl2⟩ | ⟨hl1, hl2⟩
  all_goals (
      rcases hz with ⟨hz1, hz2⟩ | hz1
      all_goals (
        go_enter Try.func12, Try.ntmps12
        go_wp2_with fail
        with_reducible refine HB.out.mono ?_
        rintro e w1 ⟨rfl, m1, rfl⟩
        go_wp2_with fail
        with_reducible refine (HR.out m1).mono ?_
        rintro e w2 ⟨rfl, m2, hw2⟩
        have H2 := hid (show Below w.heap.size w w2 from hw2 ▸ below_drewN' (below_drewN' (.refl _ _) m1) m2)
        clear hw2
        go_wp2_with fail
        obtain ⟨c, d, hc, hcb⟩ := HN.out w2
        have HCB := hid hcb
        with_reducible refine hc.mono ?_
        clear hc hcb
        rintro e w3 ⟨rfl, m3, hw3⟩
        have H3 := hid (show Below w.heap.size w w3 from hw3 ▸ below_drewN' H2.out m3)
        clear hw3
        try have hcc := HL.out c HCB.out hl2
        go_wp2_with fail
        with_reducible refine (known09 _).mono ?_
        rintro e w4 ⟨rfl, hb⟩
        have H4 := hid (H3.out.trans (hb.mono H3.out.size))
        clear hb
        go_wp2_with fail
        go_ret
        exact ⟨rfl, H4.out⟩))

theorem walk {n p i : Int} {w : World} : Calls Try.prog 12 #[.int .i64 n, .int .i64 p, .int .i64 i] w fun e w' => e = .returned (.bool true) ∧ Below w.heap.size w w' := by
  cases h : bdB n p i
  · exact walk_bad n p i w h
  · obtain ⟨h1, _, h3, _, h5, _⟩ := (bdB_iff n p i).1 h
    obtain ⟨n, rfl⟩ := Int.eq_ofNat_of_zero_le h1
    obtain ⟨p, rfl⟩ := Int.eq_ofNat_of_zero_le h3
    obtain ⟨i, rfl⟩ := Int.eq_ofNat_of_zero_le h5
    exact walk_main n p i w h
end partBounds
end Go.Proofs.Ytjboboaccjbebaa
