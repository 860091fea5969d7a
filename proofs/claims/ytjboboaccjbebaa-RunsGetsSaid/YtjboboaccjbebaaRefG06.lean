/- Layer 6: the reference's Get. -/
import Derived.Test.YtjboboaccjbebaaRiceG
namespace Go.Proofs.Ytjboboaccjbebaa
open Go.RowKit

set_option maxRecDepth 100000 in
set_option maxHeartbeats 4000000 in
theorem refget06_any (w : World) (p : Nat) (v : Value) (L : List Bool) (i k : Nat) (h : RefRd w p v L i) (hk : k ≤ 30) :
    Calls Try.prog 87 #[.pointer (some ⟨p, 0, none⟩), .int .i64 (k : Int)] w fun e w' => e = .returned (.tuple #[.int .u64 ((rgT L i k).1 : Int), .int .i64 (rgT L i k).2.1]) ∧ RRI w p v L (rgT L i k).2.2 w' := by
  have HT := hid (rgT.eq_1 L i k)
  have HO := refones_any w p v L i 24 h
  have hq := onesVal_le L i 24
  have HG := hid (fun (n : Int) w' j (h : RefRd w' p v L j) => refget_any w' p v L j n h)
  clear h
  rw [show ((24 : Nat) : Int) = 24 from rfl] at hq
  obtain ⟨q, hqe⟩ : ∃ q, onesVal L i 24 = q := ⟨_, rfl⟩
  obtain ⟨e1, he1⟩ : ∃ e1, onesErr L i 24 = e1 := ⟨_, rfl⟩
  obtain ⟨j, hj⟩ : ∃ j, onesAt L i 24 = j := ⟨_, rfl⟩
  rw [hqe, he1, hj] at HT
  rw [hqe, he1, hj] at HO
  rw [hqe] at hq
  replace HO := hid HO
  clear hqe he1 hj
  obtain ⟨r, hr⟩ : ∃ r, rgT L i k = r := ⟨_, rfl⟩
  rw [hr] at HT ⊢
  clear hr
  by_cases h1 : e1 = 0
  · subst h1
    have HT2 := HT.out
    rw [if_neg (by simp)] at HT2
    by_cases h2 : q < 24
    · have h2' : (q : Int) < 24 := by omega
      have HGK := HG.out (k : Int)
      have hvl := getVal_lt L j k
      rw [if_pos h2] at HT2
      obtain ⟨x, hx⟩ : ∃ x, getVal L j (k : Int) = x := ⟨_, rfl⟩
      obtain ⟨e2, he2⟩ : ∃ e2, getErr L j (k : Int) = e2 := ⟨_, rfl⟩
      obtain ⟨a, ha⟩ : ∃ a, getAt L j (k : Int) = a := ⟨_, rfl⟩
      rw [hx, he2, ha] at HT2
      rw [hx] at hvl
      have HGJ := hid (fun w' (hw : RefRd w' p v L j) => by have := HGK w' j hw; rw [hx, he2, ha] at this; exact this)
      clear HGK hx he2 ha
      have hqk : q * 2 ^ k ≤ 25769803776 ∧ x < 1073741824 := by
        have h1 : 2 ^ k ≤ 2 ^ 30 := Nat.pow_le_pow_right (by omega) hk
        have h2 := Nat.mul_le_mul (show q ≤ 24 by omega) h1
        omega
      have HPW := hid (fun w' => power_at (k : Int) k rfl w' (by omega))
      obtain ⟨P, hP⟩ : ∃ P, 2 ^ k = P := ⟨_, rfl⟩
      have hPi : (2 : Int) ^ k = (P : Int) := by rw [← hP]; exact (Int.natCast_pow 2 k).symm
      rw [hPi] at HPW
      rw [hP] at HT2 hvl hqk
      obtain ⟨m, hm⟩ : ∃ m, q * P = m := ⟨_, rfl⟩
      have hmul : (q : Int) * (P : Int) = (m : Int) := by rw [← hm]; simp
      rw [hm] at HT2 hqk
      obtain ⟨hm1, hx1⟩ := hqk
      clear hvl hP hPi hm
      have HT3 := hid HT2
      clear HT2 HT
      by_cases h3 : e2 = 0
      · subst h3
        go_enter Try.func87, Try.ntmps87
        go_wp2_with fail
        with_reducible refine HO.out.mono ?_
        rintro e w1 ⟨rfl, hr1⟩
        have H1 := hid hr1
        clear hr1
        go_wp2_with fail
        with_reducible refine (HGJ.out _ (RRI.rd H1.out)).mono ?_
        rintro e w2 ⟨rfl, hr2⟩
        have H2 := hid hr2
        clear hr2
        go_wp2_with fail
        with_reducible refine (HPW.out _).mono ?_
        rintro e w3 ⟨rfl, rfl⟩
        go_wp2_with fail
        go_ret2
        rw [HT3.out, if_neg (by simp)]
        exact ⟨rfl, H1.out.trans H2.out⟩
      · have h3' : (e2 == 0) = false := by rw [beq_eq_false_iff_ne]; exact h3
        go_enter Try.func87, Try.ntmps87
        go_wp2_with fail
        with_reducible refine HO.out.mono ?_
        rintro e w1 ⟨rfl, hr1⟩
        have H1 := hid hr1
        clear hr1
        go_wp2_with fail
        with_reducible refine (HGJ.out _ (RRI.rd H1.out)).mono ?_
        rintro e w2 ⟨rfl, hr2⟩
        have H2 := hid hr2
        clear hr2
        go_wp2_with fail
        go_ret2
        rw [HT3.out, if_pos h3]
        exact ⟨rfl, H1.out.trans H2.out⟩
    · have h2' : ¬ (q : Int) < 24 := by omega
      have HGK := HG.out 40
      have hvl := getVal_lt L j 40
      rw [show ((40 : Nat) : Int) = 40 from rfl] at hvl
      rw [if_neg h2] at HT2
      obtain ⟨x, hx⟩ : ∃ x, getVal L j 40 = x := ⟨_, rfl⟩
      obtain ⟨e2, he2⟩ : ∃ e2, getErr L j 40 = e2 := ⟨_, rfl⟩
      obtain ⟨a, ha⟩ : ∃ a, getAt L j 40 = a := ⟨_, rfl⟩
      rw [hx, he2, ha] at HT2
      rw [hx] at hvl
      have HGJ := hid (fun w' (hw : RefRd w' p v L j) => by have := HGK w' j hw; rw [hx, he2, ha] at this; exact this)
      clear HGK hx he2 ha
      have HQQ := hid (fun w' => refquo_any x k hk w')
      obtain ⟨y, hy⟩ : ∃ y, x / 2 ^ k = y := ⟨_, rfl⟩
      have hyl : y ≤ x := by rw [← hy]; exact Nat.div_le_self _ _
      rw [hy] at HQQ HT2
      clear hy
      have HT3 := hid HT2
      clear HT2 HT
      by_cases h3 : e2 = 0
      · subst h3
        by_cases h4 : y < 24
        · have h4' : (y : Int) < 24 := by omega
          go_enter Try.func87, Try.ntmps87
          go_wp2_with fail
          with_reducible refine HO.out.mono ?_
          rintro e w1 ⟨rfl, hr1⟩
          have H1 := hid hr1
          clear hr1
          go_wp2_with fail
          with_reducible refine (HGJ.out _ (RRI.rd H1.out)).mono ?_
          rintro e w2 ⟨rfl, hr2⟩
          have H2 := hid hr2
          clear hr2
          go_wp2_with fail
          with_reducible refine (HQQ.out _).mono ?_
          rintro e w3 ⟨rfl, rfl⟩
          go_wp2_with fail
          go_ret2
          rw [HT3.out, if_neg (by simp), if_pos h4]
          exact ⟨rfl, H1.out.trans H2.out⟩
        · have h4' : ¬ (y : Int) < 24 := by omega
          go_enter Try.func87, Try.ntmps87
          go_wp2_with fail
          with_reducible refine HO.out.mono ?_
          rintro e w1 ⟨rfl, hr1⟩
          have H1 := hid hr1
          clear hr1
          go_wp2_with fail
          with_reducible refine (HGJ.out _ (RRI.rd H1.out)).mono ?_
          rintro e w2 ⟨rfl, hr2⟩
          have H2 := hid hr2
          clear hr2
          go_wp2_with fail
          with_reducible refine (HQQ.out _).mono ?_
          rintro e w3 ⟨rfl, rfl⟩
          go_wp2_with fail
          go_ret2
          rw [HT3.out, if_neg (by simp), if_neg h4]
          exact ⟨rfl, H1.out.trans H2.out⟩
      · have h3' : (e2 == 0) = false := by rw [beq_eq_false_iff_ne]; exact h3
        go_enter Try.func87, Try.ntmps87
        go_wp2_with fail
        with_reducible refine HO.out.mono ?_
        rintro e w1 ⟨rfl, hr1⟩
        have H1 := hid hr1
        clear hr1
        go_wp2_with fail
        with_reducible refine (HGJ.out _ (RRI.rd H1.out)).mono ?_
        rintro e w2 ⟨rfl, hr2⟩
        have H2 := hid hr2
        clear hr2
        go_wp2_with fail
        go_ret2
        rw [HT3.out, if_pos h3]
        exact ⟨rfl, H1.out.trans H2.out⟩
  · have h1' : (e1 == 0) = false := by rw [beq_eq_false_iff_ne]; exact h1
    go_enter Try.func87, Try.ntmps87
    go_wp2_with fail
    with_reducible refine HO.out.mono ?_
    rintro e w1 ⟨rfl, hr1⟩
    have H1 := hid hr1
    clear hr1
    go_wp2_with fail
    go_ret2
    rw [HT.out, if_pos h1]
    exact ⟨rfl, H1.out⟩
end Go.Proofs.Ytjboboaccjbebaa
