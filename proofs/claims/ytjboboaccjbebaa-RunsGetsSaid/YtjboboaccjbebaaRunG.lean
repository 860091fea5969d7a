/- Layer 7: gamma codes are read, by the reference too. -/
import Derived.Test.YtjboboaccjbebaaRunW
import Derived.Test.YtjboboaccjbebaaRefG06
namespace Go.Proofs.Ytjboboaccjbebaa
open Go.RowKit

theorem getgamma_nil (w : World) : Calls Try.prog 36 #[.pointer none] w fun e w' => e = .returned (.tuple #[.int .u64 0, .int .i64 2]) ∧ w = w' := by
  go_enter Try.func36, Try.ntmps36
  go_wp2_with fail
  go_ret2
  exact ⟨rfl, rfl⟩
theorem ggF_step {L : List Bool} {m j : Nat} (hm : m < 32) : ggF L (32 - m) j =
    if getErr L j 1 ≠ 0 then (0, getErr L j 1, getAt L j 1)
    else if getVal L j 1 = 1 then
      (if getErr L (getAt L j 1) (m : Int) ≠ 0 then (0, getErr L (getAt L j 1) (m : Int), getAt L (getAt L j 1) (m : Int))
       else (2 ^ m + getVal L (getAt L j 1) (m : Int), 0, getAt L (getAt L j 1) (m : Int)))
    else ggF L (32 - (m + 1)) (getAt L j 1) := by
  obtain ⟨f, hf⟩ : ∃ f, 32 - m = f + 1 := ⟨31 - m, by omega⟩
  rw [hf, ggF, show 31 - f = m by omega, show 32 - (m + 1) = f by omega]
theorem one_or (m x : Nat) (hm : m < 32) (hx : x < 2 ^ m) : bits BinOp.or IntKind.u64 (IntKind.u64.wrap (2 ^ m)) (x : Int) = ((2 ^ m + x : Nat) : Int) := by
  have h1 : 2 ^ m ≤ 2 ^ 31 := Nat.pow_le_pow_right (by omega) (by omega)
  have h := or_add 1 x m hx (by omega)
  rw [Nat.one_mul] at h
  rw [← h]
  congr 2
  rw [Int.natCast_pow]
  show (2 : Int) ^ m = 1 * 2 ^ m
  rw [Int.one_mul]

set_option maxRecDepth 100000 in
set_option maxHeartbeats 4000000 in
theorem getgamma_any (w : World) (p : Nat) (v : Value) (F : List Nat) (i : Nat) (h : Rd w p v F i) :
    Calls Try.prog 36 #[.pointer (some ⟨p, 0, none⟩)] w fun e w' => e = .returned (.tuple #[.int .u64 ((ggT (flat F) i).1 : Int), .int .i64 (ggT (flat F) i).2.1]) ∧ RI w p v F (ggT (flat F) i).2.2 w' := by
  have HG := hid (fun (n : Int) w' j (h : Rd w' p v F j) => get_any w' p v F j n h)
  have H0 := hid (RI.refl h)
  clear h
  obtain ⟨L, hL⟩ : ∃ L, flat F = L := ⟨_, rfl⟩
  rw [hL] at HG ⊢
  clear hL
  obtain ⟨r, hr⟩ : ∃ r, ggT L i = r := ⟨_, rfl⟩
  rw [hr]
  have HR := hid (show ggF L (32 - 0) i = r from hr)
  clear hr
  go_enter Try.func36, Try.ntmps36
  go_wp2_with fail
  go_loopw [4] (fun n wr => ∃ m j : Nat, m < 32 ∧ n = .int .i64 m ∧ Hid (ggF L (32 - m) j = r) ∧ Hid (RI w p v F j wr)) (fun n _ => 32 - (intOf n).toNat)
  case atStart => exact ⟨0, i, by omega, rfl, HR.out, H0.out⟩
  case round =>
    obtain ⟨m, j, hm, rfl, hS, hri⟩ := hrel
    have hC := HG.out 1 wr j hri.out.1
    have hT := (ggF_step hm).symm.trans hS.out
    have hv1 := getVal_lt L j 1
    rw [show ((1 : Nat) : Int) = 1 from rfl] at hv1
    obtain ⟨x, hx⟩ : ∃ x, getVal L j 1 = x := ⟨_, rfl⟩
    obtain ⟨e1, he1⟩ : ∃ e1, getErr L j 1 = e1 := ⟨_, rfl⟩
    obtain ⟨a, ha⟩ : ∃ a, getAt L j 1 = a := ⟨_, rfl⟩
    rw [hx, he1, ha] at hT
    rw [hx, he1, ha] at hC
    rw [hx] at hv1
    have HC := hid hC
    clear hC hx he1 ha
    by_cases he : e1 = 0
    · subst he
      rw [if_neg (by simp)] at hT
      by_cases hx1 : x = 1
      · subst hx1
        rw [if_pos rfl] at hT
        have HGK := HG.out (m : Int)
        have hvl := getVal_lt L a m
        obtain ⟨y, hy⟩ : ∃ y, getVal L a (m : Int) = y := ⟨_, rfl⟩
        obtain ⟨e2, he2⟩ : ∃ e2, getErr L a (m : Int) = e2 := ⟨_, rfl⟩
        obtain ⟨b, hb⟩ : ∃ b, getAt L a (m : Int) = b := ⟨_, rfl⟩
        rw [hy, he2, hb] at hT
        rw [hy] at hvl
        have HGJ := hid (fun w' (hw : Rd w' p v F a) => by have := HGK w' a hw; rw [hy, he2, hb] at this; exact this)
        clear HGK hy he2 hb
        have hso := one_or m y hm hvl
        obtain ⟨z, hz⟩ : ∃ z, 2 ^ m + y = z := ⟨_, rfl⟩
        rw [hz] at hso hT
        clear hz hvl
        by_cases h3 : e2 = 0
        · subst h3
          rw [if_neg (by simp)] at hT
          have HT := hid hT
          clear hT
          go_wp2_with fail
          with_reducible refine HC.out.mono ?_
          rintro e w2 ⟨rfl, hr2⟩
          have H2 := hid (hri.out.trans hr2)
          clear hr2
          go_wp2_with fail
          with_reducible refine (HGJ.out _ (RI.rd H2.out)).mono ?_
          rintro e w3 ⟨rfl, hr3⟩
          have H3 := hid (H2.out.trans hr3)
          clear hr3
          go_wp2_with fail
          go_ret2
          rw [← HT.out]
          exact ⟨rfl, H3.out⟩
        · have h3' : (e2 == 0) = false := by rw [beq_eq_false_iff_ne]; exact h3
          rw [if_pos h3] at hT
          have HT := hid hT
          clear hT h3
          go_wp2_with fail
          with_reducible refine HC.out.mono ?_
          rintro e w2 ⟨rfl, hr2⟩
          have H2 := hid (hri.out.trans hr2)
          clear hr2
          go_wp2_with fail
          with_reducible refine (HGJ.out _ (RI.rd H2.out)).mono ?_
          rintro e w3 ⟨rfl, hr3⟩
          have H3 := hid (H2.out.trans hr3)
          clear hr3
          go_wp2_with fail
          go_ret2
          rw [← HT.out]
          exact ⟨rfl, H3.out⟩
      · obtain rfl : x = 0 := by omega
        rw [if_neg (by simp)] at hT
        have HT := hid hT
        clear hT
        by_cases hm1 : m + 1 = 32
        · have hb : ((m : Int) + 1 == 32) = true := by rw [beq_iff_eq]; omega
          go_wp2_with fail
          with_reducible refine HC.out.mono ?_
          rintro e w2 ⟨rfl, hr2⟩
          have H2 := hid (hri.out.trans hr2)
          clear hr2
          go_wp2_with fail
          go_ret2
          rw [← HT.out, hm1]
          exact ⟨rfl, H2.out⟩
        · have hb : ((m : Int) + 1 == 32) = false := by rw [beq_eq_false_iff_ne]; omega
          go_wp2_with fail
          with_reducible refine HC.out.mono ?_
          rintro e w2 ⟨rfl, hr2⟩
          have H2 := hid (hri.out.trans hr2)
          clear hr2
          go_wp2_with fail
          go_roundw
          case rel => exact ⟨m + 1, a, by omega, by go_num, HT.out, H2.out⟩
          case measure => simp [intOf]; omega
    · have he' : (e1 == 0) = false := by rw [beq_eq_false_iff_ne]; exact he
      rw [if_pos he] at hT
      have HT := hid hT
      clear hT he
      go_wp2_with fail
      with_reducible refine HC.out.mono ?_
      rintro e w2 ⟨rfl, hr2⟩
      have H2 := hid (hri.out.trans hr2)
      clear hr2
      go_wp2_with fail
      go_ret2
      rw [← HT.out]
      exact ⟨rfl, H2.out⟩

set_option maxRecDepth 100000 in
set_option maxHeartbeats 4000000 in
theorem refgetgamma_any (w : World) (p : Nat) (v : Value) (L : List Bool) (i : Nat) (h : RefRd w p v L i) :
    Calls Try.prog 86 #[.pointer (some ⟨p, 0, none⟩)] w fun e w' => e = .returned (.tuple #[.int .u64 ((ggT L i).1 : Int), .int .i64 (ggT L i).2.1]) ∧ RRI w p v L (ggT L i).2.2 w' := by
  have HG := hid (fun (n : Int) w' j (h : RefRd w' p v L j) => refget_any w' p v L j n h)
  have H0 := hid (RRI.refl h)
  clear h
  obtain ⟨r, hr⟩ : ∃ r, ggT L i = r := ⟨_, rfl⟩
  rw [hr]
  have HR := hid (show ggF L (32 - 0) i = r from hr)
  clear hr
  go_enter Try.func86, Try.ntmps86
  go_wp2_with fail
  go_loopw [4] (fun n wr => ∃ m j : Nat, m ≤ 32 ∧ n = .int .i64 m ∧ Hid (ggF L (32 - m) j = r) ∧ Hid (RRI w p v L j wr)) (fun n _ => 32 - (intOf n).toNat)
  case atStart => exact ⟨0, i, by omega, rfl, HR.out, H0.out⟩
  case round =>
    obtain ⟨m, j, hm, rfl, hS, hri⟩ := hrel
    by_cases hm32 : m < 32
    · have hin : (m : Int) < 32 := by omega
      have hC := HG.out 1 wr j hri.out.1
      have hT := (ggF_step hm32).symm.trans hS.out
      have hv1 := getVal_lt L j 1
      rw [show ((1 : Nat) : Int) = 1 from rfl] at hv1
      obtain ⟨x, hx⟩ : ∃ x, getVal L j 1 = x := ⟨_, rfl⟩
      obtain ⟨e1, he1⟩ : ∃ e1, getErr L j 1 = e1 := ⟨_, rfl⟩
      obtain ⟨a, ha⟩ : ∃ a, getAt L j 1 = a := ⟨_, rfl⟩
      rw [hx, he1, ha] at hT
      rw [hx, he1, ha] at hC
      rw [hx] at hv1
      have HC := hid hC
      clear hC hx he1 ha
      by_cases he : e1 = 0
      · subst he
        rw [if_neg (by simp)] at hT
        by_cases hx1 : x = 1
        · subst hx1
          rw [if_pos rfl] at hT
          have HGK := HG.out (m : Int)
          have hvl := getVal_lt L a m
          obtain ⟨y, hy⟩ : ∃ y, getVal L a (m : Int) = y := ⟨_, rfl⟩
          obtain ⟨e2, he2⟩ : ∃ e2, getErr L a (m : Int) = e2 := ⟨_, rfl⟩
          obtain ⟨b, hb⟩ : ∃ b, getAt L a (m : Int) = b := ⟨_, rfl⟩
          rw [hy, he2, hb] at hT
          rw [hy] at hvl
          have HGJ := hid (fun w' (hw : RefRd w' p v L a) => by have := HGK w' a hw; rw [hy, he2, hb] at this; exact this)
          clear HGK hy he2 hb
          have h31 : 2 ^ m ≤ 2 ^ 31 := Nat.pow_le_pow_right (by omega) (by omega)
          have HPW := hid (fun w' => power_at (m : Int) m rfl w' (by omega))
          obtain ⟨P, hP⟩ : ∃ P, 2 ^ m = P := ⟨_, rfl⟩
          have hPi : (2 : Int) ^ m = (P : Int) := by rw [← hP]; exact (Int.natCast_pow 2 m).symm
          rw [hPi] at HPW
          rw [hP] at hT hvl h31
          replace h31 : P ≤ 2147483648 := h31
          clear hP hPi
          by_cases h3 : e2 = 0
          · subst h3
            rw [if_neg (by simp)] at hT
            have HT := hid hT
            clear hT
            go_wp2_with fail
            with_reducible refine HC.out.mono ?_
            rintro e w2 ⟨rfl, hr2⟩
            have H2 := hid (hri.out.trans hr2)
            clear hr2
            go_wp2_with fail
            with_reducible refine (HGJ.out _ (RRI.rd H2.out)).mono ?_
            rintro e w3 ⟨rfl, hr3⟩
            have H3 := hid (H2.out.trans hr3)
            clear hr3
            go_wp2_with fail
            with_reducible refine (HPW.out _).mono ?_
            rintro e w4 ⟨rfl, rfl⟩
            go_wp2_with fail
            go_ret2
            rw [← HT.out]
            exact ⟨by simp, H3.out⟩
          · have h3' : (e2 == 0) = false := by rw [beq_eq_false_iff_ne]; exact h3
            rw [if_pos h3] at hT
            have HT := hid hT
            clear hT h3
            go_wp2_with fail
            with_reducible refine HC.out.mono ?_
            rintro e w2 ⟨rfl, hr2⟩
            have H2 := hid (hri.out.trans hr2)
            clear hr2
            go_wp2_with fail
            with_reducible refine (HGJ.out _ (RRI.rd H2.out)).mono ?_
            rintro e w3 ⟨rfl, hr3⟩
            have H3 := hid (H2.out.trans hr3)
            clear hr3
            go_wp2_with fail
            go_ret2
            rw [← HT.out]
            exact ⟨rfl, H3.out⟩
        · obtain rfl : x = 0 := by omega
          rw [if_neg (by simp)] at hT
          have HT := hid hT
          clear hT
          go_wp2_with fail
          with_reducible refine HC.out.mono ?_
          rintro e w2 ⟨rfl, hr2⟩
          have H2 := hid (hri.out.trans hr2)
          clear hr2
          go_wp2_with fail
          go_roundw
          case rel => exact ⟨m + 1, a, by omega, by go_num, HT.out, H2.out⟩
          case measure => simp [intOf]; omega
      · have he' : (e1 == 0) = false := by rw [beq_eq_false_iff_ne]; exact he
        rw [if_pos he] at hT
        have HT := hid hT
        clear hT he
        go_wp2_with fail
        with_reducible refine HC.out.mono ?_
        rintro e w2 ⟨rfl, hr2⟩
        have H2 := hid (hri.out.trans hr2)
        clear hr2
        go_wp2_with fail
        go_ret2
        rw [← HT.out]
        exact ⟨rfl, H2.out⟩
    · obtain rfl : m = 32 := by omega
      go_wp2_with fail
      go_ret2
      have h := hS.out
      rw [show 32 - 32 = 0 from rfl, ggF] at h
      rw [← h]
      exact ⟨rfl, hri.out⟩
end Go.Proofs.Ytjboboaccjbebaa
