/- Layer 6: Get, and the reference's: what any bits are read as. -/
import Derived.Test.YtjboboaccjbebaaRef06
import Derived.Test.YtjboboaccjbebaaRGet
import Derived.Test.YtjboboaccjbebaaROnes
import Derived.Test.YtjboboaccjbebaaRefRd
namespace Go.Proofs.Ytjboboaccjbebaa
open Go.RowKit

/-- The number, the error, the place behind. -/
def rgT (L : List Bool) (i k : Nat) : Nat × Int × Nat :=
  if onesErr L i 24 ≠ 0 then (0, onesErr L i 24, onesAt L i 24)
  else if onesVal L i 24 < 24 then
    (if getErr L (onesAt L i 24) k ≠ 0 then (0, getErr L (onesAt L i 24) k, getAt L (onesAt L i 24) k) else (onesVal L i 24 * 2 ^ k + getVal L (onesAt L i 24) k, 0, getAt L (onesAt L i 24) k))
  else if getErr L (onesAt L i 24) 40 ≠ 0 then (0, getErr L (onesAt L i 24) 40, getAt L (onesAt L i 24) 40)
  else if getVal L (onesAt L i 24) 40 / 2 ^ k < 24 then (0, 12, getAt L (onesAt L i 24) 40) else (getVal L (onesAt L i 24) 40, 0, getAt L (onesAt L i 24) 40)

theorem RI.rd {w w' : World} {p : Nat} {v : Value} {F : List Nat} {j : Nat} (h : RI w p v F j w') : Rd w' p v F j := h.1
theorem RRI.rd {w w' : World} {p : Nat} {v : Value} {L : List Bool} {j : Nat} (h : RRI w p v L j w') : RefRd w' p v L j := h.1
theorem ones_le (l : List Bool) (m : Nat) : ones l m ≤ m := by
  unfold ones
  refine Nat.le_trans (List.Sublist.length_le (List.takeWhile_sublist _)) ?_
  rw [List.length_take]
  omega
theorem onesVal_le (L : List Bool) (i m : Nat) : onesVal L i (m : Int) ≤ m := by
  have := ones_le (L.drop i) m
  unfold onesVal
  rw [Int.toNat_natCast]
  split
  · omega
  · split
    · omega
    · split <;> omega
theorem getVal_lt (L : List Bool) (i n : Nat) : getVal L i (n : Int) < 2 ^ n := by
  unfold getVal
  rw [Int.toNat_natCast]
  split
  · exact Nat.two_pow_pos n
  · refine Nat.lt_of_lt_of_le (valOf_lt _) (Nat.pow_le_pow_right (by omega) ?_)
    rw [List.length_take]
    omega

theorem rget_nil (k : Int) (w : World) : Calls Try.prog 83 #[.pointer none, .int .i64 k] w fun e w' => e = .returned (.tuple #[.int .u64 0, .int .i64 2]) ∧ w = w' := by
  go_enter Try.func83, Try.ntmps83
  go_wp2_with fail
  go_ret2
  exact ⟨rfl, rfl⟩
theorem rget_arg (p : Nat) (k : Int) (w : World) (h : paramB k = false) : Calls Try.prog 83 #[.pointer (some ⟨p, 0, none⟩), .int .i64 k] w fun e w' => e = .returned (.tuple #[.int .u64 0, .int .i64 1]) ∧ w = w' := by
  have HP := param_any k w
  rw [h] at HP
  replace HP := hid HP
  go_enter Try.func83, Try.ntmps83
  go_wp2_with fail
  with_reducible refine HP.out.mono ?_
  rintro e w1 ⟨rfl, rfl⟩
  go_wp2_with fail
  go_ret2
  exact ⟨rfl, rfl⟩

theorem shl_or (q k x : Nat) (hx : x < 2 ^ k) (hk : q * 2 ^ k + x < 18446744073709551616) : ∀ Y Z : Int, Y = (q : Int) → Z = (x : Int) → bits BinOp.or IntKind.u64 (IntKind.u64.wrap (Y * 2 ^ k)) Z = ((q * 2 ^ k + x : Nat) : Int) := by
  rintro Y Z rfl rfl
  have h := or_add q x k hx hk
  rwa [Int.natCast_pow] at h

set_option maxRecDepth 100000 in
set_option maxHeartbeats 4000000 in
theorem rget_any (w : World) (p : Nat) (v : Value) (F : List Nat) (i k : Nat) (h : Rd w p v F i) (hk : k ≤ 30) :
    Calls Try.prog 83 #[.pointer (some ⟨p, 0, none⟩), .int .i64 (k : Int)] w fun e w' => e = .returned (.tuple #[.int .u64 ((rgT (flat F) i k).1 : Int), .int .i64 (rgT (flat F) i k).2.1]) ∧ RI w p v F (rgT (flat F) i k).2.2 w' := by
  have HP := param_any (k : Int) w
  rw [(paramB_iff (k : Int)).2 (by omega)] at HP
  replace HP := hid HP
  have HT := hid (rgT.eq_1 (flat F) i k)
  have HO := rones_any w p v F i 24 h
  have hq := onesVal_le (flat F) i 24
  have HG := hid (fun (n : Int) w' j (h : Rd w' p v F j) => get_any w' p v F j n h)
  clear h
  obtain ⟨L, hL⟩ : ∃ L, flat F = L := ⟨_, rfl⟩
  rw [hL] at HO hq HT HG ⊢
  clear hL
  rw [show ((24 : Nat) : Int) = 24 from rfl] at hq
  obtain ⟨q, hqe⟩ : ∃ q, onesVal L i 24 = q := ⟨_, rfl⟩
  obtain ⟨e1, he1⟩ : ∃ e1, onesErr L i 24 = e1 := ⟨_, rfl⟩
  obtain ⟨j, hj⟩ : ∃ j, onesAt L i 24 = j := ⟨_, rfl⟩
  rw [hqe, he1, hj] at HT
  rw [hqe, he1, hj] at HO
  rw [hqe] at hq
  replace HO := hid HO
  clear hqe he1 hj
  obtain ⟨r, hr⟩ : ∃ r, rgT L i k = r := ⟨_, rfl⟩
  rw [hr] at HT ⊢
  clear hr
  by_cases h1 : e1 = 0
  · subst h1
    have HT2 := HT.out
    rw [if_neg (by simp)] at HT2
    by_cases h2 : q < 24
    · have h2' : (q : Int) < 24 := by omega
      have HGK := HG.out (k : Int)
      have hvl := getVal_lt L j k
      rw [if_pos h2] at HT2
      obtain ⟨x, hx⟩ : ∃ x, getVal L j (k : Int) = x := ⟨_, rfl⟩
      obtain ⟨e2, he2⟩ : ∃ e2, getErr L j (k : Int) = e2 := ⟨_, rfl⟩
      obtain ⟨a, ha⟩ : ∃ a, getAt L j (k : Int) = a := ⟨_, rfl⟩
      rw [hx, he2, ha] at HT2
      rw [hx] at hvl
      have HGJ := hid (fun w' (hw : Rd w' p v F j) => by have := HGK w' j hw; rw [hx, he2, ha] at this; exact this)
      clear HGK hx he2 ha
      have hqk : q * 2 ^ k + x < 18446744073709551616 := by
        have h1 : 2 ^ k ≤ 2 ^ 30 := Nat.pow_le_pow_right (by omega) hk
        have h2 := Nat.mul_le_mul (show q ≤ 24 by omega) h1
        omega
      have hso := shl_or q k x hvl hqk
      obtain ⟨y, hy⟩ : ∃ y, q * 2 ^ k + x = y := ⟨_, rfl⟩
      rw [hy] at hso HT2
      clear hy hvl hqk
      have hwq : IntKind.u64.wrap (q : Int) = (q : Int) := IntWalk.u64_in _ (by omega)
      have HT3 := hid HT2
      clear HT2 HT
      by_cases h3 : e2 = 0
      · subst h3
        go_enter Try.func83, Try.ntmps83
        go_wp2_with fail
        with_reducible refine HP.out.mono ?_
        rintro e w1 ⟨rfl, rfl⟩
        go_wp2_with fail
        with_reducible refine HO.out.mono ?_
        rintro e w1 ⟨rfl, hr1⟩
        have H1 := hid hr1
        clear hr1
        go_wp2_with fail
        with_reducible refine (HGJ.out _ (RI.rd H1.out)).mono ?_
        rintro e w2 ⟨rfl, hr2⟩
        have H2 := hid hr2
        clear hr2
        go_wp2_with fail
        go_ret2
        rw [HT3.out, if_neg (by simp)]
        exact ⟨rfl, H1.out.trans H2.out⟩
      · have h3' : (e2 == 0) = false := by rw [beq_eq_false_iff_ne]; exact h3
        go_enter Try.func83, Try.ntmps83
        go_wp2_with fail
        with_reducible refine HP.out.mono ?_
        rintro e w1 ⟨rfl, rfl⟩
        go_wp2_with fail
        with_reducible refine HO.out.mono ?_
        rintro e w1 ⟨rfl, hr1⟩
        have H1 := hid hr1
        clear hr1
        go_wp2_with fail
        with_reducible refine (HGJ.out _ (RI.rd H1.out)).mono ?_
        rintro e w2 ⟨rfl, hr2⟩
        have H2 := hid hr2
        clear hr2
        go_wp2_with fail
        go_ret2
        rw [HT3.out, if_pos h3]
        exact ⟨rfl, H1.out.trans H2.out⟩
    · have h2' : ¬ (q : Int) < 24 := by omega
      have HGK := HG.out 40
      have hvl := getVal_lt L j 40
      rw [show ((40 : Nat) : Int) = 40 from rfl] at hvl
      rw [if_neg h2] at HT2
      obtain ⟨x, hx⟩ : ∃ x, getVal L j 40 = x := ⟨_, rfl⟩
      obtain ⟨e2, he2⟩ : ∃ e2, getErr L j 40 = e2 := ⟨_, rfl⟩
      obtain ⟨a, ha⟩ : ∃ a, getAt L j 40 = a := ⟨_, rfl⟩
      rw [hx, he2, ha] at HT2
      rw [hx] at hvl
      have HGJ := hid (fun w' (hw : Rd w' p v F j) => by have := HGK w' j hw; rw [hx, he2, ha] at this; exact this)
      clear HGK hx he2 ha
      have hsh := shr_rule x k
      obtain ⟨y, hy⟩ : ∃ y, x / 2 ^ k = y := ⟨_, rfl⟩
      have hyl : y ≤ x := by rw [← hy]; exact Nat.div_le_self _ _
      rw [hy] at hsh HT2
      clear hy
      have HT3 := hid HT2
      clear HT2 HT
      by_cases h3 : e2 = 0
      · subst h3
        by_cases h4 : y < 24
        · have h4' : (y : Int) < 24 := by omega
          go_enter Try.func83, Try.ntmps83
          go_wp2_with fail
          with_reducible refine HP.out.mono ?_
          rintro e w1 ⟨rfl, rfl⟩
          go_wp2_with fail
          with_reducible refine HO.out.mono ?_
          rintro e w1 ⟨rfl, hr1⟩
          have H1 := hid hr1
          clear hr1
          go_wp2_with fail
          with_reducible refine (HGJ.out _ (RI.rd H1.out)).mono ?_
          rintro e w2 ⟨rfl, hr2⟩
          have H2 := hid hr2
          clear hr2
          go_wp2_with fail
          go_ret2
          rw [HT3.out, if_neg (by simp), if_pos h4]
          exact ⟨rfl, H1.out.trans H2.out⟩
        · have h4' : ¬ (y : Int) < 24 := by omega
          go_enter Try.func83, Try.ntmps83
          go_wp2_with fail
          with_reducible refine HP.out.mono ?_
          rintro e w1 ⟨rfl, rfl⟩
          go_wp2_with fail
          with_reducible refine HO.out.mono ?_
          rintro e w1 ⟨rfl, hr1⟩
          have H1 := hid hr1
          clear hr1
          go_wp2_with fail
          with_reducible refine (HGJ.out _ (RI.rd H1.out)).mono ?_
          rintro e w2 ⟨rfl, hr2⟩
          have H2 := hid hr2
          clear hr2
          go_wp2_with fail
          go_ret2
          rw [HT3.out, if_neg (by simp), if_neg h4]
          exact ⟨rfl, H1.out.trans H2.out⟩
      · have h3' : (e2 == 0) = false := by rw [beq_eq_false_iff_ne]; exact h3
        go_enter Try.func83, Try.ntmps83
        go_wp2_with fail
        with_reducible refine HP.out.mono ?_
        rintro e w1 ⟨rfl, rfl⟩
        go_wp2_with fail
        with_reducible refine HO.out.mono ?_
        rintro e w1 ⟨rfl, hr1⟩
        have H1 := hid hr1
        clear hr1
        go_wp2_with fail
        with_reducible refine (HGJ.out _ (RI.rd H1.out)).mono ?_
        rintro e w2 ⟨rfl, hr2⟩
        have H2 := hid hr2
        clear hr2
        go_wp2_with fail
        go_ret2
        rw [HT3.out, if_pos h3]
        exact ⟨rfl, H1.out.trans H2.out⟩
  · have h1' : (e1 == 0) = false := by rw [beq_eq_false_iff_ne]; exact h1
    go_enter Try.func83, Try.ntmps83
    go_wp2_with fail
    with_reducible refine HP.out.mono ?_
    rintro e w1 ⟨rfl, rfl⟩
    go_wp2_with fail
    with_reducible refine HO.out.mono ?_
    rintro e w1 ⟨rfl, hr1⟩
    have H1 := hid hr1
    clear hr1
    go_wp2_with fail
    go_ret2
    rw [HT.out, if_pos h1]
    exact ⟨rfl, H1.out⟩
end Go.Proofs.Ytjboboaccjbebaa
