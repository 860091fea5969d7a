/- Layer 6: what numbers cost, and their codes: param, may, cost, Cost, Put, PutAll. -/
import Derived.Test.YtjboboaccjbebaaCFuncU
import Derived.Test.YtjboboaccjbebaaWMany
import Derived.Test.YtjboboaccjbebaaPutFit
namespace Go.Proofs.Ytjboboaccjbebaa
open Go.RowKit

/-- May a parameter be? -/
def paramB (k : Int) : Bool := decide (0 ≤ k ∧ k ≤ 30)
/-- Is a number coded? -/
def mayB (u : Nat) : Bool := decide (u < 1099511627776)

theorem param_any (k : Int) (w : World) : Calls Try.prog 119 #[.int .i64 k] w fun e w' => e = .returned (.bool (paramB k)) ∧ w = w' := by
  by_cases h1 : 0 ≤ k
  · by_cases h2 : k ≤ 30
    · have e : paramB k = true := by unfold paramB; rw [decide_eq_true_iff]; omega
      rw [e]
      clear e
      go_enter Try.func119, Try.ntmps119
      go_wp2_with fail
      go_ret
      exact ⟨rfl, rfl⟩
    · have e : paramB k = false := by unfold paramB; rw [decide_eq_false_iff_not]; omega
      rw [e]
      clear e
      go_enter Try.func119, Try.ntmps119
      go_wp2_with fail
      go_ret
      exact ⟨by simp, rfl⟩
  · have e : paramB k = false := by unfold paramB; rw [decide_eq_false_iff_not]; omega
    rw [e]
    clear e
    go_enter Try.func119, Try.ntmps119
    go_wp2_with fail
    go_ret
    exact ⟨rfl, rfl⟩

theorem may_any (u : Nat) (w : World) (hu : u < 18446744073709551616) : Calls Try.prog 120 #[.int .u64 (u : Int)] w fun e w' => e = .returned (.bool (mayB u)) ∧ w = w' := by
  by_cases h1 : u < 1099511627776
  · have e : mayB u = true := by unfold mayB; rw [decide_eq_true_iff]; omega
    have h2 : ((u : Int) / 1099511627776 == 0) = true := by rw [beq_iff_eq]; omega
    rw [e]
    have HU := hid hu
    clear e hu h1
    go_enter Try.func120, Try.ntmps120
    go_wp2_with fail
    go_ret
    exact ⟨rfl, rfl⟩
  · have e : mayB u = false := by unfold mayB; rw [decide_eq_false_iff_not]; omega
    have h2 : ((u : Int) / 1099511627776 == 0) = false := by rw [beq_eq_false_iff_ne]; omega
    rw [e]
    have HU := hid hu
    clear e hu h1
    go_enter Try.func120, Try.ntmps120
    go_wp2_with fail
    go_ret
    exact ⟨rfl, rfl⟩

/-- What a number costs, k a parameter that may be. -/
def costK (u k : Nat) : Nat := if u / 2 ^ k < 24 then u / 2 ^ k + 1 + k else 64
def costR (u : Nat) (k : Int) : Nat := if paramB k = true ∧ mayB u = true then costK u k.toNat else 0
theorem costK_le (u k : Nat) (hk : k ≤ 30) : costK u k ≤ 64 := by unfold costK; split <;> omega
theorem paramB_iff (k : Int) : paramB k = true ↔ 0 ≤ k ∧ k ≤ 30 := by unfold paramB; rw [decide_eq_true_iff]
theorem mayB_iff (u : Nat) : mayB u = true ↔ u < 1099511627776 := by unfold mayB; rw [decide_eq_true_iff]
theorem costR_le (u : Nat) (k : Int) : costR u k ≤ 64 := by
  unfold costR
  split
  · next h => exact costK_le u _ (by have := (paramB_iff k).1 h.1; omega)
  · omega

/-- A quotient by a power of two, as a rule that leaves the facts on numbers alone. -/
theorem shr_rule (u k : Nat) : ∀ Y : Int, Y = (u : Int) → Y / 2 ^ k = ((u / 2 ^ k : Nat) : Int) := by
  rintro Y rfl
  rw [Int.natCast_ediv, Int.natCast_pow]
  rfl

theorem cost_any (u k : Nat) (w : World) (hu : u < 1099511627776) (hk : k ≤ 30) : Calls Try.prog 123 #[.int .u64 (u : Int), .int .i64 (k : Int)] w fun e w' => e = .returned (.int .i64 (costK u k : Nat)) ∧ w = w' := by
  have hsh := shr_rule u k
  have hq := Nat.div_le_self u (2 ^ k)
  obtain ⟨q, hqe⟩ : ∃ q, u / 2 ^ k = q := ⟨_, rfl⟩
  rw [hqe] at hsh hq
  have HC := hid (show costK u k = if q < 24 then q + 1 + k else 64 by rw [costK, hqe])
  clear hqe
  by_cases h : q < 24
  · have h' : (q : Int) < 24 := by omega
    go_enter Try.func123, Try.ntmps123
    go_wp2_with fail
    go_ret
    exact ⟨by rw [HC.out, if_pos h]; rfl, rfl⟩
  · have h' : ¬ (q : Int) < 24 := by omega
    go_enter Try.func123, Try.ntmps123
    go_wp2_with fail
    go_ret
    exact ⟨by rw [HC.out, if_neg h]; rfl, rfl⟩

theorem rcost_any (u : Nat) (k : Int) (w : World) (hu : u < 18446744073709551616) : Calls Try.prog 73 #[.int .u64 (u : Int), .int .i64 k] w fun e w' => e = .returned (.int .i64 (costR u k : Nat)) ∧ w = w' := by
  have HP := hid (param_any k w)
  have HM := hid (may_any u w hu)
  obtain ⟨b, hb⟩ : ∃ b, paramB k = b := ⟨_, rfl⟩
  obtain ⟨c, hc⟩ : ∃ c, mayB u = c := ⟨_, rfl⟩
  rw [hb] at HP
  rw [hc] at HM
  have HB := hid (And.intro hb hc)
  have HU := hid hu
  clear hb hc hu
  cases b
  · have HE := hid (show costR u k = 0 by simp [costR, HB.out.1])
    go_enter Try.func73, Try.ntmps73
    go_wp2_with fail
    with_reducible refine HP.out.mono ?_
    rintro e w1 ⟨rfl, rfl⟩
    go_wp2_with fail
    go_ret
    exact ⟨by rw [HE.out]; rfl, rfl⟩
  cases c
  · have HE := hid (show costR u k = 0 by simp [costR, HB.out.2])
    go_enter Try.func73, Try.ntmps73
    go_wp2_with fail
    with_reducible refine HP.out.mono ?_
    rintro e w1 ⟨rfl, rfl⟩
    go_wp2_with fail
    with_reducible refine HM.out.mono ?_
    rintro e w1 ⟨rfl, rfl⟩
    go_wp2_with fail
    go_ret
    exact ⟨by rw [HE.out]; rfl, rfl⟩
  · have hk := (paramB_iff k).1 HB.out.1
    obtain ⟨m, rfl⟩ := Int.eq_ofNat_of_zero_le hk.1
    have HE := hid (show costR u (m : Int) = costK u m by simp [costR, HB.out.1, HB.out.2])
    have HK := hid (cost_any u m w ((mayB_iff u).1 HB.out.2) (by omega))
    clear hk
    go_enter Try.func73, Try.ntmps73
    go_wp2_with fail
    with_reducible refine HP.out.mono ?_
    rintro e w1 ⟨rfl, rfl⟩
    go_wp2_with fail
    with_reducible refine HM.out.mono ?_
    rintro e w1 ⟨rfl, rfl⟩
    go_wp2_with fail
    with_reducible refine HK.out.mono ?_
    rintro e w1 ⟨rfl, rfl⟩
    go_wp2_with fail
    go_ret
    exact ⟨by rw [HE.out]; rfl, rfl⟩

/-- A number's code. -/
def codeK (u k : Nat) : List Bool := if u / 2 ^ k < 24 then List.replicate (u / 2 ^ k) true ++ [false] ++ bitsOf u k else List.replicate 24 true ++ bitsOf u 40
def codeR (u : Nat) (k : Int) : List Bool := if paramB k = true ∧ mayB u = true then codeK u k.toNat else []
theorem codeK_length (u k : Nat) : (codeK u k).length = costK u k := by
  unfold codeK costK
  split <;> simp [bitsOf_length]
  omega
theorem codeR_length (u : Nat) (k : Int) : (codeR u k).length = costR u k := by
  unfold codeR costR
  split
  · exact codeK_length _ _
  · rfl

/-- Ones and noughts, so many that they may be. -/
theorem ones_fit (w : World) (p : Nat) (v : Value) (L : List Bool) (ni : Int) (n : Nat) (hn : ni = (n : Int)) (h : Wr w p v L) (hL : L.length ≤ 67000000000) (hn2 : n ≤ 1048576) :
    Calls Try.prog 112 #[.pointer (some ⟨p, 0, none⟩), .int .i64 ni] w fun e w' => e = .returned (.int .i64 0) ∧ WI w p v (L ++ List.replicate n true) w' := by
  subst hn
  have e1 : manyErr (n : Int) = 0 := by unfold manyErr; rw [if_neg (by omega), if_neg (by omega)]
  have h := ones_any w p v L n h (by omega)
  rw [e1, show manyBits true (n : Int) = List.replicate n true by simp [manyBits, e1]] at h
  exact h
theorem zeros_fit (w : World) (p : Nat) (v : Value) (L : List Bool) (ni : Int) (n : Nat) (hn : ni = (n : Int)) (h : Wr w p v L) (hL : L.length ≤ 67000000000) (hn2 : n ≤ 1048576) :
    Calls Try.prog 78 #[.pointer (some ⟨p, 0, none⟩), .int .i64 ni] w fun e w' => e = .returned (.int .i64 0) ∧ WI w p v (L ++ List.replicate n false) w' := by
  subst hn
  have e1 : manyErr (n : Int) = 0 := by unfold manyErr; rw [if_neg (by omega), if_neg (by omega)]
  have h := zeros_any w p v L n h (by omega)
  rw [e1, show manyBits false (n : Int) = List.replicate n false by simp [manyBits, e1]] at h
  exact h

/-- The lowest bits of a number, as a rule. -/
theorem mask_rule (u k : Nat) (hu : u < 18446744073709551616) (hk : k ≤ 32) : ∀ Y : Int, Y = (u : Int) → bits BinOp.and IntKind.u64 Y (IntKind.u64.wrap (IntKind.u64.wrap (2 ^ k) - 1)) = ((u % 2 ^ k : Nat) : Int) := by
  rintro Y rfl
  have hp : (2 : Nat) ^ k ≤ 2 ^ 32 := Nat.pow_le_pow_right (by omega) hk
  have hp' : (2 : Nat) ^ k ≤ 4294967296 := hp
  have hp0 := Nat.two_pow_pos k
  have e0 : (2 : Int) ^ k = ((2 ^ k : Nat) : Int) := (Int.natCast_pow 2 k).symm
  rw [e0]
  generalize hp2 : (2 : Nat) ^ k = p at *
  rw [IntWalk.u64_in (p : Int) (by omega), IntWalk.u64_in ((p : Int) - 1) (by omega), show ((p : Int) - 1) = ((p - 1 : Nat) : Int) by omega, u64_and_nat _ _ hu (by omega), ← hp2, Nat.and_two_pow_sub_one_eq_mod]

theorem rput_nil (u k : Int) (w : World) : Calls Try.prog 67 #[.pointer none, .int .u64 u, .int .i64 k] w fun e w' => e = .returned (.int .i64 2) ∧ w = w' := by
  go_enter Try.func67, Try.ntmps67
  go_wp2_with fail
  go_ret
  exact ⟨rfl, rfl⟩

/-- The error of Put. -/
def putRErr (u : Nat) (k : Int) : Int := if paramB k = true then (if mayB u = true then 0 else 3) else 1

theorem rput_bad (p u : Nat) (k : Int) (w : World) (hu : u < 18446744073709551616) (h : ¬ (paramB k = true ∧ mayB u = true)) : Calls Try.prog 67 #[.pointer (some ⟨p, 0, none⟩), .int .u64 (u : Int), .int .i64 k] w fun e w' => e = .returned (.int .i64 (putRErr u k)) ∧ w = w' := by
  have HP := hid (param_any k w)
  have HM := hid (may_any u w hu)
  have HH := hid h
  obtain ⟨b, hb⟩ : ∃ b, paramB k = b := ⟨_, rfl⟩
  obtain ⟨c, hc⟩ : ∃ c, mayB u = c := ⟨_, rfl⟩
  rw [hb] at HP HH
  rw [hc] at HM HH
  have HB := hid (And.intro hb hc)
  have HU := hid hu
  clear hb hc hu h
  cases b
  · have HE := hid (show putRErr u k = 1 by simp [putRErr, HB.out.1])
    go_enter Try.func67, Try.ntmps67
    go_wp2_with fail
    with_reducible refine HP.out.mono ?_
    rintro e w1 ⟨rfl, rfl⟩
    go_wp2_with fail
    go_ret
    exact ⟨by rw [HE.out]; rfl, rfl⟩
  cases c
  · have HE := hid (show putRErr u k = 3 by simp [putRErr, HB.out.1, HB.out.2])
    go_enter Try.func67, Try.ntmps67
    go_wp2_with fail
    with_reducible refine HP.out.mono ?_
    rintro e w1 ⟨rfl, rfl⟩
    go_wp2_with fail
    with_reducible refine HM.out.mono ?_
    rintro e w1 ⟨rfl, rfl⟩
    go_wp2_with fail
    go_ret
    exact ⟨by rw [HE.out]; rfl, rfl⟩
  · exact absurd ⟨rfl, rfl⟩ HH.out

set_option maxHeartbeats 800000 in
theorem rput_ok (w : World) (p : Nat) (v : Value) (L : List Bool) (u k : Nat) (h : Wr w p v L) (hL : L.length ≤ 66000000000) (hu : u < 1099511627776) (hk : k ≤ 30) :
    Calls Try.prog 67 #[.pointer (some ⟨p, 0, none⟩), .int .u64 (u : Int), .int .i64 (k : Int)] w fun e w' => e = .returned (.int .i64 0) ∧ WI w p v (L ++ codeK u k) w' := by
  have HP := hid (param_any (k : Int) w)
  have HM := hid (may_any u w (by omega))
  rw [(paramB_iff (k : Int)).2 (by omega)] at HP
  rw [(mayB_iff u).2 hu] at HM
  have hsh := shr_rule u k
  have hmk := mask_rule u k (by omega) (by omega)
  have hq := Nat.div_le_self u (2 ^ k)
  have hml := Nat.mod_le u (2 ^ k)
  have hmt := Nat.mod_lt u (Nat.two_pow_pos k)
  obtain ⟨q, hqe⟩ : ∃ q, u / 2 ^ k = q := ⟨_, rfl⟩
  obtain ⟨m, hme⟩ : ∃ m, u % 2 ^ k = m := ⟨_, rfl⟩
  rw [hqe] at hsh hq
  rw [hme] at hmk hml hmt
  have hbm : bitsOf m k = bitsOf u k := by rw [← hme]; exact bitsOf_mod _ _ _ (Nat.le_refl _)
  have HC := hid (show codeK u k = if q < 24 then List.replicate q true ++ [false] ++ bitsOf m k else List.replicate 24 true ++ bitsOf u 40 by rw [codeK, hqe, hbm])
  have H := hid (And.intro h hmt)
  clear h hqe hme hbm hmt
  by_cases hlt : q < 24
  · have h' : (q : Int) < 24 := by omega
    go_enter Try.func67, Try.ntmps67
    go_wp2_with fail
    with_reducible refine HP.out.mono ?_
    rintro e w1 ⟨rfl, rfl⟩
    go_wp2_with fail
    with_reducible refine HM.out.mono ?_
    rintro e w1 ⟨rfl, rfl⟩
    go_wp2_with fail
    have HCC := ones_fit w p v L (q : Int) q rfl H.out.1 (by omega) (by omega)
    with_reducible refine HCC.mono ?_
    clear HCC
    rintro e w1 ⟨rfl, hw1⟩
    have H1 := hid hw1
    clear hw1
    go_wp2_with fail
    have HCC := H1.out.calls (R := fun e => e = .returned (.int .i64 0)) fun v1 h1 => zeros_fit w1 p v1 _ 1 1 rfl h1 (by simp; omega) (by omega)
    with_reducible refine HCC.mono ?_
    clear HCC
    rintro e w2 ⟨rfl, hw2⟩
    have H2 := hid hw2
    clear hw2
    go_wp2_with fail
    have HCC := H2.out.calls (R := fun e => e = .returned (.int .i64 0)) fun v1 h1 => put_fit w2 p v1 _ (m : Int) (k : Int) m k rfl rfl h1 (by simp; omega) (by omega) H.out.2
    with_reducible refine HCC.mono ?_
    clear HCC
    rintro e w3 ⟨rfl, hw3⟩
    have H3 := hid hw3
    clear hw3
    go_wp2_with fail
    go_ret
    have hw := H3.out
    rw [List.append_assoc, List.append_assoc] at hw
    rw [HC.out, if_pos hlt, List.append_assoc]
    exact ⟨rfl, hw⟩
  · have h' : ¬ (q : Int) < 24 := by omega
    go_enter Try.func67, Try.ntmps67
    go_wp2_with fail
    with_reducible refine HP.out.mono ?_
    rintro e w1 ⟨rfl, rfl⟩
    go_wp2_with fail
    with_reducible refine HM.out.mono ?_
    rintro e w1 ⟨rfl, rfl⟩
    go_wp2_with fail
    have HCC := ones_fit w p v L 24 24 rfl H.out.1 (by omega) (by omega)
    with_reducible refine HCC.mono ?_
    clear HCC
    rintro e w1 ⟨rfl, hw1⟩
    have H1 := hid hw1
    clear hw1
    go_wp2_with fail
    have HCC := H1.out.calls (R := fun e => e = .returned (.int .i64 0)) fun v1 h1 => put_fit w1 p v1 _ (u : Int) 40 u 40 rfl rfl h1 (by simp; omega) (by omega) hu
    with_reducible refine HCC.mono ?_
    clear HCC
    rintro e w3 ⟨rfl, hw3⟩
    have H3 := hid hw3
    clear hw3
    go_wp2_with fail
    go_ret
    have hw := H3.out
    rw [List.append_assoc] at hw
    rw [HC.out, if_neg hlt]
    exact ⟨rfl, hw⟩

/-- Whatever is put. -/
theorem rput_any (w : World) (p : Nat) (v : Value) (L : List Bool) (u : Nat) (k : Int) (h : Wr w p v L) (hL : L.length ≤ 66000000000) (hu : u < 18446744073709551616) :
    Calls Try.prog 67 #[.pointer (some ⟨p, 0, none⟩), .int .u64 (u : Int), .int .i64 k] w fun e w' => e = .returned (.int .i64 (putRErr u k)) ∧ WI w p v (L ++ codeR u k) w' := by
  by_cases hb : paramB k = true ∧ mayB u = true
  · have hk := (paramB_iff k).1 hb.1
    obtain ⟨m, rfl⟩ := Int.eq_ofNat_of_zero_le hk.1
    have e1 : putRErr u (m : Int) = 0 := by simp [putRErr, hb.1, hb.2]
    have e2 : codeR u (m : Int) = codeK u m := by simp [codeR, hb.1, hb.2]
    rw [e1, e2]
    exact rput_ok w p v L u m h hL ((mayB_iff u).1 hb.2) (by omega)
  · have e2 : codeR u k = [] := by unfold codeR; rw [if_neg hb]
    rw [e2, List.append_nil]
    refine (rput_bad p u k w hu hb).mono ?_
    rintro e w' ⟨he, rfl⟩
    exact ⟨he, h.refl⟩
end Go.Proofs.Ytjboboaccjbebaa
