/- (*Reader).Get: the number that the next bits are. -/
import Derived.Test.YtjboboaccjbebaaRd
namespace Go.Proofs.Ytjboboaccjbebaa
open Go.RowKit

theorem get_nil (n : Int) (w : World) : Calls Try.prog 81 #[.pointer none, .int .i64 n] w fun e w' => e = .returned (.tuple #[.int .u64 0, .int .i64 2]) ∧ w = w' := by
  go_enter Try.func81, Try.ntmps81
  go_wp2_with fail
  go_ret2
  exact ⟨rfl, rfl⟩
theorem get_arg (p : Nat) (n : Int) (w : World) (hn : n < 0 ∨ 64 < n) : Calls Try.prog 81 #[.pointer (some ⟨p, 0, none⟩), .int .i64 n] w fun e w' => e = .returned (.tuple #[.int .u64 0, .int .i64 1]) ∧ w = w' := by
  rcases hn with hn | hn
  · go_enter Try.func81, Try.ntmps81
    go_wp2_with fail
    go_ret2
    exact ⟨rfl, rfl⟩
  · have h0 : ¬ n < 0 := by omega
    go_enter Try.func81, Try.ntmps81
    go_wp2_with fail
    go_ret2
    exact ⟨rfl, rfl⟩
set_option maxRecDepth 100000 in
theorem get_end (w : World) (p : Nat) (v : Value) (F : List Nat) (i n : Nat) (h : Rd w p v F i) (hn : n ≤ 64) (hi : 8 * F.length < i + n) : Calls Try.prog 81 #[.pointer (some ⟨p, 0, none⟩), .int .i64 (n : Int)] w fun e w' => e = .returned (.tuple #[.int .u64 0, .int .i64 10]) ∧ ∃ k, w' = w.drewN k := by
  have h0 : ¬ (n : Int) < 0 := by omega
  have h1 : ¬ (64 : Int) < n := by omega
  have h2 : 8 * (F.length : Int) - (i : Int) < n := by omega
  have H := hid h
  clear h
  go_enter Try.func81, Try.ntmps81
  go_wp2_with fail
  with_reducible refine (left_any w p v F i H.out).mono ?_
  rintro e w1 ⟨rfl, k, rfl⟩
  go_wp2_with fail
  go_ret2
  exact ⟨rfl, k, rfl⟩

theorem take_more (l : List Bool) (a j : Nat) (b : Bool) (h : l[a + j]? = some b) : (l.drop a).take (j + 1) = (l.drop a).take j ++ [b] := by
  rw [List.take_add_one, List.getElem?_drop, h]
  rfl

theorem flat_drop8 (F : List Nat) (q : Nat) (hq : q ≤ F.length) : (flat F).drop (8 * q) = flat (F.drop q) := by
  have e : flat F = flat (F.take q) ++ flat (F.drop q) := by rw [← flat_append, List.take_append_drop]
  rw [e, List.drop_left' (by rw [flat_length, List.length_take, Nat.min_eq_left hq])]
theorem take_byte (F : List Nat) (a : Nat) (h8 : a % 8 = 0) (hd : a / 8 < F.length) : ((flat F).drop a).take 8 = bitsOf F[a / 8] 8 := by
  have e : a = 8 * (a / 8) := by omega
  have h := flat_drop8 F (a / 8) (by omega)
  rw [← e] at h
  rw [h, List.drop_eq_getElem_cons hd]
  have e2 : flat (F[a / 8] :: F.drop (a / 8 + 1)) = bitsOf F[a / 8] 8 ++ flat (F.drop (a / 8 + 1)) := rfl
  rw [e2, List.take_left' (bitsOf_length _ _)]
theorem or_add (V x k : Nat) (hx : x < 2 ^ k) (hk : V * 2 ^ k + x < 18446744073709551616) : bits BinOp.or IntKind.u64 (IntKind.u64.wrap ((V : Int) * ((2 ^ k : Nat) : Int))) (x : Int) = ((V * 2 ^ k + x : Nat) : Int) := by
  have e : ((V : Int) * ((2 ^ k : Nat) : Int)) = ((V * 2 ^ k : Nat) : Int) := by simp
  have h1 : V * 2 ^ k < 18446744073709551616 := by omega
  have h2 : x < 18446744073709551616 := by omega
  have hw : IntKind.u64.wrap ((V * 2 ^ k : Nat) : Int) = ((V * 2 ^ k : Nat) : Int) := by
    generalize V * 2 ^ k = y at *
    exact IntWalk.u64_in _ (by omega)
  rw [e, hw, u64_or_nat _ _ h1 h2]
  congr 1
  rw [Nat.mul_comm, ← Nat.two_pow_add_eq_or_of_lt hx]
theorem get_byte {F : List Nat} {i j V x : Nat} (hV : V < 2 ^ j) (hj : j + 8 ≤ 64) (hVe : valOf (((flat F).drop i).take j) = V) (h8 : (i + j) % 8 = 0) (hd : (i + j) / 8 < F.length) (hx : F[(i + j) / 8] = x) (hx8 : x < 256) :
    bits BinOp.or IntKind.u64 (IntKind.u64.wrap ((V : Int) * 256)) (x : Int) = ((valOf (((flat F).drop i).take (j + 8)) : Nat) : Int) := by
  have hp : 2 ^ (j + 8) ≤ 2 ^ 64 := Nat.pow_le_pow_right (by omega) hj
  rw [Nat.pow_add] at hp
  have hlt : V * 2 ^ 8 + x < 18446744073709551616 := by
    have : (V + 1) * 2 ^ 8 ≤ 2 ^ j * 2 ^ 8 := Nat.mul_le_mul_right _ hV
    omega
  have h := or_add V x 8 (by omega) hlt
  have e : ((flat F).drop i).take (j + 8) = ((flat F).drop i).take j ++ bitsOf F[(i + j) / 8] 8 := by
    rw [List.take_add, List.drop_drop, take_byte F (i + j) h8 hd]
  rw [e, valOf_app, bitsOf_length, hVe, valOf_bitsOf, hx, Nat.mod_eq_of_lt (show x < 2 ^ 8 from hx8)]
  exact h
theorem get_bit {F : List Nat} {i j V : Nat} {b : Bool} (hV : V < 2 ^ j) (hj : j + 1 ≤ 64) (hVe : valOf (((flat F).drop i).take j) = V) (hb : (flat F)[i + j]? = some b) :
    bits BinOp.or IntKind.u64 (IntKind.u64.wrap ((V : Int) * 2)) (bN b) = ((valOf (((flat F).drop i).take (j + 1)) : Nat) : Int) := by
  have hp : 2 ^ (j + 1) ≤ 2 ^ 64 := Nat.pow_le_pow_right (by omega) hj
  rw [Nat.pow_succ] at hp
  have hb2 : b.toNat < 2 ^ 1 := by cases b <;> decide
  have hlt : V * 2 ^ 1 + b.toNat < 18446744073709551616 := by omega
  have h := or_add V b.toNat 1 hb2 hlt
  have e : (bN b) = ((b.toNat : Nat) : Int) := by cases b <;> rfl
  rw [take_more _ _ _ _ hb, valOf_append, hVe, e, Nat.mul_comm 2 V]
  exact h

set_option maxRecDepth 100000 in
set_option maxHeartbeats 1600000 in
theorem get_ok (w : World) (p : Nat) (v : Value) (F : List Nat) (i n : Nat) (h : Rd w p v F i) (hn : n ≤ 64) (hi : i + n ≤ 8 * F.length) : Calls Try.prog 81 #[.pointer (some ⟨p, 0, none⟩), .int .i64 (n : Int)] w fun e w' =>
    e = .returned (.tuple #[.int .u64 ((valOf (((flat F).drop i).take n) : Nat) : Int), .int .i64 0]) ∧ RI w p v F (i + n) w' := by
  have h0 : ¬ (n : Int) < 0 := by omega
  have h1 : ¬ (64 : Int) < n := by omega
  have h2 : ¬ 8 * (F.length : Int) - (i : Int) < n := by omega
  have H := hid h
  clear h
  go_enter Try.func81, Try.ntmps81
  go_wp2_with fail
  with_reducible refine (left_any w p v F i H.out).mono ?_
  rintro e w1 ⟨rfl, k, rfl⟩
  go_wp2_with fail
  go_loopw [1, 6] (fun m x wr => ∃ j k : Nat, j + k = n ∧ m = .int .i64 k ∧ x = .int .u64 ((valOf (((flat F).drop i).take j) : Nat) : Int) ∧ RI w p v F (i + j) wr) (fun m _ _ => (intOf m).toNat)
  case atStart => exact ⟨0, n, by omega, rfl, rfl, H.out.drewN _, (Kept.refl _ _).drewN _⟩
  case round =>
    obtain ⟨j, m, hjm, rfl, rfl, hrd, hkp⟩ := hrel
    obtain ⟨A, c, rfl⟩ := hrd.slice
    have c0 := hrd.blk.cell 0
    have c1 := hrd.blk.cell 1
    have f1 := hrd.blk.frozen 1
    simp at c0 c1
    have hlen := hrd.len
    have hV : valOf (((flat F).drop i).take j) < 2 ^ j := by
      have h := valOf_lt (((flat F).drop i).take j)
      rwa [List.length_take, List.length_drop, flat_length, Nat.min_eq_left (by omega)] at h
    obtain ⟨V, hVe⟩ : ∃ V, valOf (((flat F).drop i).take j) = V := ⟨_, rfl⟩
    rw [hVe] at hV ⊢
    have HH := hid (And.intro hjm (And.intro hrd (And.intro hkp (And.intro hV hVe))))
    have hm64 : (m : Int) ≤ 64 := by omega
    have hij : (i : Int) + (j : Int) ≤ 137438953472 := by omega
    by_cases hm0 : m = 0
    · have hm1 : ¬ (0 : Int) < m := by omega
      clear hjm hrd hkp hV hVe
      go_wp2_with fail
      go_ret2
      obtain ⟨hjm, hrd, hkp, hV, hVe⟩ := HH.out
      obtain rfl : j = n := by omega
      exact ⟨by rw [hVe]; rfl, hrd, hkp⟩
    · have hm1 : (0 : Int) < m := by omega
      by_cases h8 : (i + j) % 8 = 0
      · have h8' : (((i : Int) + (j : Int)) % 8 == 0) = true := by simp; omega
        by_cases hm8 : 8 ≤ m
        · have hm8' : (8 : Int) ≤ m := by omega
          have hd : (i + j) / 8 < F.length := by omega
          have hd' : (((i + j) / 8 : Nat) : Int) < F.length := by omega
          obtain ⟨ad, rfl, hc⟩ := hrd.sl.at_ (show (i + j) / 8 < (u8s F).length by rw [u8s_length]; exact hd)
          have hx := hrd.by_ F[(i + j) / 8] (List.getElem_mem _)
          have e : (u8s F)[(i + j) / 8]'(by rw [u8s_length]; exact hd) = .int .u8 (F[(i + j) / 8] : Int) := by simp [u8s]
          rw [e] at hc
          obtain ⟨x, hxe⟩ : ∃ x, F[(i + j) / 8] = x := ⟨_, rfl⟩
          rw [hxe] at hc hx
          have HX := hid hxe
          have hx0 : (x : Int) < 256 := by omega
          have hq : IntKind.i64.wrap (((i : Int) + (j : Int)).tdiv 8) = (((i + j) / 8 : Nat) : Int) := by
            rw [Int.tdiv_eq_ediv_of_nonneg (by omega), IntWalk.i64_in _ (by omega)]; omega
          clear hjm hrd hkp hV hVe e hxe hx
          go_wp2_with fail
          go_quiet (fail)
          go_wp2_with fail
          go_roundw
          case rel =>
            obtain ⟨hjm, hrd, hkp, hV, hVe⟩ := HH.out
            refine ⟨j + 8, m - 8, by omega, by go_num, congrArg (Value.int .u64) (get_byte hV (by omega) hVe h8 hd HX.out (by omega)), ?_⟩
            have e : (i : Int) + (j : Int) + 8 = ((i + (j + 8) : Nat) : Int) := by omega
            rw [e]
            exact ⟨(hrd.drewN _).move _ (by omega), (hkp.drewN _).setCell (by simp) _⟩
          case measure => simp [intOf]; omega
        · have hm8' : (m : Int) < 8 := by omega
          obtain ⟨b, hb⟩ : ∃ b, (flat F)[i + j]? = some b := ⟨_, List.getElem?_eq_getElem (by rw [flat_length]; omega)⟩
          have HB := hid hb
          clear hjm hrd hkp hV hVe hb
          go_wp2_with fail
          with_reducible refine (peek_at wr p _ F (i + j) _ (i + j) (by omega) HH.out.2.1 b HB.out).mono ?_
          rintro e w2 ⟨rfl, rfl⟩
          go_wp2_with fail
          go_roundw
          case rel =>
            obtain ⟨hjm, hrd, hkp, hV, hVe⟩ := HH.out
            refine ⟨j + 1, m - 1, by omega, by go_num, congrArg (Value.int .u64) (get_bit hV (by omega) hVe HB.out), ?_⟩
            have e : (i : Int) + (j : Int) + 1 = ((i + (j + 1) : Nat) : Int) := by omega
            rw [e]
            exact ⟨hrd.move _ (by omega), hkp.setCell (by simp) _⟩
          case measure => simp [intOf]; omega
      · obtain ⟨b, hb⟩ : ∃ b, (flat F)[i + j]? = some b := ⟨_, List.getElem?_eq_getElem (by rw [flat_length]; omega)⟩
        have h8' : (((i : Int) + (j : Int)) % 8 == 0) = false := by simp; omega
        have HB := hid hb
        clear hjm hrd hkp hV hVe hb
        go_wp2_with fail
        with_reducible refine (peek_at wr p _ F (i + j) _ (i + j) (by omega) HH.out.2.1 b HB.out).mono ?_
        rintro e w2 ⟨rfl, rfl⟩
        go_wp2_with fail
        go_roundw
        case rel =>
          obtain ⟨hjm, hrd, hkp, hV, hVe⟩ := HH.out
          refine ⟨j + 1, m - 1, by omega, by go_num, congrArg (Value.int .u64) (get_bit hV (by omega) hVe HB.out), ?_⟩
          have e : (i : Int) + (j : Int) + 1 = ((i + (j + 1) : Nat) : Int) := by omega
          rw [e]
          exact ⟨hrd.move _ (by omega), hkp.setCell (by simp) _⟩
        case measure => simp [intOf]; omega

/-- What Get answers of bits L at i: the number, the error, where the reader stands then. -/
def getVal (L : List Bool) (i : Nat) (n : Int) : Nat := if n < 0 ∨ 64 < n ∨ (L.length : Int) < i + n then 0 else valOf ((L.drop i).take n.toNat)
def getErr (L : List Bool) (i : Nat) (n : Int) : Int := if n < 0 ∨ 64 < n then 1 else if (L.length : Int) < i + n then 10 else 0
def getAt (L : List Bool) (i : Nat) (n : Int) : Nat := if n < 0 ∨ 64 < n ∨ (L.length : Int) < i + n then i else i + n.toNat

theorem get_any (w : World) (p : Nat) (v : Value) (F : List Nat) (i : Nat) (n : Int) (h : Rd w p v F i) : Calls Try.prog 81 #[.pointer (some ⟨p, 0, none⟩), .int .i64 n] w fun e w' =>
    e = .returned (.tuple #[.int .u64 ((getVal (flat F) i n : Nat) : Int), .int .i64 (getErr (flat F) i n)]) ∧ RI w p v F (getAt (flat F) i n) w' := by
  by_cases h1 : n < 0 ∨ 64 < n
  · have e1 : getErr (flat F) i n = 1 := by simp [getErr, h1]
    have e2 : getVal (flat F) i n = 0 := by unfold getVal; rw [if_pos (by omega)]
    have e3 : getAt (flat F) i n = i := by unfold getAt; rw [if_pos (by omega)]
    rw [e1, e2, e3]
    refine (get_arg p n w h1).mono ?_
    rintro e' w' ⟨rfl, rfl⟩
    exact ⟨rfl, .refl h⟩
  · obtain ⟨m, rfl⟩ := Int.eq_ofNat_of_zero_le (show 0 ≤ n by omega)
    by_cases h2 : 8 * F.length < i + m
    · have e1 : getErr (flat F) i m = 10 := by unfold getErr; rw [if_neg (by omega), if_pos (by rw [flat_length]; omega)]
      have e2 : getVal (flat F) i m = 0 := by unfold getVal; rw [if_pos (by rw [flat_length]; omega)]
      have e3 : getAt (flat F) i m = i := by unfold getAt; rw [if_pos (by rw [flat_length]; omega)]
      rw [e1, e2, e3]
      refine (get_end w p v F i m h (by omega) h2).mono ?_
      rintro e' w' ⟨rfl, k, rfl⟩
      exact ⟨rfl, h.drewN k, (Kept.refl _ _).drewN k⟩
    · have e1 : getErr (flat F) i m = 0 := by unfold getErr; rw [if_neg (by omega), if_neg (by rw [flat_length]; omega)]
      have e2 : getVal (flat F) i m = valOf (((flat F).drop i).take m) := by unfold getVal; rw [if_neg (by rw [flat_length]; omega)]; simp
      have e3 : getAt (flat F) i m = i + m := by unfold getAt; rw [if_neg (by rw [flat_length]; omega)]; simp
      rw [e1, e2, e3]
      exact get_ok w p v F i m h (by omega) (by omega)
end Go.Proofs.Ytjboboaccjbebaa
