/- Layer 7 and what it wants of layer 1: Zig, Zag; gamma codes are written. -/
import Derived.Test.YtjboboaccjbebaaRunP
import Derived.Test.YtjboboaccjbebaaCFunc
import Derived.Test.YtjboboaccjbebaaNumW
import Derived.Lib.Zigzag
namespace Go.Proofs.Ytjboboaccjbebaa
open Go.RowKit

theorem zig_any (x : Int) (w : World) (h1 : -9223372036854775808 ≤ x) (h2 : x ≤ 9223372036854775807) : Calls Try.prog 118 #[.int .i64 x] w fun e w' => e = .returned (.int .u64 (zigN x : Nat)) ∧ w = w' := by
  by_cases h : 0 ≤ x
  · have e : zigN x = 2 * x.toNat := by unfold zigN; rw [if_pos h]
    have e1 : IntKind.u64.wrap x = x := IntWalk.u64_in _ (by omega)
    have e2 : IntKind.u64.wrap (x * 2) = ((2 * x.toNat : Nat) : Int) := by rw [IntWalk.u64_in _ (by omega)]; omega
    have e3 : x / 9223372036854775808 = 0 := by omega
    have e4 : bits BinOp.xor IntKind.u64 ((2 * x.toNat : Nat) : Int) 0 = ((2 * x.toNat : Nat) : Int) := by
      have := bits_xor_u64_nat (2 * x.toNat) 0 (by omega) (by omega)
      simpa using this
    rw [e]
    obtain ⟨y, hy⟩ : ∃ y, 2 * x.toNat = y := ⟨_, rfl⟩
    rw [hy] at e2 e4 ⊢
    clear hy e
    go_enter Try.func118, Try.ntmps118
    go_wp2_with fail
    go_ret
    exact ⟨rfl, rfl⟩
  · have e3 : x / 9223372036854775808 = -1 := by omega
    have e1 : IntKind.u64.wrap (IntKind.u64.wrap x * 2) = (((2 * x + 18446744073709551616).toNat : Nat) : Int) := by
      rw [IntKind.wrap_u64, IntKind.wrap_u64]; omega
    have e4 : bits BinOp.xor IntKind.u64 (((2 * x + 18446744073709551616).toNat : Nat) : Int) (IntKind.u64.wrap (-1)) = ((zigN x : Nat) : Int) := by
      rw [show IntKind.u64.wrap (-1) = 18446744073709551615 from by decide]
      have h := bits_xor_u64_nat (2 * x + 18446744073709551616).toNat 18446744073709551615 (by omega) (by omega)
      rw [Nat.xor_comm, show (18446744073709551615 : Nat) = 2 ^ 64 - 1 from rfl, Lib.xor_ones64 _ (by omega)] at h
      refine h.trans ?_
      unfold zigN
      rw [if_neg (by omega)]
      omega
    obtain ⟨y, hy⟩ : ∃ y, zigN x = y := ⟨_, rfl⟩
    rw [hy] at e4 ⊢
    obtain ⟨z, hz⟩ : ∃ z : Nat, (2 * x + 18446744073709551616).toNat = z := ⟨_, rfl⟩
    rw [hz] at e1 e4
    clear hy hz
    go_enter Try.func118, Try.ntmps118
    go_wp2_with fail
    go_ret
    exact ⟨rfl, rfl⟩

theorem refzig_any (x : Int) (w : World) (h1 : -9223372036854775808 ≤ x) (h2 : x ≤ 9223372036854775807) : Calls Try.prog 69 #[.int .i64 x] w fun e w' => e = .returned (.int .u64 (zigN x : Nat)) ∧ w = w' := by
  by_cases h : 0 ≤ x
  · have e : zigN x = 2 * x.toNat := by unfold zigN; rw [if_pos h]
    have e1 : IntKind.u64.wrap x = x := IntWalk.u64_in _ (by omega)
    have e2 : IntKind.u64.wrap (2 * x) = ((2 * x.toNat : Nat) : Int) := by rw [IntWalk.u64_in _ (by omega)]; omega
    rw [e]
    obtain ⟨y, hy⟩ : ∃ y, 2 * x.toNat = y := ⟨_, rfl⟩
    rw [hy] at e2 ⊢
    clear hy e
    go_enter Try.func69, Try.ntmps69
    go_wp2_with fail
    go_ret
    exact ⟨rfl, rfl⟩
  · have e : zigN x = 2 * (-(x + 1)).toNat + 1 := by unfold zigN; rw [if_neg h]
    obtain ⟨y, hy⟩ : ∃ y : Nat, -(x + 1) = (y : Int) := ⟨(-(x + 1)).toNat, by omega⟩
    have e0 : IntKind.i64.wrap (x + 1) = x + 1 := IntWalk.i64_in _ (by omega)
    have e1 : IntKind.i64.wrap (-(x + 1)) = (y : Int) := by rw [IntWalk.i64_in _ (by omega)]; exact hy
    have e2 : IntKind.u64.wrap (y : Int) = (y : Int) := IntWalk.u64_in _ (by omega)
    have e3 : IntKind.u64.wrap (2 * (y : Int)) = ((2 * y : Nat) : Int) := by rw [IntWalk.u64_in _ (by omega)]; omega
    have e4 : IntKind.u64.wrap (((2 * y : Nat) : Int) + 1) = ((2 * y + 1 : Nat) : Int) := by rw [IntWalk.u64_in _ (by omega)]; omega
    rw [e, show (-(x + 1)).toNat = y by omega]
    obtain ⟨z, hz⟩ : ∃ z, 2 * y = z := ⟨_, rfl⟩
    rw [hz] at e3 e4 ⊢
    have hx : ¬ 0 ≤ x := h
    clear hz hy e
    go_enter Try.func69, Try.ntmps69
    go_wp2_with fail
    go_ret
    exact ⟨rfl, rfl⟩

theorem xor_i64_neg (y : Nat) (hy : y < 9223372036854775808) : bits BinOp.xor IntKind.i64 (y : Int) (-1) = -(y : Int) - 1 := by
  rw [← Lib.i64_not y hy]
  show IntKind.i64.wrap _ = IntKind.i64.wrap _
  rw [BitVec.xor_comm]
theorem xor_i64_zero (y : Nat) (hy : y < 9223372036854775808) : bits BinOp.xor IntKind.i64 (y : Int) 0 = (y : Int) := by
  show IntKind.i64.wrap ((BitVec.ofInt 64 (y : Int) ^^^ BitVec.ofInt 64 0).toNat : Int) = _
  have h2 : (BitVec.ofInt 64 (y : Int)).toNat = y := by
    rw [BitVec.ofInt_natCast, BitVec.toNat_ofNat]; exact Nat.mod_eq_of_lt (by omega)
  have h1 : (BitVec.ofInt 64 0).toNat = 0 := by decide
  rw [BitVec.toNat_xor, h1, h2, Nat.xor_zero]
  exact IntWalk.i64_in _ (by omega)
theorem zag_any (u : Nat) (w : World) (hu : u < 18446744073709551616) : Calls Try.prog 84 #[.int .u64 (u : Int)] w fun e w' => e = .returned (.int .i64 (zagN u)) ∧ w = w' := by
  have e1 : (u : Int) / 2 = ((u / 2 : Nat) : Int) := by omega
  have e2 : IntKind.i64.wrap ((u / 2 : Nat) : Int) = ((u / 2 : Nat) : Int) := IntWalk.i64_in _ (by omega)
  have e3 := Lib.u64_and1 (u : Int) (by omega) (by omega)
  have x1 := xor_i64_neg (u / 2) (by omega)
  have x0 := xor_i64_zero (u / 2) (by omega)
  obtain ⟨y, hy⟩ : ∃ y, u / 2 = y := ⟨_, rfl⟩
  rw [hy] at e1 e2 x1 x0
  by_cases h : u % 2 = 0
  · have e4 : (u : Int) % 2 = 0 := by omega
    rw [e4] at e3
    have ez : zagN u = (y : Int) := by unfold zagN; rw [if_pos h, hy]
    rw [ez]
    clear ez hy h e4 x1
    go_enter Try.func84, Try.ntmps84
    go_wp2_with fail
    go_ret
    exact ⟨rfl, rfl⟩
  · have e4 : (u : Int) % 2 = 1 := by omega
    rw [e4] at e3
    have ez : zagN u = -(y : Int) - 1 := by unfold zagN; rw [if_neg h, hy]
    rw [ez]
    clear ez hy h e4 x0
    go_enter Try.func84, Try.ntmps84
    go_wp2_with fail
    go_ret
    exact ⟨rfl, rfl⟩
theorem refzag_any (u : Nat) (w : World) (hu : u < 18446744073709551616) : Calls Try.prog 88 #[.int .u64 (u : Int)] w fun e w' => e = .returned (.int .i64 (zagN u)) ∧ w = w' := by
  have e1 : (u : Int) / 2 = ((u / 2 : Nat) : Int) := by omega
  have e2 : IntKind.i64.wrap ((u / 2 : Nat) : Int) = ((u / 2 : Nat) : Int) := IntWalk.i64_in _ (by omega)
  have e5 : IntKind.i64.wrap (-((u / 2 : Nat) : Int)) = -((u / 2 : Nat) : Int) := IntWalk.i64_in _ (by omega)
  have e6 : IntKind.i64.wrap (-((u / 2 : Nat) : Int) - 1) = -((u / 2 : Nat) : Int) - 1 := IntWalk.i64_in _ (by omega)
  obtain ⟨y, hy⟩ : ∃ y, u / 2 = y := ⟨_, rfl⟩
  rw [hy] at e1 e2 e5 e6
  by_cases h : u % 2 = 0
  · have e4 : (((u : Int) % 2) == 0) = true := by rw [beq_iff_eq]; omega
    have ez : zagN u = (y : Int) := by unfold zagN; rw [if_pos h, hy]
    rw [ez]
    clear ez hy h
    go_enter Try.func88, Try.ntmps88
    go_wp2_with fail
    go_ret
    exact ⟨rfl, rfl⟩
  · have e4 : (((u : Int) % 2) == 0) = false := by rw [beq_eq_false_iff_ne]; omega
    have ez : zagN u = -(y : Int) - 1 := by unfold zagN; rw [if_neg h, hy]
    rw [ez]
    clear ez hy h
    go_enter Try.func88, Try.ntmps88
    go_wp2_with fail
    go_ret
    exact ⟨rfl, rfl⟩

theorem gamcost_any (v : Nat) (w : World) (hv : v < 18446744073709551616) : Calls Try.prog 35 #[.int .u64 (v : Int)] w fun e w' => e = .returned (.int .i64 (gamCost v : Nat)) ∧ w = w' := by
  by_cases h0 : v = 0
  · subst h0
    go_enter Try.func35, Try.ntmps35
    go_wp2_with fail
    go_ret
    exact ⟨rfl, rfl⟩
  have b0 : ((v : Int) == 0) = false := by rw [beq_eq_false_iff_ne]; omega
  by_cases hg : gamB v = true
  · have hb := (gamB_iff v).1 hg
    have b1 : ((v : Int) / 4294967296 != 0) = false := by rw [bne_eq_false_iff_eq]; omega
    have hw := gam_wid hg
    have e : gamCost v = 2 * wid v - 1 := by unfold gamCost; rw [if_pos hg]
    have HW := hid (width_any v w hv)
    rw [e]
    obtain ⟨k, hk⟩ : ∃ k, wid v = k := ⟨_, rfl⟩
    rw [hk] at HW hw ⊢
    have hk1 : 1 ≤ k := hw.1
    have hk32 : k ≤ 32 := hw.2.1
    clear e hw hk hb hg
    go_enter Try.func35, Try.ntmps35
    go_wp2_with fail
    with_reducible refine HW.out.mono ?_
    rintro e w1 ⟨rfl, rfl⟩
    go_wp2_with fail
    go_ret
    exact ⟨by rw [show ((2 * k - 1 : Nat) : Int) = 2 * (k : Int) - 1 by omega]; rfl, rfl⟩
  · have b1 : ((v : Int) / 4294967296 != 0) = true := by
      rw [bne_iff_ne]
      have h1 : ¬ (1 ≤ v ∧ v ≤ 4294967295) := fun h => hg ((gamB_iff v).2 h)
      omega
    have e : gamCost v = 0 := by unfold gamCost; rw [if_neg hg]
    rw [e]
    clear e hg
    go_enter Try.func35, Try.ntmps35
    go_wp2_with fail
    go_ret
    exact ⟨rfl, rfl⟩
theorem putgamma_nil (v : Int) (w : World) : Calls Try.prog 33 #[.pointer none, .int .u64 v] w fun e w' => e = .returned (.int .i64 2) ∧ w = w' := by
  go_enter Try.func33, Try.ntmps33
  go_wp2_with fail
  go_ret
  exact ⟨rfl, rfl⟩
theorem putgamma_bad (p v : Nat) (w : World) (hv : v < 18446744073709551616) (hg : gamB v = false) : Calls Try.prog 33 #[.pointer (some ⟨p, 0, none⟩), .int .u64 (v : Int)] w fun e w' => e = .returned (.int .i64 3) ∧ w = w' := by
  have HG := gamcost_any v w hv
  have e : gamCost v = 0 := by unfold gamCost; rw [if_neg (by simp [hg])]
  rw [e] at HG
  replace HG := hid HG
  clear e hg
  go_enter Try.func33, Try.ntmps33
  go_wp2_with fail
  with_reducible refine HG.out.mono ?_
  rintro e w1 ⟨rfl, rfl⟩
  go_wp2_with fail
  go_ret
  exact ⟨rfl, rfl⟩
theorem putgamma_ok (w : World) (p v : Nat) (u : Value) (L : List Bool) (h : Wr w p u L) (hL : L.length ≤ 66000000000) (hg : gamB v = true) :
    Calls Try.prog 33 #[.pointer (some ⟨p, 0, none⟩), .int .u64 (v : Int)] w fun e w' => e = .returned (.int .i64 0) ∧ WI w p u (L ++ gamC v) w' := by
  have hv := (gamB_iff v).1 hg
  obtain ⟨k1, k2, k3, k4⟩ := gam_wid hg
  have HG := gamcost_any v w (by omega)
  have HW := hid (fun W => width_any v W (by omega))
  have e : gamCost v = 2 * wid v - 1 := by unfold gamCost; rw [if_pos hg]
  have eC : gamC v = List.replicate (wid v - 1) false ++ bitsOf v (wid v) := by unfold gamC; rw [if_pos hg]
  rw [e] at HG
  rw [eC]
  obtain ⟨k, hk⟩ : ∃ k, wid v = k := ⟨_, rfl⟩
  rw [hk] at HG HW k1 k2 k3 k4 ⊢
  have hb : ((2 * k - 1 : Nat) : Int) ≠ 0 := by omega
  have HGG := hid HG
  have hput : putErr v (k : Int) = 0 ∧ putBits v (k : Int) = bitsOf v k := by
    have e1 : putErr v (k : Int) = 0 := by
      unfold putErr
      rw [if_neg (by omega), Int.toNat_natCast, if_neg (by omega)]
    exact ⟨e1, by unfold putBits; rw [if_pos e1, Int.toNat_natCast]⟩
  have H := hid (And.intro h (And.intro hput hk))
  have hv2 : v < 18446744073709551616 := by omega
  clear e eC HG h hput hk hg hv k3 k4
  obtain ⟨d, hd⟩ : ∃ d, 2 * k - 1 = d := ⟨_, rfl⟩
  rw [hd] at hb HGG
  clear hd
  go_enter Try.func33, Try.ntmps33
  go_wp2_with fail
  with_reducible refine HGG.out.mono ?_
  rintro e w1 ⟨rfl, rfl⟩
  go_wp2_with fail
  with_reducible refine (HW.out _).mono ?_
  rintro e w1 ⟨rfl, rfl⟩
  have hk1 : IntKind.i64.wrap ((k : Int) - 1) = ((k - 1 : Nat) : Int) := by rw [IntWalk.i64_in _ (by omega)]; omega
  obtain ⟨m, hm⟩ : ∃ m, k - 1 = m := ⟨_, rfl⟩
  rw [hm] at hk1
  have hmk : m ≤ 32 := by omega
  go_wp2_with fail
  have HC := zeros_fit w p u L _ m rfl H.out.1 (by omega) (by omega)
  with_reducible refine HC.mono ?_
  clear HC
  rintro e w2 ⟨rfl, hw2⟩
  have HW2 := hid hw2
  clear hw2
  go_wp2_with fail
  have HC := HW2.out.calls (L' := L ++ (List.replicate m false ++ bitsOf v k)) (R := fun e => e = .returned (.int .i64 0)) fun v1 h1 => by
    have := put_at w2 p v1 _ _ v (k : Int) rfl h1 (by rw [List.length_append, List.length_replicate]; omega) hv2 _ H.out.2.1
    rwa [List.append_assoc] at this
  with_reducible refine HC.mono ?_
  clear HC
  rintro e w3 ⟨rfl, hw3⟩
  have HW3 := hid hw3
  clear hw3
  go_wp2_with fail
  go_ret
  rw [hm]
  exact ⟨rfl, HW3.out⟩
end Go.Proofs.Ytjboboaccjbebaa
