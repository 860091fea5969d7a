/- (*Writer).Add: another writer's bits, or its own, are added. -/
import Derived.Test.YtfbccmogiafgfaaWPut
import Derived.Test.YtfbccmogiafgfaaWBytes
import Derived.Deep.RegionHeld3
namespace Go.Proofs.Ytfbccmogiafgfaa
open Go.RowKit

theorem add_nil (x y : Option Addr) (h : x = none ∨ y = none) (w : World) : Calls Try.prog 24 #[.pointer x, .pointer y] w fun e w' => e = .returned (.int .i64 2) ∧ w = w' := by
  rcases x with _ | a
  · go_enter Try.func24, Try.ntmps24
    go_wp2_with fail
    go_ret
    exact ⟨rfl, rfl⟩
  · obtain rfl : y = none := by rcases h with h | h <;> simp_all
    clear h
    go_enter Try.func24, Try.ntmps24
    go_wp2_with fail
    go_ret
    exact ⟨rfl, rfl⟩

theorem put_bits_ok {x : Nat} {n : Int} (h : 0 ≤ n ∧ n ≤ 64 ∧ x < 2 ^ n.toNat) : putBits x n = bitsOf x n.toNat := by
  have e : putErr x n = 0 := by
    unfold putErr
    rw [if_neg (by omega), if_neg (by omega)]
  simp [putBits, e]
theorem wrap_u64_small {y : Nat} (h : y ≤ 255) : IntKind.u64.wrap (y : Int) = y := IntWalk.u64_in _ (by omega)
theorem put8 {x : Nat} (h : x < 256) : putBits x 8 = bitsOf x 8 := put_bits_ok (n := 8) ⟨by omega, by omega, h⟩
theorem hst_len {w : World} {q : Nat} {u : Value} {F : List Nat} {part n : Nat} {M : List Bool} (h : Wst w q u F part n ∧ M = flat F ++ (bitsOf part 8).take n) : M.length = 8 * F.length + n := by
  rw [h.2]; exact h.1.len
theorem part_bits (part n : Nat) (hn : n ≤ 8) : bitsOf (part / 2 ^ (8 - n)) n = (bitsOf part 8).take n := by
  have e := bitsOf_add part n (8 - n)
  rw [show n + (8 - n) = 8 from by omega] at e
  rw [e, List.take_left' (bitsOf_length _ _)]
theorem part_lt {part n : Nat} (hp : part < 256) (hn : n ≤ 8) : 0 ≤ (n : Int) ∧ (n : Int) ≤ 64 ∧ part / 2 ^ (8 - n) < 2 ^ (n : Int).toNat := by
  refine ⟨by omega, by omega, ?_⟩
  rw [Int.toNat_natCast]
  apply Nat.div_lt_of_lt_mul
  rw [← Nat.pow_add, show 8 - n + n = 8 from by omega]
  exact hp

/-- In the midst of a writing call: the writer has L; the slice sl, apart from it, still reads as it did. -/
def WS (w : World) (p : Nat) (v : Value) (L : List Bool) (sl : Value) (xs : List Value) (B : Nat) (wr : World) : Prop :=
  ∃ v1, Wr wr p v1 L ∧ Moved w v v1 ∧ Kept (Foot p v) w wr ∧ Sl wr sl xs ∧ (∀ g, sl.ownBlock = some g → ¬ Foot p v1 g ∧ g < B) ∧ B ≤ wr.heap.size

theorem WS.step {w wr w2 : World} {p : Nat} {v : Value} {L L' : List Bool} {sl : Value} {xs : List Value} {B : Nat} (h : WS w p v L sl xs B wr) (k : ∀ v1, Wr wr p v1 L → WI wr p v1 L' w2) : WS w p v L' sl xs B w2 := by
  obtain ⟨v1, h1, hm, hk, hs, hg, hB⟩ := h
  obtain ⟨v2, h2, hm2, hk2⟩ := k v1 h1
  exact ⟨v2, h2, hm.trans hk.size hm2, hk.trans hk2 fun i hi hf => hm.foot hi hf, hs.kept hk2 fun g e => (hg g e).1,
    fun g e => ⟨fun hf => (hg g e).1 (hm2.foot (by have := (hg g e).2; omega) hf), (hg g e).2⟩, Nat.le_trans hB hk2.size⟩
theorem WS.wi {w wr : World} {p : Nat} {v : Value} {L : List Bool} {sl : Value} {xs : List Value} {B : Nat} (h : WS w p v L sl xs B wr) : WI w p v L wr := by
  obtain ⟨v1, h1, hm, hk, _⟩ := h
  exact ⟨v1, h1, hm, hk⟩
theorem WS.start {w w1 : World} {p : Nat} {v : Value} {L : List Bool} {F : List Nat} {sl : Value} (h : Wr w p v L) (hf : Fresh8 w F sl w1) : WS w p v L sl (u8s F) w1.heap.size w1 :=
  ⟨v, h.below hf.2.1, .refl _ _, Kept.of_below' hf.2.1, Sl.of_own hf.1, fun g e => ⟨fun hft => by have := h.footlt hft; have := hf.2.2 g e; omega, (hf.1.lt g e).2⟩, Nat.le_refl _⟩

theorem Fresh8.undrew {w w1 : World} {F : List Nat} {v : Value} (h : Fresh8 w.drew F v w1) : Fresh8 w F v w1 := ⟨h.1, ⟨h.2.1.os, h.2.1.tape, h.2.1.output, h.2.1.size, h.2.1.block⟩, h.2.2⟩

theorem flat_take (F : List Nat) (k : Nat) (hk : k < F.length) : flat (F.take (k + 1)) = flat (F.take k) ++ bitsOf F[k] 8 := by
  rw [List.take_succ_eq_append_getElem hk, flat_append, flat_one]

theorem u8s_get (F : List Nat) (k : Nat) (h : k < (u8s F).length) : (u8s F)[k] = .int .u8 ((F[k]'(by rwa [u8s_length] at h) : Nat) : Int) := by simp [u8s]

set_option maxRecDepth 100000 in
set_option maxHeartbeats 1600000 in
theorem add_any (w : World) (p q : Nat) (v u : Value) (L M : List Bool) (hp : Wr w p v L) (hq : Wr w q u M) (hL : L.length + M.length + 64 ≤ 68719476736) :
    Calls Try.prog 24 #[.pointer (some ⟨p, 0, none⟩), .pointer (some ⟨q, 0, none⟩)] w fun e w' => e = .returned (.int .i64 0) ∧ WI w p v (L ++ M) w' := by
  obtain ⟨F, part, n, hst, hM⟩ := hq
  have c0 := hst.blk.cell 0
  have c1 := hst.blk.cell 1
  have c2 := hst.blk.cell 2
  simp at c0 c1 c2
  have hz := hst.blk.lt
  have hn8 := hst.hn
  have hF : F.length ≤ 17179869184 := by
    have := hst.len
    rw [← hM] at this
    omega
  have HH := hid (And.intro hp (And.intro hst hM))
  clear hp hst hM
  go_enter Try.func24, Try.ntmps24
  go_wp2_with fail
  go_region_held3 (fun w' => w'.cell? ⟨q, 0, none⟩ = some u ∧ w'.cell? ⟨q, 1, none⟩ = some (.int .u8 (part : Int)) ∧ w'.cell? ⟨q, 2, none⟩ = some (.int .i64 (n : Int))) (first | exact ⟨k0, k1, k2⟩ | go_keep)
    (first | (go_at_call 62; go_must (refine (clone8_sl _ u F ?_ hF).mono ?_); (exact Sl.of_own HH.out.2.1.own); rintro e w1 ⟨A, c, rfl, hf⟩; have hb1 : Blk w1 q 38 #[u, .int .u8 (part : Int), .int .i64 (n : Int)] := (hf.2.1.block q hz).trans HH.out.2.1.blk; have k0 := hb1.cell 0; have k1 := hb1.cell 1; have k2 := hb1.cell 2; simp at k0 k1 k2; replace hf := hid hf; clear hb1))
  all_goals (go_wp2_with fail)
  clear c0 c1 c2 k0 k1 k2 hz
  have HS := hid (WS.start HH.out.1 hf.out.undrew)
  clear hf
  go_loopw [31] (fun i wr => ∃ k : Nat, k ≤ F.length ∧ i = .int .i64 k ∧ WS w p v (L ++ flat (F.take k)) (.slice A F.length c) (u8s F) w1.heap.size wr) (fun i _ => F.length - (intOf i).toNat)
  case atStart => exact ⟨0, Nat.zero_le _, rfl, by simpa [flat] using HS.out⟩
  case round =>
    obtain ⟨k, hk, rfl, hws⟩ := hrel
    by_cases hkn : k < F.length
    · have hin : (k : Int) < F.length := by omega
      obtain ⟨ad, rfl, hc⟩ := (show Sl wr (.slice A F.length c) (u8s F) from by obtain ⟨_, _, _, _, h, _⟩ := hws; exact h).at_ (show k < (u8s F).length by rw [u8s_length]; exact hkn)
      rw [u8s_get] at hc
      obtain ⟨x, hx⟩ : ∃ x, F[k] = x := ⟨_, rfl⟩
      rw [hx] at hc
      have hx0 : (x : Int) < 256 := by have := HH.out.2.1.by_ F[k] (List.getElem_mem _); omega
      have hx1 : (0 : Int) ≤ x := by omega
      have HW := hid (And.intro hws hx)
      clear hws hx
      go_wp2_with fail
      obtain ⟨hws, hx⟩ := HW.out
      obtain ⟨v1, h1, hm, hk1, hs, hg, hB⟩ := hws
      have hl1 : (L ++ flat (F.take k)).length + 64 ≤ 68719476736 := by
        have := hst_len HH.out.2
        rw [List.length_append, flat_length, List.length_take]
        omega
      refine (put_any wr p v1 _ x 8 h1 hl1 (by omega)).mono ?_
      rintro e w2 ⟨rfl, hw2⟩
      have HW2 := hid (show WS w p v (L ++ flat (F.take (k + 1))) (.slice (some ad) F.length c) (u8s F) w1.heap.size w2 from by
        rw [put8 (by omega)] at hw2
        obtain ⟨v2, h2, hm2, hk2⟩ := hw2
        refine ⟨v2, ?_, hm.trans hk1.size hm2, hk1.trans hk2 fun i hi hf => hm.foot hi hf, hs.kept hk2 fun g e => (hg g e).1, fun g e => ⟨fun hf => (hg g e).1 (hm2.foot (by have := (hg g e).2; omega) hf), (hg g e).2⟩, Nat.le_trans hB hk2.size⟩
        rw [flat_take F k hkn, ← List.append_assoc, hx]
        exact h2)
      clear hw2 h1 hm hk1 hs hg hB hx hl1
      go_wp2_with fail
      go_roundw
      case rel => exact ⟨k + 1, by omega, by go_num, HW2.out⟩
      case measure => simp [intOf]; omega
    · have hin : ¬ (k : Int) < F.length := by omega
      obtain rfl : k = F.length := by omega
      have HW := hid hws.wi
      clear hws
      by_cases hn0 : n = 0
      · subst hn0
        go_wp2_with fail
        go_ret
        have h := HW.out
        rw [List.take_length] at h
        exact ⟨rfl, by rw [HH.out.2.2]; simpa using h⟩
      · have hn1 : (0 : Int) < n := by omega
        go_wp2_with fail
        obtain ⟨v1, h1, hm, hk1⟩ := HW.out
        have e : ((part : Int) / 2 ^ (8 - n)) = ((part / 2 ^ (8 - n) : Nat) : Int) := by simp
        have ew : IntKind.u64.wrap ((part / 2 ^ (8 - n) : Nat) : Int) = ((part / 2 ^ (8 - n) : Nat) : Int) := wrap_u64_small (by have := HH.out.2.1.hp; have := Nat.div_le_self part (2 ^ (8 - n)); omega)
        rw [e, ew]
        rw [List.take_length] at h1
        have hl1 : (L ++ flat F).length + 64 ≤ 68719476736 := by
          have := hst_len HH.out.2
          rw [List.length_append, flat_length]
          omega
        have hlt : part / 2 ^ (8 - n) < 18446744073709551616 := by have := HH.out.2.1.hp; have := Nat.div_le_self part (2 ^ (8 - n)); omega
        have HC := (put_any wr p v1 _ (part / 2 ^ (8 - n)) n h1 hl1 hlt)
        with_reducible refine HC.mono ?_
        rintro e w2 ⟨rfl, hw2⟩
        have HW2 := hid (show WI w p v (L ++ M) w2 from by
          rw [put_bits_ok (part_lt HH.out.2.1.hp (by omega))] at hw2
          obtain ⟨v2, h2, hm2, hk2⟩ := hw2
          refine ⟨v2, ?_, hm.trans hk1.size hm2, hk1.trans hk2 fun i hi hf => hm.foot hi hf⟩
          rw [HH.out.2.2, ← List.append_assoc, ← part_bits part n (by omega)]
          exact h2)
        clear hw2 h1 hm hk1 e ew hlt HC hl1
        go_wp2_with fail
        go_ret
        exact ⟨rfl, HW2.out⟩
end Go.Proofs.Ytfbccmogiafgfaa
