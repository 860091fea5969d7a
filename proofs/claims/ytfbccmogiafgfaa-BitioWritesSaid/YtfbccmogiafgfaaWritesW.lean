/- The walk of BitioWrites: whatever is written, a writer has the bits that the document says. -/
import Derived.Test.YtfbccmogiafgfaaDoAdd
import Derived.Test.YtfbccmogiafgfaaKnown02
import Derived.Deep.RegionWith
namespace Go.Proofs.Ytfbccmogiafgfaa
open Go.RowKit

theorem actBits_put (L : List Bool) (V : Nat) (N : Int) : actBits L 0 V N = L ++ putBits V N := by simp [actBits]
theorem actBits_ones (L : List Bool) (V : Nat) (N : Int) : actBits L 1 V N = L ++ manyBits true N := by simp [actBits]
theorem actBits_zeros (L : List Bool) (V : Nat) (N : Int) : actBits L 2 V N = L ++ manyBits false N := by simp [actBits]
theorem actBits_align (L : List Bool) (V : Nat) (N : Int) : actBits L 3 V N = padded L := by simp [actBits]
theorem actBits_add (L : List Bool) (V : Nat) (N : Int) : actBits L 4 V N = L ++ L := by simp [actBits]
theorem actBits_other (L : List Bool) (K : Int) (V : Nat) (N : Int) (h : K < 0 ∨ 4 < K) : actBits L K V N = L := by
  unfold actBits
  rw [if_neg (by omega), if_neg (by omega), if_neg (by omega), if_neg (by omega), if_neg (by omega)]

theorem do_any (w : World) (p : Nat) (u : Value) (L : List Bool) (A : Option Addr) (c : Nat) (K : Int) (V : Nat) (N : Int) (h : Pair w p u (.slice A L.length c) L) (hL : L.length ≤ 1000000) (hV : V < 18446744073709551616) :
    Calls Try.prog 26 #[.pointer (some ⟨p, 0, none⟩), .slice A L.length c, .agg #[.int .i64 K, .int .u64 (V : Int), .int .i64 N]] w (DoPost w p u (actBits L K V N)) := by
  by_cases h0 : K = 0
  · subst h0; rw [actBits_put]; exact do_put w p u L A c V N h hL hV
  by_cases h1 : K = 1
  · subst h1; rw [actBits_ones]; exact do_ones w p u L A c V N h hL
  by_cases h2 : K = 2
  · subst h2; rw [actBits_zeros]; exact do_zeros w p u L A c V N h hL
  by_cases h3 : K = 3
  · subst h3; rw [actBits_align]; exact do_align w p u L A c V N h hL
  by_cases h4 : K = 4
  · subst h4; rw [actBits_add]; exact do_add w p u L A c V N h hL
  · have hk : K < 0 ∨ 4 < K := by omega
    rw [actBits_other _ _ _ _ hk]; exact do_other w p u L A c K V N h hk

/-- The bits behind the first n acts. -/
def actsB (K : Nat → Int) (V : Nat → Nat) (N : Nat → Int) : Nat → List Bool
  | 0 => []
  | n + 1 => actBits (actsB K V N n) (K n) (V n) (N n)

theorem putBits_le (x : Nat) (n : Int) : (putBits x n).length ≤ 64 := by
  by_cases e : putErr x n = 0
  · have hn : ¬ (n < 0 ∨ 64 < n) := fun h => by simp [putErr, h] at e
    simp only [putBits, e, if_true, bitsOf_length]
    omega
  · simp [putBits, e]
theorem manyBits_le (b : Bool) (n : Int) (h : ¬ (300 < n ∧ n ≤ 1048576)) : (manyBits b n).length ≤ 300 := by
  by_cases hn : n < 0 ∨ 1048576 < n
  · rw [manyBits_bad hn]; simp
  · obtain ⟨m, rfl⟩ := Int.eq_ofNat_of_zero_le (show 0 ≤ n by omega)
    rw [manyBits_ok (by omega)]; simp; omega
theorem padded_le (L : List Bool) : (padded L).length ≤ L.length + 8 := by unfold padded; simp; omega

theorem fours_mono (K : Nat → Int) {a b : Nat} (h : a ≤ b) : fours K a ≤ fours K b := by
  induction h with
  | refl => exact Nat.le_refl _
  | step _ ih => simp only [fours]; omega

theorem actsB_le (K : Nat → Int) (V : Nat → Nat) (N : Nat → Int) (m : Nat) (h : Few m K N) : ∀ k, k ≤ m → (actsB K V N k).length ≤ 300 * k * 2 ^ fours K k := by
  intro k
  induction k with
  | zero => intro _; simp [actsB]
  | succ k ih =>
    intro hk
    have ih := ih (by omega)
    have hb := h.2.2 k (by omega)
    simp only [actsB, fours]
    have hp : 0 < 2 ^ fours K k := Nat.two_pow_pos _
    generalize hB : actsB K V N k = B at *
    generalize hf : 2 ^ fours K k = f at *
    have hexp : 300 * (k + 1) * f = 300 * k * f + 300 * f := by rw [Nat.mul_add, Nat.add_mul, Nat.mul_one]
    by_cases h4 : K k = 4
    · rw [if_pos h4, h4, actBits_add, List.length_append, Nat.pow_succ, hf, ← Nat.mul_assoc, hexp]
      omega
    · rw [if_neg h4, show fours K k + 0 = fours K k from rfl, hf, hexp]
      by_cases h0 : K k = 0
      · rw [h0, actBits_put, List.length_append]; have := putBits_le (V k) (N k); omega
      by_cases h1 : K k = 1
      · rw [h1, actBits_ones, List.length_append]; have := manyBits_le true (N k) (by omega); omega
      by_cases h2 : K k = 2
      · rw [h2, actBits_zeros, List.length_append]; have := manyBits_le false (N k) (by omega); omega
      by_cases h3 : K k = 3
      · rw [h3, actBits_align]; have := padded_le B; omega
      · rw [actBits_other _ _ _ _ (by omega)]; omega

theorem actsB_max (K : Nat → Int) (V : Nat → Nat) (N : Nat → Int) (m : Nat) (h : Few m K N) (k : Nat) (hk : k ≤ m) : (actsB K V N k).length ≤ 120000 := by
  have h1 := actsB_le K V N m h k hk
  have h2 : 2 ^ fours K k ≤ 2 ^ 3 := Nat.pow_le_pow_right (by omega) (Nat.le_trans (fours_mono K hk) h.2.1)
  have h3 : 300 * k ≤ 15000 := by have := h.1; omega
  have := Nat.mul_le_mul h3 h2
  omega

/-- All of a writer lies from B on. -/
def LowW (B p : Nat) (v : Value) : Prop := ∀ k, Foot p v k → B ≤ k

/-- A pair in memory that is new since w. -/
structure PIn (w : World) (p : Nat) (u v : Value) (L : List Bool) (wr : World) : Prop where
  pair : Pair wr p u v L
  low : LowW w.heap.size p u
  bel : Below w.heap.size w wr

section
variable {w wr w1 : World} {p : Nat} {u v : Value} {L : List Bool}
theorem PIn.later (h : PIn w p u v L wr) (hb : Below wr.heap.size wr w1) : PIn w p u v L w1 := ⟨h.pair.below hb, h.low, h.bel.trans (hb.mono h.bel.size)⟩
theorem PIn.drew (h : PIn w p u v L wr) : PIn w p u v L wr.drew := h.later ((Below.refl _ _).drew)
theorem PIn.drewN (h : PIn w p u v L wr) (n : Nat) : PIn w p u v L (wr.drewN n) := h.later (below_drewN' (.refl _ _) n)
/-- Behind an act. -/
def PDo (w : World) (p : Nat) (L' : List Bool) (e : Ending) (w' : World) : Prop := ∃ u' A c, e = .returned (.tuple #[.slice A L'.length c, .bool true]) ∧ PIn w p u' (.slice A L'.length c) L' w'
theorem PIn.did {L' : List Bool} {e : Ending} (h : PIn w p u v L wr) (k : DoPost wr p u L' e w1) : PDo w p L' e w1 := by
  obtain ⟨u', A, c, he, hp, hm, hk⟩ := k
  refine ⟨u', A, c, he, hp, fun i hi => ?_, Kept.after h.bel (Nat.le_refl _) hk h.low⟩
  rcases Nat.lt_or_ge i wr.heap.size with hl | hl
  · exact h.low i (hm.foot hl hi)
  · have := h.bel.size; omega
theorem PIn.len (h : PIn w p u v L wr) (hL : L.length ≤ 120000) : Calls Try.prog 23 #[.pointer (some ⟨p, 0, none⟩)] wr fun e w' => e = .returned (.int .i64 (L.length : Int)) ∧ PIn w p u v L w' :=
  (len_any wr p u L h.pair.wr (by omega)).mono fun _ _ ⟨he, n, hw⟩ => ⟨he, hw ▸ h.drewN n⟩
def PB (w wr : World) (p : Nat) (u v : Value) (L : List Bool) (e : Ending) (w' : World) : Prop :=
  ∃ F A c, e = .returned (.slice A F.length c) ∧ flat F = padded L ∧ (∀ x ∈ F, x < 256) ∧ Sl w' (.slice A F.length c) (u8s F) ∧ PIn w p u v L w' ∧ Below wr.heap.size wr w'
theorem PIn.bytes (h : PIn w p u v L wr) (hL : L.length ≤ 120000) : Calls Try.prog 25 #[.pointer (some ⟨p, 0, none⟩)] wr (PB w wr p u v L) :=
  (bytes_any wr p u L h.pair.wr (by omega)).mono fun _ _ ⟨F, A, c, he, hf, h1, h2⟩ => ⟨F, A, c, he, h1, h2, Sl.of_own hf.1, h.later hf.2.1, hf.2.1⟩
theorem PIn.refbytes (h : PIn w p u v L wr) (hL : L.length ≤ 120000) : Calls Try.prog 27 #[v] wr (PB w wr p u v L) :=
  (refbytes_any v L wr h.pair.sl (by omega)).mono fun _ _ ⟨F, A, c, he, hf, h1, h2⟩ => ⟨F, A, c, he, h1, h2, Sl.of_own hf.1, h.later hf.2.1, hf.2.1⟩
end

namespace bitioWrites
set_option maxRecDepth 100000 in
set_option maxHeartbeats 4000000 in
theorem walk (A : Option Addr) (m c : Nat) (K : Nat → Int) (V : Nat → Nat) (N : Nat → Int) (w : World) (h : Acts w A m K V N) (hm : m ≤ 9223372036854775807) :
    Calls Try.prog 6 #[.slice A m c] w fun e w' => e = .returned (.bool true) ∧ Below w.heap.size w w' := by
  have H := hid h
  clear h
  go_enter Try.func6, Try.ntmps6
  go_wp2_with fail
  with_reducible refine (few_any A m c K V N w H.out hm).mono ?_
  rintro e w1 ⟨rfl, b1, rfl, hb1⟩
  cases b1
  · clear hb1
    go_wp2_with fail
    with_reducible refine (known02 _).mono ?_
    rintro e w1 ⟨rfl, hb⟩
    replace hb := hid hb
    go_wp2_with fail
    go_ret
    exact ⟨rfl, hb.out⟩
  have HF := hid (hb1 rfl)
  clear hb1
  have H0 := hid (show PIn w w.heap.size (.slice none 0 0) (.slice none 0 0) [] (w.alloc (.cells #[.slice none 0 0, .int .u8 0, .int .i64 0] 38)) from
    ⟨⟨Wr.new w, Sl.nil_ _, fun g hg => by simp [Value.ownBlock] at hg⟩, fun k hk => by rw [foot_nil hk]; exact Nat.le_refl _, (Below.refl _ _).alloc (Nat.le_refl _) _⟩)
  go_wp2_with fail
  go_loopw [4, 5] (fun b i wr => ∃ (k : Nat) (u : Value) (B : Option Addr) (d : Nat), k ≤ m ∧ i = .int .i64 k ∧ b = .slice B (actsB K V N k).length d ∧ PIn w w.heap.size u (.slice B (actsB K V N k).length d) (actsB K V N k) wr) (fun _ i _ => m - (intOf i).toNat)
  case atStart => exact ⟨0, _, none, 0, Nat.zero_le _, rfl, rfl, H0.out⟩
  case round =>
    obtain ⟨k, u, B, d, hk, rfl, rfl, hp⟩ := hrel
    by_cases hkm : k < m
    · have hin : (k : Int) < m := by omega
      obtain ⟨ad, rfl, hlt, hc0, hc1, hc2, hV⟩ := H.out.below hp.bel k hkm
      have hX := actsB_max K V N m HF.out k hk
      have hX2 := actsB_max K V N m HF.out (k + 1) hkm
      have hE : actsB K V N (k + 1) = actBits (actsB K V N k) (K k) (V k) (N k) := rfl
      obtain ⟨L, hL⟩ : ∃ L, actsB K V N k = L := ⟨_, rfl⟩
      obtain ⟨L2, hL2⟩ : ∃ L2, actsB K V N (k + 1) = L2 := ⟨_, rfl⟩
      obtain ⟨K0, hK0⟩ : ∃ x, K k = x := ⟨_, rfl⟩
      obtain ⟨V0, hV0⟩ : ∃ x, V k = x := ⟨_, rfl⟩
      obtain ⟨N0, hN0⟩ : ∃ x, N k = x := ⟨_, rfl⟩
      rw [hL, hL2, hK0, hV0, hN0] at hE
      rw [hL] at hp hX ⊢
      rw [hL2] at hX2
      rw [hK0] at hc0
      rw [hV0] at hc1 hV
      rw [hN0] at hc2
      have HP := hid hp
      have HE := hid (And.intro hE (And.intro hL2 hV))
      clear hp hE hL hL2 hK0 hV0 hN0 hV
      go_wp2_with fail
      have HC := (do_any wr _ u L B d K0 V0 N0 HP.out.pair (by omega) HE.out.2.2).mono fun _ _ hq => HP.out.did hq
      rw [← HE.out.1] at HC
      with_reducible refine HC.mono ?_
      clear HC
      rintro e w3 ⟨u3, B3, d3, rfl, hp3⟩
      have HP3 := hid hp3
      clear hp3 hc0 hc1 hc2 hlt
      go_wp2_with fail
      go_region_with (first
        | (go_at_call 23; (with_reducible refine (HP3.out.drew.len hX2).mono ?_); rintro e w4 ⟨rfl, h4⟩; replace h4 := hid h4)
        | (go_at_call 25; (with_reducible refine (h4.out.bytes hX2).mono ?_); rintro e w5 ⟨F1, A1, c1, rfl, hf1, hb1, hs1, h5, _⟩; have hstr1 := str_of w5 _ F1 hs1 hb1; replace h5 := hid h5; replace hf1 := hid (And.intro hf1 (And.intro hb1 hs1)); clear hs1 hb1)
        | (go_at_call 27; (with_reducible refine (h5.out.refbytes hX2).mono ?_); rintro e w6 ⟨F2, A2, c2, rfl, hf2, hb2, hs2, h6, hbl⟩; obtain rfl : F2 = F1 := flat_inj hb2 hf1.out.2.1 (hf2.trans hf1.out.1.symm); have hstr2 := str_of w6 _ F2 hs2 hb2; have hstr3 := str_of w6 _ F2 (hf1.out.2.2.below hbl) hb2; replace h6 := hid h6; clear hs2 hb2 hf2 hbl))
      all_goals (go_wp2_with fail)
      all_goals
        go_roundw
        case rel => exact ⟨k + 1, u3, B3, d3, by omega, by go_num, by rw [HE.out.2.1], by rw [HE.out.2.1]; exact h6.out⟩
        case measure => simp [intOf]; omega
    · have hin : ¬ (k : Int) < m := by omega
      have HP := hid hp
      clear hp
      go_wp2_with fail
      with_reducible refine (known02 _).mono ?_
      rintro e w5 ⟨rfl, hb⟩
      replace hb := hid hb
      go_wp2_with fail
      go_ret
      exact ⟨rfl, HP.out.bel.trans (hb.out.mono HP.out.bel.size)⟩
end bitioWrites
end Go.Proofs.Ytfbccmogiafgfaa
