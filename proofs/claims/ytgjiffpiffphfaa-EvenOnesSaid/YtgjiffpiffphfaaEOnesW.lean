/- The walk of EvenOnes. -/
import Derived.Test.YtgjiffpiffphfaaERef
import Derived.Test.YtgjiffpiffphfaaKnown08
import Derived.Deep.RegionHeld3
namespace Go.Proofs.Ytgjiffpiffphfaa
open Go.RowKit

theorem get_seg {L T : List Bool} {i x m : Nat} (h : L.drop i = bitsOf x m ++ T) (hx : x < 2 ^ m) (hm : m ≤ 64) (hi : i ≤ L.length) :
    getErr L i (m : Int) = 0 ∧ getVal L i (m : Int) = x ∧ getAt L i (m : Int) = i + m ∧ L.drop (i + m) = T ∧ i + m ≤ L.length := by
  obtain ⟨h1, h2⟩ := drop_seg h (bitsOf_length x m)
  have hl := congrArg List.length h
  rw [List.length_drop, List.length_append, bitsOf_length] at hl
  have hle : i + m ≤ L.length := by omega
  refine ⟨?_, ?_, ?_, h2, hle⟩
  · unfold getErr; rw [if_neg (by omega), if_neg (by omega)]
  · unfold getVal; rw [if_neg (by omega), Int.toNat_natCast, h1, valOf_bitsOf, Nat.mod_eq_of_lt hx]
  · unfold getAt; rw [if_neg (by omega), Int.toNat_natCast]

/-- A code that stands ahead is read as its number. -/
theorem egT_code {L T : List Bool} {i v n : Nat} (h1 : 1 ≤ n) (hn : n ≤ 1099511627776) (hv : v < n) (h : L.drop i = codeE v n ++ T) (hi : i ≤ L.length) : egT L i n = (v, 0, i + costE v n) := by
  obtain ⟨hf1, hf2, hf3⟩ := eS_fits h1 hn hv
  obtain ⟨hb, hnb⟩ := eB_le n h1 hn
  rw [egT]
  by_cases h0 : eB n = 0
  · have e1 : n = 1 := by rw [h0] at hnb; omega
    subst e1
    obtain rfl : v = 0 := by omega
    rw [if_pos h0]
    rfl
  rw [if_neg h0]
  have hm : ((eB n : Int) - 1) = ((eB n - 1 : Nat) : Int) := by omega
  rw [hm]
  by_cases hlt : v < eS n
  · unfold codeE at h
    rw [if_pos hlt] at h
    obtain ⟨g1, g2, g3, _, _⟩ := get_seg h (hf1 hlt).2 (by omega) hi
    rw [g1, g2, g3, if_neg (by simp), if_pos hlt]
    unfold costE
    rw [if_pos hlt]
  · unfold codeE at h
    have hbb : eB n = (eB n - 1) + 1 := by omega
    rw [if_neg hlt, hbb, bitsOf_add, List.append_assoc] at h
    have e2 : 2 ^ eB n = 2 * 2 ^ (eB n - 1) := by
      rw [show 2 * 2 ^ (eB n - 1) = 2 ^ (eB n - 1 + 1) from by rw [Nat.pow_succ]; omega, ← hbb]
    have hxl : (v + eS n) / 2 ^ 1 < 2 ^ (eB n - 1) := by omega
    obtain ⟨g1, g2, g3, g4, g5⟩ := get_seg h hxl (by omega) hi
    rw [← bitsOf_mod (v + eS n) 1 1 (Nat.le_refl _)] at g4
    obtain ⟨k1, k2, k3, _, _⟩ := get_seg g4 (by omega) (by omega) g5
    rw [show ((1 : Nat) : Int) = 1 from rfl] at k1 k2 k3
    rw [g1, g2, g3, k1, k2, k3, if_neg (by simp), if_neg (by omega), if_neg (by simp)]
    unfold costE
    rw [if_neg hlt, show i + (eB n - 1) + 1 = i + eB n by omega, show 2 * ((v + eS n) / 2 ^ 1) + (v + eS n) % 2 ^ 1 - eS n = v by omega]

theorem eputone_ok (p : Nat) (u : Value) (L : List Bool) (v n : Nat) (w : World) (hw : Wr w p u L) (hL : L.length ≤ 1000000000) (hv : v < n) (hk : spanB n = true) :
    Calls Try.prog 33 #[.pointer (some ⟨p, 0, none⟩), .int .u64 (v : Int), .int .u64 (n : Int)] w fun e w' => e = .returned (.int .i64 0) ∧ WI w p u (L ++ codeE v n) w' := by
  have hs := (spanB_iff n).1 hk
  have hb := (Below.refl _ w).alloc (Nat.le_refl _) (.cells #[.int .u64 (v : Int)] 22)
  have HP := eputall_ok p u L (.slice (some ⟨w.heap.size, 0, none⟩) 1 1) [v] n _ (hw.below hb) hL (blk_slU (xs := [v]) (Blk.new w 22 #[.int .u64 (v : Int)]) (by simp)) (by intro x hx; simp at hx; omega) (by simp) (fun _ g hg => by
    simp [Value.ownBlock] at hg
    subst hg
    exact ⟨fun hf => by have := hw.footlt hf; omega, by simp⟩) hk (by simp [belowB, hv])
  rw [show codesE [v] n = codeE v n by simp [codesE]] at HP
  have HB := hid hb
  replace HP := hid HP
  clear hw hb
  go_enter Try.func33, Try.ntmps33
  go_wp2_with fail
  with_reducible refine HP.out.mono ?_
  rintro e w1 ⟨rfl, hw1⟩
  have H1 := hid hw1
  clear hw1
  go_wp2_with fail
  go_ret
  exact ⟨rfl, H1.out.after_below HB.out⟩
theorem eputone_bad (p v n : Nat) (w : World) (hvv : v < 18446744073709551616) (h : ¬ (spanB n = true ∧ v < n)) :
    Calls Try.prog 33 #[.pointer (some ⟨p, 0, none⟩), .int .u64 (v : Int), .int .u64 (n : Int)] w fun e w' => e = .returned (.int .i64 (if spanB n = true then 3 else 1)) ∧ Below w.heap.size w w' := by
  have hb := (Below.refl _ w).alloc (Nat.le_refl _) (.cells #[.int .u64 (v : Int)] 22)
  have HP := eputall_bad p (.slice (some ⟨w.heap.size, 0, none⟩) 1 1) [v] n _ (blk_slU (xs := [v]) (Blk.new w 22 #[.int .u64 (v : Int)]) (by simp)) (by intro x hx; simp at hx; omega) (by simpa [belowB] using h)
  have e : ePErr [v] n = if spanB n = true then 3 else 1 := by
    unfold ePErr
    split
    · have : ¬ v < n := fun hc => h ⟨by assumption, hc⟩
      rw [if_neg (by simpa [belowB] using this)]
    · rfl
  rw [e] at HP
  have HB := hid hb
  replace HP := hid HP
  clear hb e
  obtain ⟨x, hx⟩ : ∃ x : Int, (if spanB n = true then 3 else 1) = x := ⟨_, rfl⟩
  rw [hx] at HP ⊢
  clear hx
  go_enter Try.func33, Try.ntmps33
  go_wp2_with fail
  with_reducible refine HP.out.mono ?_
  rintro e w1 ⟨rfl, hw1⟩
  have H1 := hid hw1
  clear hw1
  go_wp2_with fail
  go_ret
  exact ⟨rfl, HB.out.trans (H1.out.mono (by simp))⟩

namespace evenOnes
set_option maxRecDepth 100000 in
set_option maxHeartbeats 1600000 in
theorem walk_bad (v n : Nat) (w : World) (hv : v < 18446744073709551616) (h : ¬ (spanB n = true ∧ v < n)) :
    Calls Try.prog 6 #[.int .u64 (v : Int), .int .u64 (n : Int)] w fun e w' => e = .returned (.bool true) ∧ Below w.heap.size w w' := by
  have HP := hid (fun p W => eputone_bad p v n W hv h)
  have HS := hid (fun W => refspan_any n W)
  have HC := hid (fun W => eCost_any v n W)
  rw [show costF v n = 0 by unfold costF; rw [if_neg h]] at HC
  have HH := hid h
  obtain ⟨b, hb⟩ : ∃ b, spanB n = b := ⟨_, rfl⟩
  rw [hb] at HP HS HH
  clear hb h
  have HB := hid ((Below.refl _ w).alloc (Nat.le_refl _) (.cells #[.slice none 0 0, .int .u8 0, .int .i64 0] 33))
  cases b
  · simp only [Bool.false_eq_true, if_false] at HP
    go_enter Try.func6, Try.ntmps6
    go_wp2_with fail
    with_reducible refine (HP.out _ _).mono ?_
    rintro e w1 ⟨rfl, hb1⟩
    have H1 := hid (HB.out.trans (hb1.mono (by simp)))
    clear hb1
    go_wp2_with fail
    with_reducible refine (HS.out _).mono ?_
    rintro e w2 ⟨rfl, rfl⟩
    go_wp2_with fail
    with_reducible refine (HS.out _).mono ?_
    rintro e w2 ⟨rfl, rfl⟩
    go_wp2_with fail
    with_reducible refine (HS.out _).mono ?_
    rintro e w2 ⟨rfl, rfl⟩
    go_wp2_with fail
    with_reducible refine (HC.out _).mono ?_
    rintro e w2 ⟨rfl, m, rfl⟩
    have H2 := hid (below_drewN' H1.out m)
    go_wp2_with fail
    with_reducible refine (known08 _).mono ?_
    rintro e w3 ⟨rfl, hbb⟩
    have H3 := hid (H2.out.trans (hbb.mono H2.out.size))
    clear hbb
    go_wp2_with fail
    go_ret
    exact ⟨rfl, H3.out⟩
  · simp only [if_true] at HP
    have hnv : ¬ v < n := fun hc => HH.out ⟨by simp, hc⟩
    have hnv' : (n : Int) ≤ v := by omega
    go_enter Try.func6, Try.ntmps6
    go_wp2_with fail
    with_reducible refine (HP.out _ _).mono ?_
    rintro e w1 ⟨rfl, hb1⟩
    have H1 := hid (HB.out.trans (hb1.mono (by simp)))
    clear hb1
    go_wp2_with fail
    with_reducible refine (HS.out _).mono ?_
    rintro e w2 ⟨rfl, rfl⟩
    go_wp2_with fail
    with_reducible refine (HS.out _).mono ?_
    rintro e w2 ⟨rfl, rfl⟩
    go_wp2_with fail
    with_reducible refine (HC.out _).mono ?_
    rintro e w2 ⟨rfl, m, rfl⟩
    have H2 := hid (below_drewN' H1.out m)
    go_wp2_with fail
    with_reducible refine (known08 _).mono ?_
    rintro e w3 ⟨rfl, hbb⟩
    have H3 := hid (H2.out.trans (hbb.mono H2.out.size))
    clear hbb
    go_wp2_with fail
    go_ret
    exact ⟨rfl, H3.out⟩

theorem cost_ends {n : Nat} (h : spanB n = true) : ∃ a b : Nat, costF 0 n = a ∧ costF (n - 1) n = b ∧ a ≤ b ∧ b ≤ a + 1 ∧ b ≤ 40 := by
  obtain ⟨h1, hn⟩ := (spanB_iff n).1 h
  have hb := (eB_le n h1 hn).1
  refine ⟨_, _, rfl, rfl, ?_⟩
  have e1 : costF 0 n = costE 0 n := by unfold costF; rw [if_pos ⟨h, by omega⟩]
  have e2 : costF (n - 1) n = costE (n - 1) n := by unfold costF; rw [if_pos ⟨h, by omega⟩]
  rw [e1, e2]
  unfold costE
  split <;> split <;> omega

set_option maxRecDepth 100000 in
set_option maxHeartbeats 4000000 in
theorem walk_ok (v n : Nat) (w : World) (hv : v < n) (hk : spanB n = true) :
    Calls Try.prog 6 #[.int .u64 (v : Int), .int .u64 (n : Int)] w fun e w' => e = .returned (.bool true) ∧ Below w.heap.size w w' := by
  obtain ⟨h1, hn⟩ := (spanB_iff n).1 hk
  have hnv : ¬ (n : Int) ≤ v := by omega
  have HP := hid (fun p u W (h : Wr W p u []) => eputone_ok p u [] v n W h (by simp) hv hk)
  have HS := hid (fun W => refspan_any n W)
  have HC := hid (fun W => eCost_any v n W)
  have HCD := hid (fun W => refcode08_any v n W)
  have hcv : costF v n = costE v n := by unfold costF; rw [if_pos ⟨hk, hv⟩]
  have hcl := costE_le v h1 hn
  have HG := hid (fun W p u F (h : Rd W p u F 0) (hf : flat F = padded (codeE v n)) => by
    have hg := eget_any W p u F 0 n h hk
    rw [hf, egT_code (T := List.replicate ((8 - (codeE v n).length % 8) % 8) false) h1 hn hv (by rw [List.drop_zero]; rfl) (Nat.zero_le _), Nat.zero_add] at hg
    exact hg)
  obtain ⟨a, b, ha, hbb, hab1, hab2, hb40⟩ := cost_ends hk
  have HA := hid (fun W => eCost_any 0 n W)
  have HB := hid (fun W => eCost_any (n - 1) n W)
  rw [ha, show ((0 : Nat) : Int) = 0 from rfl] at HA
  rw [hbb, show ((n - 1 : Nat) : Int) = (n : Int) - 1 by omega] at HB
  have HL := hid (codeE_length v n)
  rw [hcv] at HC HCD
  rw [hk] at HS
  obtain ⟨cst, hcst⟩ : ∃ cst, costE v n = cst := ⟨_, rfl⟩
  rw [hcst] at HC HCD hcl HG HL
  obtain ⟨B, hB⟩ : ∃ B, codeE v n = B := ⟨_, rfl⟩
  rw [hB, List.nil_append] at HP
  rw [hB] at HG HL
  have hW0 := hid (And.intro (Wr.new w) ((Below.refl _ w).alloc (Nat.le_refl _) (.cells #[.slice none 0 0, .int .u8 0, .int .i64 0] 33)))
  clear hv hk ha hbb hcv hcst hB
  have hcc : ((cst : Int) == (cst : Int)) = true := by simp
  have hvv : ((v : Int) == (v : Int)) = true := by simp
  have hd1 : ¬ ((b : Int) - a < 0) := by omega
  have hd2 : ¬ (1 < (b : Int) - a) := by omega
  go_enter Try.func6, Try.ntmps6
  go_wp2_with fail
  with_reducible refine (HP.out _ _ _ hW0.out.1).mono ?_
  rintro e w1 ⟨rfl, hw⟩
  obtain ⟨u1, g1, hm1, hk1⟩ := hw
  have H1 := hid (And.intro g1 (show Below w.heap.size w w1 from Kept.after hW0.out.2 (Nat.le_refl _) hk1 fun i hi => by rw [foot_nil hi]; exact Nat.le_refl _))
  clear g1 hm1 hk1
  go_wp2_with fail
  with_reducible refine (HS.out _).mono ?_
  rintro e w2 ⟨rfl, rfl⟩
  go_wp2_with fail
  with_reducible refine (bytes_any w1 _ u1 B H1.out.1 (by have := HL.out; omega)).mono ?_
  rintro e w2 ⟨F, A, c, rfl, hf, hfl, hby⟩
  have H2 := hid (And.intro (H1.out.1.below hf.2.1) (And.intro (H1.out.2.trans (hf.2.1.mono H1.out.2.size)) (And.intro (Sl.of_own hf.1) (And.intro hfl hby))))
  clear hf hfl hby
  go_wp2_with fail
  have hFl : F.length ≤ 100 := by
    have := congrArg List.length H2.out.2.2.2.1
    rw [flat_length] at this
    unfold padded at this
    rw [List.length_append, List.length_replicate, HL.out] at this
    omega
  with_reducible refine (read_any w2 _ F H2.out.2.2.1 (by omega) H2.out.2.2.2.2).mono ?_
  rintro e w3 ⟨q, vq, rfl, hrd, hb3, hq, hvq⟩
  have H3 := hid (And.intro (H2.out.1.below hb3) (And.intro (H2.out.2.1.trans (hb3.mono H2.out.2.1.size)) (And.intro hrd (show w2.heap.size ≤ q ∧ w.heap.size ≤ q from ⟨hq, Nat.le_trans H2.out.2.1.size hq⟩))))
  clear hrd hb3 hq hvq
  go_wp2_with fail
  with_reducible refine (HG.out w3 q vq F H3.out.2.2.1 H2.out.2.2.2.1).mono ?_
  rintro e w4 ⟨rfl, hri⟩
  have H4 := hid (And.intro (H3.out.1.keep hri.2 (fun k hk e => by have := H2.out.1.footlt hk; have := H3.out.2.2.2.1; omega)) (show Below w.heap.size w w4 from Kept.after H3.out.2.1 (Nat.le_refl _) hri.2 fun i hi => by have := H3.out.2.2.2.2; omega))
  clear hri
  go_wp2_with fail
  with_reducible refine (HA.out _).mono ?_
  rintro e w5 ⟨rfl, m5, hw5⟩
  have H5 := hid (show Wr w5 w.heap.size u1 B ∧ Below w.heap.size w w5 by rw [hw5]; exact And.intro (H4.out.1.drewN m5) (below_drewN' H4.out.2 m5))
  clear hw5
  go_wp2_with fail
  with_reducible refine (HB.out _).mono ?_
  rintro e w6 ⟨rfl, m6, hw6⟩
  have H6 := hid (show Wr w6 w.heap.size u1 B ∧ Below w.heap.size w w6 by rw [hw6]; exact And.intro (H5.out.1.drewN m6) (below_drewN' H5.out.2 m6))
  clear hw6
  go_wp2_with fail
  with_reducible refine (HC.out _).mono ?_
  rintro e w7 ⟨rfl, m7, hw7⟩
  have H7 := hid (show Wr w7 w.heap.size u1 B ∧ Below w.heap.size w w7 by rw [hw7]; exact And.intro (H6.out.1.drewN m7) (below_drewN' H6.out.2 m7))
  clear hw7
  go_wp2_with fail
  with_reducible refine (HCD.out _).mono ?_
  rintro e w8 ⟨A8, c8, rfl, hf8⟩
  have H8 := hid (And.intro (H7.out.1.below hf8.bel) (H7.out.2.trans (hf8.bel.mono H7.out.2.size)))
  clear hf8
  go_wp2_with fail
  have HLN := len_any w8 _ u1 _ H8.out.1 (by have := HL.out; omega)
  rw [HL.out] at HLN
  with_reducible refine HLN.mono ?_
  clear HLN
  rintro e w9 ⟨rfl, m9, hw9⟩
  have H9 := hid (show Wr w9 w.heap.size u1 B ∧ Below w.heap.size w w9 by rw [hw9]; exact And.intro (H8.out.1.drewN m9) (below_drewN' H8.out.2 m9))
  clear hw9
  go_wp2_with fail
  with_reducible refine (HC.out _).mono ?_
  rintro e w10 ⟨rfl, m10, hw10⟩
  have H10 := hid (show Below w.heap.size w w10 by rw [hw10]; exact below_drewN' H9.out.2 m10)
  clear hw10
  go_wp2_with fail
  with_reducible refine (known08 _).mono ?_
  rintro e w11 ⟨rfl, hbb⟩
  have H11 := hid (H10.out.trans (hbb.mono H10.out.size))
  clear hbb
  go_wp2_with fail
  go_ret
  exact ⟨rfl, H11.out⟩

theorem walk {v n : Nat} {w : World} (hv : v < 18446744073709551616) :
    Calls Try.prog 6 #[.int .u64 (v : Int), .int .u64 (n : Int)] w fun e w' => e = .returned (.bool true) ∧ Below w.heap.size w w' := by
  by_cases h : spanB n = true ∧ v < n
  · exact walk_ok v n w h.2 h.1
  · exact walk_bad v n w hv h
end evenOnes
end Go.Proofs.Ytgjiffpiffphfaa
