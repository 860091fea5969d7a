/- The walk of CorrBack. -/
import Derived.Test.YtjboboaccjbebaaGreatMgH
import Derived.Test.YtjboboaccjbebaaGreatMgJ
import Derived.Test.YtjboboaccjbebaaGreatMgI

namespace Go.Proofs.YtjboboaccjbebaaGreat
open Go.RowKit
theorem i64_and127 (n : Int) : bits .and .i64 n 127 = n % 128 := by
  have h1 : (BitVec.ofInt 64 127).toNat = 2 ^ 7 - 1 := by decide
  have key : (BitVec.ofInt 64 n &&& BitVec.ofInt 64 127).toNat = (n % ((2 ^ 64 : Nat) : Int)).toNat % 2 ^ 7 := by
    rw [BitVec.toNat_and, BitVec.toNat_ofInt, h1, Nat.and_two_pow_sub_one_eq_mod]
  show IntKind.i64.wrap ((BitVec.ofInt 64 n &&& BitVec.ofInt 64 127).toNat : Nat) = n % 128
  rw [key, IntKind.wrap_i64]
  omega
theorem refE_small {xs : List Int} {b : Int} (h : refE xs b = 0) (hm : xs.length ≤ 120) : (codeB b.toNat xs).length ≤ 5000 := by
  obtain ⟨q, rfl, hb, hn, hw⟩ := refE_zero h
  rw [Int.toNat_natCast, codeB_length (within_may hb hn hw)]
  have := evenC_le hb hw
  omega
theorem zeros_cost (m : Nat) (hm : m ≤ 127) : refE (List.replicate m 0) ((0 : Nat) : Int) = 0 ∧ corrC (List.replicate m 0) ((0 : Nat) : Int) = 1 := by
  have hwi : withinB 0 (List.replicate m 0) = true := by
    unfold withinB
    rw [List.all_eq_true]
    intro x hx
    rw [List.mem_replicate] at hx
    rw [hx.2]
    decide
  have h0 : refE (List.replicate m 0) ((0 : Nat) : Int) = 0 := by
    unfold refE
    rw [if_pos ((boundB_iff _).2 (by omega)), if_neg (by rw [List.length_replicate]; omega), Int.toNat_natCast, if_pos hwi]
  have he : evenC 0 (List.replicate m 0) = [] := by
    unfold evenC codesE liftN
    induction m with
    | zero => rfl
    | succ m ih =>
      rw [List.replicate_succ, List.map_cons, List.flatMap_cons]
      have := ih (by omega) (by
        unfold withinB
        rw [List.all_eq_true]
        intro x hx
        rw [List.mem_replicate] at hx
        rw [hx.2]
        decide) (by
        unfold refE
        rw [if_pos ((boundB_iff _).2 (by omega)), if_neg (by rw [List.length_replicate]; omega), Int.toNat_natCast, if_pos (by
          unfold withinB
          rw [List.all_eq_true]
          intro x hx
          rw [List.mem_replicate] at hx
          rw [hx.2]
          decide)])
      rw [this, List.append_nil]
      rfl
  refine ⟨h0, ?_⟩
  unfold corrC
  rw [if_pos h0, Int.toNat_natCast]
  unfold codeB
  rw [he, if_neg (by simp)]
  rfl
namespace corrBack
set_option maxRecDepth 100000 in
set_option maxHeartbeats 4000000 in
theorem walk_long (A : Option Addr) (c : Nat) (xs : List Int) (k n : Int) (w : World) (h1 : 120 < xs.length) :
    Calls Tryz.prog 4 #[.slice A xs.length c, .int .i64 k, .int .i64 n] w fun e w' => e = .returned (.bool true) ∧ Below w.heap.size w w' := by
  have h1' : (120 : Int) < xs.length := by omega
  go_enter Tryz.func4, Tryz.ntmps4
  go_wp2_with fail
  with_reducible refine (known21 _).mono ?_
  rintro e w1 ⟨rfl, hb⟩
  replace hb := hid hb
  go_wp2_with fail
  go_ret
  exact ⟨rfl, hb.out⟩

/-- What comes ahead of the writer: so many noughts cost one bit. -/
theorem cost0 (m : Nat) (hm : m ≤ 127) (w : World) : Calls Tryz.prog 7 #[.slice (some ⟨w.heap.size, 0, none⟩) m m, .int .i64 0] (w.alloc (.cells (madeCells #[.int .i64 0] m) 3)) fun e w' => e = .returned (.tuple #[.int .i64 1, .int .i64 0]) ∧ Below w.heap.size w w' := by
  have hB := Blk.new w 3 (madeCells #[.int .i64 0] m)
  have hB2 : Blk (w.alloc (.cells (madeCells #[.int .i64 0] m) 3)) w.heap.size 3 (i64s (List.replicate m 0)).toArray := by rw [← made_zero]; exact hB
  have hs := Sl.of_own (blk_ownI hB2 List.length_replicate (by omega))
  have hb := (Below.refl w.heap.size w).alloc (Nat.le_refl _) (.cells (madeCells #[.int .i64 0] m) 3)
  obtain ⟨e1, e2⟩ := zeros_cost m hm
  refine (corrCost_any _ (List.replicate m 0) ((0 : Nat) : Int) _ hs (fun x hx => by rw [List.mem_replicate] at hx; rw [hx.2]; omega)).mono ?_
  rintro e w' ⟨rfl, hb2⟩
  rw [e1, e2]
  exact ⟨rfl, hb.trans (hb2.mono hb.size)⟩

set_option maxRecDepth 100000 in
set_option maxHeartbeats 4000000 in
theorem walk_bad (l : Value) (xs : List Int) (k n : Int) (w : World) (hl : Sl w l (i64s xs)) (hm : xs.length ≤ 120) (hr : refE xs k ≠ 0) :
    Calls Tryz.prog 4 #[l, .int .i64 k, .int .i64 n] w fun e w' => e = .returned (.bool true) ∧ Below w.heap.size w w' := by
  obtain ⟨A, c, rfl, _⟩ := i64s_form hl
  have h1' : ¬ (120 : Int) < xs.length := by omega
  obtain ⟨m, hmn⟩ : ∃ m : Nat, n % 128 = (m : Int) := ⟨(n % 128).toNat, by omega⟩
  have hm127 : m ≤ 127 := by omega
  have hand : bits .and .i64 n 127 = (m : Int) := by rw [i64_and127, hmn]
  have hmk := fun W => make_int m (by omega) W
  have HC0 := hid (cost0 m hm127 w)
  have HP := hid (fun p W (h : Sl W (.slice A xs.length c) (i64s xs)) => corrPut_bad p (.slice A xs.length c) xs k W h hr)
  have H := hid hl
  obtain ⟨x, hxx⟩ : ∃ x, refE xs k = x := ⟨_, rfl⟩
  simp only [hxx] at HP
  rw [hxx] at hr
  have hne : (x != 0) = true := by rw [bne_iff_ne]; exact hr
  clear hxx hl hr hmn
  go_enter Tryz.func4, Tryz.ntmps4
  go_wp2_with fail
  with_reducible refine HC0.out.mono ?_
  rintro e w0 ⟨rfl, hb0⟩
  have H0 := hid (And.intro hb0 (EWI.new (H.out.below hb0)))
  clear hb0 hmk
  go_wp2_with fail
  with_reducible refine (HP.out _ _ H0.out.2.sl).mono ?_
  rintro e w1 ⟨rfl, hb1⟩
  have H1 := hid (H0.out.2.later hb1)
  clear hb1
  go_wp2_with fail
  with_reducible refine (H1.out.len (by simp)).mono ?_
  rintro e w3 ⟨rfl, hb3⟩
  have H3 := hid (H1.out.later hb3)
  clear hb3
  go_wp2_with fail
  with_reducible refine (known21 _).mono ?_
  rintro e w5 ⟨rfl, hbb⟩
  have H5 := hid (H3.out.later hbb)
  clear hbb
  go_wp2_with fail
  go_ret
  exact ⟨rfl, H0.out.1.trans (H5.out.bel.mono H0.out.1.size)⟩

set_option maxRecDepth 100000 in
set_option maxHeartbeats 8000000 in
theorem walk_main (l : Value) (xs : List Int) (k : Nat) (n : Int) (w : World) (hl : Sl w l (i64s xs)) (hx : InI xs) (hm : xs.length ≤ 120) (hr : refE xs (k : Int) = 0) :
    Calls Tryz.prog 4 #[l, .int .i64 (k : Int), .int .i64 n] w fun e w' => e = .returned (.bool true) ∧ Below w.heap.size w w' := by
  obtain ⟨A, c, rfl, _⟩ := i64s_form hl
  have h1' : ¬ (120 : Int) < xs.length := by omega
  obtain ⟨m, hmn⟩ : ∃ m : Nat, n % 128 = (m : Int) := ⟨(n % 128).toNat, by omega⟩
  have hm127 : m ≤ 127 := by omega
  have hand : bits .and .i64 n 127 = (m : Int) := by rw [i64_and127, hmn]
  have hmk := fun W => make_int m (by omega) W
  have HC0 := hid (cost0 m hm127 w)
  have HP := hid (fun p u W W0 (h : EWI W0 p u (.slice A xs.length c) xs [] W) => corrPut_ok p u [] (.slice A xs.length c) xs k W h.ww (by simp) h.sl hx h.apart hr)
  have HCO := hid (fun W (h : Sl W (.slice A xs.length c) (i64s xs)) => corrCost_any (.slice A xs.length c) xs (k : Int) W h hx)
  rw [show corrC xs (k : Int) = (codeB k xs).length from by unfold corrC; rw [if_pos hr, Int.toNat_natCast], hr] at HCO
  have HGA : Hid (∀ (W : World) (q : Nat) (v : Value) (F1 : List Nat), Rd W q v F1 0 → flat F1 = padded (codeB k xs) → (∀ g, v.ownBlock = some g → g < W.heap.size) →
      Calls Tryz.prog 14 #[.pointer (some ⟨q, 0, none⟩), .int .i64 (xs.length : Int), .int .i64 (k : Int)] W fun e w' => ∃ A c, e = .returned (.tuple #[.slice A xs.length c, .int .i64 0]) ∧ GI (fun w' j => Rd w' q v F1 j) W q (codeB k xs).length xs (.slice A xs.length c) w') := by
    intro W q v F1 h hf hv
    exact corrGet_ok W q v F1 k xs _ h hf hr hv
  have hcl2 := refE_small hr (by omega)
  rw [Int.toNat_natCast] at hcl2
  obtain ⟨B, hB⟩ : ∃ B, codeB k xs = B := ⟨_, rfl⟩
  rw [hB] at hcl2
  simp only [hB, List.nil_append] at HP HGA HCO
  have H := hid hl
  clear hl hx hB hr hmn
  have hbb : ((B.length : Int) == (B.length : Int)) = true := by simp
  go_enter Tryz.func4, Tryz.ntmps4
  go_wp2_with fail
  with_reducible refine HC0.out.mono ?_
  rintro e w0 ⟨rfl, hb0⟩
  have H0 := hid (And.intro hb0 (EWI.new (H.out.below hb0)))
  clear hb0 hmk
  go_wp2_with fail
  with_reducible refine (HP.out _ _ _ _ H0.out.2).mono ?_
  rintro e w1 ⟨rfl, hw1⟩
  obtain ⟨u, h1⟩ := H0.out.2.step hw1
  have H1 := hid h1
  clear hw1 h1
  go_wp2_with fail
  with_reducible refine (bytes_any w1 _ u B H1.out.ww (by omega)).mono ?_
  rintro e w2 ⟨F1, A2, c2, rfl, hf, hfl, hby⟩
  have hlen : F1.length ≤ 200000 := by
    have h := congrArg List.length hfl
    rw [flat_length] at h
    unfold padded at h
    rw [List.length_append, List.length_replicate] at h
    omega
  have H2 := hid (And.intro (H1.out.later hf.2.1) (And.intro (Sl.of_own hf.1) (And.intro hfl hby)))
  clear hf hfl hby
  go_wp2_with fail
  with_reducible refine (read_any w2 _ F1 H2.out.2.1 (by omega) H2.out.2.2.2).mono ?_
  rintro e w3 ⟨q, vq, rfl, hrd, hb3, hq, hvq⟩
  have H4 := hid (And.intro (H2.out.1.later hb3) (And.intro hrd (And.intro hq (And.intro (fun g (hg : vq.ownBlock = some g) => Nat.lt_trans (hvq g hg).2 hrd.blk.lt) (show ¬ Foot w0.heap.size u q from fun hf => by have := H2.out.1.ww.footlt hf; omega)))))
  clear hrd hb3 hq hvq
  go_wp2_with fail
  with_reducible refine (HGA.out w3 q vq F1 H4.out.2.1 H2.out.2.2.1 H4.out.2.2.2.1).mono ?_
  rintro e w4 ⟨A4, c4, rfl, hg4⟩
  have H5 := hid (And.intro (H4.out.1.kept hg4.kp (Nat.le_trans H2.out.1.bel.size H4.out.2.2.1) H4.out.2.2.2.2) (And.intro hg4.rd (Sl.of_own hg4.own)))
  clear hg4
  go_wp2_with fail
  with_reducible refine (HCO.out _ H5.out.1.sl).mono ?_
  rintro e w9 ⟨rfl, hb9⟩
  have H9 := hid (And.intro (H5.out.1.later hb9) (And.intro (H5.out.2.1.below hb9) (H5.out.2.2.below hb9)))
  clear hb9
  go_wp2_with fail
  with_reducible refine (ints_any _ _ xs xs _ H9.out.1.sl H9.out.2.2).mono ?_
  rintro e w5 ⟨he5, n5, hw5⟩
  rw [decide_eq_true rfl] at he5
  subst he5
  have H6 := hid (And.intro (H9.out.1.later (w1 := w5) (hw5 ▸ below_drewN' (.refl _ _) n5)) (H9.out.2.1.below (w' := w5) (hw5 ▸ below_drewN' (.refl _ _) n5)))
  clear hw5
  go_wp2_with fail
  with_reducible refine (at_any _ _ _ _ _ H6.out.2).mono ?_
  rintro e w6 ⟨rfl, rfl⟩
  go_wp2_with fail
  with_reducible refine (H6.out.1.len (by omega)).mono ?_
  rintro e w7 ⟨rfl, hb7⟩
  have H7 := hid (H6.out.1.later hb7)
  clear hb7
  go_wp2_with fail
  with_reducible refine (H7.out.len (by omega)).mono ?_
  rintro e w8 ⟨rfl, hb8⟩
  have H8 := hid (H7.out.later hb8)
  clear hb8
  go_wp2_with fail
  with_reducible refine (known21 _).mono ?_
  rintro e w10 ⟨rfl, hb10⟩
  have H10 := hid (H8.out.later hb10)
  clear hb10
  go_wp2_with fail
  go_ret
  exact ⟨rfl, H0.out.1.trans (H10.out.bel.mono H0.out.1.size)⟩

theorem walk {l : Value} {xs : List Int} {k n : Int} {w : World} (hl : Sl w l (i64s xs)) (hx : InI xs) :
    Calls Tryz.prog 4 #[l, .int .i64 k, .int .i64 n] w fun e w' => e = .returned (.bool true) ∧ Below w.heap.size w w' := by
  by_cases h : 120 < xs.length
  · obtain ⟨A, c, rfl, _⟩ := i64s_form hl
    exact walk_long A c xs k n w h
  by_cases hr : refE xs k = 0
  · obtain ⟨q, rfl, _⟩ := refE_zero hr
    exact walk_main l xs q n w hl hx (by omega) hr
  · exact walk_bad l xs k n w hl (by omega) hr
end corrBack
end Go.Proofs.YtjboboaccjbebaaGreat
