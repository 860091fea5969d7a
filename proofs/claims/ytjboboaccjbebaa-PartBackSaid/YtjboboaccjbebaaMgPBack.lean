/- The walk of PartBack. -/
import Derived.Test.YtjboboaccjbebaaMgH
import Derived.Test.YtjboboaccjbebaaMgG
import Derived.Test.YtjboboaccjbebaaMgE

namespace Go.Proofs.Ytjboboaccjbebaa
open Go.RowKit
theorem pput_ne {xs : List Int} {k : Int} (h : pPutErr xs k = 0) : codedB xs = true ∧ orderB xs.length k = true := by
  unfold pPutErr at h
  split at h
  · cases h
  · split at h
    · rename_i h1
      split at h
      · exact ⟨h1, by assumption⟩
      · cases h
    · cases h
namespace partBack
set_option maxRecDepth 100000 in
set_option maxHeartbeats 4000000 in
theorem walk_long (A : Option Addr) (c : Nat) (xs : List Int) (k : Int) (w : World) (h1 : 200 < xs.length) :
    Calls Try.prog 15 #[.slice A xs.length c, .int .i64 k] w fun e w' => e = .returned (.bool true) ∧ Below w.heap.size w w' := by
  have h1' : (200 : Int) < xs.length := by omega
  go_enter Try.func15, Try.ntmps15
  go_wp2_with fail
  with_reducible refine (known09 _).mono ?_
  rintro e w1 ⟨rfl, hb⟩
  replace hb := hid hb
  go_wp2_with fail
  go_ret
  exact ⟨rfl, hb.out⟩

set_option maxRecDepth 100000 in
set_option maxHeartbeats 4000000 in
theorem walk_bad (l : Value) (xs : List Int) (k : Int) (w : World) (hl : Sl w l (i64s xs)) (hx : InI xs) (hm : xs.length ≤ 200) (hr : pPutErr xs k ≠ 0) :
    Calls Try.prog 15 #[l, .int .i64 k] w fun e w' => e = .returned (.bool true) ∧ Below w.heap.size w w' := by
  obtain ⟨A, c, rfl, _⟩ := i64s_form hl
  have h1' : ¬ (200 : Int) < xs.length := by omega
  have H0 := hid (EWI.new hl)
  have HP := hid (fun p W (h : Sl W (.slice A xs.length c) (i64s xs)) => pPut_bad p (.slice A xs.length c) xs k W h hx hr)
  obtain ⟨x, hxx⟩ : ∃ x, pPutErr xs k = x := ⟨_, rfl⟩
  rw [hxx] at HP hr
  have hne : (x != 0) = true := by rw [bne_iff_ne]; exact hr
  clear hxx hl hx hr
  go_enter Try.func15, Try.ntmps15
  go_wp2_with fail
  with_reducible refine (HP.out _ _ H0.out.sl).mono ?_
  rintro e w1 ⟨rfl, hb1⟩
  have H1 := hid (H0.out.later hb1)
  clear hb1
  go_wp2_with fail
  with_reducible refine (H1.out.len (by simp)).mono ?_
  rintro e w3 ⟨rfl, hb3⟩
  have H3 := hid (H1.out.later hb3)
  clear hb3
  go_wp2_with fail
  with_reducible refine (known09 _).mono ?_
  rintro e w5 ⟨rfl, hbb⟩
  have H5 := hid (H3.out.later hbb)
  clear hbb
  go_wp2_with fail
  go_ret
  exact ⟨rfl, H5.out.bel⟩

set_option maxRecDepth 100000 in
set_option maxHeartbeats 8000000 in
theorem walk_main (l : Value) (xs : List Int) (k : Nat) (w : World) (hl : Sl w l (i64s xs)) (hx : InI xs) (hm : xs.length ≤ 200) (hk : orderB xs.length (k : Int) = true) (hcd : codedB xs = true) :
    Calls Try.prog 15 #[l, .int .i64 (k : Int)] w fun e w' => e = .returned (.bool true) ∧ Below w.heap.size w w' := by
  obtain ⟨A, c, rfl, _⟩ := i64s_form hl
  have h1' : ¬ (200 : Int) < xs.length := by omega
  have hk6 : k ≤ 6 := by
    obtain ⟨q, e, h⟩ := orderB_nat hk
    omega
  have H0 := hid (EWI.new hl)
  have HP := hid (fun p u W (h : EWI w p u (.slice A xs.length c) xs [] W) => pPut_ok p u [] (.slice A xs.length c) xs k W h.ww (by simp) h.sl hx (by omega) h.apart hcd hk)
  have HCO := hid (fun W (h : Sl W (.slice A xs.length c) (i64s xs)) => pCost_any (.slice A xs.length c) xs (k : Int) W h hx)
  rw [show costW xs (k : Int) = (wholeC xs k).length from by unfold costW; rw [Int.toNat_natCast, if_pos ⟨by rw [mayL_coded (by omega)]; exact hcd, hk⟩, wholeC_length hcd]] at HCO
  have HGA : Hid (∀ (W : World) (q : Nat) (v : Value) (F1 : List Nat), Rd W q v F1 0 → flat F1 = padded (wholeC xs k) → (∀ g, v.ownBlock = some g → g < W.heap.size) →
      Calls Try.prog 57 #[.pointer (some ⟨q, 0, none⟩), .int .i64 (xs.length : Int)] W fun e w' => ∃ A c, e = .returned (.tuple #[.slice A xs.length c, .int .i64 (k : Int), .int .i64 0]) ∧ GI (fun w' j => Rd w' q v F1 j) W q (wholeC xs k).length xs (.slice A xs.length c) w') := by
    intro W q v F1 h hf hv
    have g := pGet_any W q v F1 0 xs.length h (by omega) hv
    have e := pw_code (L := padded (wholeC xs k)) (i := 0) (T := List.replicate ((8 - (wholeC xs k).length % 8) % 8) false) (by omega) hcd hk (by omega) rfl
    rw [hf, e, Nat.zero_add] at g
    exact g
  have hcl2 : (wholeC xs k).length ≤ 900000 := by
    rw [wholeC_length hcd]
    have h1 := partsN_few hx k (2 ^ k) (Nat.le_refl _)
    have h2 : 2 ^ k ≤ 2 ^ 6 := Nat.pow_le_pow_right (by omega) hk6
    have h3 : 2 ^ k * (12 + 64 * xs.length) ≤ 64 * (12 + 64 * 200) := Nat.mul_le_mul (by omega) (by omega)
    omega
  obtain ⟨B, hB⟩ : ∃ B, wholeC xs k = B := ⟨_, rfl⟩
  rw [hB] at hcl2
  simp only [hB, List.nil_append] at HP HGA HCO
  clear hcd hl hx hB hk hk6
  have hkk : ((k : Int) == (k : Int)) = true := by simp
  have hbb : ((B.length : Int) == (B.length : Int)) = true := by simp
  go_enter Try.func15, Try.ntmps15
  go_wp2_with fail
  with_reducible refine (HP.out _ _ _ H0.out).mono ?_
  rintro e w1 ⟨rfl, hw1⟩
  obtain ⟨u, h1⟩ := H0.out.step hw1
  have H1 := hid h1
  clear hw1 h1
  go_wp2_with fail
  with_reducible refine (bytes_any w1 _ u B H1.out.ww (by omega)).mono ?_
  rintro e w2 ⟨F1, A2, c2, rfl, hf, hfl, hby⟩
  have hlen : F1.length ≤ 200000 := by
    have h := congrArg List.length hfl
    rw [flat_length] at h
    unfold padded at h
    rw [List.length_append, List.length_replicate] at h
    omega
  have H2 := hid (And.intro (H1.out.later hf.2.1) (And.intro (Sl.of_own hf.1) (And.intro hfl hby)))
  clear hf hfl hby
  go_wp2_with fail
  with_reducible refine (read_any w2 _ F1 H2.out.2.1 (by omega) H2.out.2.2.2).mono ?_
  rintro e w3 ⟨q, vq, rfl, hrd, hb3, hq, hvq⟩
  have H4 := hid (And.intro (H2.out.1.later hb3) (And.intro hrd (And.intro hq (And.intro (fun g (hg : vq.ownBlock = some g) => Nat.lt_trans (hvq g hg).2 hrd.blk.lt) (show ¬ Foot w.heap.size u q from fun hf => by have := H2.out.1.ww.footlt hf; omega)))))
  clear hrd hb3 hq hvq
  go_wp2_with fail
  with_reducible refine (HGA.out w3 q vq F1 H4.out.2.1 H2.out.2.2.1 H4.out.2.2.2.1).mono ?_
  rintro e w4 ⟨A4, c4, rfl, hg4⟩
  have H5 := hid (And.intro (H4.out.1.kept hg4.kp (Nat.le_trans H2.out.1.bel.size H4.out.2.2.1) H4.out.2.2.2.2) (And.intro hg4.rd (Sl.of_own hg4.own)))
  clear hg4
  go_wp2_with fail
  with_reducible refine (ints_any _ _ xs xs _ H5.out.1.sl H5.out.2.2).mono ?_
  rintro e w5 ⟨he5, n5, hw5⟩
  rw [decide_eq_true rfl] at he5
  subst he5
  have H6 := hid (And.intro (H5.out.1.later (w1 := w5) (hw5 ▸ below_drewN' (.refl _ _) n5)) (H5.out.2.1.below (w' := w5) (hw5 ▸ below_drewN' (.refl _ _) n5)))
  clear hw5
  go_wp2_with fail
  with_reducible refine (at_any _ _ _ _ _ H6.out.2).mono ?_
  rintro e w6 ⟨rfl, rfl⟩
  go_wp2_with fail
  with_reducible refine (H6.out.1.len (by omega)).mono ?_
  rintro e w7 ⟨rfl, hb7⟩
  have H7 := hid (H6.out.1.later hb7)
  clear hb7
  go_wp2_with fail
  with_reducible refine (H7.out.len (by omega)).mono ?_
  rintro e w8 ⟨rfl, hb8⟩
  have H8 := hid (H7.out.later hb8)
  clear hb8
  go_wp2_with fail
  with_reducible refine (HCO.out _ H8.out.sl).mono ?_
  rintro e w9 ⟨rfl, hb9⟩
  have H9 := hid (H8.out.later hb9)
  clear hb9
  go_wp2_with fail
  with_reducible refine (known09 _).mono ?_
  rintro e w10 ⟨rfl, hb10⟩
  have H10 := hid (H9.out.later hb10)
  clear hb10
  go_wp2_with fail
  go_ret
  exact ⟨rfl, H10.out.bel⟩

theorem walk {l : Value} {xs : List Int} {k : Int} {w : World} (hl : Sl w l (i64s xs)) (hx : InI xs) :
    Calls Try.prog 15 #[l, .int .i64 k] w fun e w' => e = .returned (.bool true) ∧ Below w.heap.size w w' := by
  by_cases h : 200 < xs.length
  · obtain ⟨A, c, rfl, _⟩ := i64s_form hl
    exact walk_long A c xs k w h
  by_cases hr : pPutErr xs k = 0
  · obtain ⟨hc, ho⟩ := pput_ne hr
    obtain ⟨q, rfl, _⟩ := orderB_nat ho
    exact walk_main l xs q w hl hx (by omega) ho hc
  · exact walk_bad l xs k w hl hx (by omega) hr
end partBack
end Go.Proofs.Ytjboboaccjbebaa
