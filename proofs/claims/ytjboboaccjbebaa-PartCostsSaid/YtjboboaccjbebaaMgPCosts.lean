/- The walk of PartCosts. -/
import Derived.Test.YtjboboaccjbebaaMgF
import Derived.Test.YtjboboaccjbebaaMgE

namespace Go.Proofs.Ytjboboaccjbebaa
open Go.RowKit

theorem partL_zero (xs : List Int) : partL xs 0 0 = xs := by
  unfold partL
  rw [show bndN xs.length 0 (0 + 1) = xs.length from bnd_end xs.length 0, bnd_zero, List.take_length]
  rfl
theorem leastW_raw {xs : List Int} (hm : mayL xs = true) : leastW xs ≤ 15 + xs.length * needL xs := by
  have h1 : leastW xs ≤ costW xs ((0 : Nat) : Int) := bestTo_least (fun p => costW xs (p : Int)) (ordM xs.length) 0 (by omega)
  have e : costW xs ((0 : Nat) : Int) = 3 + (chooseL xs).2.2 := by
    unfold costW
    rw [if_pos ⟨hm, (orderB_iff _ _).2 (.inl rfl)⟩]
    show 3 + partsN xs 0 1 = _
    rw [partsN, partsN, partL_zero]
    omega
  have h2 := choose_le xs
  unfold cW at h2
  rw [Nat.mul_comm] at h2
  omega
namespace partCosts
set_option maxRecDepth 100000 in
set_option maxHeartbeats 4000000 in
theorem walk {l : Value} {xs : List Int} {p : Int} {w : World} (hl : Sl w l (i64s xs)) (hx : InI xs) :
    Calls Try.prog 13 #[l, .int .i64 p] w fun e w' => e = .returned (.bool true) ∧ Below w.heap.size w w' := by
  obtain ⟨A, c, rfl, _⟩ := i64s_form hl
  by_cases h : 40 < xs.length
  · have h' : (40 : Int) < xs.length := by omega
    clear hl hx
    go_enter Try.func13, Try.ntmps13
    go_wp2_with fail
    with_reducible refine (known09 _).mono ?_
    rintro e w1 ⟨rfl, hb⟩
    replace hb := hid hb
    go_wp2_with fail
    go_ret
    exact ⟨rfl, hb.out⟩
  have h' : ¬ (40 : Int) < xs.length := by omega
  have HO1 := hid (fun W (hW : Sl W (.slice A xs.length c) (i64s xs)) => pOrder_any (.slice A xs.length c) xs W hW hx)
  have HO2 := hid (fun W (hW : Sl W (.slice A xs.length c) (i64s xs)) => refleast_any (.slice A xs.length c) xs W hW hx)
  have HC1 := hid (fun W (hW : Sl W (.slice A xs.length c) (i64s xs)) => pCost_any (.slice A xs.length c) xs p W hW hx)
  have HC2 := hid (fun W (hW : Sl W (.slice A xs.length c) (i64s xs)) => refcost09_any (.slice A xs.length c) xs p W hW hx)
  have HM := hid (fun W (hW : Sl W (.slice A xs.length c) (i64s xs)) => refmayl_any (.slice A xs.length c) xs W hW hx)
  have HR := hid (fun W (hW : Sl W (.slice A xs.length c) (i64s xs)) => refraw_any (.slice A xs.length c) xs W hW hx)
  have hnz : costW xs p ≠ 0 → (orderX xs).2 ≤ costW xs p := fun hne => by
    have hm : mayL xs = true := by
      unfold costW at hne
      split at hne
      · rename_i hh; exact hh.1
      · exact absurd rfl hne
    unfold orderX
    rw [if_pos hm]
    exact leastW_least (by omega) hne
  have hraw : mayL xs = true → (orderX xs).2 ≤ 15 + xs.length * needL xs := fun hm => by
    unfold orderX
    rw [if_pos hm]
    exact leastW_raw hm
  have hnl := needL_64 hx
  have hml : xs.length * needL xs ≤ 40 * 64 := Nat.mul_le_mul (by omega) hnl
  obtain ⟨a, ha⟩ : ∃ a, (orderX xs).1 = a := ⟨_, rfl⟩
  obtain ⟨b, hb⟩ : ∃ b, (orderX xs).2 = b := ⟨_, rfl⟩
  rw [ha, hb] at HO1 HO2
  obtain ⟨n, hn⟩ : ∃ n, costW xs p = n := ⟨_, rfl⟩
  simp only [hn] at HC1 HC2
  rw [hb, hn] at hnz
  rw [hb] at hraw
  obtain ⟨nd, hnd⟩ : ∃ nd, needL xs = nd := ⟨_, rfl⟩
  rw [hnd] at hraw hml
  simp only [hnd] at HR
  obtain ⟨tw, htw⟩ : ∃ tw, xs.length * nd = tw := ⟨_, rfl⟩
  have hmw : (xs.length : Int) * (nd : Int) = (tw : Int) := by rw [← htw]; simp
  rw [htw] at hraw hml
  have ww0 : IntKind.i64.wrap (tw : Int) = (tw : Int) := IntWalk.i64_in _ (by omega)
  have ww1 : IntKind.i64.wrap (15 + (tw : Int)) = ((15 + tw : Nat) : Int) := by rw [IntWalk.i64_in _ (by omega)]; omega
  have H := hid hl
  have ea : ((a : Int) != (a : Int)) = false := by simp
  have eb : ((b : Int) != (b : Int)) = false := by simp
  have en : ((n : Int) != (n : Int)) = false := by simp
  have hn0 : ((n : Int) == 0) = true ∨ (((n : Int) == 0) = false ∧ (b : Int) ≤ (n : Int)) := by
    by_cases e : n = 0
    · exact .inl (by rw [beq_iff_eq]; omega)
    · exact .inr ⟨by rw [beq_eq_false_iff_ne]; omega, by have := hnz e; omega⟩
  obtain ⟨m, hm⟩ : ∃ m, mayL xs = m := ⟨_, rfl⟩
  simp only [hm] at HM
  rw [hm] at hraw
  clear hl hx ha hb hn hnd htw hm hnz h
  cases m
  all_goals (
    try (have hrw : (b : Int) ≤ ((15 + tw : Nat) : Int) := by have := hraw rfl; omega)
    clear hraw
    rcases hn0 with hn0 | ⟨hn0, hn1⟩
    all_goals (
      go_enter Try.func13, Try.ntmps13
      go_wp2_with fail
      with_reducible refine (HO1.out _ H.out).mono ?_
      rintro e w1 ⟨rfl, hb1⟩
      have H1 := hid (And.intro (H.out.below hb1) hb1)
      clear hb1
      go_wp2_with fail
      with_reducible refine (HO2.out _ H1.out.1).mono ?_
      rintro e w2 ⟨rfl, hb2⟩
      have H2 := hid (And.intro (H1.out.1.below hb2) (H1.out.2.trans (hb2.mono H1.out.2.size)))
      clear hb2
      go_wp2_with fail
      with_reducible refine (HC1.out _ H2.out.1).mono ?_
      rintro e w3 ⟨rfl, hb3⟩
      have H3 := hid (And.intro (H2.out.1.below hb3) (H2.out.2.trans (hb3.mono H2.out.2.size)))
      clear hb3
      go_wp2_with fail
      with_reducible refine (HC2.out _ H3.out.1).mono ?_
      rintro e w4 ⟨rfl, hb4⟩
      have H4 := hid (And.intro (H3.out.1.below hb4) (H3.out.2.trans (hb4.mono H3.out.2.size)))
      clear hb4
      go_wp2_with fail
      with_reducible refine (HM.out _ H4.out.1).mono ?_
      rintro e w5 ⟨rfl, rfl⟩
      go_wp2_with fail
      try (
        with_reducible refine (HR.out _ H4.out.1).mono ?_
        rintro e w5 ⟨rfl, rfl⟩
        go_wp2_with fail)
      with_reducible refine (known09 _).mono ?_
      rintro e w6 ⟨rfl, hb⟩
      have H5 := hid (H4.out.2.trans (hb.mono H4.out.2.size))
      clear hb
      go_wp2_with fail
      go_ret
      exact ⟨rfl, H5.out⟩))
end partCosts
end Go.Proofs.Ytjboboaccjbebaa
