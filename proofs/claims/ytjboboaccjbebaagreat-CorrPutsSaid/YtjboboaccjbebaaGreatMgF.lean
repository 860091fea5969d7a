/- The reference of layer 9: Bounds. -/
import Derived.Test.YtjboboaccjbebaaGreatMgD
import Derived.Test.YtjboboaccjbebaaGreatMgE

namespace Go.Proofs.YtjboboaccjbebaaGreat
open Go.RowKit
set_option maxRecDepth 100000 in
set_option maxHeartbeats 1600000 in
theorem refbounds_any (n p i : Nat) (w : World) (hn : n ≤ 65536) (hp : p ≤ 6) (hi : i ≤ 64) : Calls Tryz.prog 61 #[.int .i64 (n : Int), .int .i64 (p : Int), .int .i64 (i : Int)] w (DrawnI w (.tuple #[.int .i64 (bndN n p i : Nat), .int .i64 (bndN n p (i + 1) : Nat)])) := by
  have h1 : i * n ≤ 64 * 65536 := Nat.mul_le_mul hi hn
  have h2 : (i + 1) * n ≤ 65 * 65536 := Nat.mul_le_mul (by omega) hn
  have HB := hid (And.intro (bndN.eq_1 n p i) (bndN.eq_1 n p (i + 1)))
  have HPW := hid (fun w' => power_at (p : Int) p rfl w' (by omega))
  have hpw : 1 ≤ 2 ^ p := Nat.two_pow_pos p
  have hpi : (2 : Int) ^ p = ((2 ^ p : Nat) : Int) := (Int.natCast_pow 2 p).symm
  rw [hpi] at HPW
  obtain ⟨P, hP⟩ : ∃ P, 2 ^ p = P := ⟨_, rfl⟩
  rw [hP] at HPW HB hpw
  obtain ⟨a, ha⟩ : ∃ a, i * n = a := ⟨_, rfl⟩
  obtain ⟨b, hb⟩ : ∃ b, (i + 1) * n = b := ⟨_, rfl⟩
  have hma : (i : Int) * (n : Int) = (a : Int) := by rw [← ha]; simp
  have hwi : IntKind.i64.wrap ((i : Int) + 1) = ((i + 1 : Nat) : Int) := by rw [IntWalk.i64_in _ (by omega)]; omega
  have hmb : ((i + 1 : Nat) : Int) * (n : Int) = (b : Int) := by rw [← hb]; exact (Int.natCast_mul _ _).symm
  rw [ha] at HB h1
  rw [hb] at HB h2
  obtain ⟨i1, hi1⟩ : ∃ i1, i + 1 = i1 := ⟨_, rfl⟩
  rw [hi1] at hwi hmb HB
  have hda := Nat.div_le_self a P
  have hdb := Nat.div_le_self b P
  have qa : (a : Int).tdiv (P : Int) = ((a / P : Nat) : Int) := by rw [Int.tdiv_eq_ediv_of_nonneg (by omega), ← Int.natCast_ediv]
  have qb : (b : Int).tdiv (P : Int) = ((b / P : Nat) : Int) := by rw [Int.tdiv_eq_ediv_of_nonneg (by omega), ← Int.natCast_ediv]
  have qa2 : (a : Int) / (P : Int) = ((a / P : Nat) : Int) := (Int.natCast_ediv a P).symm
  have qb2 : (b : Int) / (P : Int) = ((b / P : Nat) : Int) := (Int.natCast_ediv b P).symm
  obtain ⟨c, hc⟩ : ∃ c, a / P = c := ⟨_, rfl⟩
  obtain ⟨d, hd⟩ : ∃ d, b / P = d := ⟨_, rfl⟩
  rw [hc] at qa qa2 HB hda
  rw [hd] at qb qb2 HB hdb
  have hwc : IntKind.i64.wrap (c : Int) = (c : Int) := IntWalk.i64_in _ (by omega)
  have hwd : IntKind.i64.wrap (d : Int) = (d : Int) := IntWalk.i64_in _ (by omega)
  have HI := hid hi1
  have hP0 : ((P : Int) == 0) = false := by rw [beq_eq_false_iff_ne]; omega
  clear ha hb hc hd hi1 hP hpi
  go_enter Tryz.func61, Tryz.ntmps61
  go_wp2_with fail
  go_region_with (first | (go_at_call 60; (with_reducible refine (HPW.out _).mono ?_); rintro e w1 ⟨rfl, rfl⟩))
  all_goals (go_wp2_with fail)
  all_goals (go_ret2)
  all_goals (rw [HI.out, HB.out.1, HB.out.2]; exact ⟨rfl, 1, rfl⟩)
end Go.Proofs.YtjboboaccjbebaaGreat
/- The reference of layer 9: Fits, May, Zigs, Raw, None, Order. -/
namespace Go.Proofs.YtjboboaccjbebaaGreat
open Go.RowKit

theorem reffits_any (x : Int) (w : World) (h1 : -9223372036854775808 ≤ x) (h2 : x ≤ 9223372036854775807) : Calls Tryz.prog 82 #[.int .i64 x] w fun e w' => e = .returned (.bool (fitsB x)) ∧ w = w' := by
  have HZ := hid (refzig_any x w h1 h2)
  have hb : ∀ z : Nat, decide ((z : Int) < 1099511627776) = decide (z < 1099511627776) := by
    intro z
    rw [Bool.eq_iff_iff]
    simp
    omega
  have HB := hid (hb (zigN x))
  have HF := hid (fitsB.eq_1 x)
  obtain ⟨z, hz⟩ : ∃ z, zigN x = z := ⟨_, rfl⟩
  rw [hz] at HZ HB HF
  clear hb hz h1 h2
  go_enter Tryz.func82, Tryz.ntmps82
  go_wp2_with fail
  with_reducible refine HZ.out.mono ?_
  rintro e w1 ⟨rfl, rfl⟩
  go_wp2_with fail
  go_ret
  exact ⟨by rw [HF.out, ← HB.out]; rfl, rfl⟩

set_option maxRecDepth 100000 in
set_option maxHeartbeats 1600000 in
theorem refmayl_any (l : Value) (xs : List Int) (w : World) (hl : Sl w l (i64s xs)) (hx : InI xs) :
    Calls Tryz.prog 57 #[l] w fun e w' => e = .returned (.bool (mayL xs)) ∧ w = w' := by
  obtain ⟨A, c, rfl, hm⟩ := i64s_form hl
  have HM := hid (mayL.eq_1 xs)
  by_cases hn : 65536 < xs.length
  · have hn' : (65536 : Int) < xs.length := by omega
    have HD := hid (show decide (xs.length ≤ 65536) = false by simpa using hn)
    clear hl hx hn
    go_enter Tryz.func57, Tryz.ntmps57
    go_wp2_with fail
    go_ret
    exact ⟨by rw [HM.out, HD.out]; rfl, rfl⟩
  have hn' : ¬ (65536 : Int) < xs.length := by omega
  have HD := hid (show decide (xs.length ≤ 65536) = true by simpa using hn)
  have H := hid (And.intro hl hx)
  clear hl hx hn
  go_enter Tryz.func57, Tryz.ntmps57
  go_wp2_with fail
  go_loop [3] (fun i => ∃ k : Nat, k ≤ xs.length ∧ i = .int .i64 k ∧ Hid ((xs.take k).all fitsB = true)) (fun i => xs.length - (intOf i).toNat)
  case atStart => exact ⟨0, by omega, rfl, by simp [Hid]⟩
  case round =>
    obtain ⟨j, hj, rfl, hd⟩ := hrel
    by_cases hjm : j < xs.length
    · have hin : (j : Int) < xs.length := by omega
      obtain ⟨ad, rfl, hc⟩ := i64s_at H.out.1 hjm
      have hxb := H.out.2 xs[j] (List.getElem_mem _)
      obtain ⟨x, hx⟩ : ∃ x, xs[j] = x := ⟨_, rfl⟩
      rw [hx] at hc hxb
      have HX := hid hx
      have HF := reffits_any x w hxb.1 hxb.2
      obtain ⟨t, ht⟩ : ∃ t, fitsB x = t := ⟨_, rfl⟩
      rw [ht] at HF
      have HT := hid ht
      have HFF := hid HF
      clear hx hxb HF ht
      cases t
      · go_wp2_with fail
        with_reducible refine HFF.out.mono ?_
        rintro e w1 ⟨rfl, rfl⟩
        go_wp2_with fail
        go_ret
        have e : codedB xs = false := by
          rw [codedB_all, List.all_eq_false]
          exact ⟨x, by rw [← HX.out]; exact List.getElem_mem _, by rw [HT.out]; simp⟩
        exact ⟨by rw [HM.out, HD.out, e]; rfl, rfl⟩
      · go_wp2_with fail
        with_reducible refine HFF.out.mono ?_
        rintro e w1 ⟨rfl, rfl⟩
        go_wp2_with fail
        go_round
        case rel => exact ⟨j + 1, by omega, by go_num, by show _ = _; rw [take_snocI xs j hjm, List.all_append, hd.out, HX.out]; simp [HT.out]⟩
        case measure => simp [intOf]; omega
    · have hin : ¬ (j : Int) < xs.length := by omega
      obtain rfl : j = xs.length := by omega
      go_wp2_with fail
      go_ret
      have h := hd.out
      rw [List.take_length] at h
      exact ⟨by rw [HM.out, HD.out, codedB_all, h]; rfl, rfl⟩

set_option maxRecDepth 100000 in
set_option maxHeartbeats 1600000 in
theorem refzigs_any (l : Value) (xs : List Int) (w : World) (hl : Sl w l (i64s xs)) (hx : InI xs) (hn : xs.length ≤ 1048576) : Calls Tryz.prog 85 #[l] w (ZigS w xs) := by
  obtain ⟨A, c, rfl, hm⟩ := i64s_form hl
  have H := hid (And.intro hl hx)
  clear hl hx
  go_enter Tryz.func85, Tryz.ntmps85
  go_wp2_with fail
  go_loopw [3, 4] (fun o i wr => ∃ (j : Nat) (B : Option Addr) (cc : Nat), j ≤ xs.length ∧ i = .int .i64 j ∧ o = .slice B j cc ∧ FreshU w (zigs (xs.take j)) (.slice B j cc) wr) (fun _ i _ => xs.length - (intOf i).toNat)
  case atStart => exact ⟨0, none, 0, by omega, rfl, rfl, FreshU.nil_ (.refl _ _)⟩
  case round =>
    obtain ⟨j, B, cc, hj, rfl, rfl, hf⟩ := hrel
    have HF := hid hf
    by_cases hjm : j < xs.length
    · have hin : (j : Int) < xs.length := by omega
      obtain ⟨ad, rfl, hc⟩ := i64s_at (H.out.1.below hf.2.1) hjm
      have hxb := H.out.2 xs[j] (List.getElem_mem _)
      have hlz : (zigs (xs.take j)).length = j := by rw [zigs_length, List.length_take]; omega
      obtain ⟨x, hxe⟩ : ∃ x, xs[j] = x := ⟨_, rfl⟩
      rw [hxe] at hc hxb
      have HX := hid (And.intro hxe hlz)
      have HZ := hid (refzig_any x wr hxb.1 hxb.2)
      obtain ⟨z, hz⟩ : ∃ z, zigN x = z := ⟨_, rfl⟩
      rw [hz] at HZ
      have HZZ := hid hz
      clear hxe hlz hz hxb hf
      go_wp2_with fail
      with_reducible refine HZ.out.mono ?_
      rintro e w1 ⟨rfl, rfl⟩
      go_wp2_with (at_builtin; go_must (refine wpList_app1 _ rfl (.tmp 11) (.tmp 17) 49 rfl 51 .u64 8 Tryz.underlying49 Tryz.info_uint (.slice B j cc) (u64s (zigs (xs.take j))) j rfl ?d1 ⟨wr.heap.size, 0, none⟩ (z : Int) rfl ?d3 (by decide) ?d4 (wr.heap.size + 1) ?d5 ?_); rotate_right; intro g cap w2 hown2 hg2 hat hlt; replace hown2 := hid hown2; replace hg2 := hid hg2; replace hat := hid hat)
      case d1 => exact World.ownsRow.alloc (by have h := HF.out.1; rwa [HX.out.2] at h) _
      case d3 => exact World.cell?_alloc_at _ _ _ _ rfl
      case d4 => omega
      case d5 => simp
      go_roundw
      case rel =>
        refine ⟨j + 1, _, _, by omega, by go_num, rfl, ?_⟩
        have h := HF.out.app1 (x := z) (by rw [HX.out.2]; exact hown2.out) hg2.out hat.out
        rw [HX.out.2] at h
        rw [take_snocI xs j hjm, zigs_snoc, HX.out.1, HZZ.out]
        exact h
      case measure => simp [intOf]; omega
    · have hin : ¬ (j : Int) < xs.length := by omega
      obtain rfl : j = xs.length := by omega
      go_wp2_with fail
      go_ret
      have h := HF.out
      rw [List.take_length] at h
      exact ⟨B, cc, rfl, h⟩

set_option maxRecDepth 100000 in
set_option maxHeartbeats 1600000 in
theorem refraw_any (l : Value) (xs : List Int) (w : World) (hl : Sl w l (i64s xs)) (hx : InI xs) :
    Calls Tryz.prog 107 #[l] w fun e w' => e = .returned (.int .i64 (needL xs : Nat)) ∧ w = w' := by
  obtain ⟨A, c, rfl, hm⟩ := i64s_form hl
  have H := hid (And.intro hl hx)
  clear hl hx
  go_enter Tryz.func107, Tryz.ntmps107
  go_wp2_with fail
  go_loop [3, 4] (fun m i => ∃ k t : Nat, k ≤ xs.length ∧ i = .int .i64 k ∧ m = .int .i64 t ∧ Hid (t = needL (xs.take k))) (fun _ i => xs.length - (intOf i).toNat)
  case atStart => exact ⟨0, 1, by omega, rfl, rfl, by simp [needL, Hid]⟩
  case round =>
    obtain ⟨k, t, hk, rfl, rfl, hd⟩ := hrel
    by_cases hkm : k < xs.length
    · have hin : (k : Int) < xs.length := by omega
      obtain ⟨ad, rfl, hc⟩ := i64s_at H.out.1 hkm
      have hx := H.out.2 xs[k] (List.getElem_mem _)
      obtain ⟨x, hxe⟩ : ∃ x, xs[k] = x := ⟨_, rfl⟩
      rw [hxe] at hc hx
      have HX := hid hxe
      clear hxe
      have HC := refneed_any x w hx.1 hx.2
      obtain ⟨m, hm⟩ : ∃ m, needN x = m := ⟨_, rfl⟩
      rw [hm] at HC
      have HM := hid hm
      clear hm hx
      have HCC := hid HC
      clear HC
      by_cases hgt : t < m
      · have hgt' : (t : Int) < m := by omega
        go_wp2_with fail
        with_reducible refine HCC.out.mono ?_
        rintro e w1 ⟨rfl, rfl⟩
        go_wp2_with fail
        with_reducible refine HCC.out.mono ?_
        rintro e w1 ⟨rfl, rfl⟩
        go_wp2_with fail
        go_round
        case rel => exact ⟨k + 1, m, by omega, by go_num, rfl, by show _ = _; rw [take_snocI xs k hkm, needL_snoc, ← hd.out, HX.out, HM.out]; omega⟩
        case measure => simp [intOf]; omega
      · have hgt' : ¬ (t : Int) < m := by omega
        go_wp2_with fail
        with_reducible refine HCC.out.mono ?_
        rintro e w1 ⟨rfl, rfl⟩
        go_wp2_with fail
        go_round
        case rel => exact ⟨k + 1, t, by omega, by go_num, rfl, by show _ = _; rw [take_snocI xs k hkm, needL_snoc, ← hd.out, HX.out, HM.out]; omega⟩
        case measure => simp [intOf]; omega
    · have hin : ¬ (k : Int) < xs.length := by omega
      obtain rfl : k = xs.length := by omega
      go_wp2_with fail
      go_ret
      have h := hd.out
      rw [List.take_length] at h
      exact ⟨by rw [← h]; rfl, rfl⟩

set_option maxRecDepth 100000 in
set_option maxHeartbeats 1600000 in
theorem refnone_any (l : Value) (xs : List Int) (w : World) (hl : Sl w l (i64s xs)) :
    Calls Tryz.prog 104 #[l] w fun e w' => e = .returned (.int .i64 (noneN xs : Nat)) ∧ w = w' := by
  obtain ⟨A, c, rfl, hm⟩ := i64s_form hl
  have H := hid hl
  clear hl
  go_enter Tryz.func104, Tryz.ntmps104
  go_wp2_with fail
  go_loop [3, 4] (fun m i => ∃ k t : Nat, k ≤ xs.length ∧ i = .int .i64 k ∧ m = .int .i64 t ∧ t ≤ k ∧ Hid (t = noneN (xs.take k))) (fun _ i => xs.length - (intOf i).toNat)
  case atStart => exact ⟨0, 0, by omega, rfl, rfl, by omega, by simp [noneN, Hid]⟩
  case round =>
    obtain ⟨k, t, hk, rfl, rfl, htk, hd⟩ := hrel
    by_cases hkm : k < xs.length
    · have hin : (k : Int) < xs.length := by omega
      obtain ⟨ad, rfl, hc⟩ := i64s_at H.out hkm
      obtain ⟨x, hxe⟩ : ∃ x, xs[k] = x := ⟨_, rfl⟩
      rw [hxe] at hc
      have HX := hid hxe
      clear hxe
      by_cases h0 : x = 0
      · subst h0
        go_wp2_with fail
        go_round
        case rel => exact ⟨k + 1, t + 1, by omega, by go_num, by go_num, by omega, by show _ = _; rw [take_snocI xs k hkm, noneN_snoc, ← hd.out, HX.out, if_pos rfl]⟩
        case measure => simp [intOf]; omega
      · have hb : (x == 0) = false := by rw [beq_eq_false_iff_ne]; exact h0
        have HX0 := hid h0
        clear h0
        go_wp2_with fail
        go_round
        case rel => exact ⟨k + 1, t, by omega, by go_num, rfl, by omega, by show _ = _; rw [take_snocI xs k hkm, noneN_snoc, ← hd.out, HX.out, if_neg HX0.out, Nat.add_zero]⟩
        case measure => simp [intOf]; omega
    · have hin : ¬ (k : Int) < xs.length := by omega
      obtain rfl : k = xs.length := by omega
      go_wp2_with fail
      go_ret
      have h := hd.out
      rw [List.take_length] at h
      exact ⟨by rw [← h]; rfl, rfl⟩

theorem reforder_any (n : Nat) (p : Int) (w : World) : Calls Tryz.prog 59 #[.int .i64 (n : Int), .int .i64 p] w fun e w' => e = .returned (.bool (orderB n p)) ∧ w = w' := by
  by_cases h0 : p = 0
  · subst h0
    have e : orderB n 0 = true := (orderB_iff n 0).2 (.inl rfl)
    rw [e]
    clear e
    go_enter Tryz.func59, Tryz.ntmps59
    go_wp2_with fail
    go_ret
    exact ⟨rfl, rfl⟩
  have hb0 : (p == 0) = false := by rw [beq_eq_false_iff_ne]; exact h0
  by_cases h1 : p < 1
  · have e : orderB n p = false := by unfold orderB; rw [decide_eq_false_iff_not]; omega
    rw [e]
    clear e h0
    go_enter Tryz.func59, Tryz.ntmps59
    go_wp2_with fail
    go_ret
    exact ⟨rfl, rfl⟩
  by_cases h2 : 6 < p
  · have e : orderB n p = false := by unfold orderB; rw [decide_eq_false_iff_not]; omega
    rw [e]
    clear e h0
    go_enter Tryz.func59, Tryz.ntmps59
    go_wp2_with fail
    go_ret
    exact ⟨rfl, rfl⟩
  obtain ⟨q, rfl⟩ := Int.eq_ofNat_of_zero_le (show 0 ≤ p by omega)
  have e : orderB n (q : Int) = decide (2 ^ q ≤ n) := by
    rw [Bool.eq_iff_iff, orderB_iff, decide_eq_true_iff, Int.toNat_natCast]
    constructor
    · rintro (h | h)
      · omega
      · exact h.2.2
    · intro h
      exact .inr ⟨by omega, by omega, h⟩
  have HPW := hid (fun w' => power_at (q : Int) q rfl w' (by omega))
  have hpi : (2 : Int) ^ q = ((2 ^ q : Nat) : Int) := (Int.natCast_pow 2 q).symm
  rw [hpi] at HPW
  rw [e]
  obtain ⟨P, hP⟩ : ∃ P, 2 ^ q = P := ⟨_, rfl⟩
  rw [hP] at HPW
  rw [hP]
  have HH := hid (show decide ((P : Int) ≤ (n : Int)) = decide (P ≤ n) from by rw [Bool.eq_iff_iff]; simp)
  clear e h0 hP hpi
  go_enter Tryz.func59, Tryz.ntmps59
  go_wp2_with fail
  with_reducible refine (HPW.out _).mono ?_
  rintro e w1 ⟨rfl, rfl⟩
  go_wp2_with fail
  go_ret
  exact ⟨by rw [← HH.out]; rfl, rfl⟩
end Go.Proofs.YtjboboaccjbebaaGreat
/- The reference of layer 7: Cost, Best. -/
namespace Go.Proofs.YtjboboaccjbebaaGreat
open Go.RowKit

theorem gamCost_w (n : Nat) (h : n ≤ 1048576) : gamCost (n + 1) = 2 * wid (n + 1) - 1 ∧ 1 ≤ wid (n + 1) ∧ wid (n + 1) ≤ 32 := by
  have hg : gamB (n + 1) = true := (gamB_iff _).2 (by omega)
  have hw := gam_wid hg
  exact ⟨by unfold gamCost; rw [if_pos hg], hw.1, hw.2.1⟩
theorem sumI_app (k : Int) (P Q : List (Nat × Option Int)) : sumI k (P ++ Q) = sumI k P + sumI k Q := by simp [sumI]

set_option maxRecDepth 100000 in
set_option maxHeartbeats 4000000 in
theorem refcostl_any (l : Value) (xs : List Int) (k : Int) (w : World) (hl : Sl w l (i64s xs)) (hx : InI xs) (hn : xs.length ≤ 1048576) :
    Calls Tryz.prog 121 #[l, .int .i64 k] w (DrawnI w (.int .i64 (costL xs k : Nat))) := by
  obtain ⟨A, c, rfl, hm⟩ := i64s_form hl
  have HP := hid (refparam_any k w)
  have HC := hid (refcoded_any (.slice A xs.length c) xs w hl hx)
  have H := hid (And.intro hl hx)
  obtain ⟨b, hb⟩ : ∃ b, paramB k = b := ⟨_, rfl⟩
  obtain ⟨d, hd⟩ : ∃ d, codedB xs = d := ⟨_, rfl⟩
  rw [hb] at HP
  rw [hd] at HC
  have HB := hid (And.intro hb hd)
  clear hl hx hb hd
  cases b
  · have HE := hid (show costL xs k = 0 by unfold costL; rw [if_neg (by intro h; rw [HB.out.1] at h; cases h.1)])
    go_enter Tryz.func121, Tryz.ntmps121
    go_wp2_with fail
    with_reducible refine HP.out.mono ?_
    rintro e w1 ⟨rfl, rfl⟩
    go_wp2_with fail
    go_ret
    exact ⟨by rw [HE.out]; rfl, 0, rfl⟩
  cases d
  · have HE := hid (show costL xs k = 0 by unfold costL; rw [if_neg (by intro h; rw [HB.out.2] at h; cases h.2)])
    go_enter Tryz.func121, Tryz.ntmps121
    go_wp2_with fail
    with_reducible refine HP.out.mono ?_
    rintro e w1 ⟨rfl, rfl⟩
    go_wp2_with fail
    with_reducible refine HC.out.mono ?_
    rintro e w1 ⟨rfl, rfl⟩
    go_wp2_with fail
    go_ret
    exact ⟨by rw [HE.out]; rfl, 0, rfl⟩
  have HE := hid (show costL xs k = sumI k (sts xs).1 + sumI k (tailI (sts xs).2) by rw [costL_ok HB.out.1 HB.out.2, items_sts, sumI_app])
  go_enter Tryz.func121, Tryz.ntmps121
  go_wp2_with fail
  with_reducible refine HP.out.mono ?_
  rintro e w1 ⟨rfl, rfl⟩
  go_wp2_with fail
  with_reducible refine HC.out.mono ?_
  rintro e w1 ⟨rfl, rfl⟩
  go_wp2_with fail
  go_loopw [5, 6, 7] (fun s n i wr => ∃ j t m d : Nat, j ≤ xs.length ∧ i = .int .i64 j ∧ s = .int .i64 t ∧ n = .int .i64 m ∧ t ≤ 134217728 ∧ m ≤ j ∧ Hid (t = sumI k (sts (xs.take j)).1 ∧ m = (sts (xs.take j)).2) ∧ wr = w.drewN d) (fun _ _ i _ => xs.length - (intOf i).toNat)
  case atStart => exact ⟨0, 0, 0, 0, by omega, rfl, rfl, rfl, by omega, by omega, ⟨rfl, rfl⟩, rfl⟩
  case round =>
    obtain ⟨j, t, m, d, hj, rfl, rfl, rfl, ht, hmj, hst, rfl⟩ := hrel
    by_cases hjm : j < xs.length
    · have hin : (j : Int) < xs.length := by omega
      obtain ⟨ad, rfl, hc⟩ := i64s_at H.out.1 hjm
      have hxb := H.out.2 xs[j] (List.getElem_mem _)
      obtain ⟨x, hxe⟩ : ∃ x, xs[j] = x := ⟨_, rfl⟩
      rw [hxe] at hc hxb
      have HX := hid hxe
      clear hxe
      by_cases h0 : x = 0
      · subst h0
        go_wp2_with fail
        go_roundw
        case rel =>
          refine ⟨j + 1, t, m + 1, d, by omega, by go_num, rfl, by go_num, ht, by omega, ?_, rfl⟩
          show _ ∧ _
          rw [take_snocI xs j hjm, HX.out, sts_zero rfl]
          exact ⟨hst.out.1, by rw [← hst.out.2]⟩
        case measure => simp [intOf]; omega
      · have hb0 : (x != 0) = true := by rw [bne_iff_ne]; exact h0
        obtain ⟨g1, g2, g3⟩ := gamCost_w m (by omega)
        have HW := hid (fun W => refwidth_any (m + 1) W (by omega))
        have hz1 := zig_zero h0
        have hz2 := zig_lt hxb.1 hxb.2
        have HZ := hid (fun W => refzig_any x W hxb.1 hxb.2)
        have HC2 := hid (fun W => refcost_any (zigN x - 1) k W)
        have hcl := costR_le (zigN x - 1) k
        have HS := hid (show sumI k (sts (xs.take (j + 1))).1 = t + (gamCost (m + 1) + costR (zigN x - 1) k) ∧ (sts (xs.take (j + 1))).2 = 0 from by
          rw [take_snocI xs j hjm, HX.out, sts_some h0]
          refine ⟨?_, rfl⟩
          show sumI k (_ ++ [_]) = _
          rw [sumI_snoc, ← hst.out.1, ← hst.out.2]
          rfl)
        have hle := sumI_le k (sts (xs.take (j + 1))).1
        have hle2 := (sts_le (xs.take (j + 1))).1
        rw [List.length_take] at hle2
        have hw1 : IntKind.u64.wrap (m : Int) = (m : Int) := IntWalk.u64_in _ (by omega)
        have hw2 : IntKind.u64.wrap ((m : Int) + 1) = ((m + 1 : Nat) : Int) := by rw [IntWalk.u64_in _ (by omega)]; omega
        have hw3 : IntKind.u64.wrap ((zigN x : Int) - 1) = ((zigN x - 1 : Nat) : Int) := by rw [IntWalk.u64_in _ (by omega)]; omega
        rw [HS.out.1] at hle
        rw [g1] at hle HS
        obtain ⟨q, hq⟩ : ∃ q, wid (m + 1) = q := ⟨_, rfl⟩
        rw [hq] at HW hle HS g2 g3
        obtain ⟨m1, hm1⟩ : ∃ m1, m + 1 = m1 := ⟨_, rfl⟩
        rw [hm1] at hw2 HW
        obtain ⟨z, hz⟩ : ∃ z, zigN x = z := ⟨_, rfl⟩
        rw [hz] at hw3 HZ HC2 hcl hle HS
        obtain ⟨y, hy⟩ : ∃ y, z - 1 = y := ⟨_, rfl⟩
        rw [hy] at hw3 HC2 hcl hle HS
        obtain ⟨u, hu⟩ : ∃ u, costR y k = u := ⟨_, rfl⟩
        rw [hu] at HC2 hcl hle HS
        obtain ⟨r, hr⟩ : ∃ r, t + (2 * q - 1 + u) = r := ⟨_, rfl⟩
        rw [hr] at hle HS
        have hw4 : IntKind.i64.wrap (2 * (q : Int)) = ((2 * q : Nat) : Int) := by rw [IntWalk.i64_in _ (by omega)]; omega
        obtain ⟨q2, hq2⟩ : ∃ q2, 2 * q = q2 := ⟨_, rfl⟩
        rw [hq2] at hw4
        have hw5 : IntKind.i64.wrap ((t : Int) + (q2 : Int)) = ((t + q2 : Nat) : Int) := by rw [IntWalk.i64_in _ (by omega)]; omega
        obtain ⟨q3, hq3⟩ : ∃ q3, t + q2 = q3 := ⟨_, rfl⟩
        rw [hq3] at hw5
        have hw6 : IntKind.i64.wrap ((q3 : Int) - 1) = ((q3 - 1 : Nat) : Int) := by rw [IntWalk.i64_in _ (by omega)]; omega
        obtain ⟨q4, hq4⟩ : ∃ q4, q3 - 1 = q4 := ⟨_, rfl⟩
        rw [hq4] at hw6
        have hw7 : IntKind.i64.wrap ((q4 : Int) + (u : Int)) = (r : Int) := by rw [IntWalk.i64_in _ (by omega)]; omega
        have HR := hid (show r ≤ 134217728 by omega)
        clear hq hm1 hz hy hu hr hq2 hq3 hq4 hle hle2 hz1 hz2 g1 h0 hxb hcl
        go_wp2_with fail
        go_region_held3 (fun w' => w'.cell? (ad.add j) = some (.int .i64 x)) (first | exact hc | go_keep)
          (first
            | (go_at_call 54; (with_reducible refine (HW.out _).mono ?_); rintro e w2 ⟨rfl, rfl⟩)
            | (go_at_call 103; (with_reducible refine (HZ.out _).mono ?_); rintro e w2 ⟨rfl, rfl⟩)
            | (go_at_call 136; (with_reducible refine (HC2.out _).mono ?_); rintro e w2 ⟨rfl, rfl⟩))
        all_goals (go_wp2_with fail)
        all_goals (go_roundw)
        all_goals first
          | exact ⟨j + 1, r, 0, d + 1, by omega, by go_num, rfl, rfl, HR.out, by omega, ⟨HS.out.1.symm, HS.out.2.symm⟩, rfl⟩
          | (simp [intOf]; omega)
    · have hin : ¬ (j : Int) < xs.length := by omega
      obtain rfl : j = xs.length := by omega
      have hst2 := hst.out
      rw [List.take_length] at hst2
      by_cases hm0 : 0 < m
      · have hmi : (0 : Int) < m := by omega
        obtain ⟨g1, g2, g3⟩ := gamCost_w m (by omega)
        have HW := hid (fun W => refwidth_any (m + 1) W (by omega))
        have hw1 : IntKind.u64.wrap (m : Int) = (m : Int) := IntWalk.u64_in _ (by omega)
        have hw2 : IntKind.u64.wrap ((m : Int) + 1) = ((m + 1 : Nat) : Int) := by rw [IntWalk.u64_in _ (by omega)]; omega
        have HE2 := hid (show costL xs k = t + gamCost (m + 1) from by rw [HE.out, ← hst2.1, ← hst2.2]; unfold tailI; rw [if_pos hm0]; simp [sumI, costI])
        rw [g1] at HE2
        obtain ⟨q, hq⟩ : ∃ q, wid (m + 1) = q := ⟨_, rfl⟩
        rw [hq] at HW HE2 g2 g3
        obtain ⟨m1, hm1⟩ : ∃ m1, m + 1 = m1 := ⟨_, rfl⟩
        rw [hm1] at hw2 HW
        obtain ⟨r, hr⟩ : ∃ r, t + (2 * q - 1) = r := ⟨_, rfl⟩
        rw [hr] at HE2
        have hw4 : IntKind.i64.wrap (2 * (q : Int)) = ((2 * q : Nat) : Int) := by rw [IntWalk.i64_in _ (by omega)]; omega
        obtain ⟨q2, hq2⟩ : ∃ q2, 2 * q = q2 := ⟨_, rfl⟩
        rw [hq2] at hw4
        have hw5 : IntKind.i64.wrap ((t : Int) + (q2 : Int)) = ((t + q2 : Nat) : Int) := by rw [IntWalk.i64_in _ (by omega)]; omega
        obtain ⟨q3, hq3⟩ : ∃ q3, t + q2 = q3 := ⟨_, rfl⟩
        rw [hq3] at hw5
        have hw6 : IntKind.i64.wrap ((q3 : Int) - 1) = (r : Int) := by rw [IntWalk.i64_in _ (by omega)]; omega
        clear hq hm1 hr hq2 hq3 g1 hst2 hst
        go_wp2_with fail
        with_reducible refine (HW.out _).mono ?_
        rintro e w2 ⟨rfl, rfl⟩
        go_wp2_with fail
        go_ret
        rw [HE2.out]
        exact ⟨rfl, d, rfl⟩
      · have hmi : ¬ (0 : Int) < m := by omega
        have HE2 := hid (show costL xs k = t from by rw [HE.out, ← hst2.1, ← hst2.2]; unfold tailI; rw [if_neg hm0]; simp [sumI])
        clear hst2 hst
        go_wp2_with fail
        go_ret
        rw [HE2.out]
        exact ⟨rfl, d, rfl⟩

set_option maxRecDepth 100000 in
set_option maxHeartbeats 1600000 in
theorem refbestl_any (l : Value) (xs : List Int) (w : World) (hl : Sl w l (i64s xs)) (hx : InI xs) (hn : xs.length ≤ 1048576) :
    Calls Tryz.prog 106 #[l] w (BestL w xs) := by
  have HT := hid (fun (k : Int) n => refcostl_any l xs k (w.drewN n) (hl.drewN n) hx hn)
  clear hl hx
  obtain ⟨c, hc⟩ : ∃ c : Nat → Nat, (fun k : Nat => costL xs (k : Int)) = c := ⟨_, rfl⟩
  have hcb : ∀ k : Nat, costL xs (k : Int) = c k := fun k => by rw [← hc]
  have HCB := hid (And.intro hcb hc)
  clear hcb hc
  go_enter Tryz.func106, Tryz.ntmps106
  go_wp2_with fail
  go_loopw [4, 5] (fun b i wr => ∃ (k bb n : Nat), k ≤ 30 ∧ i = .int .i64 ((k : Int) + 1) ∧ b = .int .i64 bb ∧ wr = w.drewN n ∧ Hid (bb = bestTo c k)) (fun _ i _ => 31 - (intOf i).toNat)
  case atStart => exact ⟨0, 0, 0, by omega, rfl, rfl, rfl, rfl⟩
  case round =>
    obtain ⟨k, bb, n, hk, rfl, rfl, rfl, hd⟩ := hrel
    by_cases hkm : k < 30
    · have hin : (k : Int) + 1 ≤ 30 := by omega
      have HC1 := HT.out ((k : Int) + 1)
      rw [show costL xs ((k : Int) + 1) = c (k + 1) from HCB.out.1 (k + 1)] at HC1
      have HC2 := HT.out (bb : Int)
      rw [HCB.out.1 bb] at HC2
      obtain ⟨y, hy⟩ : ∃ y, c (k + 1) = y := ⟨_, rfl⟩
      obtain ⟨z, hz⟩ : ∃ z, c bb = z := ⟨_, rfl⟩
      rw [hy] at HC1
      rw [hz] at HC2
      have HY := hid (And.intro hy hz)
      replace HC1 := hid HC1
      replace HC2 := hid HC2
      clear hy hz
      go_wp2_with fail
      with_reducible refine (HC1.out n).mono ?_
      rintro e w1 ⟨rfl, n1, rfl⟩
      rw [World.drewN_drewN]
      go_wp2_with fail
      with_reducible refine (HC2.out _).mono ?_
      rintro e w1 ⟨rfl, n2, hw2⟩
      rw [World.drewN_drewN] at hw2
      subst hw2
      by_cases hlt : y < z
      · have hlt' : (y : Int) < z := by omega
        go_wp2_with fail
        go_roundw
        case rel => exact ⟨k + 1, k + 1, _, by omega, by go_num, by go_num, rfl, by show _ = _; rw [bestTo, if_pos (by rw [HY.out.1, ← hd.out, HY.out.2]; exact hlt)]⟩
        case measure => simp [intOf]; omega
      · have hlt' : ¬ (y : Int) < z := by omega
        go_wp2_with fail
        go_roundw
        case rel => exact ⟨k + 1, bb, _, by omega, by go_num, rfl, rfl, by show _ = _; rw [bestTo, if_neg (by rw [HY.out.1, ← hd.out, HY.out.2]; exact hlt)]; exact hd.out⟩
        case measure => simp [intOf]; omega
    · have hin : ¬ (k : Int) + 1 ≤ 30 := by omega
      obtain rfl : k = 30 := by omega
      have HC2 := HT.out (bb : Int)
      rw [HCB.out.1 bb] at HC2
      obtain ⟨z, hz⟩ : ∃ z, c bb = z := ⟨_, rfl⟩
      rw [hz] at HC2
      have HY := hid hz
      replace HC2 := hid HC2
      clear hz
      go_wp2_with fail
      with_reducible refine (HC2.out n).mono ?_
      rintro e w1 ⟨rfl, n1, rfl⟩
      rw [World.drewN_drewN]
      go_wp2_with fail
      go_ret2
      refine ⟨?_, below_drewN' (.refl _ _) _⟩
      rw [HCB.out.2, HCB.out.1, ← hd.out, HY.out]
      rfl
end Go.Proofs.YtjboboaccjbebaaGreat
/- The reference of layer 9: Choose. -/
namespace Go.Proofs.YtjboboaccjbebaaGreat
open Go.RowKit

theorem Tryz.info_rway : (Tryz.prog.info? 100).map (fun i => (i.zero, i.size, i.bytes)) = some (some (.agg #[.int .i64 0, .int .i64 0]), 2, 16) := by kernel_rfl
theorem load_rway {w : World} {b : Nat} {t : TypeId} {x y : Value} (h : Blk w b t #[x, y]) : (loadVar 100 ⟨b, 0, none⟩).run Tryz.prog w = .ok (.agg #[x, y]) w := by
  obtain ⟨i, hi, _, h2, _⟩ := info_parts3 Tryz.info_rway
  have hl := run_loadCells_list (P := Tryz.prog) w ⟨b, 0, none⟩ [x, y] (blk_cells h)
  simp [loadVar, isAgg, run_underlying Tryz.underlying100, sizeOf, typeInfo, hi, h2]
  rw [show (2 : Nat) = [x, y].length from rfl, hl]
  rfl
theorem zigs_at {xs : List Int} {k : Nat} (h : k < (zigs xs).length) (h2 : k < xs.length) : (zigs xs)[k] = zigN xs[k] := by simp [zigs]

set_option maxRecDepth 100000 in
set_option maxHeartbeats 16000000 in
theorem refchoose_any (l : Value) (xs : List Int) (w : World) (hl : Sl w l (i64s xs)) (hx : InI xs) (hn : xs.length ≤ 65536) : Calls Tryz.prog 83 #[l] w fun e w' => e = .returned (wayV (chooseL xs)) ∧ Below w.heap.size w w' := by
  have hb0 : Below w.heap.size w (w.alloc (.cells #[.int .i64 0, .int .i64 0] 100)) := (Below.refl _ _).alloc (Nat.le_refl _) _
  have HB := hid (And.intro hb0 (Blk.new w 100 #[.int .i64 0, .int .i64 0]))
  have HX := hid (chooseL.eq_1 xs)
  have HNO := hid (fun W (h : Sl W l (i64s xs)) => refnone_any l xs W h)
  have HZ := hid (fun W (h : Sl W l (i64s xs)) => refzigs_any l xs W h hx (by omega))
  have HRB := hid (fun W z (h : Sl W z (u64s (zigs xs))) => show Calls Tryz.prog 105 #[z, .int .i64 (zigW xs : Int)] W (fun e w' => e = .returned (.tuple #[.int .i64 (kR xs : Int), .int .i64 (totalR (zigs xs) (kR xs : Int) : Int)]) ∧ Below W.heap.size W w') from refbest_any z (zigs xs) (zigW xs : Int) W h (by rw [zigs_length]; omega))
  have HUB := hid (fun W (h : Sl W l (i64s xs)) => show Calls Tryz.prog 106 #[l] W (fun e w' => e = .returned (.tuple #[.int .i64 (kU xs : Int), .int .i64 (costL xs (kU xs : Int) : Int)]) ∧ Below W.heap.size W w') from refbestl_any l xs W h hx (by omega))
  have HRA := hid (fun W (h : Sl W l (i64s xs)) => refraw_any l xs W h hx)
  have htr := totalR_le (zigs xs) (kR xs : Int)
  rw [zigs_length] at htr
  have hcu := costL_le xs (kU xs : Int)
  have hnl := needL_64 hx
  have hno := noneN_le xs
  have HCR := hid (show cR xs = 6 + totalR (zigs xs) (kR xs : Int) from rfl)
  have HCU := hid (show cU xs = 11 + costL xs (kU xs : Int) from rfl)
  have HCW := hid (show cW xs = 12 + needL xs * xs.length from rfl)
  obtain ⟨R, hR⟩ : ∃ R, chooseL xs = R := ⟨_, rfl⟩
  rw [hR] at HX ⊢
  obtain ⟨n0, hn0⟩ : ∃ n0, noneN xs = n0 := ⟨_, rfl⟩
  rw [hn0] at HX hno
  simp only [hn0] at HNO
  obtain ⟨kr, hkr⟩ : ∃ kr, kR xs = kr := ⟨_, rfl⟩
  obtain ⟨ku, hku⟩ : ∃ ku, kU xs = ku := ⟨_, rfl⟩
  obtain ⟨nd, hnd⟩ : ∃ nd, needL xs = nd := ⟨_, rfl⟩
  rw [hkr] at HX htr HCR
  rw [hku] at HX hcu HCU
  rw [hnd] at HX hnl HCW
  simp only [hkr] at HRB
  simp only [hku] at HUB
  simp only [hnd] at HRA
  obtain ⟨tr, htr'⟩ : ∃ tr, totalR (zigs xs) (kr : Int) = tr := ⟨_, rfl⟩
  obtain ⟨tu, htu'⟩ : ∃ tu, costL xs (ku : Int) = tu := ⟨_, rfl⟩
  have hm1 : nd * xs.length ≤ 64 * 65536 := Nat.mul_le_mul hnl hn
  obtain ⟨tw, htw'⟩ : ∃ tw, nd * xs.length = tw := ⟨_, rfl⟩
  have hmw : (nd : Int) * (xs.length : Int) = (tw : Int) := by rw [← htw']; simp
  rw [htr'] at htr HCR
  rw [htu'] at hcu HCU
  rw [htw'] at hm1 HCW
  simp only [htr'] at HRB
  simp only [htu'] at HUB
  rw [HCR.out, HCU.out, HCW.out] at HX
  have H := hid (And.intro hl hx)
  obtain ⟨A, c, rfl, hm⟩ := i64s_form hl
  have w2n : IntKind.i64.wrap (2 * (n0 : Int)) = ((2 * n0 : Nat) : Int) := by rw [IntWalk.i64_in _ (by omega)]; omega
  have wr1 : IntKind.i64.wrap (6 + (tr : Int)) = ((6 + tr : Nat) : Int) := by rw [IntWalk.i64_in _ (by omega)]; omega
  have wu1 : IntKind.i64.wrap (11 + (tu : Int)) = ((11 + tu : Nat) : Int) := by rw [IntWalk.i64_in _ (by omega)]; omega
  have ww0 : IntKind.i64.wrap (tw : Int) = (tw : Int) := IntWalk.i64_in _ (by omega)
  have ww1 : IntKind.i64.wrap (12 + (tw : Int)) = ((12 + tw : Nat) : Int) := by rw [IntWalk.i64_in _ (by omega)]; omega
  clear hb0 hl hx hR hn0 hkr hku hnd htr' htu' htw' HCR HCU HCW
  by_cases h0 : n0 = xs.length
  · have hb0 : ((n0 : Int) == (xs.length : Int)) = true := by rw [beq_iff_eq]; omega
    rw [if_pos h0] at HX
    clear h0
    go_enter Tryz.func83, Tryz.ntmps83
    go_wp2_with fail
    with_reducible refine (HNO.out _ (H.out.1.below HB.out.1)).mono ?_
    rintro e w1 ⟨rfl, rfl⟩
    go_wp2_with fail
    rw [HX.out]
    exact bodyPost_ret (results_cell2 rfl rfl (load_rway HB.out.2)) rfl ⟨rfl, HB.out.1⟩
  have hb0 : ((n0 : Int) == (xs.length : Int)) = false := by rw [beq_eq_false_iff_ne]; omega
  rw [if_neg h0] at HX
  clear h0
  go_enter Tryz.func83, Tryz.ntmps83
  go_wp2_with fail
  with_reducible refine (HNO.out _ (H.out.1.below HB.out.1)).mono ?_
  rintro e w1 ⟨rfl, rfl⟩
  go_wp2_with fail
  with_reducible refine (HZ.out _ (H.out.1.below HB.out.1)).mono ?_
  rintro e w2 ⟨Az, cz, rfl, hfz⟩
  have hs2 := hfz.2.1.size
  have hlt : w.heap.size < w2.heap.size := by simp at hs2; omega
  have H2 := hid (And.intro hfz.sl (And.intro (HB.out.1.trans (hfz.2.1.mono (by simp))) (show Blk w2 w.heap.size 100 #[.int .i64 0, .int .i64 0] from (hfz.2.1.block _ (by simp)).trans HB.out.2)))
  clear hfz hs2
  go_wp2_with fail
  go_loop [5, 6] (fun m i => ∃ k t : Nat, k ≤ xs.length ∧ i = .int .i64 k ∧ m = .int .i64 t ∧ Hid (t = zigW (xs.take k))) (fun _ i => xs.length - (intOf i).toNat)
  case atStart => exact ⟨0, 0, by omega, rfl, rfl, by simp [zigW, Hid]⟩
  case round =>
    obtain ⟨k, t, hk, rfl, rfl, hd⟩ := hrel
    by_cases hkm : k < xs.length
    · have hin : (k : Int) < xs.length := by omega
      have hkz : k < (zigs xs).length := by rw [zigs_length]; exact hkm
      obtain ⟨ad, rfl, hc⟩ := u64s_at H2.out.1 hkz
      rw [zigs_at hkz hkm] at hc
      have hxk := H.out.2 xs[k] (List.getElem_mem _)
      obtain ⟨x, hxe⟩ : ∃ x, xs[k] = x := ⟨_, rfl⟩
      rw [hxe] at hc hxk
      have HX1 := hid hxe
      have hzl := zig_lt hxk.1 hxk.2
      have HC := refwidth_any (zigN x) w2 hzl
      obtain ⟨z, hz⟩ : ∃ z, zigN x = z := ⟨_, rfl⟩
      rw [hz] at HC hc
      obtain ⟨m, hm⟩ : ∃ m, wid z = m := ⟨_, rfl⟩
      rw [hm] at HC
      have HM := hid (show wid (zigN x) = m by rw [hz, hm])
      clear hm hz hxk hxe hzl
      have HCC := hid HC
      clear HC
      by_cases hgt : t < m
      · have hgt' : (t : Int) < m := by omega
        go_wp2_with fail
        with_reducible refine HCC.out.mono ?_
        rintro e w3 ⟨rfl, rfl⟩
        go_wp2_with fail
        with_reducible refine HCC.out.mono ?_
        rintro e w3 ⟨rfl, rfl⟩
        go_wp2_with fail
        go_round
        case rel => exact ⟨k + 1, m, by omega, by go_num, rfl, by show _ = _; rw [take_snocI xs k hkm, zigW_snoc, ← hd.out, HX1.out, HM.out]; omega⟩
        case measure => simp [intOf]; omega
      · have hgt' : ¬ (t : Int) < m := by omega
        go_wp2_with fail
        with_reducible refine HCC.out.mono ?_
        rintro e w3 ⟨rfl, rfl⟩
        go_wp2_with fail
        go_round
        case rel => exact ⟨k + 1, t, by omega, by go_num, rfl, by show _ = _; rw [take_snocI xs k hkm, zigW_snoc, ← hd.out, HX1.out, HM.out]; omega⟩
        case measure => simp [intOf]; omega
    · have hin : ¬ (k : Int) < xs.length := by omega
      obtain rfl : k = xs.length := by omega
      have hd2 := hd.out
      rw [List.take_length] at hd2
      have HRZ := hid (HRB.out w2 _ H2.out.1)
      rw [← hd2] at HRZ
      clear hd hd2
      go_wp2_with fail
      with_reducible refine HRZ.out.mono ?_
      rintro e w3 ⟨rfl, hb3⟩
      have hs3 := hb3.size
      have H3 := hid (And.intro (H2.out.2.1.trans (hb3.mono (by omega))) (show Blk w3 w.heap.size 100 #[.int .i64 0, .int .i64 0] from (hb3.block _ hlt).trans H2.out.2.2))
      have hlt3 : w.heap.size < w3.heap.size := by omega
      clear hb3 hs3 HRZ H2 hlt
      go_wp2_with fail
      have hA1 := H3.out.2.alloc (.cells #[.int .i64 1, .int .i64 (kr : Int)] 100)
      have hA2 := Blk.new w3 100 #[.int .i64 1, .int .i64 (kr : Int)]
      have hA3 := H3.out.1.alloc H3.out.1.size (.cells #[.int .i64 1, .int .i64 (kr : Int)] 100)
      obtain ⟨W4, hW4⟩ : ∃ W4, w3.alloc (.cells #[.int .i64 1, .int .i64 (kr : Int)] 100) = W4 := ⟨_, rfl⟩
      rw [hW4] at hA1 hA2 hA3
      rw [hW4]
      obtain ⟨b9, hb9⟩ : ∃ b9, w3.heap.size = b9 := ⟨_, rfl⟩
      rw [hb9] at hA2 hlt3
      rw [hb9]
      have H4 := hid (And.intro hA1 (And.intro hA2 hA3))
      clear hA1 hA2 hA3 hW4 hb9 H3
      with_reducible refine (HNO.out _ (H.out.1.below H4.out.2.2)).mono ?_
      rintro e w5 ⟨rfl, rfl⟩
      have hcase : (xs.length ≤ 2 * n0 ∧ 11 + tu < 6 + tr) ∨ (xs.length ≤ 2 * n0 ∧ ¬ 11 + tu < 6 + tr) ∨ ¬ xs.length ≤ 2 * n0 := by omega
      rcases hcase with ⟨hc1, hc2⟩ | ⟨hc1, hc2⟩ | hc1
      · rw [if_pos ⟨hc1, hc2⟩] at HX
        have hc1' : (xs.length : Int) ≤ ((2 * n0 : Nat) : Int) := by omega
        have hc2' : ((11 + tu : Nat) : Int) < ((6 + tr : Nat) : Int) := by omega
        clear hc1 hc2
        go_wp2_with fail
        have hs5 := H4.out.2.2.size
        with_reducible refine (HUB.out _ (H.out.1.below H4.out.2.2)).mono ?_
        rintro e w5 ⟨rfl, hb5⟩
        have H5 := hid (And.intro (show Blk w5 w.heap.size 100 #[.int .i64 0, .int .i64 0] from (hb5.block _ H4.out.1.lt).trans H4.out.1) (And.intro (show Blk w5 b9 100 #[.int .i64 1, .int .i64 (kr : Int)] from (hb5.block _ H4.out.2.1.lt).trans H4.out.2.1) (H4.out.2.2.trans (hb5.mono hs5))))
        clear hb5 hs5 H4
        have c0 := H5.out.2.1.cell 0
        have c1 := H5.out.2.1.cell 1
        have d0 := H5.out.2.1.frozen 0
        have d1 := H5.out.2.1.frozen 1
        simp at c0 c1
        go_wp2_with fail
        have hA2 := (H5.out.2.1.upd 0 (.int .i64 2)).upd 1 (.int .i64 (ku : Int))
        have hA1 := (H5.out.1.far (p := ⟨b9, 0, none⟩) (by simp; omega) (.int .i64 2)).far (p := ⟨b9, 1, none⟩) (by simp; omega) (.int .i64 (ku : Int))
        have hA3 := (H5.out.2.2.setCell (p := ⟨b9, 0, none⟩) (by simp; omega) (.int .i64 2)).setCell (p := ⟨b9, 1, none⟩) (by simp; omega) (.int .i64 (ku : Int))
        simp at hA2
        obtain ⟨W6, hW6⟩ : ∃ W6, (w5.setCell ⟨b9, 0, none⟩ (.int .i64 2)).setCell ⟨b9, 1, none⟩ (.int .i64 (ku : Int)) = W6 := ⟨_, rfl⟩
        rw [hW6] at hA1 hA2 hA3
        rw [hW6]
        have H6 := hid (And.intro hA1 (And.intro hA2 hA3))
        clear hA1 hA2 hA3 hW6 H5 c0 c1 d0 d1
        with_reducible refine (HRA.out _ (H.out.1.below H6.out.2.2)).mono ?_
        rintro e w6 ⟨rfl, rfl⟩
        have g0 := H6.out.1.cell 0
        have g1 := H6.out.1.cell 1
        have f0 := H6.out.1.frozen 0
        have f1 := H6.out.1.frozen 1
        have k0 := H6.out.2.1.cell 0
        have k1 := H6.out.2.1.cell 1
        simp at g0 g1 k0 k1
        by_cases hraw : 12 + tw < 11 + tu
        · rw [if_pos hraw] at HX
          have hraw' : ((12 + tw : Nat) : Int) < ((11 + tu : Nat) : Int) := by omega
          clear hraw
          go_wp2_with fail
          have h := ((H6.out.1.upd 0 (.int .i64 3)).upd 1 (.int .i64 (nd : Int)))
          rw [HX.out]
          exact bodyPost_ret (results_cell2 rfl rfl (load_rway (by simpa using h))) rfl ⟨rfl, (H6.out.2.2.setCell (by simp) _).setCell (by simp) _⟩
        · rw [if_neg hraw] at HX
          have hraw' : ¬ ((12 + tw : Nat) : Int) < ((11 + tu : Nat) : Int) := by omega
          clear hraw
          go_wp2_with fail
          have h := ((H6.out.1.upd 0 (.int .i64 2)).upd 1 (.int .i64 (ku : Int)))
          rw [HX.out]
          exact bodyPost_ret (results_cell2 rfl rfl (load_rway (by simpa using h))) rfl ⟨rfl, (H6.out.2.2.setCell (by simp) _).setCell (by simp) _⟩
      · rw [if_neg (fun h => hc2 h.2)] at HX
        have hc1' : (xs.length : Int) ≤ ((2 * n0 : Nat) : Int) := by omega
        have hc2' : ¬ ((11 + tu : Nat) : Int) < ((6 + tr : Nat) : Int) := by omega
        clear hc1 hc2
        go_wp2_with fail
        have hs5 := H4.out.2.2.size
        with_reducible refine (HUB.out _ (H.out.1.below H4.out.2.2)).mono ?_
        rintro e w5 ⟨rfl, hb5⟩
        have H5 := hid (And.intro (show Blk w5 w.heap.size 100 #[.int .i64 0, .int .i64 0] from (hb5.block _ H4.out.1.lt).trans H4.out.1) (And.intro (show Blk w5 b9 100 #[.int .i64 1, .int .i64 (kr : Int)] from (hb5.block _ H4.out.2.1.lt).trans H4.out.2.1) (H4.out.2.2.trans (hb5.mono hs5))))
        clear hb5 hs5 H4
        go_wp2_with fail
        with_reducible refine (HRA.out _ (H.out.1.below H5.out.2.2)).mono ?_
        rintro e w6 ⟨rfl, rfl⟩
        have g0 := H5.out.1.cell 0
        have g1 := H5.out.1.cell 1
        have f0 := H5.out.1.frozen 0
        have f1 := H5.out.1.frozen 1
        have k0 := H5.out.2.1.cell 0
        have k1 := H5.out.2.1.cell 1
        simp at g0 g1 k0 k1
        by_cases hraw : 12 + tw < 6 + tr
        · rw [if_pos hraw] at HX
          have hraw' : ((12 + tw : Nat) : Int) < ((6 + tr : Nat) : Int) := by omega
          clear hraw
          go_wp2_with fail
          have h := ((H5.out.1.upd 0 (.int .i64 3)).upd 1 (.int .i64 (nd : Int)))
          rw [HX.out]
          exact bodyPost_ret (results_cell2 rfl rfl (load_rway (by simpa using h))) rfl ⟨rfl, (H5.out.2.2.setCell (by simp) _).setCell (by simp) _⟩
        · rw [if_neg hraw] at HX
          have hraw' : ¬ ((12 + tw : Nat) : Int) < ((6 + tr : Nat) : Int) := by omega
          clear hraw
          go_wp2_with fail
          have h := ((H5.out.1.upd 0 (.int .i64 1)).upd 1 (.int .i64 (kr : Int)))
          rw [HX.out]
          exact bodyPost_ret (results_cell2 rfl rfl (load_rway (by simpa using h))) rfl ⟨rfl, (H5.out.2.2.setCell (by simp) _).setCell (by simp) _⟩
      · rw [if_neg (fun h => hc1 h.1)] at HX
        have hc1' : ¬ (xs.length : Int) ≤ ((2 * n0 : Nat) : Int) := by omega
        clear hc1
        go_wp2_with fail
        with_reducible refine (HRA.out _ (H.out.1.below H4.out.2.2)).mono ?_
        rintro e w6 ⟨rfl, rfl⟩
        have g0 := H4.out.1.cell 0
        have g1 := H4.out.1.cell 1
        have f0 := H4.out.1.frozen 0
        have f1 := H4.out.1.frozen 1
        have k0 := H4.out.2.1.cell 0
        have k1 := H4.out.2.1.cell 1
        simp at g0 g1 k0 k1
        by_cases hraw : 12 + tw < 6 + tr
        · rw [if_pos hraw] at HX
          have hraw' : ((12 + tw : Nat) : Int) < ((6 + tr : Nat) : Int) := by omega
          clear hraw
          go_wp2_with fail
          have h := ((H4.out.1.upd 0 (.int .i64 3)).upd 1 (.int .i64 (nd : Int)))
          rw [HX.out]
          exact bodyPost_ret (results_cell2 rfl rfl (load_rway (by simpa using h))) rfl ⟨rfl, (H4.out.2.2.setCell (by simp) _).setCell (by simp) _⟩
        · rw [if_neg hraw] at HX
          have hraw' : ¬ ((12 + tw : Nat) : Int) < ((6 + tr : Nat) : Int) := by omega
          clear hraw
          go_wp2_with fail
          have h := ((H4.out.1.upd 0 (.int .i64 1)).upd 1 (.int .i64 (kr : Int)))
          rw [HX.out]
          exact bodyPost_ret (results_cell2 rfl rfl (load_rway (by simpa using h))) rfl ⟨rfl, (H4.out.2.2.setCell (by simp) _).setCell (by simp) _⟩
end Go.Proofs.YtjboboaccjbebaaGreat
/- The reference of layer 7: Code. -/
namespace Go.Proofs.YtjboboaccjbebaaGreat
open Go.RowKit

/-- A list's code so far. -/
def codeTo (xs : List Int) (k : Int) (j : Nat) : List Bool := if j = xs.length then codeL xs k else (sts (xs.take j)).1.flatMap (codeI k)
theorem codeL_sts (xs : List Int) (k : Int) : codeL xs k = (sts xs).1.flatMap (codeI k) ++ (tailI (sts xs).2).flatMap (codeI k) := by
  unfold codeL
  rw [items_sts, List.flatMap_append]
theorem codeTo_lt {xs : List Int} {k : Int} {j : Nat} (h : j < xs.length) : codeTo xs k j = (sts (xs.take j)).1.flatMap (codeI k) := by unfold codeTo; rw [if_neg (by omega)]
theorem codeTo_zero {xs : List Int} {k : Int} {j : Nat} (h : j + 1 < xs.length) (h0 : xs[j] = 0) : codeTo xs k (j + 1) = codeTo xs k j := by
  rw [codeTo_lt h, codeTo_lt (by omega), take_snocI xs j (by omega), sts_zero h0]
theorem codeTo_end {xs : List Int} {k : Int} {j : Nat} (h : j + 1 = xs.length) (h0 : xs[j] = 0) : codeTo xs k (j + 1) = codeTo xs k j ++ gamC ((sts (xs.take j)).2 + 1 + 1) := by
  have e : xs = xs.take j ++ [xs[j]] := by rw [← take_snocI xs j (by omega), h, List.take_length]
  have e2 : sts xs = ((sts (xs.take j)).1, (sts (xs.take j)).2 + 1) := by
    conv => lhs; rw [e]
    rw [sts_zero h0]
  rw [codeTo_lt (show j < xs.length by omega)]
  unfold codeTo
  rw [if_pos h, codeL_sts, e2]
  congr 1
  unfold tailI
  rw [if_pos (by simp)]
  simp [codeI]
theorem codeTo_some {xs : List Int} {k : Int} {j : Nat} (h : j < xs.length) (h0 : xs[j] ≠ 0) : codeTo xs k (j + 1) = codeTo xs k j ++ gamC ((sts (xs.take j)).2 + 1) ++ codeR (zigN xs[j] - 1) k := by
  have e1 := sts_some (xs := xs.take j) h0
  rw [← take_snocI xs j h] at e1
  have e3 : (sts (xs.take (j + 1))).1.flatMap (codeI k) = codeTo xs k j ++ gamC ((sts (xs.take j)).2 + 1) ++ codeR (zigN xs[j] - 1) k := by
    rw [e1, codeTo_lt h, List.flatMap_append, List.append_assoc]
    congr 1
    simp [codeI]
  by_cases hl : j + 1 = xs.length
  · rw [← e3]
    unfold codeTo
    rw [if_pos hl, codeL_sts]
    rw [hl, List.take_length] at e1 ⊢
    rw [e1]
    simp [tailI]
  · rw [codeTo_lt (by omega), e3]
theorem codeTo_le (xs : List Int) (k : Int) (j : Nat) : (codeTo xs k j).length ≤ (xs.length + 1) * 127 := by
  unfold codeTo
  split
  · exact codeL_le xs k
  · have h1 := codeI_sum k (sts (xs.take j)).1
    have h2 := sumI_le k (sts (xs.take j)).1
    have h3 := (sts_le (xs.take j)).1
    rw [List.length_take] at h3
    have h4 : (sts (xs.take j)).1.length * 127 ≤ (xs.length + 1) * 127 := Nat.mul_le_mul_right _ (by omega)
    omega

set_option maxRecDepth 100000 in
set_option maxHeartbeats 8000000 in
theorem refcodel_any (l : Value) (xs : List Int) (k : Int) (w : World) (hl : Sl w l (i64s xs)) (hx : InI xs) (hn : xs.length ≤ 1048576) :
    Calls Tryz.prog 86 #[l, .int .i64 k] w (CodeS w (codeL xs k) (codeL xs k).length) := by
  obtain ⟨A0, c0, rfl, hm0⟩ := i64s_form hl
  have H := hid (And.intro hl hx)
  clear hl hx
  have HLE := hid (codeTo_le xs k)
  go_enter Tryz.func86, Tryz.ntmps86
  go_wp2_with fail
  go_loopw [5, 6, 7] (fun o n i wr => ∃ (j m q : Nat) (A : Option Addr) (c : Nat), j ≤ xs.length ∧ i = .int .i64 j ∧ n = .int .i64 m ∧ m ≤ j ∧ o = .slice A q c ∧ Hid (m = (sts (xs.take j)).2 ∨ j = xs.length) ∧ Hid ((codeTo xs k j).length = q) ∧ FreshI w (bis (codeTo xs k j)) (.slice A q c) wr) (fun _ _ i _ => xs.length - (intOf i).toNat)
  case atStart =>
    have e : codeTo xs k 0 = [] := by
      unfold codeTo
      split
      · rename_i h; rw [List.eq_nil_of_length_eq_zero h.symm]; rfl
      · rfl
    refine ⟨0, 0, 0, none, 0, by omega, rfl, rfl, by omega, rfl, .inl rfl, by show _ = _; rw [e]; rfl, ?_⟩
    rw [e]
    exact ⟨World.ownsRow_nil _ _ _ _, .refl _ _, by simp [Value.ownBlock]⟩
  case round =>
    obtain ⟨j, m, q, A, c, hj, rfl, rfl, hmj, rfl, hst, hlen, hf⟩ := hrel
    have HF := hid hf
    have hql : q ≤ 134217728 := by
      have := HLE.out j
      rw [hlen.out] at this
      omega
    by_cases hjm : j < xs.length
    · have hin : (j : Int) < xs.length := by omega
      obtain ⟨ad, rfl, hc⟩ := i64s_at (H.out.1.below hf.bel) hjm
      have hxb := H.out.2 xs[j] (List.getElem_mem _)
      have HS := hid (show m = (sts (xs.take j)).2 from by rcases hst.out with h | h; exact h; omega)
      have KC := hid (show ∀ W, Below w.heap.size w W → W.cell? (ad.add j) = some (.int .i64 xs[j]) from fun W hb => by
        obtain ⟨_, e, h⟩ := i64s_at (H.out.1.below hb) hjm
        cases e
        exact h)
      have hcz := @codeTo_zero xs k j
      have hce := @codeTo_end xs k j
      have hcs := @codeTo_some xs k j hjm
      rw [← HS.out] at hce hcs
      obtain ⟨x, hxe⟩ : ∃ x, xs[j] = x := ⟨_, rfl⟩
      rw [hxe] at hc hxb KC hcs
      have HZR := hid (fun (h : x = 0) => show sts (xs.take (j + 1)) = ((sts (xs.take j)).1, m + 1) from by rw [take_snocI xs j hjm, hxe, HS.out, sts_zero h])
      have HSM := hid (fun (h : x ≠ 0) => show (sts (xs.take (j + 1))).2 = 0 from by rw [take_snocI xs j hjm, hxe, sts_some h])
      obtain ⟨B, hB⟩ : ∃ B, codeTo xs k j = B := ⟨_, rfl⟩
      rw [hB] at hlen HF hcz hce hcs
      have HX := hid (And.intro hxe (And.intro hcz (And.intro hce hcs)))
      clear hf hst hxe hcz hce hcs hB
      by_cases h0 : x = 0
      · subst h0
        have hw0 : IntKind.i64.wrap ((m : Int) + 1) = ((m + 1 : Nat) : Int) := by rw [IntWalk.i64_in _ (by omega)]; omega
        obtain ⟨m1, hm1⟩ : ∃ m1, m + 1 = m1 := ⟨_, rfl⟩
        rw [hm1] at hw0 HZR
        by_cases hlast : j + 1 = xs.length
        · have hb : ((j : Int) == (xs.length : Int) - 1) = true := by rw [beq_iff_eq]; omega
          have hw1 : IntKind.u64.wrap (m1 : Int) = (m1 : Int) := IntWalk.u64_in _ (by omega)
          have hw2 : IntKind.u64.wrap ((m1 : Int) + 1) = ((m1 + 1 : Nat) : Int) := by rw [IntWalk.u64_in _ (by omega)]; omega
          have HG := hid (fun W => refgamma_any (m1 + 1) W (by omega))
          have HGL := hid (gamC_length (m1 + 1))
          have hgl := gamCost_le (m1 + 1)
          have HT := hid (HX.out.2.2.1 hlast HX.out.1)
          rw [hm1] at HT
          obtain ⟨m2, hm2⟩ : ∃ m2, m1 + 1 = m2 := ⟨_, rfl⟩
          rw [hm2] at hw2 HG HGL hgl HT
          obtain ⟨g, hg⟩ : ∃ g, gamCost m2 = g := ⟨_, rfl⟩
          rw [hg] at HG HGL hgl
          have HM := hid hlast
          have hm1j : m1 ≤ j + 1 := by omega
          clear hlast hm1 hm2 hg
          go_wp2_with fail
          with_reducible refine (HG.out _).mono ?_
          rintro e w2 ⟨A2, c2, rfl, hf2⟩
          have H2 := hid (And.intro (HF.out.later hf2.bel) hf2)
          clear hf2
          go_wp2_with (at_builtin; go_must (refine wpList_app _ rfl (.tmp 26) (.tmp 30) 22 rfl 3 .i64 8 Tryz.underlying22 Tryz.info_int (.slice A q c) q (i64s (bis B)) rfl ?c1 (.slice A2 g c2) (i64s (bis (gamC m2))) rfl ?c2 i64s_one (by decide) ?c3 ?_); rotate_right; intro v6 w6 hown hg hmv; replace hown := hid hown; replace hg := hid hg; replace hmv := hid hmv)
          case c1 => exact H2.out.1.own_of hlen.out
          case c2 => exact H2.out.2.sl
          case c3 => rw [i64s_length, bis_length, HGL.out]; omega
          have h6 := H2.out.1.bits_app' hlen.out hown.out hg.out hmv.out
          obtain ⟨A6, c6, rfl⟩ := h6.form
          rw [bis_length, List.length_append, hlen.out, HGL.out] at h6 ⊢
          rw [← HT.out] at h6
          have H6 := hid h6
          clear h6 hown hg hmv hb
          go_wp2_with fail
          go_roundw
          case rel =>
            refine ⟨j + 1, m1, q + g, A6, c6, by omega, by go_num, by first | rfl | go_num, by omega, rfl, .inr HM.out, ?_, H6.out⟩
            show (codeTo xs k (j + 1)).length = q + g
            rw [HT.out, List.length_append, hlen.out, HGL.out]
          case measure => simp [intOf]; omega
        · have hb : ((j : Int) == (xs.length : Int) - 1) = false := by rw [beq_eq_false_iff_ne]; omega
          have HT := hid (HX.out.2.1 (by omega) HX.out.1)
          have hm1j : m1 ≤ j + 1 := by omega
          clear hm1 hlast
          go_wp2_with fail
          clear hb
          go_roundw
          case rel =>
            refine ⟨j + 1, m1, q, A, c, by omega, by go_num, by first | rfl | go_num, by omega, rfl, .inl ?_, by show _ = _; rw [HT.out]; exact hlen.out, by rw [HT.out]; exact HF.out⟩
            rw [HZR.out rfl]
          case measure => simp [intOf]; omega
      · have hb0 : (x == 0) = false := by rw [beq_eq_false_iff_ne]; exact h0
        have hw1 : IntKind.u64.wrap (m : Int) = (m : Int) := IntWalk.u64_in _ (by omega)
        have hw2 : IntKind.u64.wrap ((m : Int) + 1) = ((m + 1 : Nat) : Int) := by rw [IntWalk.u64_in _ (by omega)]; omega
        have HG := hid (fun W => refgamma_any (m + 1) W (by omega))
        have HGL := hid (gamC_length (m + 1))
        have hgl := gamCost_le (m + 1)
        have HT := hid (HX.out.2.2.2 h0)
        have HS0 := hid (HSM.out h0)
        obtain ⟨m2, hm2⟩ : ∃ m2, m + 1 = m2 := ⟨_, rfl⟩
        rw [hm2] at hw2 HG HGL hgl HT
        obtain ⟨g, hg⟩ : ∃ g, gamCost m2 = g := ⟨_, rfl⟩
        rw [hg] at HG HGL hgl
        have hz1 := zig_zero h0
        have hz2 := zig_lt hxb.1 hxb.2
        have HZ := hid (fun W => refzig_any x W hxb.1 hxb.2)
        have HC2 := hid (fun W => refcode_any06 (zigN x - 1) k W)
        have hcl := costR_le (zigN x - 1) k
        have HCL := hid (codeR_length (zigN x - 1) k)
        have hw3 : IntKind.u64.wrap ((zigN x : Int) - 1) = ((zigN x - 1 : Nat) : Int) := by rw [IntWalk.u64_in _ (by omega)]; omega
        obtain ⟨z, hz⟩ : ∃ z, zigN x = z := ⟨_, rfl⟩
        rw [hz] at hw3 HZ HC2 hcl HCL HT
        obtain ⟨y, hy⟩ : ∃ y, z - 1 = y := ⟨_, rfl⟩
        rw [hy] at hw3 HC2 hcl HCL HT
        obtain ⟨u, hu⟩ : ∃ u, costR y k = u := ⟨_, rfl⟩
        rw [hu] at HC2 hcl HCL
        obtain ⟨G, hG⟩ : ∃ G, gamC m2 = G := ⟨_, rfl⟩
        rw [hG] at HG HGL HT
        obtain ⟨R, hR⟩ : ∃ R, codeR y k = R := ⟨_, rfl⟩
        rw [hR] at HC2 HCL HT
        clear hm2 hg hz hy hu hG hR hz1 hz2 h0 hxb HSM HZR HX
        go_wp2_with fail
        go_region_held3 (fun w' => w'.cell? (ad.add j) = some (.int .i64 x)) (first | exact k8 | exact k6 | exact k4 | exact k2 | exact hc | go_keep)
          (first
            | (go_at_call 109; (with_reducible refine (HG.out _).mono ?_); rintro e w2 ⟨A2, c2, rfl, hf2⟩; have h2 := (HF.out.later ((Below.refl _ _).drew)).later hf2.bel; have k2 := KC.out w2 h2.bel; have H2 := hid (And.intro h2 hf2); clear h2 hf2)
            | (refine step_app _ rfl (.tmp 32) (.tmp 36) 22 rfl 3 .i64 8 Tryz.underlying22 Tryz.info_int (.slice A q c) q (i64s (bis B)) ?_ ?_ (.slice A2 g c2) (i64s (bis G)) ?_ ?_ i64s_one (by decide) ?_ ?_; (simp [Act.eval]); (exact H2.out.1.own_of hlen.out); (simp [Act.eval]); (exact H2.out.2.sl); (rw [i64s_length, bis_length, HGL.out]; omega); (intro v4 w4 hown hg hm4; have h4 := H2.out.1.bits_app' hlen.out hown hg hm4; have k4 := KC.out w4 h4.bel; have H4 := hid h4; clear h4 hown hg hm4))
            | (go_at_call 103; (with_reducible refine (HZ.out _).mono ?_); rintro e w5 ⟨rfl, rfl⟩)
            | (go_at_call 108; (with_reducible refine (HC2.out _).mono ?_); rintro e w6 ⟨A6, c6, rfl, hf6⟩; have h6 := H4.out.later hf6.bel; have k6 := KC.out w6 h6.bel; have H6 := hid (And.intro h6 hf6); clear h6 hf6)
            | (refine step_app _ rfl (.tmp 37) (.tmp 45) 22 rfl 3 .i64 8 Tryz.underlying22 Tryz.info_int v4 (q + g) (i64s (bis (B ++ G))) ?_ ?_ (.slice A6 u c6) (i64s (bis R)) ?_ ?_ i64s_one (by decide) ?_ ?_; (simp [Act.eval]); (exact H6.out.1.own_of (by rw [List.length_append, hlen.out, HGL.out])); (simp [Act.eval]); (exact H6.out.2.sl); (rw [i64s_length, bis_length, HCL.out]; omega); (intro v8 w8 hown hg hm8; have h8 := H6.out.1.bits_app' (by rw [List.length_append, hlen.out, HGL.out]) hown hg hm8; have k8 := KC.out w8 h8.bel; have H8 := hid h8; clear h8 hown hg hm8)))
        have h8 := H8.out
        obtain ⟨A9, c9, rfl⟩ := h8.form
        have hl8 : (bis (B ++ G ++ R)).length = q + g + u := by rw [bis_length, List.length_append, List.length_append, hlen.out, HGL.out, HCL.out]
        rw [hl8] at h8 ⊢
        rw [← HT.out] at h8
        have H9 := hid h8
        clear h8
        go_wp2_with fail
        go_roundw
        case rel =>
          refine ⟨j + 1, 0, q + g + u, A9, c9, by omega, by go_num, rfl, by omega, rfl, .inl HS0.out.symm, ?_, H9.out⟩
          show (codeTo xs k (j + 1)).length = q + g + u
          rw [HT.out, ← hl8, bis_length]
        case measure => simp [intOf]; omega
    · have hin : ¬ (j : Int) < xs.length := by omega
      obtain rfl : j = xs.length := by omega
      clear hf
      go_wp2_with fail
      go_ret
      have h := HF.out
      have hmm := hlen.out
      have e : codeTo xs k xs.length = codeL xs k := by unfold codeTo; rw [if_pos rfl]
      rw [e] at h hmm
      rw [hmm]
      exact ⟨A, c, rfl, h⟩
end Go.Proofs.YtjboboaccjbebaaGreat
/- The references: Codes of layer 6, Code of layer 9. -/
namespace Go.Proofs.YtjboboaccjbebaaGreat
open Go.RowKit

theorem codesR_snoc' (xs : List Nat) (x : Nat) (k : Int) : codesR (xs ++ [x]) k = codesR xs k ++ codeR x k := by simp [codesR]

set_option maxRecDepth 100000 in
set_option maxHeartbeats 1600000 in
theorem refcodes06_any (l : Value) (xs : List Nat) (n : Int) (w : World) (hl : Sl w l (u64s xs)) (hn : xs.length ≤ 1048576) :
    Calls Tryz.prog 84 #[l, .int .i64 n] w (CodeS w (codesR xs n) (codesR xs n).length) := by
  obtain ⟨A0, c0, rfl, hm0⟩ := u64s_form hl
  have H := hid hl
  clear hl
  go_enter Tryz.func84, Tryz.ntmps84
  go_wp2_with fail
  go_loopw [5, 6] (fun o i wr => ∃ (j m : Nat) (A : Option Addr) (c : Nat), j ≤ xs.length ∧ i = .int .i64 j ∧ o = .slice A m c ∧ Hid ((codesR (xs.take j) n).length = m) ∧ FreshI w (bis (codesR (xs.take j) n)) (.slice A m c) wr) (fun _ i _ => xs.length - (intOf i).toNat)
  case atStart => exact ⟨0, 0, none, 0, by omega, rfl, rfl, rfl, ⟨World.ownsRow_nil _ _ _ _, .refl _ _, by simp [Value.ownBlock]⟩⟩
  case round =>
    obtain ⟨j, m, A, c, hj, rfl, rfl, hm, hf⟩ := hrel
    have HF := hid hf
    have hml : m ≤ 67108864 := by
      have := totalR_le (xs.take j) n
      rw [← codesR_length, List.length_take, hm.out] at this
      omega
    by_cases hjm : j < xs.length
    · have hin : (j : Int) < xs.length := by omega
      obtain ⟨ad, rfl, hc⟩ := u64s_at (H.out.below hf.bel) hjm
      obtain ⟨x, hx⟩ : ∃ x, xs[j] = x := ⟨_, rfl⟩
      rw [hx] at hc
      have HX := hid hx
      clear hx hf
      have hkl := costR_le x n
      have HK := hid (codeR_length x n)
      have HC := refcode_any06 x n wr
      obtain ⟨k, hk⟩ : ∃ k, costR x n = k := ⟨_, rfl⟩
      rw [hk] at hkl HK HC
      clear hk
      go_wp2_with fail
      with_reducible refine HC.mono ?_
      clear HC
      rintro e w2 ⟨A2, c2, rfl, hf2⟩
      have H2 := hid (And.intro (HF.out.later hf2.bel) hf2)
      clear hf2 hc
      go_wp2_with (at_builtin; go_must (refine wpList_app _ rfl (.tmp 13) (.tmp 19) 22 rfl 3 .i64 8 Tryz.underlying22 Tryz.info_int (.slice A m c) m (i64s (bis (codesR (xs.take j) n))) rfl ?c1 (.slice A2 k c2) (i64s (bis (codeR x n))) rfl ?c2 i64s_one (by decide) ?c3 ?_); rotate_right; intro v6 w6 hown hg hmv; replace hown := hid hown; replace hg := hid hg; replace hmv := hid hmv)
      case c1 => exact H2.out.1.own_of hm.out
      case c2 => exact H2.out.2.sl
      case c3 => rw [i64s_length, bis_length, HK.out]; omega
      have h6 := H2.out.1.bits_app' hm.out hown.out hg.out hmv.out
      obtain ⟨A6, c6, rfl⟩ := h6.form
      rw [bis_length, List.length_append, hm.out, HK.out] at h6 ⊢
      rw [← HX.out, ← codesR_snoc', ← take_snocI xs j hjm] at h6
      have H6 := hid h6
      clear h6 hown hg hmv
      go_wp2_with fail
      go_roundw
      case rel =>
        refine ⟨j + 1, m + k, A6, c6, by omega, by go_num, rfl, ?_, H6.out⟩
        show (codesR (xs.take (j + 1)) n).length = m + k
        rw [take_snocI xs j hjm, codesR_snoc', List.length_append, hm.out, HX.out, HK.out]
      case measure => simp [intOf]; omega
    · have hin : ¬ (j : Int) < xs.length := by omega
      obtain rfl : j = xs.length := by omega
      clear hf
      go_wp2_with fail
      go_ret
      have h := HF.out
      have hmm := hm.out
      rw [List.take_length] at h hmm
      rw [hmm]
      exact ⟨A, c, rfl, h⟩

theorem csign' (c : Int) (n : Nat) (h1 : -(2 ^ (n - 1)) ≤ c) (h2 : c < 2 ^ (n - 1)) (hn1 : 1 ≤ n) : (if c < 0 then c + 2 ^ n else c) = ((c % 2 ^ n).toNat : Int) := by
  have e : (2 : Int) ^ n = 2 * 2 ^ (n - 1) := by rw [← pow_succ_int, show n - 1 + 1 = n by omega]
  have hp := pow_pos_int (n - 1)
  rw [e]
  generalize (2 : Int) ^ (n - 1) = p at *
  split
  · rw [show c = (c + 2 * p) + (-1) * (2 * p) by omega, Int.add_mul_emod_self_right, Int.emod_eq_of_lt (by omega) (by omega)]
    omega
  · rw [Int.emod_eq_of_lt (by omega) (by omega)]
    omega
theorem CodeS.after {w0 w : World} {B : List Bool} {n : Nat} {A : Option Addr} {c : Nat} {W : World} (hb : Below w0.heap.size w0 w) (h : FreshI w (bis B) (.slice A n c) W) : CodeS w0 B n (.returned (.slice A n c)) W := ⟨A, c, rfl, h.after hb⟩

set_option maxRecDepth 100000 in
set_option maxHeartbeats 16000000 in
theorem refcode09_any (l : Value) (xs : List Int) (w : World) (hl : Sl w l (i64s xs)) (hx : InI xs) (hn : xs.length ≤ 65536) (hc : codedB xs = true) :
    Calls Tryz.prog 62 #[l] w (CodeS w (codeP xs) (codeP xs).length) := by
  have HC := hid (fun W (h : Sl W l (i64s xs)) => refchoose_any l xs W h hx hn)
  have HZ := hid (fun W (h : Sl W l (i64s xs)) => refzigs_any l xs W h hx (by omega))
  have HRC := hid (fun W z (k : Nat) (h : Sl W z (u64s (zigs xs))) => refcodes06_any z (zigs xs) (k : Int) W h (by rw [zigs_length]; omega))
  have HUC := hid (fun W (k : Nat) (h : Sl W l (i64s xs)) => refcodel_any l xs (k : Int) W h hx (by omega))
  have HCL := hid (fun k : Nat => show (codesR (zigs xs) (k : Int)).length ≤ 4194304 from by have := totalR_le (zigs xs) (k : Int); rw [← codesR_length, zigs_length] at this; omega)
  have HUL := hid (fun k : Nat => show (codeL xs (k : Int)).length ≤ 8323200 from by have := codeL_le xs (k : Int); omega)
  have H := hid (And.intro hl hx)
  have hcs := choose_cases xs hc
  have hkr := kR_le xs
  have hku := kU_le xs
  have hnl := needL_ge xs
  have hfits : ∀ x ∈ xs, fitsB x = true := by rw [codedB_all, List.all_eq_true] at hc; exact hc
  have hnl2 := needL_le 40 (by omega) xs fun x hx => needN_fits (hfits x hx)
  have HF := hid (fun x (hm : x ∈ xs) => need_bd x (hfits x hm) (needL xs) (hnl.2 x hm))
  replace hnl := hnl.1
  obtain ⟨A, c, rfl, hm⟩ := i64s_form hl
  clear hl hx hfits hc
  unfold wayV at HC
  rcases hcs with ⟨e, _, h⟩ | ⟨e, h⟩ | ⟨e, h, hu⟩ | ⟨e, h⟩
  · rw [e] at HC
    rw [h, bitsOf_length]
    clear h e
    go_enter Tryz.func62, Tryz.ntmps62
    go_wp2_with fail
    with_reducible refine (HC.out _ H.out.1).mono ?_
    rintro e w1 ⟨rfl, hb1⟩
    go_wp2_with fail
    have hA2 := hb1.alloc hb1.size (.cells #[.int .i64 0, .int .i64 0] 100)
    with_reducible refine (bits_sl 31 6 31 6 rfl rfl _ (by omega) (by omega)).mono ?_
    rintro e w3 ⟨A3, c3, rfl, hf3⟩
    have H3 := hid (hf3.after hA2)
    clear hf3 hA2 hb1
    go_wp2_with fail
    go_ret
    exact ⟨A3, c3, rfl, H3.out⟩
  · rw [e] at HC
    rw [h]
    clear h e hnl hnl2 HF hku
    obtain ⟨kr, hkr'⟩ : ∃ kr, kR xs = kr := ⟨_, rfl⟩
    rw [hkr'] at HC hkr ⊢
    have hwk : IntKind.u64.wrap (kr : Int) = (kr : Int) := IntWalk.u64_in _ (by omega)
    clear hkr'
    have hcl := HCL.out kr
    replace HRC := hid (fun W z h => HRC.out W z kr h)
    obtain ⟨C, hC⟩ : ∃ C, codesR (zigs xs) (kr : Int) = C := ⟨_, rfl⟩
    simp only [hC] at HRC hcl ⊢
    have hcl2 : (bitsOf kr 6 ++ C).length = 6 + C.length := by rw [List.length_append, bitsOf_length]
    rw [hcl2]
    have HL2 := hid hcl2
    clear hC hcl2
    go_enter Tryz.func62, Tryz.ntmps62
    go_wp2_with fail
    with_reducible refine (HC.out _ H.out.1).mono ?_
    rintro e w1 ⟨rfl, hb1⟩
    go_wp2_with fail
    have hA1 := Blk.new w1 100 #[.int .i64 1, .int .i64 (kr : Int)]
    have hA2 := hb1.alloc hb1.size (.cells #[.int .i64 1, .int .i64 (kr : Int)] 100)
    obtain ⟨W2, hW2⟩ : ∃ W2, w1.alloc (.cells #[.int .i64 1, .int .i64 (kr : Int)] 100) = W2 := ⟨_, rfl⟩
    rw [hW2] at hA1 hA2
    rw [hW2]
    obtain ⟨b3, hb3⟩ : ∃ b3, w1.heap.size = b3 := ⟨_, rfl⟩
    rw [hb3] at hA1
    rw [hb3]
    have KC := hid (fun W (h : Below W2.drew.heap.size W2.drew W) => show W.cell? ⟨b3, 1, none⟩ = some (.int .i64 (kr : Int)) from by
      have h2 : Blk W b3 100 #[.int .i64 1, .int .i64 (kr : Int)] := (h.block b3 hA1.lt).trans hA1.drew
      simpa using h2.cell 1)
    have HB := hid (fun W (h : Below W2.drew.heap.size W2.drew W) => hA2.drew.trans (h.mono hA2.drew.size))
    have k1 := KC.out _ (Below.refl _ _)
    clear hA1 hA2 hW2 hb3 hb1
    go_region_held3 (fun w' => w'.cell? ⟨b3, 1, none⟩ = some (.int .i64 (kr : Int))) (first | exact k5 | exact k4 | exact k3 | exact k2 | exact k1 | go_keep)
      (first
        | (go_at_call 56; (with_reducible refine (bits_sl (kr : Int) 6 kr 6 rfl rfl _ (by omega) (by omega)).mono ?_); rintro e w2 ⟨A2, c2, rfl, hf2⟩; have k2 := KC.out w2 hf2.bel; have H2 := hid hf2; clear hf2)
        | (go_at_call 85; (with_reducible refine (HZ.out _ (H.out.1.below (HB.out _ H2.out.bel))).mono ?_); rintro e w3 ⟨A3, c3, rfl, hf3⟩; have h3 := H2.out.later hf3.2.1; have k3 := KC.out w3 h3.bel; have H3 := hid (And.intro h3 hf3.sl); clear h3 hf3)
        | (go_at_call 84; (with_reducible refine (HRC.out _ _ H3.out.2).mono ?_); rintro e w4 ⟨A4, c4, rfl, hf4⟩; have h4 := H3.out.1.later hf4.bel; have k4 := KC.out w4 h4.bel; have H4 := hid (And.intro h4 hf4); clear h4 hf4)
        | (refine step_app _ rfl (.tmp 23) (.tmp 28) 22 rfl 3 .i64 8 Tryz.underlying22 Tryz.info_int (.slice A2 6 c2) 6 (i64s (bis (bitsOf kr 6))) ?_ ?_ (.slice A4 C.length c4) (i64s (bis C)) ?_ ?_ i64s_one (by decide) ?_ ?_; (simp [Act.eval]); (exact H4.out.1.own_of (bitsOf_length _ _)); (simp [Act.eval]); (exact H4.out.2.sl); (rw [i64s_length, bis_length]; omega); (intro v5 w5 hown hg hm5; have h5 := H4.out.1.bits_app' (bitsOf_length _ _) hown hg hm5; have k5 := KC.out w5 h5.bel; have H5 := hid h5; clear h5 hown hg hm5)))
    go_wp2_with fail
    go_ret
    have h5 := H5.out.after (HB.out _ (Below.refl _ _))
    obtain ⟨A6, c6, rfl⟩ := h5.form
    rw [bis_length, HL2.out] at h5 ⊢
    exact ⟨A6, c6, rfl, h5⟩
  · rw [e] at HC
    rw [h]
    clear h e hnl hnl2 HF hkr
    obtain ⟨ku, hku'⟩ : ∃ ku, kU xs = ku := ⟨_, rfl⟩
    rw [hku'] at HC hku ⊢
    have hwk : IntKind.u64.wrap (ku : Int) = (ku : Int) := IntWalk.u64_in _ (by omega)
    clear hku'
    have hcl := HUL.out ku
    replace HUC := hid (fun W h => HUC.out W ku h)
    obtain ⟨C, hC⟩ : ∃ C, codeL xs (ku : Int) = C := ⟨_, rfl⟩
    simp only [hC] at HUC hcl ⊢
    have hcl2 : (bitsOf 32 6 ++ bitsOf ku 5 ++ C).length = 11 + C.length := by rw [List.length_append, List.length_append, bitsOf_length, bitsOf_length]
    rw [hcl2]
    have HL2 := hid hcl2
    clear hC hcl2
    go_enter Tryz.func62, Tryz.ntmps62
    go_wp2_with fail
    with_reducible refine (HC.out _ H.out.1).mono ?_
    rintro e w1 ⟨rfl, hb1⟩
    go_wp2_with fail
    have hA1 := Blk.new w1 100 #[.int .i64 2, .int .i64 (ku : Int)]
    have hA2 := hb1.alloc hb1.size (.cells #[.int .i64 2, .int .i64 (ku : Int)] 100)
    obtain ⟨W2, hW2⟩ : ∃ W2, w1.alloc (.cells #[.int .i64 2, .int .i64 (ku : Int)] 100) = W2 := ⟨_, rfl⟩
    rw [hW2] at hA1 hA2
    rw [hW2]
    obtain ⟨b3, hb3⟩ : ∃ b3, w1.heap.size = b3 := ⟨_, rfl⟩
    rw [hb3] at hA1
    rw [hb3]
    have KC := hid (fun W (h : Below W2.drew.heap.size W2.drew W) => show W.cell? ⟨b3, 1, none⟩ = some (.int .i64 (ku : Int)) from by
      have h2 : Blk W b3 100 #[.int .i64 2, .int .i64 (ku : Int)] := (h.block b3 hA1.lt).trans hA1.drew
      simpa using h2.cell 1)
    have HB := hid (fun W (h : Below W2.drew.heap.size W2.drew W) => hA2.drew.trans (h.mono hA2.drew.size))
    have k1 := KC.out _ (Below.refl _ _)
    clear hA1 hA2 hW2 hb3 hb1
    go_region_held3 (fun w' => w'.cell? ⟨b3, 1, none⟩ = some (.int .i64 (ku : Int))) (first | exact k6 | exact k5 | exact k4 | exact k3 | exact k2 | exact k1 | go_keep)
      (first
        | (go_at_call 56; (with_reducible refine (bits_sl 32 6 32 6 rfl rfl _ (by omega) (by omega)).mono ?_); rintro e w2 ⟨A2, c2, rfl, hf2⟩; have k2 := KC.out w2 hf2.bel; have H2 := hid hf2; clear hf2)
        | (go_at_call 56; (with_reducible refine (bits_sl (ku : Int) 5 ku 5 rfl rfl _ (by omega) (by omega)).mono ?_); rintro e w3 ⟨A3, c3, rfl, hf3⟩; have h3 := H2.out.later hf3.bel; have k3 := KC.out w3 h3.bel; have H3 := hid (And.intro h3 hf3); clear h3 hf3)
        | (refine step_app _ rfl (.tmp 33) (.tmp 37) 22 rfl 3 .i64 8 Tryz.underlying22 Tryz.info_int (.slice A2 6 c2) 6 (i64s (bis (bitsOf 32 6))) ?_ ?_ (.slice A3 5 c3) (i64s (bis (bitsOf ku 5))) ?_ ?_ i64s_one (by decide) ?_ ?_; (simp [Act.eval]); (exact H3.out.1.own_of (bitsOf_length _ _)); (simp [Act.eval]); (exact H3.out.2.sl); (rw [i64s_length, bis_length, bitsOf_length]; omega); (intro v4 w4 hown hg hm4; have h4 := H3.out.1.bits_app' (bitsOf_length _ _) hown hg hm4; have k4 := KC.out w4 h4.bel; have H4 := hid h4; clear h4 hown hg hm4))
        | (go_at_call 86; (with_reducible refine (HUC.out _ (H.out.1.below (HB.out _ H4.out.bel))).mono ?_); rintro e w5 ⟨A5, c5, rfl, hf5⟩; have h5 := H4.out.later hf5.bel; have k5 := KC.out w5 h5.bel; have H5 := hid (And.intro h5 hf5); clear h5 hf5)
        | (refine step_app _ rfl (.tmp 38) (.tmp 42) 22 rfl 3 .i64 8 Tryz.underlying22 Tryz.info_int v4 11 (i64s (bis (bitsOf 32 6 ++ bitsOf ku 5))) ?_ ?_ (.slice A5 C.length c5) (i64s (bis C)) ?_ ?_ i64s_one (by decide) ?_ ?_; (simp [Act.eval]); (exact H5.out.1.own_of (by rw [List.length_append, bitsOf_length, bitsOf_length])); (simp [Act.eval]); (exact H5.out.2.sl); (rw [i64s_length, bis_length]; omega); (intro v6 w6 hown hg hm6; have h6 := H5.out.1.bits_app' (by rw [List.length_append, bitsOf_length, bitsOf_length]) hown hg hm6; have k6 := KC.out w6 h6.bel; have H6 := hid h6; clear h6 hown hg hm6)))
    go_wp2_with fail
    go_ret
    have h6 := H6.out.after (HB.out _ (Below.refl _ _))
    obtain ⟨A7, c7, rfl⟩ := h6.form
    rw [bis_length, HL2.out] at h6 ⊢
    exact ⟨A7, c7, rfl, h6⟩
  · rw [e] at HC
    rw [h]
    clear h e hkr hku
    obtain ⟨nd, hnd⟩ : ∃ nd, needL xs = nd := ⟨_, rfl⟩
    rw [hnd] at HC hnl hnl2 HF ⊢
    obtain ⟨C, hC⟩ : ∃ C, bitsOf 33 6 ++ bitsOf nd 6 ++ xs.flatMap (rawC nd) = C := ⟨_, rfl⟩
    rw [hC]
    have HCC := hid hC
    clear hC
    have hwk : IntKind.u64.wrap (nd : Int) = (nd : Int) := IntWalk.u64_in _ (by omega)
    clear hnd
    have HPW := hid (fun W => power_at (nd : Int) nd rfl W (by omega))
    have hpn : (2 : Int) ^ nd ≤ 1099511627776 := pow_le_int (n := 40) hnl2
    have hpn0 := pow_pos_int nd
    have hpn2 : (2 : Nat) ^ nd ≤ 2 ^ 40 := Nat.pow_le_pow_right (by omega) hnl2
    have hnx : nd * xs.length ≤ 40 * 65536 := Nat.mul_le_mul hnl2 hn
    have HNX := hid hnx
    clear hnx
    go_enter Tryz.func62, Tryz.ntmps62
    go_wp2_with fail
    with_reducible refine (HC.out _ H.out.1).mono ?_
    rintro e w1 ⟨rfl, hb1⟩
    go_wp2_with fail
    have hA1 := Blk.new w1 100 #[.int .i64 3, .int .i64 (nd : Int)]
    have hA2 := hb1.alloc hb1.size (.cells #[.int .i64 3, .int .i64 (nd : Int)] 100)
    obtain ⟨W2, hW2⟩ : ∃ W2, w1.alloc (.cells #[.int .i64 3, .int .i64 (nd : Int)] 100) = W2 := ⟨_, rfl⟩
    rw [hW2] at hA1 hA2
    rw [hW2]
    obtain ⟨b3, hb3⟩ : ∃ b3, w1.heap.size = b3 := ⟨_, rfl⟩
    rw [hb3] at hA1
    rw [hb3]
    have KC := hid (fun W (h : Below W2.drew.heap.size W2.drew W) => show W.cell? ⟨b3, 1, none⟩ = some (.int .i64 (nd : Int)) from by
      have h2 : Blk W b3 100 #[.int .i64 3, .int .i64 (nd : Int)] := (h.block b3 hA1.lt).trans hA1.drew
      simpa using h2.cell 1)
    have HB := hid (fun W (h : Below W2.drew.heap.size W2.drew W) => hA2.drew.trans (h.mono hA2.drew.size))
    have k1 := KC.out _ (Below.refl _ _)
    clear hA1 hA2 hW2 hb3 hb1
    go_region_held3 (fun w' => w'.cell? ⟨b3, 1, none⟩ = some (.int .i64 (nd : Int))) (first | exact k4 | exact k3 | exact k2 | exact k1 | go_keep)
      (first
        | (go_at_call 56; (with_reducible refine (bits_sl 33 6 33 6 rfl rfl _ (by omega) (by omega)).mono ?_); rintro e w2 ⟨A2, c2, rfl, hf2⟩; have k2 := KC.out w2 hf2.bel; have H2 := hid hf2; clear hf2)
        | (go_at_call 56; (with_reducible refine (bits_sl (nd : Int) 6 nd 6 rfl rfl _ (by omega) (by omega)).mono ?_); rintro e w3 ⟨A3, c3, rfl, hf3⟩; have h3 := H2.out.later hf3.bel; have k3 := KC.out w3 h3.bel; have H3 := hid (And.intro h3 hf3); clear h3 hf3)
        | (refine step_app _ rfl (.tmp 44) (.tmp 48) 22 rfl 3 .i64 8 Tryz.underlying22 Tryz.info_int (.slice A2 6 c2) 6 (i64s (bis (bitsOf 33 6))) ?_ ?_ (.slice A3 6 c3) (i64s (bis (bitsOf nd 6))) ?_ ?_ i64s_one (by decide) ?_ ?_; (simp [Act.eval]); (exact H3.out.1.own_of (bitsOf_length _ _)); (simp [Act.eval]); (exact H3.out.2.sl); (rw [i64s_length, bis_length, bitsOf_length]; omega); (intro v4 w4 hown hg hm4; have h4 := H3.out.1.bits_app' (bitsOf_length _ _) hown hg hm4; have k4 := KC.out w4 h4.bel; have H4 := hid h4; clear h4 hown hg hm4)))
    obtain ⟨B, hB⟩ : ∃ B, bitsOf 33 6 ++ bitsOf nd 6 = B := ⟨_, rfl⟩
    have hBl : B.length = 12 := by rw [← hB, List.length_append, bitsOf_length, bitsOf_length]
    have h4 := H4.out
    rw [hB] at h4
    obtain ⟨A4, c4, rfl⟩ := h4.form
    rw [bis_length, hBl] at h4 ⊢
    replace H4 := hid h4
    have HBL := hid hBl
    have HBB := hid hB
    clear h4 hB hBl H2 H3 k1 k2 k3 k4
    go_wp2_with fail
    go_loopw [5, 6] (fun o i wr => ∃ (k m : Nat) (A : Option Addr) (c : Nat), k ≤ xs.length ∧ i = .int .i64 k ∧ o = .slice A m c ∧ Hid ((B ++ (xs.take k).flatMap (rawC nd)).length = m) ∧ FreshI W2.drew (bis (B ++ (xs.take k).flatMap (rawC nd))) (.slice A m c) wr) (fun _ i _ => xs.length - (intOf i).toNat)
    case atStart => exact ⟨0, 12, A4, c4, by omega, rfl, rfl, by simp [Hid, HBL.out], by simpa using H4.out⟩
    case round =>
      obtain ⟨k, m, A5, c5, hk, rfl, rfl, hlen, hf⟩ := hrel
      have hml : m ≤ 12 + 40 * 65536 := by
        have h := hlen.out
        rw [List.length_append, HBL.out, rawAll_length, List.length_take] at h
        have := Nat.mul_le_mul (Nat.le_refl nd) (show min k xs.length ≤ xs.length by omega)
        have := HNX.out
        omega
      have HFF := hid hf
      by_cases hkm : k < xs.length
      · have hin : (k : Int) < xs.length := by omega
        obtain ⟨ad, rfl, hc⟩ := i64s_at (H.out.1.below (HB.out _ hf.bel)) hkm
        have hxb := HF.out xs[k] (List.getElem_mem _)
        have hcs0 := csign' xs[k] nd hxb.1 hxb.2 hnl
        have hyl := cmask_lt' xs[k] nd
        have hry : rawC nd xs[k] = bitsOf (xs[k] % 2 ^ nd).toNat nd := rfl
        have kb := KC.out wr hf.bel
        obtain ⟨x, hxe⟩ : ∃ x, xs[k] = x := ⟨_, rfl⟩
        rw [hxe] at hc hcs0 hyl hry
        obtain ⟨y, hye⟩ : ∃ y, (x % 2 ^ nd).toNat = y := ⟨_, rfl⟩
        rw [hye] at hcs0 hyl hry
        have HY := hid (And.intro hxe hry)
        have hy64 : y < 18446744073709551616 := by omega
        by_cases hneg : x < 0
        · rw [if_pos hneg] at hcs0
          have HPP := hid (HPW.out wr)
          obtain ⟨P, hP⟩ : ∃ P, (2 : Int) ^ nd = P := ⟨_, rfl⟩
          rw [hP] at HPP hcs0
          have hws : IntKind.i64.wrap (x + P) = (y : Int) := by rw [hcs0]; exact IntWalk.i64_in _ (by omega)
          have hwu : IntKind.u64.wrap (y : Int) = (y : Int) := IntWalk.u64_in _ (by omega)
          clear hP hcs0 hyl hxe hry hye hpn hpn0 hpn2 hf hxb HBL
          go_wp2_with fail
          with_reducible refine HPP.out.mono ?_
          rintro e w7 ⟨rfl, rfl⟩
          go_wp2_with fail
          clear hws hwu
          with_reducible refine (bits_sl (y : Int) (nd : Int) y nd rfl rfl wr hy64 (by omega)).mono ?_
          rintro e w8 ⟨A8, c8, rfl, hf8⟩
          have H8 := hid (And.intro (HFF.out.later hf8.bel) hf8)
          clear hf8
          go_wp2_with (at_builtin; go_must (refine wpList_app _ rfl (.tmp 67) (.tmp 72) 22 rfl 3 .i64 8 Tryz.underlying22 Tryz.info_int (.slice A5 m c5) m (i64s (bis (B ++ (xs.take k).flatMap (rawC nd)))) rfl ?a1 (.slice A8 nd c8) (i64s (bis (bitsOf y nd))) rfl ?a2 i64s_one (by decide) ?a3 ?_); rotate_right; intro v9 w9 hown hg hm; replace hown := hid hown; replace hg := hid hg; replace hm := hid hm)
          case a1 => exact H8.out.1.own_of hlen.out
          case a2 => exact H8.out.2.sl
          case a3 => rw [i64s_length, bis_length, bitsOf_length]; omega
          have h9 := H8.out.1.bits_app' hlen.out hown.out hg.out hm.out
          have hl9 : (B ++ (xs.take k).flatMap (rawC nd) ++ bitsOf y nd).length = m + nd := by rw [List.length_append, hlen.out, bitsOf_length]
          obtain ⟨A9, c9, rfl⟩ := h9.form
          rw [bis_length, hl9] at h9 ⊢
          have H9 := hid (And.intro hl9 h9)
          clear hl9 h9 hown hg hm
          go_wp2_with fail
          go_roundw
          case rel =>
            have e : B ++ (xs.take (k + 1)).flatMap (rawC nd) = B ++ (xs.take k).flatMap (rawC nd) ++ bitsOf y nd := by rw [take_snocI xs k hkm, HY.out.1, List.flatMap_append, ← List.append_assoc, ← HY.out.2]; simp
            exact ⟨k + 1, m + nd, A9, c9, by omega, by go_num, rfl, by show _ = _; rw [e]; exact H9.out.1, by rw [e]; exact H9.out.2⟩
          case measure => simp [intOf]; omega
        · rw [if_neg hneg] at hcs0
          have hcs := hid hcs0
          have hwu : IntKind.u64.wrap x = (y : Int) := by rw [hcs0]; exact IntWalk.u64_in _ (by omega)
          clear hcs0 hyl hxe hry hye hpn hpn0 hpn2 hf hxb HBL
          go_wp2_with fail
          clear hwu
          with_reducible refine (bits_sl (y : Int) (nd : Int) y nd rfl rfl wr hy64 (by omega)).mono ?_
          rintro e w8 ⟨A8, c8, rfl, hf8⟩
          have H8 := hid (And.intro (HFF.out.later hf8.bel) hf8)
          clear hf8
          go_wp2_with (at_builtin; go_must (refine wpList_app _ rfl (.tmp 67) (.tmp 72) 22 rfl 3 .i64 8 Tryz.underlying22 Tryz.info_int (.slice A5 m c5) m (i64s (bis (B ++ (xs.take k).flatMap (rawC nd)))) rfl ?b1 (.slice A8 nd c8) (i64s (bis (bitsOf y nd))) rfl ?b2 i64s_one (by decide) ?b3 ?_); rotate_right; intro v9 w9 hown hg hm; replace hown := hid hown; replace hg := hid hg; replace hm := hid hm)
          case b1 => exact H8.out.1.own_of hlen.out
          case b2 => exact H8.out.2.sl
          case b3 => rw [i64s_length, bis_length, bitsOf_length]; omega
          have h9 := H8.out.1.bits_app' hlen.out hown.out hg.out hm.out
          have hl9 : (B ++ (xs.take k).flatMap (rawC nd) ++ bitsOf y nd).length = m + nd := by rw [List.length_append, hlen.out, bitsOf_length]
          obtain ⟨A9, c9, rfl⟩ := h9.form
          rw [bis_length, hl9] at h9 ⊢
          have H9 := hid (And.intro hl9 h9)
          clear hl9 h9 hown hg hm
          go_wp2_with fail
          go_roundw
          case rel =>
            have e : B ++ (xs.take (k + 1)).flatMap (rawC nd) = B ++ (xs.take k).flatMap (rawC nd) ++ bitsOf y nd := by rw [take_snocI xs k hkm, HY.out.1, List.flatMap_append, ← List.append_assoc, ← HY.out.2]; simp
            exact ⟨k + 1, m + nd, A9, c9, by omega, by go_num, rfl, by show _ = _; rw [e]; exact H9.out.1, by rw [e]; exact H9.out.2⟩
          case measure => simp [intOf]; omega
      · have hin : ¬ (k : Int) < xs.length := by omega
        obtain rfl : k = xs.length := by omega
        clear hf
        go_wp2_with fail
        go_ret
        have h := HFF.out
        have hmm := hlen.out
        rw [List.take_length] at h hmm
        have hB2 : C = B ++ xs.flatMap (rawC nd) := by rw [← HCC.out, HBB.out]
        rw [hB2, hmm]
        exact ⟨A5, c5, rfl, h.after (HB.out _ (Below.refl _ _))⟩
end Go.Proofs.YtjboboaccjbebaaGreat
/- The reference of layer 9: Whole. -/
namespace Go.Proofs.YtjboboaccjbebaaGreat
open Go.RowKit

/-- The way a part of a list is cut out: three forms. -/
theorem sub_forms {w : World} {A : Option Addr} {c : Nat} {xs : List Int} (h : Sl w (.slice A xs.length c) (i64s xs)) (a b : Nat) (hab : a ≤ b) (hb : b ≤ xs.length) :
    (A = none ∧ c = 0 ∧ a = 0 ∧ b = 0 ∧ xs = []) ∨ ∃ ad, A = some ad ∧ xs.length ≤ c ∧ ((c = a ∧ b - a = 0 ∧ ∀ W, Sl W (.slice (some ad) 0 0) (i64s ((xs.take b).drop a))) ∨ (c ≠ a ∧ ∀ W, Sl W (.slice A xs.length c) (i64s xs) → Sl W (.slice (some (ad.add a)) (b - a) (c - a)) (i64s ((xs.take b).drop a)))) := by
  rcases A with _ | ad
  · left
    have hx0 : xs = [] ∧ c = 0 := by
      rcases h with ⟨e, e2⟩ | ⟨_, _, e, _⟩
      · injection e with _ _ e3
        exact ⟨by cases xs; rfl; simp [i64s] at e2, e3⟩
      · injection e with e1
        cases e1
    obtain ⟨rfl, rfl⟩ := hx0
    simp at hb
    exact ⟨rfl, rfl, by omega, by omega, rfl⟩
  · right
    have hmc := (Sl.drop_len h).2
    refine ⟨ad, rfl, hmc, ?_⟩
    by_cases hca : c = a
    · left
      refine ⟨hca, by omega, fun W => ?_⟩
      rw [List.drop_of_length_le (by rw [List.length_take]; omega)]
      exact Sl.sub0 _ _
    · right
      refine ⟨hca, fun W hW => ?_⟩
      rw [i64s_sub]
      exact hW.sub_ a b hab hb

set_option maxRecDepth 100000 in
set_option maxHeartbeats 16000000 in
theorem refwhole_any (l : Value) (xs : List Int) (q : Nat) (w : World) (hl : Sl w l (i64s xs)) (hx : InI xs) (hn : xs.length ≤ 65536) (hc : codedB xs = true) (hq : q ≤ 6) :
    Calls Tryz.prog 28 #[l, .int .i64 (q : Int)] w (CodeS w (wholeC xs q) (wholeC xs q).length) := by
  obtain ⟨A, c, rfl, hm⟩ := i64s_form hl
  have hN64 : 2 ^ q ≤ 64 := by have : 2 ^ q ≤ 2 ^ 6 := Nat.pow_le_pow_right (by omega) hq; omega
  have HBD := hid (fun i W (hi : i < 2 ^ q) => refbounds_any xs.length q i W hn hq (by omega))
  have HBL := hid (fun i (hi : i ≤ 2 ^ q) => bnd_le xs.length q hi)
  have HBM := hid (fun i => bnd_mono xs.length q i)
  have HPL := hid (fun i => partL.eq_1 xs q i)
  have HPC := hid (fun i => (And.intro (part_inI hx q i) (And.intro (part_len q i hn) (part_coded hc q i))))
  have HCD := hid (fun i W v (h : Sl W v (i64s (partL xs q i))) => refcode09_any v (partL xs q i) W h (HPC.out i).1 (HPC.out i).2.1 (HPC.out i).2.2)
  have HCL := hid (fun i => show (codeP (partL xs q i)).length ≤ 4194400 from by rw [codeP_length _ (HPC.out i).2.2]; exact choose_bd (HPC.out i).1 (HPC.out i).2.1)
  have HPB := hid (fun i => partsC_bd hx hn hc q i)
  have HPS := hid (fun i => show partsC xs q (i + 1) = partsC xs q i ++ codeP (partL xs q i) from rfl)
  have HPW := hid (fun W => power_at (q : Int) q rfl W (by omega))
  have HW := hid (show wholeC xs q = bitsOf q 3 ++ partsC xs q (2 ^ q) from rfl)
  have hq8 : q < 2 ^ 3 := by omega
  have hpi : (2 : Int) ^ q = ((2 ^ q : Nat) : Int) := (Int.natCast_pow 2 q).symm
  rw [hpi] at HPW
  obtain ⟨C, hC⟩ : ∃ C, wholeC xs q = C := ⟨_, rfl⟩
  rw [hC] at HW ⊢
  obtain ⟨N, hN⟩ : ∃ N, 2 ^ q = N := ⟨_, rfl⟩
  rw [hN] at HPW HW hN64
  simp only [hN] at HBD HBL
  have H := hid (And.intro hl hx)
  have hwq : IntKind.u64.wrap (q : Int) = (q : Int) := IntWalk.u64_in _ (by omega)
  clear hl hx hc hpi hC hN HPC
  go_enter Tryz.func28, Tryz.ntmps28
  go_wp2_with fail
  with_reducible refine (bits_sl (q : Int) 3 q 3 rfl rfl _ (by omega) (by omega)).mono ?_
  rintro e w3 ⟨A3, c3, rfl, hf3⟩
  have H3 := hid hf3
  clear hf3 hwq hq8
  go_wp2_with fail
  go_loopw [5, 6] (fun o i wr => ∃ (k m : Nat) (B : Option Addr) (cc : Nat), k ≤ N ∧ i = .int .i64 k ∧ o = .slice B m cc ∧ Hid ((bitsOf q 3 ++ partsC xs q k).length = m) ∧ FreshI w (bis (bitsOf q 3 ++ partsC xs q k)) (.slice B m cc) wr) (fun _ i _ => N - (intOf i).toNat)
  case atStart => exact ⟨0, 3, A3, c3, by omega, rfl, rfl, by simp [Hid, partsC, bitsOf_length], by simpa [partsC] using H3.out⟩
  case round =>
    obtain ⟨k, m, B, cc, hk, rfl, rfl, hlen, hf⟩ := hrel
    have hml : m ≤ 3 + 64 * 4194400 := by
      have h := hlen.out
      rw [List.length_append, bitsOf_length] at h
      have := HPB.out k
      have := Nat.mul_le_mul (show k ≤ 64 by omega) (Nat.le_refl 4194400)
      omega
    have HFF := hid hf
    by_cases hkm : k < N
    · have hin : (k : Int) < N := by omega
      have hb1 := HBL.out (k + 1) (by omega)
      have hb0 := HBM.out k
      have HB := hid (HBD.out k wr hkm)
      have hpl := HPL.out k
      obtain ⟨a, ha⟩ : ∃ a, bndN xs.length q k = a := ⟨_, rfl⟩
      obtain ⟨b, hb⟩ : ∃ b, bndN xs.length q (k + 1) = b := ⟨_, rfl⟩
      rw [ha, hb] at hpl
      rw [ha] at HB hb0
      rw [hb] at HB hb0 hb1
      have ea : ((b : Nat) : Int) ≤ (xs.length : Int) := by omega
      have eb : (a : Int) ≤ (b : Int) := by omega
      have hsl := H.out.1.below hf.bel
      have hfm := sub_forms hsl a b hb0 hb1
      rw [← hpl] at hfm
      have hcl := HCL.out k
      have HCK := hid (HCD.out k)
      have hps := HPS.out k
      have hpn := hpl
      obtain ⟨P, hP⟩ : ∃ P, partL xs q k = P := ⟨_, rfl⟩
      simp only [hP] at hfm HCK hcl hps hpn
      obtain ⟨D, hD⟩ : ∃ D, codeP P = D := ⟨_, rfl⟩
      rw [hD] at hcl hps
      simp only [hD] at HCK
      have HPS2 := hid hps
      have HPN := hid hpn
      have HSL := hid hsl
      clear ha hb hpl hP hD hps hpn hsl hf
      rcases hfm with ⟨rfl, rfl, rfl, rfl, hx0⟩ | ⟨ad, rfl, hmc, ⟨hca, hba, hsub⟩ | ⟨hca, hsub⟩⟩
      · have HX0 := hid hx0
        have hxl : xs.length = 0 := by rw [hx0]; rfl
        have HS0 := hid (show P = [] from by rw [HPN.out, hx0]; rfl)
        clear hx0 hxl HPN
        go_wp2_with fail
        with_reducible refine (HPW.out wr).mono ?_
        rintro e w7 ⟨rfl, rfl⟩
        go_wp2_with fail
        with_reducible refine HB.out.mono ?_
        rintro e w8 ⟨rfl, n8, rfl⟩
        go_wp2_with fail
        have HV := hid (HCK.out (wr.drewN n8) (.slice none 0 0) (by rw [HS0.out]; exact Sl.nil_ _))
        refine HV.out.mono ?_
        clear HV
        rintro e w9 ⟨A9, c9, rfl, hf9⟩
        have H9 := hid (And.intro (HFF.out.later (by simpa using below_undrewN hf9.bel)) hf9)
        clear hf9
        go_wp2_with (at_builtin; go_must (refine wpList_app _ rfl (.tmp 26) (.tmp 31) 22 rfl 3 .i64 8 Tryz.underlying22 Tryz.info_int (.slice B m cc) m (i64s (bis (bitsOf q 3 ++ partsC xs q k))) rfl ?a1 (.slice A9 D.length c9) (i64s (bis D)) rfl ?a2 i64s_one (by decide) ?a3 ?_); rotate_right; intro v6 w6 hown hg hmv; replace hown := hid hown; replace hg := hid hg; replace hmv := hid hmv)
        case a1 => exact H9.out.1.own_of hlen.out
        case a2 => exact H9.out.2.sl
        case a3 => rw [i64s_length, bis_length]; omega
        have h6 := H9.out.1.bits_app' hlen.out hown.out hg.out hmv.out
        have hl6 : (bitsOf q 3 ++ partsC xs q k ++ D).length = m + D.length := by rw [List.length_append, hlen.out]
        obtain ⟨A6, c6, rfl⟩ := h6.form
        rw [bis_length, hl6] at h6 ⊢
        have H6 := hid (And.intro hl6 h6)
        clear hl6 h6 hown hg hmv
        go_wp2_with fail
        go_roundw
        case rel =>
          have e : bitsOf q 3 ++ partsC xs q (k + 1) = bitsOf q 3 ++ partsC xs q k ++ D := by rw [HPS2.out, List.append_assoc]
          exact ⟨k + 1, m + D.length, A6, c6, by omega, by go_num, rfl, by show _ = _; rw [e]; exact H6.out.1, by rw [e]; exact H6.out.2⟩
        case measure => simp [intOf]; omega
      · subst hca
        have HSB := hid hsub
        clear hsub HPN
        go_wp2_with fail
        with_reducible refine (HPW.out wr).mono ?_
        rintro e w7 ⟨rfl, rfl⟩
        go_wp2_with fail
        with_reducible refine HB.out.mono ?_
        rintro e w8 ⟨rfl, n8, rfl⟩
        go_wp2_with fail
        have HV := hid (HCK.out (wr.drewN n8) (.slice (some ad) 0 0) (HSB.out _))
        refine HV.out.mono ?_
        clear HV
        rintro e w9 ⟨A9, c9, rfl, hf9⟩
        have H9 := hid (And.intro (HFF.out.later (by simpa using below_undrewN hf9.bel)) hf9)
        clear hf9
        go_wp2_with (at_builtin; go_must (refine wpList_app _ rfl (.tmp 26) (.tmp 31) 22 rfl 3 .i64 8 Tryz.underlying22 Tryz.info_int (.slice B m cc) m (i64s (bis (bitsOf q 3 ++ partsC xs q k))) rfl ?b1 (.slice A9 D.length c9) (i64s (bis D)) rfl ?b2 i64s_one (by decide) ?b3 ?_); rotate_right; intro v6 w6 hown hg hmv; replace hown := hid hown; replace hg := hid hg; replace hmv := hid hmv)
        case b1 => exact H9.out.1.own_of hlen.out
        case b2 => exact H9.out.2.sl
        case b3 => rw [i64s_length, bis_length]; omega
        have h6 := H9.out.1.bits_app' hlen.out hown.out hg.out hmv.out
        have hl6 : (bitsOf q 3 ++ partsC xs q k ++ D).length = m + D.length := by rw [List.length_append, hlen.out]
        obtain ⟨A6, c6, rfl⟩ := h6.form
        rw [bis_length, hl6] at h6 ⊢
        have H6 := hid (And.intro hl6 h6)
        clear hl6 h6 hown hg hmv
        go_wp2_with fail
        go_roundw
        case rel =>
          have e : bitsOf q 3 ++ partsC xs q (k + 1) = bitsOf q 3 ++ partsC xs q k ++ D := by rw [HPS2.out, List.append_assoc]
          exact ⟨k + 1, m + D.length, A6, c6, by omega, by go_num, rfl, by show _ = _; rw [e]; exact H6.out.1, by rw [e]; exact H6.out.2⟩
        case measure => simp [intOf]; omega
      · have HSB := hid hsub
        clear hsub HPN
        go_wp2_with fail
        with_reducible refine (HPW.out wr).mono ?_
        rintro e w7 ⟨rfl, rfl⟩
        go_wp2_with fail
        with_reducible refine HB.out.mono ?_
        rintro e w8 ⟨rfl, n8, rfl⟩
        go_wp2_with fail
        have HV := hid (HCK.out (wr.drewN n8) (.slice (some (ad.add a)) (b - a) (c - a)) (HSB.out _ (HSL.out.drewN n8)))
        refine HV.out.mono ?_
        clear HV
        rintro e w9 ⟨A9, c9, rfl, hf9⟩
        have H9 := hid (And.intro (HFF.out.later (by simpa using below_undrewN hf9.bel)) hf9)
        clear hf9
        go_wp2_with (at_builtin; go_must (refine wpList_app _ rfl (.tmp 26) (.tmp 31) 22 rfl 3 .i64 8 Tryz.underlying22 Tryz.info_int (.slice B m cc) m (i64s (bis (bitsOf q 3 ++ partsC xs q k))) rfl ?c1 (.slice A9 D.length c9) (i64s (bis D)) rfl ?c2 i64s_one (by decide) ?c3 ?_); rotate_right; intro v6 w6 hown hg hmv; replace hown := hid hown; replace hg := hid hg; replace hmv := hid hmv)
        case c1 => exact H9.out.1.own_of hlen.out
        case c2 => exact H9.out.2.sl
        case c3 => rw [i64s_length, bis_length]; omega
        have h6 := H9.out.1.bits_app' hlen.out hown.out hg.out hmv.out
        have hl6 : (bitsOf q 3 ++ partsC xs q k ++ D).length = m + D.length := by rw [List.length_append, hlen.out]
        obtain ⟨A6, c6, rfl⟩ := h6.form
        rw [bis_length, hl6] at h6 ⊢
        have H6 := hid (And.intro hl6 h6)
        clear hl6 h6 hown hg hmv
        go_wp2_with fail
        go_roundw
        case rel =>
          have e : bitsOf q 3 ++ partsC xs q (k + 1) = bitsOf q 3 ++ partsC xs q k ++ D := by rw [HPS2.out, List.append_assoc]
          exact ⟨k + 1, m + D.length, A6, c6, by omega, by go_num, rfl, by show _ = _; rw [e]; exact H6.out.1, by rw [e]; exact H6.out.2⟩
        case measure => simp [intOf]; omega
    · have hin : ¬ (k : Int) < N := by omega
      obtain rfl : k = N := by omega
      clear hf
      go_wp2_with fail
      with_reducible refine (HPW.out wr).mono ?_
      rintro e w7 ⟨rfl, rfl⟩
      go_wp2_with fail
      go_ret
      have h := HFF.out
      have hmm := hlen.out
      rw [← HW.out] at h hmm
      rw [hmm]
      exact ⟨B, cc, rfl, h⟩
end Go.Proofs.YtjboboaccjbebaaGreat
/- The reference of layer 9: Cost, Least. -/
namespace Go.Proofs.YtjboboaccjbebaaGreat
open Go.RowKit

set_option maxRecDepth 100000 in
set_option maxHeartbeats 16000000 in
theorem refcost09_ok (l : Value) (xs : List Int) (q : Nat) (w : World) (hl : Sl w l (i64s xs)) (hx : InI xs) (hm : mayL xs = true) (ho : orderB xs.length (q : Int) = true) (hq : q ≤ 6) :
    Calls Tryz.prog 58 #[l, .int .i64 (q : Int)] w fun e w' => e = .returned (.int .i64 ((3 + partsN xs q (2 ^ q) : Nat) : Int)) ∧ Below w.heap.size w w' := by
  obtain ⟨A, c, rfl, _⟩ := i64s_form hl
  have hn : xs.length ≤ 65536 := by unfold mayL at hm; simp at hm; exact hm.1
  have hN64 : 2 ^ q ≤ 64 := by have : 2 ^ q ≤ 2 ^ 6 := Nat.pow_le_pow_right (by omega) hq; omega
  have HM := hid (refmayl_any (.slice A xs.length c) xs w hl hx)
  rw [hm] at HM
  have HO := hid (reforder_any xs.length (q : Int) w)
  rw [ho] at HO
  have HBD := hid (fun i W (hi : i < 2 ^ q) => refbounds_any xs.length q i W hn hq (by omega))
  have HBL := hid (fun i (hi : i ≤ 2 ^ q) => bnd_le xs.length q hi)
  have HBM := hid (fun i => bnd_mono xs.length q i)
  have HPL := hid (fun i => partL.eq_1 xs q i)
  have HPC := hid (fun i => (And.intro (part_inI hx q i) (part_len q i hn)))
  have HCD := hid (fun i W v (h : Sl W v (i64s (partL xs q i))) => refchoose_any v (partL xs q i) W h (HPC.out i).1 (HPC.out i).2)
  have HCL := hid (fun i => choose_bd (HPC.out i).1 (HPC.out i).2)
  have HPB := hid (fun i => partsN_bd hx hn q i)
  have HPS := hid (fun i => show partsN xs q (i + 1) = partsN xs q i + (chooseL (partL xs q i)).2.2 from rfl)
  have HPW := hid (fun W => power_at (q : Int) q rfl W (by omega))
  have hpi : (2 : Int) ^ q = ((2 ^ q : Nat) : Int) := (Int.natCast_pow 2 q).symm
  rw [hpi] at HPW
  obtain ⟨N, hN⟩ : ∃ N, 2 ^ q = N := ⟨_, rfl⟩
  rw [hN] at HPW hN64 ⊢
  simp only [hN] at HBD HBL
  have H := hid (And.intro hl hx)
  clear hl hx hm ho hpi hN HPC
  go_enter Tryz.func58, Tryz.ntmps58
  go_wp2_with fail
  with_reducible refine HM.out.mono ?_
  rintro e w1 ⟨rfl, rfl⟩
  go_wp2_with fail
  with_reducible refine HO.out.mono ?_
  rintro e w1 ⟨rfl, rfl⟩
  clear HM HO
  go_wp2_with fail
  go_loopw [5, 6] (fun o i wr => ∃ (k t : Nat), k ≤ N ∧ i = .int .i64 k ∧ o = .int .i64 t ∧ Below w.heap.size w wr ∧ Hid (t = 3 + partsN xs q k)) (fun _ i _ => N - (intOf i).toNat)
  case atStart => exact ⟨0, 3, by omega, rfl, rfl, .refl _ _, rfl⟩
  case round =>
    obtain ⟨k, t, hk, rfl, rfl, hbe, hd⟩ := hrel
    have htl : t ≤ 3 + 64 * 4194400 := by
      have h := hd.out
      have := HPB.out k
      have := Nat.mul_le_mul (show k ≤ 64 by omega) (Nat.le_refl 4194400)
      omega
    have HBE := hid hbe
    by_cases hkm : k < N
    · have hin : (k : Int) < N := by omega
      have hb1 := HBL.out (k + 1) (by omega)
      have hb0 := HBM.out k
      have HB := hid (HBD.out k wr hkm)
      have hpl := HPL.out k
      obtain ⟨a, ha⟩ : ∃ a, bndN xs.length q k = a := ⟨_, rfl⟩
      obtain ⟨b, hb⟩ : ∃ b, bndN xs.length q (k + 1) = b := ⟨_, rfl⟩
      rw [ha, hb] at hpl
      rw [ha] at HB hb0
      rw [hb] at HB hb0 hb1
      have ea : ((b : Nat) : Int) ≤ (xs.length : Int) := by omega
      have eb : (a : Int) ≤ (b : Int) := by omega
      have hsl := H.out.1.below hbe
      have hfm := sub_forms hsl a b hb0 hb1
      rw [← hpl] at hfm
      have hcl := HCL.out k
      have HCK := hid (HCD.out k)
      have hps := HPS.out k
      have hpn := hpl
      obtain ⟨P, hP⟩ : ∃ P, partL xs q k = P := ⟨_, rfl⟩
      simp only [hP] at hfm HCK hcl hps hpn
      obtain ⟨R, hR⟩ : ∃ R, chooseL P = R := ⟨_, rfl⟩
      rw [hR] at hcl hps
      simp only [hR] at HCK
      have hws : IntKind.i64.wrap ((t : Int) + (R.2.2 : Int)) = ((t + R.2.2 : Nat) : Int) := by rw [IntWalk.i64_in _ (by omega)]; omega
      have HPS2 := hid hps
      have HPN := hid hpn
      have HSL := hid hsl
      clear ha hb hpl hP hR hps hpn hsl hbe
      rcases hfm with ⟨rfl, rfl, rfl, rfl, hx0⟩ | ⟨ad, rfl, hmc, ⟨hca, hba, hsub⟩ | ⟨hca, hsub⟩⟩
      · have HX0 := hid hx0
        have hxl : xs.length = 0 := by rw [hx0]; rfl
        have HS0 := hid (show P = [] from by rw [HPN.out, hx0]; rfl)
        clear hx0 hxl HPN
        go_wp2_with fail
        with_reducible refine (HPW.out wr).mono ?_
        rintro e w7 ⟨rfl, rfl⟩
        go_wp2_with fail
        with_reducible refine HB.out.mono ?_
        rintro e w8 ⟨rfl, n8, rfl⟩
        go_wp2_with fail
        have HV := hid (HCK.out (wr.drewN n8) (.slice none 0 0) (by rw [HS0.out]; exact Sl.nil_ _))
        refine HV.out.mono ?_
        clear HV
        rintro e w9 ⟨rfl, hb9⟩
        have H9 := hid (HBE.out.trans ((by simpa using below_undrewN hb9 : Below wr.heap.size wr w9).mono HBE.out.size))
        clear hb9
        unfold wayV
        go_wp2_with fail
        go_roundw
        case rel => exact ⟨k + 1, t + R.2.2, by omega, by go_num, rfl, H9.out.alloc H9.out.size _, by have h := hd.out; show _ = _; rw [HPS2.out]; omega⟩
        case measure => simp [intOf]; omega
      · subst hca
        have HSB := hid hsub
        clear hsub HPN
        go_wp2_with fail
        with_reducible refine (HPW.out wr).mono ?_
        rintro e w7 ⟨rfl, rfl⟩
        go_wp2_with fail
        with_reducible refine HB.out.mono ?_
        rintro e w8 ⟨rfl, n8, rfl⟩
        go_wp2_with fail
        have HV := hid (HCK.out (wr.drewN n8) (.slice (some ad) 0 0) (HSB.out _))
        refine HV.out.mono ?_
        clear HV
        rintro e w9 ⟨rfl, hb9⟩
        have H9 := hid (HBE.out.trans ((by simpa using below_undrewN hb9 : Below wr.heap.size wr w9).mono HBE.out.size))
        clear hb9
        unfold wayV
        go_wp2_with fail
        go_roundw
        case rel => exact ⟨k + 1, t + R.2.2, by omega, by go_num, rfl, H9.out.alloc H9.out.size _, by have h := hd.out; show _ = _; rw [HPS2.out]; omega⟩
        case measure => simp [intOf]; omega
      · have HSB := hid hsub
        clear hsub HPN
        go_wp2_with fail
        with_reducible refine (HPW.out wr).mono ?_
        rintro e w7 ⟨rfl, rfl⟩
        go_wp2_with fail
        with_reducible refine HB.out.mono ?_
        rintro e w8 ⟨rfl, n8, rfl⟩
        go_wp2_with fail
        have HV := hid (HCK.out (wr.drewN n8) (.slice (some (ad.add a)) (b - a) (c - a)) (HSB.out _ (HSL.out.drewN n8)))
        refine HV.out.mono ?_
        clear HV
        rintro e w9 ⟨rfl, hb9⟩
        have H9 := hid (HBE.out.trans ((by simpa using below_undrewN hb9 : Below wr.heap.size wr w9).mono HBE.out.size))
        clear hb9
        unfold wayV
        go_wp2_with fail
        go_roundw
        case rel => exact ⟨k + 1, t + R.2.2, by omega, by go_num, rfl, H9.out.alloc H9.out.size _, by have h := hd.out; show _ = _; rw [HPS2.out]; omega⟩
        case measure => simp [intOf]; omega
    · have hin : ¬ (k : Int) < N := by omega
      obtain rfl : k = N := by omega
      clear hbe
      go_wp2_with fail
      with_reducible refine (HPW.out wr).mono ?_
      rintro e w7 ⟨rfl, rfl⟩
      go_wp2_with fail
      go_ret
      exact ⟨by rw [← hd.out]; rfl, HBE.out⟩

set_option maxRecDepth 100000 in
set_option maxHeartbeats 16000000 in
theorem refcost09_any (l : Value) (xs : List Int) (p : Int) (w : World) (hl : Sl w l (i64s xs)) (hx : InI xs) :
    Calls Tryz.prog 58 #[l, .int .i64 p] w fun e w' => e = .returned (.int .i64 (costW xs p : Nat)) ∧ Below w.heap.size w w' := by
  by_cases hm : mayL xs = true
  · by_cases ho : orderB xs.length p = true
    · obtain ⟨q, rfl, hq⟩ := orderB_nat ho
      have e : costW xs (q : Int) = 3 + partsN xs q (2 ^ q) := by unfold costW; rw [Int.toNat_natCast, if_pos ⟨hm, ho⟩]
      rw [e]
      exact refcost09_ok l xs q w hl hx hm ho hq
    · have e : costW xs p = 0 := by unfold costW; rw [if_neg (fun h => ho h.2)]
      have HM := hid (refmayl_any l xs w hl hx)
      rw [hm] at HM
      have HO := hid (reforder_any xs.length p w)
      rw [show orderB xs.length p = false by simpa using ho] at HO
      rw [e]
      obtain ⟨A, c, rfl, _⟩ := i64s_form hl
      clear e hl hx hm ho
      go_enter Tryz.func58, Tryz.ntmps58
      go_wp2_with fail
      with_reducible refine HM.out.mono ?_
      rintro e w1 ⟨rfl, rfl⟩
      go_wp2_with fail
      with_reducible refine HO.out.mono ?_
      rintro e w1 ⟨rfl, rfl⟩
      go_wp2_with fail
      go_ret
      exact ⟨rfl, .refl _ _⟩
  · have e : costW xs p = 0 := by unfold costW; rw [if_neg (fun h => hm h.1)]
    have HM := hid (refmayl_any l xs w hl hx)
    rw [show mayL xs = false by simpa using hm] at HM
    rw [e]
    obtain ⟨A, c, rfl, _⟩ := i64s_form hl
    clear e hl hx hm
    go_enter Tryz.func58, Tryz.ntmps58
    go_wp2_with fail
    with_reducible refine HM.out.mono ?_
    rintro e w1 ⟨rfl, rfl⟩
    go_wp2_with fail
    go_ret
    exact ⟨rfl, .refl _ _⟩

set_option maxRecDepth 100000 in
set_option maxHeartbeats 16000000 in
theorem refleast_any (l : Value) (xs : List Int) (w : World) (hl : Sl w l (i64s xs)) (hx : InI xs) :
    Calls Tryz.prog 27 #[l] w fun e w' => e = .returned (.tuple #[.int .i64 ((orderX xs).1 : Int), .int .i64 ((orderX xs).2 : Int)]) ∧ Below w.heap.size w w' := by
  obtain ⟨A, c, rfl, hm⟩ := i64s_form hl
  have HM := hid (refmayl_any (.slice A xs.length c) xs w hl hx)
  have HX := hid (orderX.eq_1 xs)
  have H := hid hl
  by_cases hmay : mayL xs = true
  · have hn : xs.length ≤ 65536 := by unfold mayL at hmay; simp at hmay; exact hmay.1
    rw [if_pos hmay] at HX
    rw [hmay] at HM
    have hM6 := ordM_le xs.length
    have HC := hid (fun (q : Nat) W (h : Sl W (.slice A xs.length c) (i64s xs)) => refcost09_any (.slice A xs.length c) xs (q : Int) W h hx)
    have HOR := hid (fun (q : Nat) W (h1 : 1 ≤ q) => show Calls Tryz.prog 59 #[.int .i64 (xs.length : Int), .int .i64 (q : Int)] W fun e w' => e = .returned (.bool (decide (q ≤ ordM xs.length))) ∧ W = w' from by
      have h2 := reforder_any xs.length (q : Int) W
      have e : orderB xs.length (q : Int) = decide (q ≤ ordM xs.length) := by rw [Bool.eq_iff_iff, decide_eq_true_iff]; exact ordM_iff (by omega) h1
      rwa [e] at h2)
    have eo : ordL xs = bestTo (fun p => costW xs (p : Int)) (ordM xs.length) := rfl
    have el : leastW xs = costW xs (ordL xs : Int) := rfl
    rw [el, eo] at HX
    clear el eo
    obtain ⟨cf, hcf⟩ : ∃ cf : Nat → Nat, (fun k : Nat => costW xs (k : Int)) = cf := ⟨_, rfl⟩
    have hcb : ∀ k : Nat, costW xs (k : Int) = cf k := fun k => by rw [← hcf]
    simp only [hcb] at HC
    rw [hcf, hcb] at HX
    obtain ⟨M, hM⟩ : ∃ M, ordM xs.length = M := ⟨_, rfl⟩
    rw [hM] at HX hM6
    simp only [hM] at HOR
    clear hl hx hmay hcf hcb hM
    go_enter Tryz.func27, Tryz.ntmps27
    go_wp2_with fail
    with_reducible refine HM.out.mono ?_
    rintro e w1 ⟨rfl, rfl⟩
    go_wp2_with fail
    have HCC := HC.out 0 w H.out
    refine HCC.mono ?_
    clear HCC
    rintro e w2 ⟨rfl, hb2⟩
    have H2 := hid hb2
    clear hb2
    go_wp2_with fail
    go_loopw [4, 5, 6] (fun b t i wr => ∃ (k bb tt : Nat), k ≤ M ∧ i = .int .i64 ((k + 1 : Nat) : Int) ∧ b = .int .i64 bb ∧ t = .int .i64 tt ∧ Below w.heap.size w wr ∧ Hid (bb = bestTo cf k ∧ tt = cf bb)) (fun _ _ i _ => (M + 1) - (intOf i).toNat)
    case atStart => exact ⟨0, 0, cf 0, by omega, rfl, rfl, rfl, H2.out, rfl, rfl⟩
    case round =>
      obtain ⟨k, bb, tt, hk, rfl, rfl, rfl, hbel, hd⟩ := hrel
      have HB := hid hbel
      clear hbel
      obtain ⟨k1, hk1⟩ : ∃ k1, k + 1 = k1 := ⟨_, rfl⟩
      rw [hk1]
      have HOK := hid (HOR.out k1 wr (by omega))
      by_cases hkm : k < M
      · have hdec : decide (k1 ≤ M) = true := by rw [decide_eq_true_iff]; omega
        rw [hdec] at HOK
        have HCC := HC.out k1 wr (H.out.below HB.out)
        obtain ⟨y, hy⟩ : ∃ y, cf k1 = y := ⟨_, rfl⟩
        rw [hy] at HCC
        have HY := hid (And.intro hy hk1)
        have HCY := hid HCC
        have hk12 : k1 ≤ M := by omega
        have hk6 : (k1 : Int) ≤ 6 := by omega
        clear hy HCC hdec hk1 hkm
        go_wp2_with fail
        with_reducible refine HOK.out.mono ?_
        rintro e w3 ⟨rfl, rfl⟩
        go_wp2_with fail
        with_reducible refine HCY.out.mono ?_
        rintro e w3 ⟨rfl, hb3⟩
        have H3 := hid (HB.out.trans (hb3.mono HB.out.size))
        clear hb3
        by_cases hlt : y < tt
        · have hlt' : (y : Int) < tt := by omega
          go_wp2_with fail
          go_roundw
          case rel =>
            obtain ⟨hy, rfl⟩ := HY.out
            exact ⟨k + 1, k + 1, y, by omega, by go_num, rfl, rfl, H3.out, by rw [bestTo, if_pos (by rw [hy, ← hd.out.1, ← hd.out.2]; exact hlt)], hy.symm⟩
          case measure => simp [intOf]; omega
        · have hlt' : ¬ (y : Int) < tt := by omega
          go_wp2_with fail
          go_roundw
          case rel =>
            obtain ⟨hy, rfl⟩ := HY.out
            exact ⟨k + 1, bb, tt, by omega, by go_num, rfl, rfl, H3.out, by rw [bestTo, if_neg (by rw [hy, ← hd.out.1, ← hd.out.2]; exact hlt)]; exact hd.out.1, hd.out.2⟩
          case measure => simp [intOf]; omega
      · have hdec : decide (k1 ≤ M) = false := by rw [decide_eq_false_iff_not]; omega
        rw [hdec] at HOK
        obtain rfl : k = M := by omega
        by_cases hk6 : (k1 : Int) ≤ 6
        · go_wp2_with fail
          with_reducible refine HOK.out.mono ?_
          rintro e w3 ⟨rfl, rfl⟩
          go_wp2_with fail
          go_ret2
          refine ⟨?_, HB.out⟩
          rw [HX.out, ← hd.out.1, ← hd.out.2]
          rfl
        · go_wp2_with fail
          go_ret2
          refine ⟨?_, HB.out⟩
          rw [HX.out, ← hd.out.1, ← hd.out.2]
          rfl
  · rw [if_neg hmay] at HX
    rw [show mayL xs = false by simpa using hmay] at HM
    clear hmay hl hx
    go_enter Tryz.func27, Tryz.ntmps27
    go_wp2_with fail
    with_reducible refine HM.out.mono ?_
    rintro e w1 ⟨rfl, rfl⟩
    go_wp2_with fail
    go_ret2
    exact ⟨by rw [HX.out]; rfl, .refl _ _⟩
end Go.Proofs.YtjboboaccjbebaaGreat
