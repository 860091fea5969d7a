/- The reference of layer 7: Code. -/
import Derived.Test.YtjboboaccjbebaaRunR
import Derived.Test.YtjboboaccjbebaaRunD
namespace Go.Proofs.Ytjboboaccjbebaa
open Go.RowKit

/-- A list's code so far. -/
def codeTo (xs : List Int) (k : Int) (j : Nat) : List Bool := if j = xs.length then codeL xs k else (sts (xs.take j)).1.flatMap (codeI k)
theorem codeL_sts (xs : List Int) (k : Int) : codeL xs k = (sts xs).1.flatMap (codeI k) ++ (tailI (sts xs).2).flatMap (codeI k) := by
  unfold codeL
  rw [items_sts, List.flatMap_append]
theorem codeTo_lt {xs : List Int} {k : Int} {j : Nat} (h : j < xs.length) : codeTo xs k j = (sts (xs.take j)).1.flatMap (codeI k) := by unfold codeTo; rw [if_neg (by omega)]
theorem codeTo_zero {xs : List Int} {k : Int} {j : Nat} (h : j + 1 < xs.length) (h0 : xs[j] = 0) : codeTo xs k (j + 1) = codeTo xs k j := by
  rw [codeTo_lt h, codeTo_lt (by omega), take_snocI xs j (by omega), sts_zero h0]
theorem codeTo_end {xs : List Int} {k : Int} {j : Nat} (h : j + 1 = xs.length) (h0 : xs[j] = 0) : codeTo xs k (j + 1) = codeTo xs k j ++ gamC ((sts (xs.take j)).2 + 1 + 1) := by
  have e : xs = xs.take j ++ [xs[j]] := by rw [← take_snocI xs j (by omega), h, List.take_length]
  have e2 : sts xs = ((sts (xs.take j)).1, (sts (xs.take j)).2 + 1) := by
    conv => lhs; rw [e]
    rw [sts_zero h0]
  rw [codeTo_lt (show j < xs.length by omega)]
  unfold codeTo
  rw [if_pos h, codeL_sts, e2]
  congr 1
  unfold tailI
  rw [if_pos (by simp)]
  simp [codeI]
theorem codeTo_some {xs : List Int} {k : Int} {j : Nat} (h : j < xs.length) (h0 : xs[j] ≠ 0) : codeTo xs k (j + 1) = codeTo xs k j ++ gamC ((sts (xs.take j)).2 + 1) ++ codeR (zigN xs[j] - 1) k := by
  have e1 := sts_some (xs := xs.take j) h0
  rw [← take_snocI xs j h] at e1
  have e3 : (sts (xs.take (j + 1))).1.flatMap (codeI k) = codeTo xs k j ++ gamC ((sts (xs.take j)).2 + 1) ++ codeR (zigN xs[j] - 1) k := by
    rw [e1, codeTo_lt h, List.flatMap_append, List.append_assoc]
    congr 1
    simp [codeI]
  by_cases hl : j + 1 = xs.length
  · rw [← e3]
    unfold codeTo
    rw [if_pos hl, codeL_sts]
    rw [hl, List.take_length] at e1 ⊢
    rw [e1]
    simp [tailI]
  · rw [codeTo_lt (by omega), e3]
theorem codeTo_le (xs : List Int) (k : Int) (j : Nat) : (codeTo xs k j).length ≤ (xs.length + 1) * 127 := by
  unfold codeTo
  split
  · exact codeL_le xs k
  · have h1 := codeI_sum k (sts (xs.take j)).1
    have h2 := sumI_le k (sts (xs.take j)).1
    have h3 := (sts_le (xs.take j)).1
    rw [List.length_take] at h3
    have h4 : (sts (xs.take j)).1.length * 127 ≤ (xs.length + 1) * 127 := Nat.mul_le_mul_right _ (by omega)
    omega

set_option maxRecDepth 100000 in
set_option maxHeartbeats 8000000 in
theorem refcodel_any (l : Value) (xs : List Int) (k : Int) (w : World) (hl : Sl w l (i64s xs)) (hx : InI xs) (hn : xs.length ≤ 1048576) :
    Calls Try.prog 23 #[l, .int .i64 k] w (CodeS w (codeL xs k) (codeL xs k).length) := by
  obtain ⟨A0, c0, rfl, hm0⟩ := i64s_form hl
  have H := hid (And.intro hl hx)
  clear hl hx
  have HLE := hid (codeTo_le xs k)
  go_enter Try.func23, Try.ntmps23
  go_wp2_with fail
  go_loopw [5, 6, 7] (fun o n i wr => ∃ (j m q : Nat) (A : Option Addr) (c : Nat), j ≤ xs.length ∧ i = .int .i64 j ∧ n = .int .i64 m ∧ m ≤ j ∧ o = .slice A q c ∧ Hid (m = (sts (xs.take j)).2 ∨ j = xs.length) ∧ Hid ((codeTo xs k j).length = q) ∧ FreshI w (bis (codeTo xs k j)) (.slice A q c) wr) (fun _ _ i _ => xs.length - (intOf i).toNat)
  case atStart =>
    have e : codeTo xs k 0 = [] := by
      unfold codeTo
      split
      · rename_i h; rw [List.eq_nil_of_length_eq_zero h.symm]; rfl
      · rfl
    refine ⟨0, 0, 0, none, 0, by omega, rfl, rfl, by omega, rfl, .inl rfl, by show _ = _; rw [e]; rfl, ?_⟩
    rw [e]
    exact ⟨World.ownsRow_nil _ _ _ _, .refl _ _, by simp [Value.ownBlock]⟩
  case round =>
    obtain ⟨j, m, q, A, c, hj, rfl, rfl, hmj, rfl, hst, hlen, hf⟩ := hrel
    have HF := hid hf
    have hql : q ≤ 134217728 := by
      have := HLE.out j
      rw [hlen.out] at this
      omega
    by_cases hjm : j < xs.length
    · have hin : (j : Int) < xs.length := by omega
      obtain ⟨ad, rfl, hc⟩ := i64s_at (H.out.1.below hf.bel) hjm
      have hxb := H.out.2 xs[j] (List.getElem_mem _)
      have HS := hid (show m = (sts (xs.take j)).2 from by rcases hst.out with h | h; exact h; omega)
      have KC := hid (show ∀ W, Below w.heap.size w W → W.cell? (ad.add j) = some (.int .i64 xs[j]) from fun W hb => by
        obtain ⟨_, e, h⟩ := i64s_at (H.out.1.below hb) hjm
        cases e
        exact h)
      have hcz := @codeTo_zero xs k j
      have hce := @codeTo_end xs k j
      have hcs := @codeTo_some xs k j hjm
      rw [← HS.out] at hce hcs
      obtain ⟨x, hxe⟩ : ∃ x, xs[j] = x := ⟨_, rfl⟩
      rw [hxe] at hc hxb KC hcs
      have HZR := hid (fun (h : x = 0) => show sts (xs.take (j + 1)) = ((sts (xs.take j)).1, m + 1) from by rw [take_snocI xs j hjm, hxe, HS.out, sts_zero h])
      have HSM := hid (fun (h : x ≠ 0) => show (sts (xs.take (j + 1))).2 = 0 from by rw [take_snocI xs j hjm, hxe, sts_some h])
      obtain ⟨B, hB⟩ : ∃ B, codeTo xs k j = B := ⟨_, rfl⟩
      rw [hB] at hlen HF hcz hce hcs
      have HX := hid (And.intro hxe (And.intro hcz (And.intro hce hcs)))
      clear hf hst hxe hcz hce hcs hB
      by_cases h0 : x = 0
      · subst h0
        have hw0 : IntKind.i64.wrap ((m : Int) + 1) = ((m + 1 : Nat) : Int) := by rw [IntWalk.i64_in _ (by omega)]; omega
        obtain ⟨m1, hm1⟩ : ∃ m1, m + 1 = m1 := ⟨_, rfl⟩
        rw [hm1] at hw0 HZR
        by_cases hlast : j + 1 = xs.length
        · have hb : ((j : Int) == (xs.length : Int) - 1) = true := by rw [beq_iff_eq]; omega
          have hw1 : IntKind.u64.wrap (m1 : Int) = (m1 : Int) := IntWalk.u64_in _ (by omega)
          have hw2 : IntKind.u64.wrap ((m1 : Int) + 1) = ((m1 + 1 : Nat) : Int) := by rw [IntWalk.u64_in _ (by omega)]; omega
          have HG := hid (fun W => refgamma_any (m1 + 1) W (by omega))
          have HGL := hid (gamC_length (m1 + 1))
          have hgl := gamCost_le (m1 + 1)
          have HT := hid (HX.out.2.2.1 hlast HX.out.1)
          rw [hm1] at HT
          obtain ⟨m2, hm2⟩ : ∃ m2, m1 + 1 = m2 := ⟨_, rfl⟩
          rw [hm2] at hw2 HG HGL hgl HT
          obtain ⟨g, hg⟩ : ∃ g, gamCost m2 = g := ⟨_, rfl⟩
          rw [hg] at HG HGL hgl
          have HM := hid hlast
          have hm1j : m1 ≤ j + 1 := by omega
          clear hlast hm1 hm2 hg
          go_wp2_with fail
          with_reducible refine (HG.out _).mono ?_
          rintro e w2 ⟨A2, c2, rfl, hf2⟩
          have H2 := hid (And.intro (HF.out.later hf2.bel) hf2)
          clear hf2
          go_wp2_with (at_builtin; go_must (refine wpList_app _ rfl (.tmp 26) (.tmp 30) 22 rfl 3 .i64 8 Try.underlying22 Try.info_int (.slice A q c) q (i64s (bis B)) rfl ?c1 (.slice A2 g c2) (i64s (bis (gamC m2))) rfl ?c2 i64s_one (by decide) ?c3 ?_); rotate_right; intro v6 w6 hown hg hmv; replace hown := hid hown; replace hg := hid hg; replace hmv := hid hmv)
          case c1 => exact H2.out.1.own_of hlen.out
          case c2 => exact H2.out.2.sl
          case c3 => rw [i64s_length, bis_length, HGL.out]; omega
          have h6 := H2.out.1.bits_app' hlen.out hown.out hg.out hmv.out
          obtain ⟨A6, c6, rfl⟩ := h6.form
          rw [bis_length, List.length_append, hlen.out, HGL.out] at h6 ⊢
          rw [← HT.out] at h6
          have H6 := hid h6
          clear h6 hown hg hmv hb
          go_wp2_with fail
          go_roundw
          case rel =>
            refine ⟨j + 1, m1, q + g, A6, c6, by omega, by go_num, by first | rfl | go_num, by omega, rfl, .inr HM.out, ?_, H6.out⟩
            show (codeTo xs k (j + 1)).length = q + g
            rw [HT.out, List.length_append, hlen.out, HGL.out]
          case measure => simp [intOf]; omega
        · have hb : ((j : Int) == (xs.length : Int) - 1) = false := by rw [beq_eq_false_iff_ne]; omega
          have HT := hid (HX.out.2.1 (by omega) HX.out.1)
          have hm1j : m1 ≤ j + 1 := by omega
          clear hm1 hlast
          go_wp2_with fail
          clear hb
          go_roundw
          case rel =>
            refine ⟨j + 1, m1, q, A, c, by omega, by go_num, by first | rfl | go_num, by omega, rfl, .inl ?_, by show _ = _; rw [HT.out]; exact hlen.out, by rw [HT.out]; exact HF.out⟩
            rw [HZR.out rfl]
          case measure => simp [intOf]; omega
      · have hb0 : (x == 0) = false := by rw [beq_eq_false_iff_ne]; exact h0
        have hw1 : IntKind.u64.wrap (m : Int) = (m : Int) := IntWalk.u64_in _ (by omega)
        have hw2 : IntKind.u64.wrap ((m : Int) + 1) = ((m + 1 : Nat) : Int) := by rw [IntWalk.u64_in _ (by omega)]; omega
        have HG := hid (fun W => refgamma_any (m + 1) W (by omega))
        have HGL := hid (gamC_length (m + 1))
        have hgl := gamCost_le (m + 1)
        have HT := hid (HX.out.2.2.2 h0)
        have HS0 := hid (HSM.out h0)
        obtain ⟨m2, hm2⟩ : ∃ m2, m + 1 = m2 := ⟨_, rfl⟩
        rw [hm2] at hw2 HG HGL hgl HT
        obtain ⟨g, hg⟩ : ∃ g, gamCost m2 = g := ⟨_, rfl⟩
        rw [hg] at HG HGL hgl
        have hz1 := zig_zero h0
        have hz2 := zig_lt hxb.1 hxb.2
        have HZ := hid (fun W => refzig_any x W hxb.1 hxb.2)
        have HC2 := hid (fun W => refcode_any06 (zigN x - 1) k W)
        have hcl := costR_le (zigN x - 1) k
        have HCL := hid (codeR_length (zigN x - 1) k)
        have hw3 : IntKind.u64.wrap ((zigN x : Int) - 1) = ((zigN x - 1 : Nat) : Int) := by rw [IntWalk.u64_in _ (by omega)]; omega
        obtain ⟨z, hz⟩ : ∃ z, zigN x = z := ⟨_, rfl⟩
        rw [hz] at hw3 HZ HC2 hcl HCL HT
        obtain ⟨y, hy⟩ : ∃ y, z - 1 = y := ⟨_, rfl⟩
        rw [hy] at hw3 HC2 hcl HCL HT
        obtain ⟨u, hu⟩ : ∃ u, costR y k = u := ⟨_, rfl⟩
        rw [hu] at HC2 hcl HCL
        obtain ⟨G, hG⟩ : ∃ G, gamC m2 = G := ⟨_, rfl⟩
        rw [hG] at HG HGL HT
        obtain ⟨R, hR⟩ : ∃ R, codeR y k = R := ⟨_, rfl⟩
        rw [hR] at HC2 HCL HT
        clear hm2 hg hz hy hu hG hR hz1 hz2 h0 hxb HSM HZR HX
        go_wp2_with fail
        go_region_held3 (fun w' => w'.cell? (ad.add j) = some (.int .i64 x)) (first | exact k8 | exact k6 | exact k4 | exact k2 | exact hc | go_keep)
          (first
            | (go_at_call 34; (with_reducible refine (HG.out _).mono ?_); rintro e w2 ⟨A2, c2, rfl, hf2⟩; have h2 := (HF.out.later ((Below.refl _ _).drew)).later hf2.bel; have k2 := KC.out w2 h2.bel; have H2 := hid (And.intro h2 hf2); clear h2 hf2)
            | (refine step_app _ rfl (.tmp 32) (.tmp 36) 22 rfl 3 .i64 8 Try.underlying22 Try.info_int (.slice A q c) q (i64s (bis B)) ?_ ?_ (.slice A2 g c2) (i64s (bis G)) ?_ ?_ i64s_one (by decide) ?_ ?_; (simp [Act.eval]); (exact H2.out.1.own_of hlen.out); (simp [Act.eval]); (exact H2.out.2.sl); (rw [i64s_length, bis_length, HGL.out]; omega); (intro v4 w4 hown hg hm4; have h4 := H2.out.1.bits_app' hlen.out hown hg hm4; have k4 := KC.out w4 h4.bel; have H4 := hid h4; clear h4 hown hg hm4))
            | (go_at_call 69; (with_reducible refine (HZ.out _).mono ?_); rintro e w5 ⟨rfl, rfl⟩)
            | (go_at_call 70; (with_reducible refine (HC2.out _).mono ?_); rintro e w6 ⟨A6, c6, rfl, hf6⟩; have h6 := H4.out.later hf6.bel; have k6 := KC.out w6 h6.bel; have H6 := hid (And.intro h6 hf6); clear h6 hf6)
            | (refine step_app _ rfl (.tmp 37) (.tmp 45) 22 rfl 3 .i64 8 Try.underlying22 Try.info_int v4 (q + g) (i64s (bis (B ++ G))) ?_ ?_ (.slice A6 u c6) (i64s (bis R)) ?_ ?_ i64s_one (by decide) ?_ ?_; (simp [Act.eval]); (exact H6.out.1.own_of (by rw [List.length_append, hlen.out, HGL.out])); (simp [Act.eval]); (exact H6.out.2.sl); (rw [i64s_length, bis_length, HCL.out]; omega); (intro v8 w8 hown hg hm8; have h8 := H6.out.1.bits_app' (by rw [List.length_append, hlen.out, HGL.out]) hown hg hm8; have k8 := KC.out w8 h8.bel; have H8 := hid h8; clear h8 hown hg hm8)))
        have h8 := H8.out
        obtain ⟨A9, c9, rfl⟩ := h8.form
        have hl8 : (bis (B ++ G ++ R)).length = q + g + u := by rw [bis_length, List.length_append, List.length_append, hlen.out, HGL.out, HCL.out]
        rw [hl8] at h8 ⊢
        rw [← HT.out] at h8
        have H9 := hid h8
        clear h8
        go_wp2_with fail
        go_roundw
        case rel =>
          refine ⟨j + 1, 0, q + g + u, A9, c9, by omega, by go_num, rfl, by omega, rfl, .inl HS0.out.symm, ?_, H9.out⟩
          show (codeTo xs k (j + 1)).length = q + g + u
          rw [HT.out, ← hl8, bis_length]
        case measure => simp [intOf]; omega
    · have hin : ¬ (j : Int) < xs.length := by omega
      obtain rfl : j = xs.length := by omega
      clear hf
      go_wp2_with fail
      go_ret
      have h := HF.out
      have hmm := hlen.out
      have e : codeTo xs k xs.length = codeL xs k := by unfold codeTo; rw [if_pos rfl]
      rw [e] at h hmm
      rw [hmm]
      exact ⟨A, c, rfl, h⟩
end Go.Proofs.Ytjboboaccjbebaa
