/- Layer 7: Runs, and the reference's. -/
import Derived.Test.YtjboboaccjbebaaRunR
import Derived.Test.YtjboboaccjbebaaRunQ
namespace Go.Proofs.Ytjboboaccjbebaa
open Go.RowKit

theorem FreshI.none_ (w : World) : FreshI w [] (.slice none 0 0) w := ⟨World.ownsRow_nil _ _ _ _, .refl _ _, by simp [Value.ownBlock]⟩

set_option maxRecDepth 100000 in
set_option maxHeartbeats 4000000 in
theorem refruns_any (l : Value) (xs : List Int) (w : World) (hl : Sl w l (i64s xs)) (hn : xs.length ≤ 1048576) :
    Calls Try.prog 32 #[l] w (FreshIS w (runsF 0 xs)) := by
  obtain ⟨A0, c0, rfl, hm0⟩ := i64s_form hl
  have H := hid hl
  clear hl
  go_enter Try.func32, Try.ntmps32
  go_wp2_with fail
  go_loopw [3, 4, 5] (fun o n i wr => ∃ (j m q : Nat) (A : Option Addr) (c : Nat), j ≤ xs.length ∧ i = .int .i64 j ∧ n = .int .i64 m ∧ m ≤ j ∧ o = .slice A q c ∧ q ≤ j ∧ Hid (m = (stsR (xs.take j)).2) ∧ Hid ((stsR (xs.take j)).1.length = q) ∧ FreshI w (stsR (xs.take j)).1 (.slice A q c) wr) (fun _ _ i _ => xs.length - (intOf i).toNat)
  case atStart => exact ⟨0, 0, 0, none, 0, by omega, rfl, rfl, by omega, rfl, by omega, rfl, rfl, FreshI.none_ w⟩
  case round =>
    obtain ⟨j, m, q, A, c, hj, rfl, rfl, hmj, rfl, hqj, hst, hlen, hf⟩ := hrel
    have HF := hid hf
    by_cases hjm : j < xs.length
    · have hin : (j : Int) < xs.length := by omega
      obtain ⟨ad, rfl, hc⟩ := i64s_at (H.out.below hf.bel) hjm
      obtain ⟨x, hxe⟩ : ∃ x, xs[j] = x := ⟨_, rfl⟩
      rw [hxe] at hc
      have HX := hid hxe
      clear hxe hf
      by_cases h0 : x = 0
      · subst h0
        go_wp2_with fail
        go_roundw
        case rel =>
          have e := take_snocI xs j hjm
          rw [HX.out] at e
          refine ⟨j + 1, m + 1, q, A, c, by omega, by go_num, by go_num, by omega, rfl, by omega, ?_, ?_, ?_⟩
          · show _ = _; rw [e, stsR_zero rfl, hst.out]
          · show _ = _; rw [e, stsR_zero rfl]; exact hlen.out
          · rw [e, stsR_zero rfl]; exact HF.out
        case measure => simp [intOf]; omega
      · have hb0 : (x == 0) = false := by rw [beq_eq_false_iff_ne]; exact h0
        have HX0 := hid h0
        clear h0
        go_wp2_with (at_builtin; go_must (refine wpList_app1 _ rfl (.tmp 19) (.tmp 21) 22 rfl 3 .i64 8 Try.underlying22 Try.info_int (.slice A q c) (i64s (stsR (xs.take j)).1) q rfl ?d1 ⟨wr.heap.size, 0, none⟩ (m : Int) rfl ?d3 (by decide) ?d4 (wr.heap.size + 1) ?d5 ?_); rotate_right; intro g cap w2 hown2 hg2 hat hlt; replace hown2 := hid hown2; replace hg2 := hid hg2; replace hat := hid hat)
        case d1 => exact (HF.out.own_n hlen.out).alloc _
        case d3 => exact World.cell?_alloc_at _ _ _ _ rfl
        case d4 => omega
        case d5 => simp
        go_roundw
        case rel =>
          have h := HF.out.app1' hlen.out hown2.out hg2.out hat.out
          have e := take_snocI xs j hjm
          rw [HX.out] at e
          refine ⟨j + 1, 0, q + 1, _, _, by omega, by go_num, rfl, by omega, rfl, by omega, ?_, ?_, ?_⟩
          · show _ = _; rw [e, stsR_some HX0.out]
          · show _ = _; rw [e, stsR_some HX0.out]; show (_ ++ [_]).length = _; rw [List.length_append, hlen.out]; rfl
          · rw [e, stsR_some HX0.out, ← hst.out]; exact h
        case measure => simp [intOf]; omega
    · have hin : ¬ (j : Int) < xs.length := by omega
      obtain rfl : j = xs.length := by omega
      clear hf
      rw [List.take_length] at HF hst hlen
      go_wp2_with (at_builtin; go_must (refine wpList_app1 _ rfl (.tmp 23) (.tmp 25) 22 rfl 3 .i64 8 Try.underlying22 Try.info_int (.slice A q c) (i64s (stsR xs).1) q rfl ?d1 ⟨wr.heap.size, 0, none⟩ (m : Int) rfl ?d3 (by decide) ?d4 (wr.heap.size + 1) ?d5 ?_); rotate_right; intro g cap w2 hown2 hg2 hat hlt; replace hown2 := hid hown2; replace hg2 := hid hg2; replace hat := hid hat)
      case d1 => exact (HF.out.own_n hlen.out).alloc _
      case d4 => omega
      go_ret
      have h := HF.out.app1' hlen.out hown2.out hg2.out hat.out
      have h1 := hst.out
      have h2 := hlen.out
      rw [h1, ← runs_sts] at h
      have e : (runsF 0 xs).length = q + 1 := by rw [runs_sts, List.length_append, h2]; rfl
      unfold FreshIS
      rw [e]
      exact ⟨_, _, rfl, h⟩

set_option maxRecDepth 100000 in
set_option maxHeartbeats 8000000 in
theorem runs_any (l : Value) (xs : List Int) (w : World) (hl : Sl w l (i64s xs)) (hn : xs.length ≤ 1048576) :
    Calls Try.prog 31 #[l] w (FreshIS w (runsF 0 xs)) := by
  obtain ⟨A0, c0, rfl, hm0⟩ := i64s_form hl
  have H := hid hl
  clear hl
  go_enter Try.func31, Try.ntmps31
  go_wp2_with fail
  go_loopw [3, 4] (fun o i wr => ∃ (j q : Nat) (F : List Int) (A : Option Addr) (c : Nat), j ≤ xs.length + 1 ∧ i = .int .i64 j ∧ o = .slice A q c ∧ q ≤ j ∧ Hid (F.length = q) ∧ FreshI w F (.slice A q c) wr ∧
    Hid ((∃ h : j ≤ xs.length, F ++ runsF 0 (xs.drop j) = runsF 0 xs ∧ (j = 0 ∨ ∃ i, ∃ h2 : i < xs.length, j = i + 1 ∧ xs[i] ≠ 0)) ∨ (j = xs.length + 1 ∧ F = runsF 0 xs ∧ ∃ i, ∃ h2 : i < xs.length, xs.length = i + 1 ∧ xs[i] = 0))) (fun _ i _ => xs.length + 1 - (intOf i).toNat)
  case atStart => exact ⟨0, 0, [], none, 0, by omega, rfl, rfl, by omega, rfl, FreshI.none_ w, .inl ⟨by omega, by simp, .inl rfl⟩⟩
  case round =>
    obtain ⟨j, q, F, A, c, hj, rfl, rfl, hqj, hlen, hf, hst⟩ := hrel
    have HF := hid hf
    by_cases hjm : j < xs.length
    · have hin : (j : Int) < xs.length := by omega
      obtain ⟨ad, rfl, hc⟩ := i64s_at (H.out.below hf.bel) hjm
      have hmc : xs.length ≤ c0 := (Sl.drop_len H.out).2
      have HN := noughts_any (.slice (some (ad.add j)) (xs.length - j) (c0 - j)) (xs.drop j) wr (by
        have := (H.out.below hf.bel).drop_ (k := j) (by omega)
        rwa [i64s_drop] at this)
      have hz := lz_le (xs.drop j)
      have hxe : (xs.drop j).length = xs.length - j := List.length_drop
      have HS : Hid (F ++ runsF 0 (xs.drop j) = runsF 0 xs) := by
        rcases hst.out with ⟨_, h, _⟩ | ⟨h, _⟩
        · exact h
        · omega
      have heq := runsF_eq 0 (xs.drop j)
      rw [Nat.zero_add] at heq
      have hlz : lz (xs.drop j) < (xs.drop j).length → ∃ i, ∃ h2 : i < xs.length, i = j + lz (xs.drop j) ∧ xs[i] ≠ 0 := fun h => ⟨j + lz (xs.drop j), by omega, rfl, by
        have := lz_at h
        rwa [List.getElem_drop] at this⟩
      have htk := lz_take (xs.drop j)
      obtain ⟨z, hzz⟩ : ∃ z, lz (xs.drop j) = z := ⟨_, rfl⟩
      rw [hzz] at HN hz heq htk hlz
      have hw1 : IntKind.i64.wrap ((z : Int) + 1) = ((z + 1 : Nat) : Int) := by rw [IntWalk.i64_in _ (by omega)]; omega
      have hw2 : IntKind.i64.wrap ((j : Int) + ((z + 1 : Nat) : Int)) = ((j + z + 1 : Nat) : Int) := by rw [IntWalk.i64_in _ (by omega)]; omega
      obtain ⟨z1, hz1⟩ : ∃ z1, z + 1 = z1 := ⟨_, rfl⟩
      rw [hz1] at hw1 hw2
      obtain ⟨y, hy⟩ : ∃ y, j + z + 1 = y := ⟨_, rfl⟩
      rw [hy] at hw2
      have HNN := hid HN
      have HZ := hid (And.intro heq (And.intro hlz (And.intro htk (And.intro hz (And.intro hxe (And.intro hz1 hy))))))
      clear hf HN heq hlz htk hst hzz hz1
      have hyj : j < y ∧ y ≤ xs.length + 1 := by omega
      obtain ⟨hyj1, hyj2⟩ := hyj
      clear hxe hz hy
      go_wp2_with fail
      with_reducible refine HNN.out.mono ?_
      rintro e w1 ⟨rfl, rfl⟩
      go_wp2_with (at_builtin; go_must (refine wpList_app1 _ rfl (.tmp 14) (.tmp 16) 22 rfl 3 .i64 8 Try.underlying22 Try.info_int (.slice A q c) (i64s F) q rfl ?d1 ⟨wr.heap.size, 0, none⟩ (z : Int) rfl ?d3 (by decide) ?d4 (wr.heap.size + 1) ?d5 ?_); rotate_right; intro g cap w2 hown2 hg2 hat hlt; replace hown2 := hid hown2; replace hg2 := hid hg2; replace hat := hid hat)
      case d1 => exact (HF.out.own_n hlen.out).alloc _
      case d3 => exact World.cell?_alloc_at _ _ _ _ rfl
      case d4 => omega
      case d5 => simp
      go_roundw
      case rel =>
        have h := HF.out.app1' hlen.out hown2.out hg2.out hat.out
        obtain ⟨heq, hlz, htk, hz, hxe, hz1, hy⟩ := HZ.out
        refine ⟨y, q + 1, F ++ [(z : Int)], _, _, by omega, by go_num, rfl, by omega, by show _ = _; rw [List.length_append, hlen.out]; rfl, h, ?_⟩
        have hS := HS.out
        rw [heq] at hS
        by_cases hc2 : z < (xs.drop j).length
        · rw [if_pos hc2, List.drop_drop, show j + (z + 1) = y by omega] at hS
          refine .inl ⟨by omega, by rw [List.append_assoc]; exact hS, .inr ?_⟩
          obtain ⟨i, h2, h3, h4⟩ := hlz hc2
          exact ⟨i, h2, by omega, h4⟩
        · rw [if_neg hc2] at hS
          refine .inr ⟨by omega, hS, xs.length - 1, by omega, by omega, ?_⟩
          have h4 : xs.drop j = List.replicate z 0 := by
            have hd0 : (xs.drop j).drop z = [] := List.drop_of_length_le (by omega)
            rw [hd0, List.append_nil] at htk
            exact htk
          have h5 : xs[xs.length - 1]'(by omega) = (xs.drop j)[xs.length - 1 - j]'(by omega) := by
            rw [List.getElem_drop]
            congr 1
            omega
          rw [h5]
          simp [h4]
      case measure => simp [intOf]; omega
    · have hin : ¬ (j : Int) < xs.length := by omega
      clear hf
      by_cases hlen0 : xs.length = 0
      · have hb0 : ((xs.length : Int) == 0) = true := by rw [beq_iff_eq]; omega
        have HS : Hid (F ++ [0] = runsF 0 xs) := by
          rcases hst.out with ⟨h1, h, _⟩ | ⟨h, _, i, h2, _⟩
          · rw [List.drop_of_length_le (by omega)] at h
            exact h
          · omega
        clear hst hlen0
        go_wp2_with (at_builtin; go_must (refine wpList_app1 _ rfl (.tmp 34) (.tmp 35) 22 rfl 3 .i64 8 Try.underlying22 Try.info_int (.slice A q c) (i64s F) q rfl ?d1 ⟨wr.heap.size, 0, none⟩ 0 rfl ?d3 (by decide) ?d4 (wr.heap.size + 1) ?d5 ?_); rotate_right; intro g cap w2 hown2 hg2 hat hlt; replace hown2 := hid hown2; replace hg2 := hid hg2; replace hat := hid hat)
        case d1 => exact (HF.out.own_n hlen.out).alloc _
        case d4 => omega
        go_ret
        have h := HF.out.app1' hlen.out hown2.out hg2.out hat.out
        rw [HS.out] at h
        have e : (runsF 0 xs).length = q + 1 := by rw [← HS.out, List.length_append, hlen.out]; rfl
        unfold FreshIS
        rw [e]
        exact ⟨_, _, rfl, h⟩
      · have hb0 : ((xs.length : Int) == 0) = false := by rw [beq_eq_false_iff_ne]; omega
        have hlp : xs.length - 1 < xs.length := by omega
        obtain ⟨ad, rfl, hc⟩ := i64s_at (H.out.below HF.out.bel) hlp
        obtain ⟨p, hp⟩ : ∃ p, xs.length - 1 = p := ⟨_, rfl⟩
        have hwp : IntKind.i64.wrap ((xs.length : Int) - 1) = (p : Int) := by rw [IntWalk.i64_in _ (by omega)]; omega
        have hpl : p < xs.length := by omega
        simp only [hp] at hc
        obtain ⟨x, hxe⟩ : ∃ x, xs[p] = x := ⟨_, rfl⟩
        rw [hxe] at hc
        have hp1 : (p : Int) = (xs.length : Int) - 1 := by omega
        have hp0 : (0 : Int) ≤ (p : Int) := by omega
        have hpl' : (p : Int) < (xs.length : Int) := by omega
        have HX := hid (And.intro hp hxe)
        clear hp hxe hlp hlen0 hp1
        by_cases h0 : x = 0
        · have HS : Hid (F = runsF 0 xs) := by
            rcases hst.out with ⟨h1, h, h3⟩ | ⟨h, h2, _⟩
            · rcases h3 with h3 | ⟨i, h4, h5, h6⟩
              · omega
              · have : i = p := by have := HX.out.1; omega
                subst this
                exact absurd (HX.out.2.trans h0) h6
            · exact h2
          subst h0
          clear hst
          go_wp2_with fail
          go_ret
          have h := HF.out
          rw [HS.out] at h
          have e : (runsF 0 xs).length = q := by rw [← HS.out]; exact hlen.out
          unfold FreshIS
          rw [e]
          exact ⟨_, _, rfl, h⟩
        · have hbx : (x != 0) = true := by rw [bne_iff_ne]; exact h0
          have HS : Hid (F ++ [0] = runsF 0 xs) := by
            rcases hst.out with ⟨h1, h, _⟩ | ⟨h, _, i, h2, h3, h4⟩
            · rw [List.drop_of_length_le (by omega)] at h
              exact h
            · have : i = p := by have := HX.out.1; omega
              subst this
              exact absurd (HX.out.2.symm.trans h4) h0
          clear hst h0
          go_wp2_with (at_builtin; go_must (refine wpList_app1 _ rfl (.tmp 34) (.tmp 35) 22 rfl 3 .i64 8 Try.underlying22 Try.info_int (.slice A q c) (i64s F) q rfl ?d1 ⟨wr.heap.size, 0, none⟩ 0 rfl ?d3 (by decide) ?d4 (wr.heap.size + 1) ?d5 ?_); rotate_right; intro g cap w2 hown2 hg2 hat hlt; replace hown2 := hid hown2; replace hg2 := hid hg2; replace hat := hid hat)
          case d1 => exact (HF.out.own_n hlen.out).alloc _
          case d4 => omega
          go_ret
          have h := HF.out.app1' hlen.out hown2.out hg2.out hat.out
          rw [HS.out] at h
          have e : (runsF 0 xs).length = q + 1 := by rw [← HS.out, List.length_append, hlen.out]; rfl
          unfold FreshIS
          rw [e]
          exact ⟨_, _, rfl, h⟩
end Go.Proofs.Ytjboboaccjbebaa
