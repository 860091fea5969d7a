/- The reference of layer 7: Gamma, Coded, Cost. -/
import Derived.Test.YtjboboaccjbebaaRunC
import Derived.Test.YtjboboaccjbebaaRunQ
import Derived.Test.YtjboboaccjbebaaCode06
namespace Go.Proofs.Ytjboboaccjbebaa
open Go.RowKit

set_option maxRecDepth 100000 in
set_option maxHeartbeats 1600000 in
theorem refcoded_any (l : Value) (xs : List Int) (w : World) (hl : Sl w l (i64s xs)) (hx : InI xs) :
    Calls Try.prog 22 #[l] w fun e w' => e = .returned (.bool (codedB xs)) ∧ w = w' := by
  obtain ⟨A, c, rfl, hm⟩ := i64s_form hl
  have H := hid (And.intro hl hx)
  clear hl hx
  go_enter Try.func22, Try.ntmps22
  go_wp2_with fail
  go_loop [3] (fun i => ∃ k : Nat, k ≤ xs.length ∧ i = .int .i64 k ∧ Hid (codedB (xs.take k) = true)) (fun i => xs.length - (intOf i).toNat)
  case atStart => exact ⟨0, by omega, rfl, by simp [Hid, codedB]⟩
  case round =>
    obtain ⟨j, hj, rfl, hd⟩ := hrel
    by_cases hjm : j < xs.length
    · have hin : (j : Int) < xs.length := by omega
      obtain ⟨ad, rfl, hc⟩ := i64s_at H.out.1 hjm
      have hxb := H.out.2 xs[j] (List.getElem_mem _)
      obtain ⟨x, hx⟩ : ∃ x, xs[j] = x := ⟨_, rfl⟩
      rw [hx] at hc hxb
      have HX := hid hx
      have HZ := refzig_any x w hxb.1 hxb.2
      obtain ⟨z, hz⟩ : ∃ z, zigN x = z := ⟨_, rfl⟩
      rw [hz] at HZ
      have HZZ := hid HZ
      have HX2 := hid hz
      clear hx hz HZ hxb
      have HT := hid (show decide ((1099511627776 : Int) ≤ (z : Int)) = !decide (z < 1099511627776) by rw [Bool.eq_iff_iff]; simp; omega)
      obtain ⟨t, ht⟩ : ∃ t, decide (z < 1099511627776) = t := ⟨_, rfl⟩
      rw [ht] at HT
      have HLT := hid ht
      clear ht
      cases t
      · have hb : decide ((1099511627776 : Int) ≤ (z : Int)) = true := HT.out
        go_wp2_with fail
        with_reducible refine HZZ.out.mono ?_
        rintro e w1 ⟨rfl, rfl⟩
        go_wp2_with fail
        go_ret
        have e : codedB xs = false := by
          unfold codedB
          rw [List.all_eq_false]
          exact ⟨x, by rw [← HX.out]; exact List.getElem_mem _, by rw [HX2.out, HLT.out]; simp⟩
        exact ⟨by rw [e]; rfl, rfl⟩
      · have hb : decide ((1099511627776 : Int) ≤ (z : Int)) = false := HT.out
        go_wp2_with fail
        with_reducible refine HZZ.out.mono ?_
        rintro e w1 ⟨rfl, rfl⟩
        go_wp2_with fail
        clear hb
        go_round
        case rel => exact ⟨j + 1, by omega, by go_num, by show _ = _; have h := hd.out; unfold codedB at h; unfold codedB; rw [take_snocI xs j hjm, List.all_append, h, HX.out]; simp only [List.all_cons, List.all_nil]; rw [HX2.out, HLT.out]; rfl⟩
        case measure => simp [intOf]; omega
    · have hin : ¬ (j : Int) < xs.length := by omega
      obtain rfl : j = xs.length := by omega
      go_wp2_with fail
      go_ret
      have h := hd.out
      rw [List.take_length] at h
      exact ⟨by rw [h]; rfl, rfl⟩

/-- A row of noughts that was just made. -/
theorem mk_fresh {w W : World} (h : Below w.heap.size w W) (m : Nat) (hm : m ≤ 1000000) : FreshI w (bis (List.replicate m false)) (.slice (some ⟨W.heap.size, 0, none⟩) m m) (W.alloc (.cells (madeCells #[.int .i64 0] m) 3)) := by
  have e : i64s (bis (List.replicate m false)) = i64s (List.replicate m 0) := by simp [bis, bi]
  have hb := Blk.new W 3 (madeCells #[.int .i64 0] m)
  rw [made_zero] at hb ⊢
  refine ⟨?_, h.alloc h.size _, fun g hg => ?_⟩
  · rw [bis_length, List.length_replicate, e]
    exact own_of_blk hb (Nat.le_refl m) (by unfold maxLen; omega) (by simp [i64s]) (by rw [List.take_of_length_le (by simp [i64s])]) (by simp [i64s])
  · simp [Value.ownBlock] at hg
    subst hg
    exact h.size

set_option maxRecDepth 100000 in
set_option maxHeartbeats 4000000 in
theorem refgamma_any (v : Nat) (w : World) (hv : v < 18446744073709551616) : Calls Try.prog 34 #[.int .u64 (v : Int)] w (CodeS w (gamC v) (gamCost v)) := by
  by_cases hg : gamB v = true
  · have hb := (gamB_iff v).1 hg
    have hw := gam_wid hg
    have e : gamCost v = 2 * wid v - 1 := by unfold gamCost; rw [if_pos hg]
    have eC : gamC v = List.replicate (wid v - 1) false ++ bitsOf v (wid v) := by unfold gamC; rw [if_pos hg]
    have HW := hid (fun W => refwidth_any v W hv)
    rw [e, eC]
    obtain ⟨k, hk⟩ : ∃ k, wid v = k := ⟨_, rfl⟩
    rw [hk] at HW hw ⊢
    obtain ⟨hk1, hk2, _, _⟩ := hw
    have b1 : ¬ (v : Int) < 1 := by omega
    have b2 : ¬ (4294967295 : Int) < v := by omega
    have hw1 : IntKind.i64.wrap ((k : Int) - 1) = ((k - 1 : Nat) : Int) := by rw [IntWalk.i64_in _ (by omega)]; omega
    obtain ⟨m, hm⟩ : ∃ m, k - 1 = m := ⟨_, rfl⟩
    rw [hm] at hw1
    have hmk := fun W => make_int m (by omega) W
    have hm32 : m ≤ 32 := by omega
    clear e eC hk hg hb
    go_enter Try.func34, Try.ntmps34
    go_wp2_with fail
    with_reducible refine (HW.out _).mono ?_
    rintro e w1 ⟨rfl, rfl⟩
    go_wp2_with fail
    have HH := hid (And.intro hm (And.intro hv hk1))
    clear hm hv
    go_region_law
      (first
        | (go_simp; go_at_call 80; (with_reducible refine (bits_sl (v : Int) (k : Int) v k rfl rfl _ HH.out.2.1 (by omega)).mono ?_); rintro e w2 ⟨A2, c2, rfl, hf⟩; (first
            | (have h1 : FreshI w (bis (List.replicate m false)) (.slice (some ⟨w.heap.size, 0, none⟩) m m) w2 := ((mk_fresh (Below.refl _ w) m (by omega)).later (Below.refl _ _).drew).later hf.bel; obtain ⟨vm, hvm⟩ : ∃ vm : Value, vm = .slice (some ⟨w.heap.size, 0, none⟩) m m := ⟨_, rfl⟩; rw [← hvm] at h1; have H2 := hid (And.intro h1 (And.intro hf.sl hvm)); clear h1 hf hvm)
            | (have h1 := mk_fresh (w := w) (W := w2) (below_undrew hf.bel) m (by omega); obtain ⟨vm, hvm⟩ : ∃ vm : Value, vm = .slice (some ⟨w2.heap.size, 0, none⟩) m m := ⟨_, rfl⟩; rw [← hvm] at h1; have H2 := hid (And.intro h1 (And.intro (hf.sl.alloc (.cells (madeCells #[.int .i64 0] m) 3)) hvm)); clear h1 hf hvm)))
        | (refine step_app _ rfl (.tmp 14) (.tmp 17) 22 rfl 3 .i64 8 Try.underlying22 Try.info_int vm m (i64s (bis (List.replicate m false))) ?_ ?_ (.slice A2 k c2) (i64s (bis (bitsOf v k))) ?_ ?_ i64s_one (by decide) ?_ ?_; (rw [H2.out.2.2]; simp [Act.eval]); (first | exact H2.out.1.own_of (List.length_replicate ..) | exact own_drew (H2.out.1.own_of (List.length_replicate ..))); (simp [Act.eval]); (first | exact H2.out.2.1 | exact H2.out.2.1.drew); (rw [i64s_length, bis_length, bitsOf_length]; omega); (intro v4 w4 hown hg hm4; (first | (have h4 := H2.out.1.bits_app' (List.length_replicate ..) hown hg hm4; have H4 := hid h4; clear h4 hown hg hm4) | (have h4 := (H2.out.1.later (Below.refl _ _).drew).bits_app' (List.length_replicate ..) hown hg hm4; have H4 := hid h4; clear h4 hown hg hm4)))))
    all_goals (
      obtain ⟨A5, c5, rfl⟩ := H4.out.form
      have hln : (bis (List.replicate m false ++ bitsOf v k)).length = 2 * k - 1 := by
        have := HH.out.1
        rw [bis_length, List.length_append, List.length_replicate, bitsOf_length]
        omega
      rw [hln] at H4 ⊢
      go_wp2_with fail
      go_ret
      rw [HH.out.1]
      exact ⟨A5, c5, rfl, H4.out⟩)
  · have b0 : ¬ (1 ≤ v ∧ v ≤ 4294967295) := fun h => hg ((gamB_iff v).2 h)
    have e : gamCost v = 0 := by unfold gamCost; rw [if_neg hg]
    have eC : gamC v = [] := by unfold gamC; rw [if_neg hg]
    rw [e, eC]
    clear e eC hg
    by_cases b1 : (v : Int) < 1
    · go_enter Try.func34, Try.ntmps34
      go_wp2_with fail
      go_ret
      exact ⟨none, 0, rfl, ⟨World.ownsRow_nil _ _ _ _, .refl _ _, by simp [Value.ownBlock]⟩⟩
    · have b2 : (4294967295 : Int) < v := by omega
      go_enter Try.func34, Try.ntmps34
      go_wp2_with fail
      go_ret
      exact ⟨none, 0, rfl, ⟨World.ownsRow_nil _ _ _ _, .refl _ _, by simp [Value.ownBlock]⟩⟩
end Go.Proofs.Ytjboboaccjbebaa
