/- The reference of layer 12: Near, Fits, Shift, Quant. -/
import Derived.Test.YtfbccmogiafgfaaCoefR
namespace Go.Proofs.Ytfbccmogiafgfaa
open Go.RowKit

theorem refnear_any (c : Int) (w : World) : Calls Try.prog 56 #[.int .i64 c] w fun e w' => e = .returned (.int .i64 (nearI c)) ∧ w = w' := by
  go_enter Try.func56, Try.ntmps56
  go_wp2_with fail
  have HC := refclamp_any c (-1099511627776) 1099511627776 w
  with_reducible refine HC.mono ?_
  clear HC
  rintro e w1 ⟨rfl, rfl⟩
  go_wp2_with fail
  go_ret
  exact ⟨rfl, rfl⟩

theorem topI_le (f : Int → Int) (xs : List Int) (m T : Int) : topI f m xs ≤ T ↔ m ≤ T ∧ ∀ x ∈ xs, f x ≤ T := by
  induction xs generalizing m with
  | nil => simp [topI]
  | cons x xs ih =>
    have e : topI f m (x :: xs) = topI f (max m (f x)) xs := rfl
    rw [e, ih]
    simp only [List.mem_cons, forall_eq_or_imp]
    constructor
    · rintro ⟨h1, h2⟩
      exact ⟨by omega, by omega, h2⟩
    · rintro ⟨h1, h2, h3⟩
      exact ⟨by omega, h3⟩
theorem fitB_iff (xs : List Int) (T : Int) (s : Nat) (hT : 0 ≤ T) : fitB xs T s = true ↔ ∀ x ∈ xs, rnd (nearI x) (24 - s) ≤ T ∧ -T ≤ rnd (nearI x) (24 - s) := by
  unfold fitB
  rw [decide_eq_true_iff, topI_le]
  constructor
  · rintro ⟨_, h⟩ x hx
    have := h x hx
    unfold offI sizeI at this
    omega
  · intro h
    refine ⟨hT, fun x hx => ?_⟩
    have := h x hx
    unfold offI sizeI
    omega

set_option maxRecDepth 100000 in
theorem reffits_any (l : Value) (xs : List Int) (s : Nat) (T : Int) (w : World) (hl : Sl w l (i64s xs)) (hs : 1 ≤ s) (hs2 : s ≤ 15) (hT : 0 ≤ T) (hT2 : T ≤ 1000000) :
    Calls Try.prog 79 #[l, .int .i64 (s : Int), .int .i64 T] w fun e w' => e = .returned (.bool (fitB xs T s)) ∧ w = w' := by
  obtain ⟨A, c, rfl, hm⟩ := i64s_form hl
  have H := hid hl
  clear hl
  have hws : IntKind.i64.wrap (24 - (s : Int)) = 24 - (s : Int) := IntWalk.i64_in _ (by omega)
  go_enter Try.func79, Try.ntmps79
  go_wp2_with fail
  go_loop [7] (fun i => ∃ k : Nat, k ≤ xs.length ∧ i = .int .i64 k ∧ Hid (∀ x ∈ xs.take k, rnd (nearI x) (24 - s) ≤ T ∧ -T ≤ rnd (nearI x) (24 - s))) (fun i => xs.length - (intOf i).toNat)
  case atStart => exact ⟨0, by omega, rfl, by simp [Hid]⟩
  case round =>
    obtain ⟨k, hk, rfl, hall⟩ := hrel
    by_cases hkm : k < xs.length
    · have hin : (k : Int) < xs.length := by omega
      obtain ⟨ad, rfl, hc⟩ := i64s_at H.out hkm
      obtain ⟨x, hx⟩ : ∃ x, xs[k] = x := ⟨_, rfl⟩
      rw [hx] at hc
      have HX := hid hx
      clear hx
      go_wp2_with fail
      have HC := refnear_any x w
      have hn := nearI_bd x
      have hr := rnd_bd (nearI x) 1099511627776 (24 - s) hn.1 hn.2 (by omega)
      obtain ⟨y, hy⟩ : ∃ y, nearI x = y := ⟨_, rfl⟩
      rw [hy] at HC hn hr
      have HY := hid hy
      clear hy
      with_reducible refine HC.mono ?_
      clear HC
      rintro e w1 ⟨rfl, rfl⟩
      go_wp2_with fail
      have HC := refround_at y (24 - (s : Int)) (24 - s) (by omega) w (by omega) (by omega)
      rw [holdI_id y (by omega) (by omega)] at HC
      obtain ⟨z, hz⟩ : ∃ z, rnd y (24 - s) = z := ⟨_, rfl⟩
      rw [hz] at HC hr
      have HZ := hid (show rnd (nearI x) (24 - s) = z by rw [HY.out, hz])
      clear hz
      with_reducible refine HC.mono ?_
      clear HC
      rintro e w1 ⟨rfl, rfl⟩
      have hbad : ¬ (z ≤ T ∧ -T ≤ z) → fitB xs T s = false := fun hb => by
        rw [Bool.eq_false_iff]
        intro h
        have := (fitB_iff xs T s hT).1 h x (by rw [← HX.out]; exact List.getElem_mem _)
        rw [HZ.out] at this
        exact hb this
      have HB := hid hbad
      clear hbad
      by_cases g1 : T < z
      · go_wp2_with fail
        go_ret
        exact ⟨by rw [HB.out (by omega)]; rfl, rfl⟩
      by_cases g2 : z < -T
      · go_wp2_with fail
        go_ret
        exact ⟨by rw [HB.out (by omega)]; rfl, rfl⟩
      · go_wp2_with fail
        go_round
        case rel =>
          refine ⟨k + 1, by omega, by go_num, ?_⟩
          intro y hy
          rw [take_snocI xs k hkm] at hy
          rcases List.mem_append.1 hy with hy | hy
          · exact hall.out y hy
          · simp at hy
            rw [hy, HX.out, HZ.out]
            omega
        case measure => simp [intOf]; omega
    · have hin : ¬ (k : Int) < xs.length := by omega
      obtain rfl : k = xs.length := by omega
      go_wp2_with fail
      go_ret
      have h := hall.out
      rw [List.take_length] at h
      exact ⟨by rw [(fitB_iff xs T s hT).2 h]; rfl, rfl⟩

set_option maxRecDepth 100000 in
theorem refshift_any (l : Value) (xs : List Int) (T : Int) (w : World) (hl : Sl w l (i64s xs)) (hT : 0 ≤ T) (hT2 : T ≤ 1000000) :
    Calls Try.prog 55 #[l, .int .i64 T] w fun e w' => e = .returned (.int .i64 (shiftN xs T : Nat)) ∧ w = w' := by
  have H := hid hl
  clear hl
  go_enter Try.func55, Try.ntmps55
  go_wp2_with fail
  go_loop [5] (fun i => ∃ s : Nat, s ≤ 15 ∧ i = .int .i64 s ∧ Hid (shiftN xs T = downTo (fitB xs T) s)) (fun i => (intOf i).toNat)
  case atStart => exact ⟨15, by omega, rfl, rfl⟩
  case round =>
    obtain ⟨s, hs, rfl, hd⟩ := hrel
    rcases s with _ | s
    · go_wp2_with fail
      go_ret
      exact ⟨by rw [hd.out]; rfl, rfl⟩
    · have hs0 : (0 : Int) < ((s + 1 : Nat) : Int) := by omega
      have HC := reffits_any l xs (s + 1) T w H.out (by omega) hs hT hT2
      have ek : ((s + 1 : Nat) : Int) = (s : Int) + 1 := by omega
      rw [ek] at HC hs0 ⊢
      clear ek
      obtain ⟨b, hb⟩ : ∃ b, fitB xs T (s + 1) = b := ⟨_, rfl⟩
      rw [hb] at HC
      have HCC := hid HC
      have HB := hid hb
      clear HC hb
      cases b
      · have HF := hid (show shiftN xs T = downTo (fitB xs T) s by rw [hd.out, downTo, HB.out]; rfl)
        go_wp2_with fail
        with_reducible refine HCC.out.mono ?_
        rintro e w1 ⟨rfl, rfl⟩
        go_wp2_with fail
        go_round
        case rel => exact ⟨s, by omega, rfl, HF⟩
        case measure => simp [intOf]
      · have HF := hid (show shiftN xs T = s + 1 by rw [hd.out, downTo, HB.out]; rfl)
        go_wp2_with fail
        with_reducible refine HCC.out.mono ?_
        rintro e w1 ⟨rfl, rfl⟩
        go_wp2_with fail
        go_ret
        exact ⟨by rw [HF.out]; rfl, rfl⟩

/-- A predictor in the results, by itself. -/
def PredPost1 (w : World) (L : List Int) (sh : Nat) (e : Ending) (w' : World) : Prop :=
  ∃ A c, e = .returned (.agg #[.slice A L.length c, .int .i64 (sh : Int)]) ∧ FreshI w L (.slice A L.length c) w'

set_option maxRecDepth 100000 in
set_option maxHeartbeats 1600000 in
theorem refquant_any (l : Value) (xs : List Int) (n : Nat) (w : World) (hl : Sl w l (i64s xs)) (h2 : 2 ≤ n) (hn : n ≤ 16) (hm : xs.length ≤ 32) :
    Calls Try.prog 17 #[l, .int .i64 (n : Int)] w (PredPost1 w (quantS (2 ^ (n - 1) - 1) (24 - shiftN xs (2 ^ (n - 1) - 1)) xs).1 (shiftN xs (2 ^ (n - 1) - 1))) := by
  obtain ⟨A, c, e, _⟩ := hl.form
  rw [i64s_length] at e
  subst e
  have hm2 : (xs.length : Int) ≤ 32 := by omega
  have H := hid hl
  clear hl
  obtain ⟨t, ht⟩ : ∃ t : Int, 2 ^ (n - 1) = t := ⟨_, rfl⟩
  have ht2 : t ≤ 32768 := by rw [← ht]; exact pow_le_int (n := 15) (by omega)
  have ht1 : 2 ≤ t := by rw [← ht]; exact pow_le_int (k := 1) (by omega)
  rw [ht]
  have HT := hid ht
  clear ht
  go_enter Try.func17, Try.ntmps17
  go_wp2_with fail
  have HC := power_at ((n : Int) - 1) (n - 1) (by omega) (w.alloc (.cells #[.slice none 0 0, .int .i64 0] 25)) (by omega)
  rw [HT.out] at HC
  with_reducible refine HC.mono ?_
  clear HC
  rintro e w1 ⟨rfl, rfl⟩
  go_wp2_with fail
  have HC := refshift_any (.slice A xs.length c) xs (t - 1) (w.alloc (.cells #[.slice none 0 0, .int .i64 0] 25)) (H.out.below ((Below.refl _ _).alloc (Nat.le_refl _) _)) (by omega) (by omega)
  obtain ⟨sh, hsh⟩ : ∃ sh, shiftN xs (t - 1) = sh := ⟨_, rfl⟩
  have hsh15 : sh ≤ 15 := by rw [← hsh]; exact downTo_le _ 15
  rw [hsh] at HC
  have HSH := hid hsh
  clear hsh
  with_reducible refine HC.mono ?_
  clear HC
  rintro e w1 ⟨rfl, rfl⟩
  have hby : IntKind.i64.wrap (24 - (sh : Int)) = 24 - (sh : Int) := IntWalk.i64_in _ (by omega)
  go_wp2_with fail
  have hp24 : (2 : Int) ^ (24 - sh) ≤ 16777216 := pow_le_int (n := 24) (by omega)
  have hp0 : (1 : Int) ≤ 2 ^ (24 - sh) := pow_le_int (k := 0) (by omega)
  go_loopw [7, 8] (fun r i wr => ∃ (k : Nat) (r0 : Int) (v : Value), k ≤ xs.length ∧ i = .int .i64 k ∧ r = .int .i64 r0 ∧ r0 = (quantS (t - 1) (24 - sh) (xs.take k)).2 ∧ QSt w (w.heap.size + 1) w.heap.size sh (quantS (t - 1) (24 - sh) (xs.take k)).1 v wr) (fun _ i _ => xs.length - (intOf i).toNat)
  case atStart =>
    have hb := ((Below.refl _ w).alloc (Nat.le_refl _) (.cells #[.slice none 0 0, .int .i64 0] 25)).alloc (by simp) (.cells #[.slice none 0 0, .int .i64 (sh : Int)] 25)
    have hB := Blk.new (w.alloc (.cells #[.slice none 0 0, .int .i64 0] 25)) 25 #[.slice none 0 0, .int .i64 (sh : Int)]
    rw [show (w.alloc (.cells #[.slice none 0 0, .int .i64 0] 25)).heap.size = w.heap.size + 1 by simp] at hB
    exact ⟨0, 0, .slice none 0 0, by omega, rfl, rfl, by simp [quantS], ⟨⟨World.ownsRow_nil _ _ _ _, hb, by simp [Value.ownBlock]⟩, hB, (Blk.new w _ _).alloc _, by omega, by omega, by omega⟩⟩
  case round =>
    obtain ⟨k, r0, v, hk, rfl, rfl, hr0, hq⟩ := hrel
    have hrb := quantS_rest (t - 1) (24 - sh) (xs.take k)
    rw [← hr0] at hrb
    obtain ⟨hrb1, hrb2⟩ := hrb
    have c0 := hq.bp.cell 0
    have c1 := hq.bp.cell 1
    have f0 := hq.bp.frozen 0
    simp at c0 c1
    by_cases hkm : k < xs.length
    · have hin : (k : Int) < xs.length := by omega
      obtain ⟨ad, rfl, hc⟩ := i64s_at (H.out.below hq.fr.2.1) hkm
      have HQ := hid (And.intro hr0 hq)
      obtain ⟨x, hx⟩ : ∃ x, xs[k] = x := ⟨_, rfl⟩
      rw [hx] at hc
      have HX := hid hx
      have hn := nearI_bd x
      obtain ⟨y0, hy0⟩ : ∃ y, nearI x = y := ⟨_, rfl⟩
      rw [hy0] at hn
      have HY := hid hy0
      clear hx hr0 hq hy0
      go_wp2_with fail
      have HC := refnear_any x wr
      rw [HY.out] at HC
      with_reducible refine HC.mono ?_
      clear HC
      rintro e w2 ⟨rfl, rfl⟩
      go_wp2_with fail
      have HC := refround_at (y0 + r0) (24 - (sh : Int)) (24 - sh) (by omega) wr (by omega) (by omega)
      rw [holdI_id (y0 + r0) (by omega) (by omega)] at HC
      with_reducible refine HC.mono ?_
      clear HC
      rintro e w2 ⟨rfl, rfl⟩
      go_wp2_with fail
      have HC := refclamp_any (rnd (y0 + r0) (24 - sh)) (-(t - 1)) (t - 1) wr
      have hqb := clampI_bd (rnd (y0 + r0) (24 - sh)) (-(t - 1)) (t - 1) (by omega)
      obtain ⟨q, hqe⟩ : ∃ q, clampI (rnd (y0 + r0) (24 - sh)) (-(t - 1)) (t - 1) = q := ⟨_, rfl⟩
      rw [hqe] at HC hqb
      have HE := hid hqe
      clear hqe
      obtain ⟨hqb1, hqb2⟩ := hqb
      with_reducible refine HC.mono ?_
      clear HC
      rintro e w2 ⟨rfl, rfl⟩
      obtain ⟨L, hL⟩ : ∃ L, (quantS (t - 1) (24 - sh) (xs.take k)).1 = L := ⟨_, rfl⟩
      rw [hL] at HQ
      have HL := hid hL
      have hLl : L.length ≤ 32 := by rw [← hL, quantS_length, List.length_take]; omega
      clear hL
      go_wp2_with (at_builtin; go_must (refine wpList_app1 _ rfl (.tmp 42) (.tmp 44) 22 rfl 3 .i64 8 Try.underlying22 Try.info_int v (i64s L) L.length rfl ?d1 ⟨wr.heap.size, 0, none⟩ q rfl ?d3 (by decide) ?d4 (wr.heap.size + 1) ?d5 ?_); rotate_right; intro g cap w2 hown2 hg2 hat hlt; have hh := HQ.out.2.grow hown2 hg2 hat; have c0' := hh.1.cell 0; have c1' := hh.1.cell 1; have f0' := hh.1.frozen 0; simp at c0' c1'; replace hh := hid hh; clear hown2 hg2 hat)
      case d1 => exact HQ.out.2.fr.1.alloc _
      case d3 => exact World.cell?_alloc_at _ _ _ _ rfl
      case d4 => omega
      case d5 => simp
      have HC := power_at (24 - (sh : Int)) (24 - sh) (by omega) (w2.setCell ⟨w.heap.size + 1, 0, none⟩ (.slice (some ⟨g, 0, none⟩) (L.length + 1) cap)) (by omega)
      with_reducible refine HC.mono ?_
      clear HC
      rintro e w3 ⟨rfl, rfl⟩
      have hqp := mul_small hqb1 hqb2 ht2 hp24 hp0
      have hw8 : IntKind.i64.wrap (q * 2 ^ (24 - sh)) = q * 2 ^ (24 - sh) := IntWalk.i64_in _ (by omega)
      have hw9 : IntKind.i64.wrap (y0 + r0 - q * 2 ^ (24 - sh)) = y0 + r0 - q * 2 ^ (24 - sh) := IntWalk.i64_in _ (by omega)
      go_wp2_with fail
      have HC := refnear_any (y0 + r0 - q * 2 ^ (24 - sh)) (w2.setCell ⟨w.heap.size + 1, 0, none⟩ (.slice (some ⟨g, 0, none⟩) (L.length + 1) cap))
      have HS := hid (show quantS (t - 1) (24 - sh) (xs.take (k + 1)) = (L ++ [q], nearI (y0 + r0 - q * 2 ^ (24 - sh))) by
        rw [take_snoc xs k hkm, quantS_snoc, qStep, HL.out, HX.out, HY.out, ← HQ.out.1, HE.out])
      obtain ⟨r1, hr1⟩ : ∃ r1, nearI (y0 + r0 - q * 2 ^ (24 - sh)) = r1 := ⟨_, rfl⟩
      rw [hr1] at HC HS
      clear hr1 hqp hw8 hw9
      with_reducible refine HC.mono ?_
      clear HC
      rintro e w3 ⟨rfl, rfl⟩
      go_wp2_with fail
      go_roundw
      case rel => exact ⟨k + 1, r1, _, by omega, by go_num, rfl, by rw [HS.out], by rw [HS.out]; exact hh.out.2⟩
      case measure => simp [intOf]; omega
    · have hin : ¬ (k : Int) < xs.length := by omega
      obtain rfl : k = xs.length := by omega
      obtain ⟨A1, cc1, rfl⟩ := hq.fr.form
      have d0 := hq.br.cell 0
      have d1 := hq.br.cell 1
      have e0 := hq.br.frozen 0
      have e1 := hq.br.frozen 1
      simp at d0 d1
      have HQ := hid (And.intro hr0 hq)
      clear hr0 hq
      go_wp2_with fail
      obtain ⟨hr0, hq⟩ := HQ.out
      rw [List.take_length] at hq
      rw [HSH.out]
      have e1' := own_ne hq.fr.1 hq.br (by decide)
      exact bodyPost_ret (v := .agg #[.slice A1 (quantS (t - 1) (24 - sh) xs).1.length cc1, .int .i64 (sh : Int)]) (by simp [results, Try.results17, go_sem, d0, d1]) rfl ⟨A1, cc1, rfl, own_setCell (own_setCell hq.fr.1 e1' _) e1' _, (hq.fr.2.1.setCell hq.hr _).setCell hq.hr _, hq.fr.2.2⟩
end Go.Proofs.Ytfbccmogiafgfaa
