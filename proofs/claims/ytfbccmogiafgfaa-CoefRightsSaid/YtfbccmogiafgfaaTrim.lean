/- Layer 12: Trim and Same, the program's way and the reference's; slices.Clone and Equal of ints. -/
import Derived.Test.YtfbccmogiafgfaaSame12
namespace Go.Proofs.Ytfbccmogiafgfaa
open Go.RowKit

set_option maxRecDepth 100000 in
theorem equal_any (a b : Value) (xs ys : List Int) (w : World) (ha : Sl w a (i64s xs)) (hb : Sl w b (i64s ys)) :
    Calls Try.prog 67 #[a, b] w (DrawnI w (.bool (decide (xs = ys)))) := by
  obtain ⟨A, c, rfl, hm⟩ := i64s_form ha
  obtain ⟨B, d, rfl, hm2⟩ := i64s_form hb
  have H := hid (And.intro ha hb)
  clear ha hb
  by_cases hl : xs.length = ys.length
  · have hlb : ((xs.length : Int) != (ys.length : Int)) = false := by rw [hl]; simp
    have HL := hid hl
    clear hl
    go_enter Try.func67, Try.ntmps67
    go_wp2_with fail
    go_loopw [5, 13] (fun _ i wr => ∃ (k n : Nat), k ≤ xs.length ∧ i = .int .i64 k ∧ wr = w.drewN n ∧ Hid (xs.take k = ys.take k)) (fun _ i _ => xs.length - (intOf i).toNat)
    case atStart => exact ⟨0, 0, by omega, rfl, rfl, by simp [Hid]⟩
    case round =>
      obtain ⟨k, n, hk, rfl, rfl, ht⟩ := hrel
      by_cases hkm : k < xs.length
      · have hin : (k : Int) < xs.length := by omega
        have hkn : k < ys.length := by rw [← HL.out]; exact hkm
        have hin2 : (k : Int) < ys.length := by omega
        obtain ⟨ad, rfl, hc⟩ := i64s_at H.out.1 hkm
        obtain ⟨bd, rfl, hc2⟩ := i64s_at H.out.2 hkn
        obtain ⟨x, hx⟩ : ∃ x, xs[k] = x := ⟨_, rfl⟩
        obtain ⟨y, hy⟩ : ∃ y, ys[k] = y := ⟨_, rfl⟩
        rw [hx] at hc
        rw [hy] at hc2
        have HXY := hid (And.intro hx hy)
        clear hx hy
        by_cases he : x = y
        · subst he
          have hne : (x != x) = false := by simp
          go_wp2_with fail
          go_quiet (fail)
          go_wp2_with fail
          go_roundw
          case rel => exact ⟨k + 1, _, by omega, by go_num, rfl, by show _ = _; rw [take_snocI xs k hkm, take_snocI ys k hkn, ht.out, HXY.out.1, HXY.out.2]⟩
          case measure => simp [intOf]; omega
        · have hne : (x != y) = true := by simpa using he
          have HE := hid he
          clear he
          go_wp2_with fail
          go_quiet (fail)
          go_wp2_with fail
          go_ret
          refine ⟨?_, _, World.drewN_drewN _ _ _⟩
          have e : decide (xs = ys) = false := by
            simp only [decide_eq_false_iff_not]
            intro e
            subst e
            exact HE.out (HXY.out.1.symm.trans HXY.out.2)
          rw [e]
          rfl
      · have hin : ¬ (k : Int) < xs.length := by omega
        obtain rfl : k = xs.length := by omega
        go_wp2_with fail
        go_ret
        refine ⟨?_, _, rfl⟩
        have h := ht.out
        rw [List.take_length, HL.out, List.take_length] at h
        rw [h]
        simp
  · have hlb : ((xs.length : Int) != (ys.length : Int)) = true := by simp; omega
    have e : decide (xs = ys) = false := by
      simp only [decide_eq_false_iff_not]
      intro e
      exact hl (by rw [e])
    rw [e]
    clear e hl
    go_enter Try.func67, Try.ntmps67
    go_wp2_with fail
    go_ret
    exact ⟨rfl, 0, rfl⟩

set_option maxRecDepth 100000 in
theorem clonei_nil (w : World) : Calls Try.prog 66 #[.slice none 0 0] w fun e w' => e = .returned (.slice none 0 0) ∧ w = w' := by
  have qn := fun w a n c n' c' => Lib.run_eql_slice_nil (P := Try.prog) w 22 3 a n c n' c' Try.underlying22
  go_enter Try.func66, Try.ntmps66
  go_wp2_with fail
  go_ret
  exact ⟨rfl, rfl⟩

set_option maxRecDepth 100000 in
theorem clonei_any (w : World) (v : Value) (F : List Int) (h : Sl w v (i64s F)) (hF : F.length ≤ 1073741824) : Calls Try.prog 66 #[v] w (FreshIS w F) := by
  rcases h with ⟨rfl, hx⟩ | ⟨ad, c, rfl, hx⟩
  · refine (clonei_nil w).mono ?_
    rintro e w' ⟨rfl, rfl⟩
    have e : F = [] := by simpa [i64s] using hx
    subst e
    exact ⟨none, 0, rfl, World.ownsRow_nil _ _ _ _, .refl _ _, by simp [Value.ownBlock]⟩
  · have hS : Sl w (.slice (some ad) (i64s F).length c) (i64s F) := .inr ⟨ad, c, rfl, hx⟩
    rw [i64s_length] at hS ⊢
    have HS := hid hS
    clear hS hx
    have qn := fun w a n c n' c' => Lib.run_eql_slice_nil (P := Try.prog) w 22 3 a n c n' c' Try.underlying22
    go_enter Try.func66, Try.ntmps66
    go_wp2_with (at_builtin; go_must (refine wpList_app _ rfl (.tmp 5) (.tmp 6) 22 rfl 3 .i64 8 Try.underlying22 Try.info_int (.slice (some ⟨w.heap.size, 0, none⟩) 0 0) 0 [] rfl ?c1 _ (i64s F) rfl ?c2 i64s_one (by decide) ?c3 ?_); rotate_right; intro v' w1 hown hg hm; replace hown := hid hown; replace hg := hid hg; replace hm := hid hm)
    case c1 => exact (FreshI.empty w).1
    case c2 => exact HS.out.alloc _
    case c3 => rw [i64s_length]; omega
    go_ret
    have hf := (FreshI.empty w).app (G := F) hown.out hg.out hm.out
    rw [List.nil_append] at hf
    obtain ⟨A, c', rfl⟩ := hf.form
    exact ⟨A, c', rfl, hf⟩

/-- How many are left without noughts at the end, of the first n. -/
def cutN (xs : List Int) : Nat → Nat
  | 0 => 0
  | n + 1 => if xs[n]? = some 0 then cutN xs n else n + 1
theorem cutN_le (xs : List Int) (n : Nat) : cutN xs n ≤ n := by
  induction n with
  | zero => simp [cutN]
  | succ n ih => simp only [cutN]; split <;> omega

theorem Sl.take {w : World} {A : Option Addr} {m c : Nat} {xs : List Value} (h : Sl w (.slice A m c) xs) (n : Nat) (hn : n ≤ xs.length) : Sl w (.slice A n c) (xs.take n) := by
  have hl : (xs.take n).length = n := by rw [List.length_take]; omega
  rcases h with ⟨e, rfl⟩ | ⟨ad, c', e, hc, hm, hcell⟩
  · injection e with e1 e2 e3
    subst e1 e2 e3
    simp at hn
    subst hn
    exact .inl ⟨rfl, by simp⟩
  · injection e with e1 e2 e3
    subst e1 e2 e3
    refine .inr ⟨ad, c, by rw [hl], by omega, hm, fun j u hu => hcell j u ?_⟩
    have hj := (List.getElem?_eq_some_iff.1 hu).1
    rw [List.getElem?_take] at hu
    split at hu
    · exact hu
    · cases hu
theorem i64s_take (xs : List Int) (n : Nat) : i64s (xs.take n) = (i64s xs).take n := by simp [i64s]

/-- A predictor is handed back; nothing old has turned. -/
def PredS (w : World) (L : List Int) (s : Int) (e : Ending) (w' : World) : Prop := ∃ v, e = .returned (.agg #[v, .int .i64 s]) ∧ Sl w' v (i64s L) ∧ Below w.heap.size w w'

set_option maxRecDepth 100000 in
set_option maxHeartbeats 800000 in
theorem trim_any (l : Value) (xs : List Int) (s : Int) (w : World) (hl : Sl w l (i64s xs)) (hm : xs.length ≤ 1000) :
    Calls Try.prog 28 #[.agg #[l, .int .i64 s]] w (PredS w (xs.take (cutN xs xs.length)) s) := by
  obtain ⟨A, c, e, hc⟩ := hl.form
  rw [i64s_length] at e hc
  subst e
  have H := hid hl
  clear hl
  go_enter Try.func28, Try.ntmps28
  go_wp2_with fail
  have hb := ((Below.refl _ w).alloc (Nat.le_refl _) (.cells #[.slice A xs.length c, .int .i64 s] 25)).alloc (by simp) (.cells #[.slice none 0 0, .int .i64 0] 25)
  have hB1 := (Blk.new w 25 #[.slice A xs.length c, .int .i64 s]).alloc (.cells #[.slice none 0 0, .int .i64 0] 25)
  have hB2 := Blk.new (w.alloc (.cells #[.slice A xs.length c, .int .i64 s] 25)) 25 #[.slice none 0 0, .int .i64 0]
  rw [show (w.alloc (.cells #[.slice A xs.length c, .int .i64 s] 25)).heap.size = w.heap.size + 1 by simp] at hB2
  obtain ⟨W2, hW2⟩ : ∃ W2, (w.alloc (.cells #[.slice A xs.length c, .int .i64 s] 25)).alloc (.cells #[.slice none 0 0, .int .i64 0] 25) = W2 := ⟨_, rfl⟩
  rw [hW2] at hb hB1 hB2 ⊢
  have p0 := hB1.cell 0
  have p1 := hB1.cell 1
  have g0 := hB1.frozen 0
  simp at p0 p1
  have HB := hid (And.intro hb (And.intro (H.out.below hb) (And.intro hB1 hB2)))
  clear hb hB1 hB2 hW2
  go_loop [3] (fun i => ∃ k : Nat, k ≤ xs.length ∧ i = .int .i64 k ∧ Hid (cutN xs xs.length = cutN xs k)) (fun i => (intOf i).toNat)
  case atStart => exact ⟨xs.length, by omega, rfl, rfl⟩
  case round =>
    obtain ⟨k, hk, rfl, hd⟩ := hrel
    have hstop : cutN xs xs.length = k → True := fun _ => trivial
    by_cases hgo : 0 < k ∧ xs[k - 1]? = some 0
    · obtain ⟨hk0, hx⟩ := hgo
      obtain ⟨j, rfl⟩ : ∃ j, k = j + 1 := ⟨k - 1, by omega⟩
      have hk1 : (0 : Int) < ((j + 1 : Nat) : Int) := by omega
      obtain ⟨ad, rfl, hcell⟩ := i64s_at HB.out.2.1 (show j < xs.length by omega)
      rw [Nat.add_sub_cancel, List.getElem?_eq_getElem (show j < xs.length by omega)] at hx
      injection hx with hx
      rw [hx] at hcell
      have hinj : (j : Int) < xs.length := by omega
      have HF := hid (show cutN xs xs.length = cutN xs j by rw [hd.out, cutN, if_pos (by rw [List.getElem?_eq_getElem (show j < xs.length by omega), hx])])
      clear hx hstop
      go_wp2_with fail
      go_round
      case rel => exact ⟨j, by omega, by first | rfl | go_num, HF⟩
      case measure => simp [intOf]
    · have hcut : cutN xs xs.length = k := by
        rw [hd.out]
        rcases k with _ | j
        · rfl
        · rw [cutN, if_neg]
          intro h
          exact hgo ⟨by omega, h⟩
      have HC := hid hcut
      have hkm : k ≤ c := by omega
      clear hd hstop
      have HK := hid (clonei_any W2 (.slice A k c) (xs.take k) (by rw [i64s_take]; exact HB.out.2.1.take k (by rw [i64s_length]; exact hk)) (by rw [List.length_take]; omega))
      by_cases hk0 : k = 0
      · subst hk0
        clear hgo hcut
        go_wp2_with fail
        with_reducible refine HK.out.mono ?_
        rintro e W3 ⟨A3, c3, rfl, hf⟩
        have hB3 : Blk W3 w.heap.size 25 #[.slice A xs.length c, .int .i64 s] := (hf.2.1.block _ HB.out.2.2.1.lt).trans HB.out.2.2.1
        have hB4 : Blk W3 (w.heap.size + 1) 25 #[.slice none 0 0, .int .i64 0] := (hf.2.1.block _ HB.out.2.2.2.lt).trans HB.out.2.2.2
        have n3 := own_ne hf.1 hB3 (by decide)
        have n4 := own_ne hf.1 hB4 (by decide)
        have hbel : Below w.heap.size w W3 := HB.out.1.trans (hf.2.1.mono HB.out.1.size)
        have hls : (xs.take 0).length = 0 := by rw [List.length_take]; omega
        rw [hls] at hf n3 n4 ⊢
        have q0 := hB3.cell 0
        have q1 := hB3.cell 1
        have r0 := hB4.cell 0
        have r1 := hB4.cell 1
        have f0 := hB3.frozen 0
        have e0 := hB4.frozen 0
        have e1 := hB4.frozen 1
        simp at q0 q1 r0 r1
        have HF := hid (And.intro hf (And.intro hbel (And.intro n3 n4)))
        clear hf hbel n3 n4 hls hB3 hB4 p0 p1 g0
        go_wp2_with fail
        obtain ⟨hf, hbel, n3, n4⟩ := HF.out
        exact bodyPost_ret (v := .agg #[.slice A3 0 c3, .int .i64 s]) (by simp [results, Try.results28, go_sem, r0, r1]) rfl ⟨.slice A3 0 c3, rfl, by rw [HC.out]; exact ((hf.sl.setCell n3 _).setCell n4 _).setCell n4 _, ((hbel.setCell (by simp) _).setCell (by simp) _).setCell (by simp) _⟩
      · obtain ⟨j, rfl⟩ : ∃ j, k = j + 1 := ⟨k - 1, by omega⟩
        have hk1 : (0 : Int) < ((j + 1 : Nat) : Int) := by omega
        obtain ⟨ad, rfl, hcell⟩ := i64s_at HB.out.2.1 (show j < xs.length by omega)
        have hx : ¬ xs[j] = 0 := fun h => hgo ⟨by omega, by rw [Nat.add_sub_cancel, List.getElem?_eq_getElem (show j < xs.length by omega), h]⟩
        generalize xs[j] = x at *
        have hinj : (j : Int) < xs.length := by omega
        have hx0 : (x == 0) = false := by simpa using hx
        clear hgo hcut hx
        go_wp2_with fail
        with_reducible refine HK.out.mono ?_
        rintro e W3 ⟨A3, c3, rfl, hf⟩
        have hB3 : Blk W3 w.heap.size 25 #[.slice (some ad) xs.length c, .int .i64 s] := (hf.2.1.block _ HB.out.2.2.1.lt).trans HB.out.2.2.1
        have hB4 : Blk W3 (w.heap.size + 1) 25 #[.slice none 0 0, .int .i64 0] := (hf.2.1.block _ HB.out.2.2.2.lt).trans HB.out.2.2.2
        have n3 := own_ne hf.1 hB3 (by decide)
        have n4 := own_ne hf.1 hB4 (by decide)
        have hbel : Below w.heap.size w W3 := HB.out.1.trans (hf.2.1.mono HB.out.1.size)
        have hls : (xs.take (j + 1)).length = (j + 1) := by rw [List.length_take]; omega
        rw [hls] at hf n3 n4 ⊢
        have q0 := hB3.cell 0
        have q1 := hB3.cell 1
        have r0 := hB4.cell 0
        have r1 := hB4.cell 1
        have f0 := hB3.frozen 0
        have e0 := hB4.frozen 0
        have e1 := hB4.frozen 1
        simp at q0 q1 r0 r1
        have HF := hid (And.intro hf (And.intro hbel (And.intro n3 n4)))
        clear hf hbel n3 n4 hls hB3 hB4 p0 p1 g0
        go_wp2_with fail
        obtain ⟨hf, hbel, n3, n4⟩ := HF.out
        exact bodyPost_ret (v := .agg #[.slice A3 (j + 1) c3, .int .i64 s]) (by simp [results, Try.results28, go_sem, r0, r1]) rfl ⟨.slice A3 (j + 1) c3, rfl, by rw [HC.out]; exact ((hf.sl.setCell n3 _).setCell n4 _).setCell n4 _, ((hbel.setCell (by simp) _).setCell (by simp) _).setCell (by simp) _⟩

set_option maxRecDepth 100000 in
set_option maxHeartbeats 800000 in
theorem reftrim_any (l : Value) (xs : List Int) (s : Int) (w : World) (hl : Sl w l (i64s xs)) (hm : xs.length ≤ 1000) :
    Calls Try.prog 29 #[.agg #[l, .int .i64 s]] w (PredS w (xs.take (cutN xs xs.length)) s) := by
  obtain ⟨A, c, e, hc⟩ := hl.form
  rw [i64s_length] at e hc
  subst e
  have H := hid hl
  clear hl
  go_enter Try.func29, Try.ntmps29
  go_wp2_with fail
  have hb := ((Below.refl _ w).alloc (Nat.le_refl _) (.cells #[.slice A xs.length c, .int .i64 s] 25)).alloc (by simp) (.cells #[.slice none 0 0, .int .i64 0] 25)
  have hB1 := (Blk.new w 25 #[.slice A xs.length c, .int .i64 s]).alloc (.cells #[.slice none 0 0, .int .i64 0] 25)
  have hB2 := Blk.new (w.alloc (.cells #[.slice A xs.length c, .int .i64 s] 25)) 25 #[.slice none 0 0, .int .i64 0]
  rw [show (w.alloc (.cells #[.slice A xs.length c, .int .i64 s] 25)).heap.size = w.heap.size + 1 by simp] at hB2
  obtain ⟨W2, hW2⟩ : ∃ W2, (w.alloc (.cells #[.slice A xs.length c, .int .i64 s] 25)).alloc (.cells #[.slice none 0 0, .int .i64 0] 25) = W2 := ⟨_, rfl⟩
  rw [hW2] at hb hB1 hB2 ⊢
  have p0 := hB1.cell 0
  have p1 := hB1.cell 1
  simp at p0 p1
  have HB := hid (And.intro hb (And.intro (H.out.below hb) (And.intro hB1 hB2)))
  clear hb hB1 hB2 hW2
  go_loop [3, 4] (fun n i => ∃ k t : Nat, k ≤ xs.length ∧ i = .int .i64 k ∧ n = .int .i64 t ∧ t ≤ k ∧ Hid (cutN xs k = t)) (fun _ i => xs.length - (intOf i).toNat)
  case atStart => exact ⟨0, 0, by omega, rfl, rfl, by omega, rfl⟩
  case round =>
    obtain ⟨k, t, hk, rfl, rfl, htk, hd⟩ := hrel
    by_cases hkm : k < xs.length
    · have hin : (k : Int) < xs.length := by omega
      obtain ⟨ad, rfl, hcell⟩ := i64s_at HB.out.2.1 hkm
      obtain ⟨x, hx⟩ : ∃ x, xs[k] = x := ⟨_, rfl⟩
      rw [hx] at hcell
      have HX := hid hx
      clear hx
      by_cases h0 : x = 0
      · subst h0
        go_wp2_with fail
        go_round
        case rel => exact ⟨k + 1, t, by omega, by go_num, rfl, by omega, by show _ = _; rw [cutN, if_pos (by rw [List.getElem?_eq_getElem hkm, HX.out])]; exact hd.out⟩
        case measure => simp [intOf]; omega
      · have hx0 : (x != 0) = true := by simpa using h0
        have H0 := hid h0
        clear h0
        go_wp2_with fail
        go_round
        case rel => exact ⟨k + 1, k + 1, by omega, by go_num, by go_num, by omega, by show _ = _; rw [cutN, if_neg (by rw [List.getElem?_eq_getElem hkm, HX.out]; intro h; injection h with h; exact H0.out h)]⟩
        case measure => simp [intOf]; omega
    · have hin : ¬ (k : Int) < xs.length := by omega
      obtain rfl : k = xs.length := by omega
      have htc : t ≤ c := by omega
      have htc' : (t : Int) ≤ c := by omega
      have r0 := HB.out.2.2.2.cell 0
      have r1 := HB.out.2.2.2.cell 1
      have e0 := HB.out.2.2.2.frozen 0
      have e1 := HB.out.2.2.2.frozen 1
      simp at r0 r1
      go_wp2_with fail
      go_region
      go_wp2_with fail
      have hb2 : Below w.heap.size w ((W2.setCell ⟨w.heap.size + 1, 0, none⟩ (.slice A t c)).setCell ⟨w.heap.size + 1, 1, none⟩ (.int .i64 s)).drew := ((HB.out.1.setCell (by simp) _).setCell (by simp) _).drew
      have hs := H.out.take t (by rw [i64s_length]; exact htk)
      rw [← i64s_take] at hs
      exact bodyPost_ret (v := .agg #[.slice A t c, .int .i64 s]) (by simp [results, Try.results29, go_sem, r0, r1]) rfl ⟨.slice A t c, rfl, by rw [hd.out]; exact hs.below hb2, hb2⟩

set_option maxRecDepth 100000 in
theorem same_any (a b : Value) (xs ys : List Int) (s t : Int) (w : World) (ha : Sl w a (i64s xs)) (hb : Sl w b (i64s ys)) :
    Calls Try.prog 30 #[.agg #[a, .int .i64 s], .agg #[b, .int .i64 t]] w fun e w' => e = .returned (.bool (decide (s = t ∧ xs = ys))) ∧ Below w.heap.size w w' := by
  obtain ⟨A, c, rfl, hm⟩ := i64s_form ha
  obtain ⟨B, d, rfl, hm2⟩ := i64s_form hb
  have hbel := ((Below.refl _ w).alloc (Nat.le_refl _) (.cells #[.slice A xs.length c, .int .i64 s] 25)).alloc (by simp) (.cells #[.slice B ys.length d, .int .i64 t] 25)
  by_cases hst : s = t
  · subst hst
    have e : decide (s = s ∧ xs = ys) = decide (xs = ys) := by simp
    rw [e]
    clear e
    have H := hid (And.intro hbel (And.intro (ha.below hbel) (hb.below hbel)))
    have hss : (s == s) = true := by simp
    clear ha hb hbel
    go_enter Try.func30, Try.ntmps30
    go_wp2_with fail
    have HC := equal_any _ _ xs ys _ H.out.2.1 H.out.2.2
    with_reducible refine HC.mono ?_
    clear HC
    rintro e w1 ⟨rfl, n, rfl⟩
    go_wp2_with fail
    go_ret
    exact ⟨rfl, below_drewN' H.out.1 n⟩
  · have e : decide (s = t ∧ xs = ys) = false := by rw [decide_eq_false_iff_not]; intro h; exact hst h.1
    rw [e]
    clear e
    have hss : (s == t) = false := by simpa using hst
    have H := hid hbel
    clear ha hb hbel hst
    go_enter Try.func30, Try.ntmps30
    go_wp2_with fail
    go_ret
    exact ⟨rfl, H.out⟩


end Go.Proofs.Ytfbccmogiafgfaa
