/- Layer 12: Quant: coefficients make a predictor. -/
import Derived.Test.YtfbccmogiafgfaaCoefS
namespace Go.Proofs.Ytfbccmogiafgfaa
open Go.RowKit

/-- One coefficient more: what has been made, and what is left over. -/
def qStep (top : Int) (n : Nat) (st : List Int × Int) (x : Int) : List Int × Int :=
  (st.1 ++ [clampI (rnd (nearI x + st.2) n) (-top) top], nearI (nearI x + st.2 - clampI (rnd (nearI x + st.2) n) (-top) top * 2 ^ n))
def quantS (top : Int) (n : Nat) (xs : List Int) : List Int × Int := xs.foldl (qStep top n) ([], 0)
theorem quantS_snoc (top : Int) (n : Nat) (xs : List Int) (x : Int) : quantS top n (xs ++ [x]) = qStep top n (quantS top n xs) x := by simp [quantS]
theorem mul_small {q t p : Int} (h1 : -(t - 1) ≤ q) (h2 : q ≤ t - 1) (ht : t ≤ 32768) (hp : p ≤ 16777216) (hp0 : 1 ≤ p) : -549755813888 ≤ q * p ∧ q * p ≤ 549755813888 := by
  have a1 : q * p ≤ 32767 * p := Int.mul_le_mul_of_nonneg_right (by omega) (by omega)
  have a2 : -32767 * p ≤ q * p := Int.mul_le_mul_of_nonneg_right (by omega) (by omega)
  omega

theorem quantS_rest (top : Int) (n : Nat) (xs : List Int) : -1099511627776 ≤ (quantS top n xs).2 ∧ (quantS top n xs).2 ≤ 1099511627776 := by
  rcases List.eq_nil_or_concat xs with rfl | ⟨ys, y, rfl⟩
  · simp [quantS]
  · rw [List.concat_eq_append, quantS_snoc]
    exact nearI_bd _
theorem quantS_length (top : Int) (n : Nat) (xs : List Int) : (quantS top n xs).1.length = xs.length := by
  suffices h : ∀ (xs : List Int) (st : List Int × Int), (xs.foldl (qStep top n) st).1.length = st.1.length + xs.length by
    have := h xs ([], 0)
    simpa [quantS] using this
  intro xs
  induction xs with
  | nil => simp
  | cons x xs ih =>
    intro st
    rw [List.foldl_cons, ih]
    simp [qStep]; omega

/-- A predictor in the results: its coefficients lie in new memory. -/
def PredPost (w : World) (L : List Int) (sh : Nat) (x : Int) (e : Ending) (w' : World) : Prop :=
  ∃ A c, e = .returned (.tuple #[.agg #[.slice A L.length c, .int .i64 (sh : Int)], .int .i64 x]) ∧ FreshI w L (.slice A L.length c) w'

theorem quant_arg (l : Value) (n : Int) (w : World) (hn : n < 2 ∨ 16 < n) :
    Calls Try.prog 15 #[l, .int .i64 n] w (PredPost w [] 0 1) := by
  rcases hn with hn | hn
  · go_enter Try.func15, Try.ntmps15
    go_wp2_with fail
    exact bodyPost_ret (v := .tuple #[.agg #[.slice none 0 0, .int .i64 0], .int .i64 1]) (by simp [results, Try.results15, go_sem]) rfl ⟨none, 0, rfl, World.ownsRow_nil _ _ _ _, (Below.refl _ _).alloc (Nat.le_refl _) _, by simp [Value.ownBlock]⟩
  · have h0 : ¬ n < 2 := by omega
    go_enter Try.func15, Try.ntmps15
    go_wp2_with fail
    exact bodyPost_ret (v := .tuple #[.agg #[.slice none 0 0, .int .i64 0], .int .i64 1]) (by simp [results, Try.results15, go_sem]) rfl ⟨none, 0, rfl, World.ownsRow_nil _ _ _ _, (Below.refl _ _).alloc (Nat.le_refl _) _, by simp [Value.ownBlock]⟩

theorem quant_long (A : Option Addr) (m c : Nat) (n : Int) (w : World) (h2 : 2 ≤ n) (hn : n ≤ 16) (hm : 32 < m) :
    Calls Try.prog 15 #[.slice A m c, .int .i64 n] w (PredPost w [] 0 4) := by
  have h0 : ¬ n < 2 := by omega
  have h1 : ¬ 16 < n := by omega
  have hm' : (32 : Int) < m := by omega
  go_enter Try.func15, Try.ntmps15
  go_wp2_with fail
  exact bodyPost_ret (v := .tuple #[.agg #[.slice none 0 0, .int .i64 0], .int .i64 4]) (by simp [results, Try.results15, go_sem]) rfl ⟨none, 0, rfl, World.ownsRow_nil _ _ _ _, (Below.refl _ _).alloc (Nat.le_refl _) _, by simp [Value.ownBlock]⟩

/-- The state of Quant's loop: the predictor's block p, the result's block r. -/
structure QSt (w : World) (p r sh : Nat) (L : List Int) (v : Value) (wr : World) : Prop where
  fr : FreshI w L v wr
  bp : Blk wr p 25 #[v, .int .i64 (sh : Int)]
  br : Blk wr r 25 #[.slice none 0 0, .int .i64 0]
  hp : w.heap.size ≤ p
  hr : w.heap.size ≤ r
  ne : r ≠ p

theorem QSt.grow {w : World} {p r sh : Nat} {L : List Int} {v : Value} {wr w2 : World} {q : Int} {g cap : Nat} (h : QSt w p r sh L v wr)
    (hown : w2.ownsRow 0 3 1 (.slice (some ⟨g, 0, none⟩) (L.length + 1) cap) (L.length + 1) (i64s L ++ [.int .i64 q])) (hg : (wr.alloc (.cells #[.int .i64 q] 3)).grownBy w2 v.ownBlock) (hm : v.ownBlock = some g ∨ g = wr.heap.size + 1) :
    Blk w2 p 25 #[v, .int .i64 (sh : Int)] ∧ QSt w p r sh (L ++ [q]) (.slice (some ⟨g, 0, none⟩) (L.length + 1) cap) (w2.setCell ⟨p, 0, none⟩ (.slice (some ⟨g, 0, none⟩) (L.length + 1) cap)) := by
  have hf := h.fr.app1 hown hg hm
  have b1 := Blk.grown (h.bp.alloc _) hg (own_ne h.fr.1 h.bp (by decide))
  have b2 := Blk.grown (h.br.alloc _) hg (own_ne h.fr.1 h.br (by decide))
  have hne := own_ne hf.1 b1 (by decide)
  exact ⟨b1, ⟨own_setCell hf.1 hne _, hf.2.1.setCell h.hp _, hf.2.2⟩, by simpa using b1.upd 0 (.slice (some ⟨g, 0, none⟩) (L.length + 1) cap), b2.far h.ne _, h.hp, h.hr, h.ne⟩

set_option maxRecDepth 100000 in
set_option maxHeartbeats 1600000 in
theorem quant_ok (l : Value) (xs : List Int) (n : Nat) (w : World) (hl : Sl w l (i64s xs)) (h2 : 2 ≤ n) (hn : n ≤ 16) (hm : xs.length ≤ 32) :
    Calls Try.prog 15 #[l, .int .i64 (n : Int)] w (PredPost w (quantS (2 ^ (n - 1) - 1) (24 - shiftN xs (2 ^ (n - 1) - 1)) xs).1 (shiftN xs (2 ^ (n - 1) - 1)) 0) := by
  obtain ⟨A, c, e, _⟩ := hl.form
  rw [i64s_length] at e
  subst e
  have h0 : ¬ (n : Int) < 2 := by omega
  have h1 : ¬ (16 : Int) < n := by omega
  have hm' : ¬ (32 : Int) < xs.length := by omega
  have hm2 : (xs.length : Int) ≤ 32 := by omega
  have H := hid hl
  clear hl
  obtain ⟨t, ht⟩ : ∃ t : Int, 2 ^ (n - 1) = t := ⟨_, rfl⟩
  have ht2 : t ≤ 32768 := by rw [← ht]; exact pow_le_int (n := 15) (by omega)
  have ht1 : 2 ≤ t := by rw [← ht]; exact pow_le_int (k := 1) (by omega)
  rw [ht]
  have hsh : ((n : Int) - 1) = ((n - 1 : Nat) : Int) := by omega
  have HT := hid ht
  obtain ⟨m, rfl⟩ : ∃ m, n = m + 1 := ⟨n - 1, by omega⟩
  clear hsh
  simp only [Nat.add_sub_cancel] at ht
  go_enter Try.func15, Try.ntmps15
  go_wp2_with fail
  have HC := shiftOf_any (.slice A xs.length c) xs (t - 1) (w.alloc (.cells #[.slice none 0 0, .int .i64 0] 25)) (H.out.below ((Below.refl _ _).alloc (Nat.le_refl _) _))
  obtain ⟨sh, hsh⟩ : ∃ sh, shiftN xs (t - 1) = sh := ⟨_, rfl⟩
  have hsh15 : sh ≤ 15 := by rw [← hsh]; exact downTo_le _ 15
  rw [hsh] at HC
  have HSH := hid hsh
  clear hsh
  with_reducible refine HC.mono ?_
  clear HC
  rintro e w1 ⟨rfl, hb1⟩
  have hz : w.heap.size < w1.heap.size := by have := hb1.size; simp at this; omega
  have HR : Blk w1 w.heap.size 25 #[.slice none 0 0, .int .i64 0] := (hb1.block _ (by simp)).trans (Blk.new w _ _)
  have hb2 : Below w.heap.size w w1 := ((Below.refl _ w).alloc (Nat.le_refl _) _).trans (hb1.mono (by simp))
  have H1 := hid (And.intro hb2 HR)
  clear hb1 hb2 HR
  have hby : IntKind.i64.wrap (24 - (sh : Int)) = 24 - (sh : Int) := IntWalk.i64_in _ (by omega)
  have c1 : (w1.alloc (.cells #[.slice none 0 0, .int .i64 (sh : Int)] 25)).cell? ⟨w1.heap.size, 1, none⟩ = some (.int .i64 (sh : Int)) := by simp
  go_wp2_with fail
  have hp24 : (2 : Int) ^ (24 - sh) ≤ 16777216 := pow_le_int (n := 24) (by omega)
  have hp0 : (1 : Int) ≤ 2 ^ (24 - sh) := pow_le_int (k := 0) (by omega)
  go_loopw [9, 39] (fun r i wr => ∃ (k : Nat) (r0 : Int) (v : Value), k ≤ xs.length ∧ i = .int .i64 k ∧ r = .int .i64 r0 ∧ r0 = (quantS (t - 1) (24 - sh) (xs.take k)).2 ∧ QSt w w1.heap.size w.heap.size sh (quantS (t - 1) (24 - sh) (xs.take k)).1 v wr) (fun _ i _ => xs.length - (intOf i).toNat)
  case atStart =>
    have hb := H1.out.1.alloc H1.out.1.size (.cells #[.slice none 0 0, .int .i64 (sh : Int)] 25)
    exact ⟨0, 0, .slice none 0 0, by omega, rfl, rfl, by simp [quantS], ⟨⟨World.ownsRow_nil _ _ _ _, hb, by simp [Value.ownBlock]⟩, Blk.new _ _ _, H1.out.2.alloc _, by omega, by omega, by omega⟩⟩
  case round =>
    obtain ⟨k, r0, v, hk, rfl, rfl, hr0, hq⟩ := hrel
    have hrb := quantS_rest (t - 1) (24 - sh) (xs.take k)
    rw [← hr0] at hrb
    obtain ⟨hrb1, hrb2⟩ := hrb
    have c0 := hq.bp.cell 0
    have f0 := hq.bp.frozen 0
    simp at c0
    by_cases hkm : k < xs.length
    · have hin : (k : Int) < xs.length := by omega
      obtain ⟨ad, rfl, hc⟩ := (H.out.below hq.fr.2.1).at_ (show k < (i64s xs).length by rw [i64s_length]; exact hkm)
      have e : (i64s xs)[k]'(by rw [i64s_length]; exact hkm) = .int .i64 xs[k] := by simp [i64s]
      rw [e] at hc
      have HQ := hid (And.intro hr0 hq)
      obtain ⟨x, hx⟩ : ∃ x, xs[k] = x := ⟨_, rfl⟩
      rw [hx] at hc
      have HX := hid hx
      have hn := nearI_bd x
      obtain ⟨y0, hy0⟩ : ∃ y, nearI x = y := ⟨_, rfl⟩
      rw [hy0] at hn
      have HY := hid hy0
      clear hx hr0 hq e hy0
      go_wp2_with fail
      have HC := near_any x wr
      rw [HY.out] at HC
      with_reducible refine HC.mono ?_
      clear HC
      rintro e w2 ⟨rfl, rfl⟩
      go_wp2_with fail
      have HC := round_at (y0 + r0) (24 - (sh : Int)) (24 - sh) (by omega) wr (by omega) (by omega)
      rw [holdI_id (y0 + r0) (by omega) (by omega)] at HC
      with_reducible refine HC.mono ?_
      clear HC
      rintro e w2 ⟨rfl, rfl⟩
      go_wp2_with fail
      have HC := clamp_any (rnd (y0 + r0) (24 - sh)) (-(t - 1)) (t - 1) wr
      have hqb := clampI_bd (rnd (y0 + r0) (24 - sh)) (-(t - 1)) (t - 1) (by omega)
      obtain ⟨q, hqe⟩ : ∃ q, clampI (rnd (y0 + r0) (24 - sh)) (-(t - 1)) (t - 1) = q := ⟨_, rfl⟩
      rw [hqe] at HC hqb
      have HE := hid hqe
      clear hqe
      obtain ⟨hqb1, hqb2⟩ := hqb
      with_reducible refine HC.mono ?_
      clear HC
      rintro e w2 ⟨rfl, rfl⟩
      obtain ⟨L, hL⟩ : ∃ L, (quantS (t - 1) (24 - sh) (xs.take k)).1 = L := ⟨_, rfl⟩
      rw [hL] at HQ
      have HL := hid hL
      have hLl : L.length ≤ 32 := by rw [← hL, quantS_length, List.length_take]; omega
      clear hL
      go_wp2_with (at_builtin; go_must (refine wpList_app1 _ rfl (.tmp 55) (.tmp 57) 22 rfl 3 .i64 8 Try.underlying22 Try.info_int v (i64s L) L.length rfl ?d1 ⟨wr.heap.size, 0, none⟩ q rfl ?d3 (by decide) ?d4 (wr.heap.size + 1) ?d5 ?_); rotate_right; intro g cap w2 hown2 hg2 hat hlt; have hh := HQ.out.2.grow hown2 hg2 hat; have c0' := hh.1.cell 0; have f0' := hh.1.frozen 0; simp at c0'; replace hh := hid hh; clear hown2 hg2 hat)
      case d1 => exact HQ.out.2.fr.1.alloc _
      case d3 => exact World.cell?_alloc_at _ _ _ _ rfl
      case d4 => omega
      case d5 => simp
      have hqp := mul_small hqb1 hqb2 ht2 hp24 hp0
      rw [IntWalk.wrap64_in (q * 2 ^ (24 - sh)) (by omega), IntWalk.wrap64_in (y0 + r0 - q * 2 ^ (24 - sh)) (by omega)]
      have HC := near_any (y0 + r0 - q * 2 ^ (24 - sh)) (w2.setCell ⟨w1.heap.size, 0, none⟩ (.slice (some ⟨g, 0, none⟩) (L.length + 1) cap))
      have HS := hid (show quantS (t - 1) (24 - sh) (xs.take (k + 1)) = (L ++ [q], nearI (y0 + r0 - q * 2 ^ (24 - sh))) by
        rw [take_snoc xs k hkm, quantS_snoc, qStep, HL.out, HX.out, HY.out, ← HQ.out.1, HE.out])
      obtain ⟨r1, hr1⟩ : ∃ r1, nearI (y0 + r0 - q * 2 ^ (24 - sh)) = r1 := ⟨_, rfl⟩
      rw [hr1] at HC HS
      clear hr1 hqp
      with_reducible refine HC.mono ?_
      clear HC
      rintro e w3 ⟨rfl, rfl⟩
      go_wp2_with fail
      go_roundw
      case rel => exact ⟨k + 1, r1, _, by omega, by go_num, rfl, by rw [HS.out], by rw [HS.out]; exact hh.out.2⟩
      case measure => simp [intOf]; omega
    · have hin : ¬ (k : Int) < xs.length := by omega
      obtain rfl : k = xs.length := by omega
      obtain ⟨A1, cc1, rfl⟩ := hq.fr.form
      have d0 := hq.br.cell 0
      have d1 := hq.br.cell 1
      have e0 := hq.br.frozen 0
      have e1 := hq.br.frozen 1
      have c2 := hq.bp.cell 1
      simp at d0 d1 c2
      have HQ := hid (And.intro hr0 hq)
      clear hr0 hq
      go_wp2_with fail
      obtain ⟨hr0, hq⟩ := HQ.out
      rw [List.take_length] at hq
      rw [HSH.out]
      have e1' := own_ne hq.fr.1 hq.br (by decide)
      exact bodyPost_ret (v := .tuple #[.agg #[.slice A1 (quantS (t - 1) (24 - sh) xs).1.length cc1, .int .i64 (sh : Int)], .int .i64 0]) (by simp [results, Try.results15, go_sem, d0, d1]) rfl ⟨A1, cc1, rfl, own_setCell (own_setCell hq.fr.1 e1' _) e1' _, (hq.fr.2.1.setCell hq.hr _).setCell hq.hr _, hq.fr.2.2⟩
end Go.Proofs.Ytfbccmogiafgfaa
