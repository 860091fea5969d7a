/- The reference of layer 12: Width, Code. -/
import Derived.Test.YtfbccmogiafgfaaCoefP
import Derived.Test.YtfbccmogiafgfaaRef02
namespace Go.Proofs.Ytfbccmogiafgfaa
open Go.RowKit

set_option maxRecDepth 100000 in
set_option maxHeartbeats 1600000 in
theorem refw12_any (l : Value) (xs : List Int) (s : Int) (w : World) (hl : Sl w l (i64s xs)) (hx : In64 xs) :
    Calls Try.prog 72 #[.agg #[l, .int .i64 s]] w fun e w' => e = .returned (.int .i64 (widN xs : Nat)) ∧ Below w.heap.size w w' := by
  obtain ⟨A, c, rfl, _⟩ := i64s_form hl
  have hb := (Below.refl _ w).alloc (Nat.le_refl _) (.cells #[.slice A xs.length c, .int .i64 s] 25)
  have p0 := (Blk.new w 25 #[.slice A xs.length c, .int .i64 s]).cell 0
  have H := hid (And.intro (hl.below hb) (And.intro hx hb))
  clear hl hx hb
  go_enter Try.func72, Try.ntmps72
  go_wp2_with fail
  obtain ⟨W2, hW2⟩ : ∃ W2, w.alloc (.cells #[.slice A xs.length c, .int .i64 s] 25) = W2 := ⟨_, rfl⟩
  rw [hW2] at p0 H ⊢
  simp at p0
  clear hW2
  go_loop [3, 4] (fun m i => ∃ k t : Nat, k ≤ xs.length ∧ i = .int .i64 k ∧ m = .int .i64 t ∧ Hid (t = widN (xs.take k))) (fun _ i => xs.length - (intOf i).toNat)
  case atStart => exact ⟨0, 1, by omega, rfl, rfl, by simp [widN, Hid]⟩
  case round =>
    obtain ⟨k, t, hk, rfl, rfl, hd⟩ := hrel
    by_cases hkm : k < xs.length
    · have hin : (k : Int) < xs.length := by omega
      obtain ⟨ad, rfl, hc⟩ := i64s_at H.out.1 hkm
      have hx := H.out.2.1 xs[k] (List.getElem_mem _)
      obtain ⟨x, hxe⟩ : ∃ x, xs[k] = x := ⟨_, rfl⟩
      rw [hxe] at hc hx
      have HX := hid hxe
      clear hxe
      go_wp2_with fail
      have HC := refneed_any x W2 hx.1 hx.2
      obtain ⟨m, hm⟩ : ∃ m, needN x = m := ⟨_, rfl⟩
      rw [hm] at HC
      have HM := hid hm
      clear hm
      have HCC := hid HC
      with_reducible refine HC.mono ?_
      clear HC
      rintro e w1 ⟨rfl, rfl⟩
      by_cases hgt : t < m
      · have hgt' : (t : Int) < m := by omega
        go_wp2_with fail
        with_reducible refine HCC.out.mono ?_
        rintro e w1 ⟨rfl, rfl⟩
        go_wp2_with fail
        go_round
        case rel => exact ⟨k + 1, m, by omega, by go_num, rfl, by show _ = _; rw [take_snocI xs k hkm, widN_snoc, ← hd.out, HX.out, HM.out]; omega⟩
        case measure => simp [intOf]; omega
      · have hgt' : ¬ (t : Int) < m := by omega
        go_wp2_with fail
        go_round
        case rel => exact ⟨k + 1, t, by omega, by go_num, rfl, by show _ = _; rw [take_snocI xs k hkm, widN_snoc, ← hd.out, HX.out, HM.out]; omega⟩
        case measure => simp [intOf]; omega
    · have hin : ¬ (k : Int) < xs.length := by omega
      obtain rfl : k = xs.length := by omega
      go_wp2_with fail
      go_ret
      have h := hd.out
      rw [List.take_length] at h
      exact ⟨by rw [← h]; rfl, H.out.2.2⟩

/-- What code the reference makes: bits in new memory. -/
def BitsPost (w : World) (B : List Bool) (e : Ending) (w' : World) : Prop := ∃ A c, e = .returned (.slice A B.length c) ∧ FreshI w (bis B) (.slice A B.length c) w'

theorem FreshI.bits_app {w w1 w2 : World} {B C : List Bool} {v v' : Value} (h : FreshI w (bis B) v w1) (hown : w2.ownsRow 0 3 1 v' (B.length + (i64s (bis C)).length) (i64s (bis B) ++ i64s (bis C))) (hg : w1.grownBy w2 v.ownBlock) (hm : Moved w1 v v') : FreshI w (bis (B ++ C)) v' w2 := by
  rw [bis_app]
  exact h.app (by rw [bis_length]; exact hown) hg hm

theorem csign (c : Int) (n : Nat) (hn : n ≤ 32) (h1 : -(2 ^ (n - 1)) ≤ c) (h2 : c < 2 ^ (n - 1)) (hn1 : 1 ≤ n) : (if c < 0 then c + 2 ^ n else c) = ((c % 2 ^ n).toNat : Int) := by
  have e : (2 : Int) ^ n = 2 * 2 ^ (n - 1) := by rw [← pow_succ_int, show n - 1 + 1 = n by omega]
  have hp := pow_pos_int (n - 1)
  rw [e]
  generalize (2 : Int) ^ (n - 1) = p at *
  split
  · rw [show c = (c + 2 * p) + (-1) * (2 * p) by omega, Int.add_mul_emod_self_right, Int.emod_eq_of_lt (by omega) (by omega)]
    omega
  · rw [Int.emod_eq_of_lt (by omega) (by omega)]
    omega
/-- A coefficient fits its width. -/
theorem need_fits (c : Int) (n : Nat) (h : needN c ≤ n) (hc : -9223372036854775808 ≤ c) (hc' : c ≤ 9223372036854775807) : -(2 ^ (n - 1)) ≤ c ∧ c < 2 ^ (n - 1) ∧ 1 ≤ n := by
  unfold needN at h
  have hw := wid_lt (if c < 0 then (-c - 1).toNat else c.toNat) (by split <;> omega)
  have hp : (2 : Nat) ^ wid (if c < 0 then (-c - 1).toNat else c.toNat) ≤ 2 ^ (n - 1) := Nat.pow_le_pow_right (by omega) (by omega)
  have e : ((2 ^ (n - 1) : Nat) : Int) = (2 : Int) ^ (n - 1) := Int.natCast_pow 2 (n - 1)
  rw [← e]
  generalize 2 ^ wid (if c < 0 then (-c - 1).toNat else c.toNat) = q at *
  split at hw <;> omega

/-- A predictor in its variable, since w. -/
structure PV (w : World) (l : Value) (xs : List Int) (s : Int) (wr : World) : Prop where
  bel : Below w.heap.size w wr
  bx : Blk wr w.heap.size 25 #[l, .int .i64 s]
  old : Sl w l (i64s xs)
theorem PV.sl {w wr : World} {l : Value} {xs : List Int} {s : Int} (h : PV w l xs s wr) : Sl wr l (i64s xs) := h.old.below h.bel
theorem PV.later {w wr w' : World} {l : Value} {xs : List Int} {s : Int} (h : PV w l xs s wr) (hb : Below wr.heap.size wr w') : PV w l xs s w' :=
  ⟨h.bel.trans (hb.mono h.bel.size), (hb.block _ h.bx.lt).trans h.bx, h.old⟩
theorem PV.grow {w wr w' : World} {l v : Value} {xs : List Int} {s : Int} {F : List Int} (h : PV w l xs s wr) (hf : FreshI w F v wr) (hg : wr.grownBy w' v.ownBlock) : PV w l xs s w' :=
  ⟨h.bel.grown hg h.bel.size hf.2.2, h.bx.grown hg (own_ne hf.1 h.bx (by decide)), h.old⟩
theorem PV.drew {w wr : World} {l : Value} {xs : List Int} {s : Int} (h : PV w l xs s wr) : PV w l xs s wr.drew := h.later (Below.refl _ _).drew
theorem PV.cells {w wr : World} {l : Value} {xs : List Int} {s : Int} (h : PV w l xs s wr) : wr.cell? ⟨w.heap.size, 0, none⟩ = some l ∧ wr.cell? ⟨w.heap.size, 1, none⟩ = some (.int .i64 s) := by
  have h0 := h.bx.cell 0
  have h1 := h.bx.cell 1
  simp at h0 h1
  exact ⟨h0, h1⟩
theorem PV.new {w : World} {l : Value} {xs : List Int} {s : Int} (h : Sl w l (i64s xs)) : PV w l xs s (w.alloc (.cells #[l, .int .i64 s] 25)) :=
  ⟨(Below.refl _ _).alloc (Nat.le_refl _) _, Blk.new _ _ _, h⟩
/-- Memory that grew by a fresh row. -/
theorem FreshI.bel {w w1 : World} {F : List Int} {v : Value} (h : FreshI w F v w1) : Below w.heap.size w w1 := h.2.1

/-- Bits, with their number written out. -/
def BitsS (w : World) (B : List Bool) (n : Nat) (e : Ending) (w' : World) : Prop := ∃ A c, e = .returned (.slice A n c) ∧ FreshI w (bis B) (.slice A n c) w'
theorem bits_sl (xi ni : Int) (x n : Nat) (hxi : xi = (x : Int)) (hni : ni = (n : Int)) (w : World) (hx : x < 18446744073709551616) (hn : n ≤ 1073741824) :
    Calls Try.prog 73 #[.int .u64 xi, .int .i64 ni] w (BitsS w (bitsOf x n) n) := by
  refine (bits_at xi ni x n hxi hni w hx hn).mono ?_
  rintro e w' ⟨A, c, rfl, hf⟩
  rw [bis_length, bitsOf_length] at hf ⊢
  exact ⟨A, c, rfl, hf⟩
theorem FreshI.own_of {w w1 : World} {B : List Bool} {v : Value} {n : Nat} (h : FreshI w (bis B) v w1) (hn : B.length = n) : w1.ownsRow 0 3 1 v n (i64s (bis B)) := by
  have := h.1
  rwa [bis_length, hn] at this
theorem FreshI.bits_app' {w w1 w2 : World} {B C : List Bool} {v v' : Value} {n : Nat} (h : FreshI w (bis B) v w1) (hn : B.length = n) (hown : w2.ownsRow 0 3 1 v' (n + (i64s (bis C)).length) (i64s (bis B) ++ i64s (bis C))) (hg : w1.grownBy w2 v.ownBlock) (hm : Moved w1 v v') : FreshI w (bis (B ++ C)) v' w2 := by
  subst hn
  exact h.bits_app hown hg hm

set_option maxRecDepth 100000 in
set_option maxHeartbeats 4000000 in
theorem refcode_any (l : Value) (xs : List Int) (s : Int) (w : World) (hl : Sl w l (i64s xs)) (hx : In64 xs) (hr : rightB xs s = true) :
    Calls Try.prog 47 #[.agg #[l, .int .i64 s]] w (BitsPost w (codeC xs s)) := by
  obtain ⟨A, c, rfl, _⟩ := i64s_form hl
  obtain ⟨r1, r2, r3, r4, r5⟩ := widN_right xs s hr
  have hfit := fun (x : Int) (hm : x ∈ xs) => need_fits x (widN xs) ((widN_ge xs).2 x hm) (hx x hm).1 (hx x hm).2
  have H0 := hid (PV.new (s := s) hl)
  have HX := hid (And.intro hx hfit)
  clear hl hx hr hfit
  go_enter Try.func47, Try.ntmps47
  go_wp2_with fail
  have HC := refw12_any (.slice A xs.length c) xs s (w.alloc (.cells #[.slice A xs.length c, .int .i64 s] 25)) H0.out.sl HX.out.1
  obtain ⟨n, hn⟩ : ∃ n, widN xs = n := ⟨_, rfl⟩
  rw [hn] at HC r4 r5 HX
  have HN := hid hn
  clear hn
  with_reducible refine HC.mono ?_
  clear HC
  rintro e w1 ⟨rfl, hb⟩
  have H1 := hid (H0.out.later hb)
  clear hb
  obtain ⟨q, rfl⟩ := Int.eq_ofNat_of_zero_le r2
  go_wp2_with fail
  obtain ⟨p0, p1⟩ := H1.out.cells
  have hwx : IntKind.u64.wrap (xs.length : Int) = (xs.length : Int) := IntWalk.u64_in _ (by omega)
  have hwq : IntKind.u64.wrap (q : Int) = (q : Int) := IntWalk.u64_in _ (by omega)
  go_region_held3 (fun w' => w'.cell? ⟨w.heap.size, 0, none⟩ = some (.slice A xs.length c) ∧ w'.cell? ⟨w.heap.size, 1, none⟩ = some (.int .i64 (q : Int)))
    (first | exact k4 | exact k3 | exact k2 | go_keep)
    (first
      | (go_at_call 73; (with_reducible refine (bits_sl (xs.length : Int) 6 xs.length 6 rfl rfl _ (by omega) (by omega)).mono ?_); rintro e w2 ⟨A2, c2, rfl, hf⟩; have h2 := H1.out.drew.later hf.bel; have k2 := h2.cells; have H2 := hid (And.intro h2 hf); clear h2 hf)
      | (go_at_call 73; (with_reducible refine (bits_sl (q : Int) 4 q 4 rfl rfl _ (by omega) (by omega)).mono ?_); rintro e w3 ⟨A3, c3, rfl, hf⟩; have h3 := H2.out.1.later hf.bel; have k3 := h3.cells; have H3 := hid (And.intro h3 (And.intro (H2.out.2.later hf.bel) hf)); clear h3 hf)
      | (refine step_app _ rfl (.tmp 13) (.tmp 17) 22 rfl 3 .i64 8 Try.underlying22 Try.info_int (.slice A2 6 c2) 6 (i64s (bis (bitsOf xs.length 6))) ?_ ?_ (.slice A3 4 c3) (i64s (bis (bitsOf q 4))) ?_ ?_ i64s_one (by decide) ?_ ?_; (simp [Act.eval]); (exact H3.out.2.1.own_of (bitsOf_length _ _)); (simp [Act.eval]); (exact H3.out.2.2.sl); (rw [i64s_length, bis_length, bitsOf_length]; omega); (intro v4 w4 hown hg hm; have hf4 := H3.out.2.1.bits_app' (bitsOf_length _ _) hown hg hm; have h4 := H1.out.drew.later hf4.bel; have k4 := h4.cells; have H4 := hid (And.intro h4 hf4); clear h4 hf4 hown hg hm)))
  clear hwx hwq p0 p1
  go_wp2_with fail
  have HC := bits_sl ((n : Int) - 1) 4 (n - 1) 4 (by omega) rfl w4 (by omega) (by omega)
  with_reducible refine HC.mono ?_
  clear HC
  rintro e w5 ⟨A5, c5, rfl, hf⟩
  have H5 := hid (And.intro (H4.out.1.later hf.bel) (And.intro (H4.out.2.later hf.bel) hf))
  clear hf
  go_wp2_with (at_builtin; go_must (refine wpList_app _ rfl (.tmp 19) (.tmp 23) 22 rfl 3 .i64 8 Try.underlying22 Try.info_int v4 10 (i64s (bis (bitsOf xs.length 6 ++ bitsOf q 4))) rfl ?c1 (.slice A5 4 c5) (i64s (bis (bitsOf (n - 1) 4))) rfl ?c2 i64s_one (by decide) ?c3 ?_); rotate_right; intro v6 w6 hown hg hm; replace hown := hid hown; replace hg := hid hg; replace hm := hid hm)
  case c1 => exact H5.out.2.1.own_of (by rw [List.length_append, bitsOf_length, bitsOf_length])
  case c2 => exact H5.out.2.2.sl
  case c3 => rw [i64s_length, bis_length, bitsOf_length]; omega
  have hf6 := H5.out.2.1.bits_app' (by rw [List.length_append, bitsOf_length, bitsOf_length]) hown.out hg.out hm.out
  have hf6' := hf6.after H1.out.drew.bel
  obtain ⟨B, hB⟩ : ∃ B, bitsOf xs.length 6 ++ bitsOf q 4 ++ bitsOf (n - 1) 4 = B := ⟨_, rfl⟩
  have hBl : B.length = 14 := by rw [← hB]; simp only [List.length_append, bitsOf_length]
  rw [hB] at hf6'
  have H6 := hid (And.intro (H1.out.drew.later hf6.bel) hf6')
  have HBB := hid hB
  clear hf6 hf6' hown hg hm hB
  go_loopw [4, 5] (fun o i wr => ∃ (k : Nat) (v : Value), k ≤ xs.length ∧ i = .int .i64 k ∧ o = v ∧ PV w (.slice A xs.length c) xs (q : Int) wr ∧ FreshI w (bis (B ++ (xs.take k).flatMap (cbits n))) v wr) (fun _ i _ => xs.length - (intOf i).toNat)
  case atStart => exact ⟨0, v6, by omega, rfl, rfl, H6.out.1, by simpa using H6.out.2⟩
  case round =>
    obtain ⟨k, v, hk, rfl, rfl, hpv, hfr⟩ := hrel
    have hlen : ((xs.take k).flatMap (cbits n)).length ≤ 512 := by
      have e : ∀ ys : List Int, (ys.flatMap (cbits n)).length = ys.length * n := by
        intro ys
        induction ys with
        | nil => simp
        | cons x ys ih => rw [List.flatMap_cons, List.length_append, ih, cbits, bitsOf_length, List.length_cons, Nat.add_mul]; omega
      rw [e, List.length_take]
      have := Nat.mul_le_mul (show min k xs.length ≤ 32 by omega) r5
      omega
    obtain ⟨p0, p1⟩ := hpv.cells
    have HP := hid (And.intro hpv hfr)
    clear hpv hfr
    by_cases hkm : k < xs.length
    · have hin : (k : Int) < xs.length := by omega
      obtain ⟨ad, rfl, hc⟩ := i64s_at HP.out.1.sl hkm
      have hx := HX.out.1 xs[k] (List.getElem_mem _)
      have hft := HX.out.2 xs[k] (List.getElem_mem _)
      have hcs0 := csign xs[k] n (by omega) hft.1 hft.2.1 hft.2.2
      obtain ⟨x, hxe⟩ : ∃ x, xs[k] = x := ⟨_, rfl⟩
      rw [hxe] at hc hx hft hcs0
      have HXX := hid hxe
      have hpn : (2 : Int) ^ n ≤ 65536 := pow_le_int (n := 16) r5
      have hpn0 := pow_pos_int n
      have hpn1 : (2 : Int) ^ (n - 1) ≤ 32768 := pow_le_int (n := 15) (by omega)
      obtain ⟨hx1, hx2⟩ := hx
      obtain ⟨hf1, hf2, _⟩ := hft
      have hxl : -32768 ≤ x := by omega
      have hxu : x < 32768 := by omega
      clear hxe
      by_cases hneg : x < 0
      · rw [if_pos hneg] at hcs0
        have hcs1 : 0 ≤ x + 2 ^ n := by rw [hcs0]; omega
        have HCS := hid hcs0
        clear hcs0 hf1 hf2 hpn1
        have hcs := HCS.out
        replace hcs := hid hcs
        go_wp2_with fail
        have HC := power_at (n : Int) n rfl wr (by omega)
        with_reducible refine HC.mono ?_
        clear HC
        rintro e w7 ⟨rfl, rfl⟩
        have hws : IntKind.i64.wrap (x + 2 ^ n) = x + 2 ^ n := IntWalk.i64_in _ (by omega)
        have hwu : IntKind.u64.wrap (x + 2 ^ n) = x + 2 ^ n := IntWalk.u64_in _ (by omega)
        go_wp2_with fail
        clear hws hwu
        have HC := bits_sl (x + 2 ^ n) (n : Int) (x % 2 ^ n).toNat n hcs.out rfl wr (Nat.lt_of_lt_of_le (cmask_lt x n) (show 2 ^ n ≤ 2 ^ 64 from Nat.pow_le_pow_right (by omega) (by omega))) (by omega)
        with_reducible refine HC.mono ?_
        clear HC
        rintro e w8 ⟨A8, c8, rfl, hf⟩
        have H8 := hid (And.intro (HP.out.1.later hf.bel) (And.intro (HP.out.2.later hf.bel) hf))
        clear hf
        go_wp2_with (at_builtin; go_must (refine wpList_app _ rfl (.tmp 43) (.tmp 47) 22 rfl 3 .i64 8 Try.underlying22 Try.info_int u4 (B.length + ((xs.take k).flatMap (cbits n)).length) (i64s (bis (B ++ (xs.take k).flatMap (cbits n)))) rfl ?a1 (.slice A8 n c8) (i64s (bis (bitsOf (x % 2 ^ n).toNat n))) rfl ?a2 i64s_one (by decide) ?a3 ?_); rotate_right; intro v9 w9 hown hg hm; replace hown := hid hown; replace hg := hid hg; replace hm := hid hm)
        case a1 => exact H8.out.2.1.own_of (by rw [List.length_append])
        case a2 => exact H8.out.2.2.sl
        case a3 => rw [i64s_length, bis_length, bitsOf_length]; omega
        have hf9 := H8.out.2.1.bits_app' (by rw [List.length_append]) hown.out hg.out hm.out
        have hb9 := H8.out.1.grow H8.out.2.1 hg.out
        have H9 := hid (And.intro hb9 (show FreshI w (bis (B ++ (xs.take (k + 1)).flatMap (cbits n))) v9 w9 by
          rw [take_snocI xs k hkm, HXX.out, List.flatMap_append, ← List.append_assoc]
          simpa [cbits] using hf9))
        clear hf9 hb9 hown hg hm
        go_roundw
        case rel => exact ⟨k + 1, v9, by omega, by go_num, rfl, H9.out.1, H9.out.2⟩
        case measure => simp [intOf]; omega
      · rw [if_neg hneg] at hcs0
        have hcs := hid hcs0
        have hwu : IntKind.u64.wrap x = x := IntWalk.u64_in _ (by omega)
        clear hcs0 hf1 hf2 hpn1
        go_wp2_with fail
        have HC := bits_sl x (n : Int) (x % 2 ^ n).toNat n hcs.out rfl wr (Nat.lt_of_lt_of_le (cmask_lt x n) (show 2 ^ n ≤ 2 ^ 64 from Nat.pow_le_pow_right (by omega) (by omega))) (by omega)
        with_reducible refine HC.mono ?_
        clear HC
        rintro e w8 ⟨A8, c8, rfl, hf⟩
        have H8 := hid (And.intro (HP.out.1.later hf.bel) (And.intro (HP.out.2.later hf.bel) hf))
        clear hf
        go_wp2_with (at_builtin; go_must (refine wpList_app _ rfl (.tmp 43) (.tmp 47) 22 rfl 3 .i64 8 Try.underlying22 Try.info_int u4 (B.length + ((xs.take k).flatMap (cbits n)).length) (i64s (bis (B ++ (xs.take k).flatMap (cbits n)))) rfl ?b1 (.slice A8 n c8) (i64s (bis (bitsOf (x % 2 ^ n).toNat n))) rfl ?b2 i64s_one (by decide) ?b3 ?_); rotate_right; intro v9 w9 hown hg hm; replace hown := hid hown; replace hg := hid hg; replace hm := hid hm)
        case b1 => exact H8.out.2.1.own_of (by rw [List.length_append])
        case b2 => exact H8.out.2.2.sl
        case b3 => rw [i64s_length, bis_length, bitsOf_length]; omega
        have hf9 := H8.out.2.1.bits_app' (by rw [List.length_append]) hown.out hg.out hm.out
        have hb9 := H8.out.1.grow H8.out.2.1 hg.out
        have H9 := hid (And.intro hb9 (show FreshI w (bis (B ++ (xs.take (k + 1)).flatMap (cbits n))) v9 w9 by
          rw [take_snocI xs k hkm, HXX.out, List.flatMap_append, ← List.append_assoc]
          simpa [cbits] using hf9))
        clear hf9 hb9 hown hg hm
        go_roundw
        case rel => exact ⟨k + 1, v9, by omega, by go_num, rfl, H9.out.1, H9.out.2⟩
        case measure => simp [intOf]; omega
    · have hin : ¬ (k : Int) < xs.length := by omega
      obtain rfl : k = xs.length := by omega
      go_wp2_with fail
      go_ret
      have h := HP.out.2
      rw [List.take_length] at h
      have e : codeC xs (q : Int) = B ++ xs.flatMap (cbits n) := by
        unfold codeC
        rw [HN.out, ← HBB.out, Int.toNat_natCast]
      rw [← e] at h
      obtain ⟨A9, c9, e9⟩ := h.form
      rw [bis_length] at e9
      subst e9
      exact ⟨A9, c9, rfl, h⟩
end Go.Proofs.Ytfbccmogiafgfaa
