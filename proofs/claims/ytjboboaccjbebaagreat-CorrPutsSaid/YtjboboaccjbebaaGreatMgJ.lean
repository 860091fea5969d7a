/- Layer 21: the reference's Refused, Code. -/
import Derived.Test.YtjboboaccjbebaaGreatMgI
import Derived.Test.YtjboboaccjbebaaGreatMgF
import Derived.Test.YtjboboaccjbebaaGreatMgG

namespace Go.Proofs.YtjboboaccjbebaaGreat
open Go.RowKit

set_option maxRecDepth 100000 in
set_option maxHeartbeats 1600000 in
theorem refrefused_any (l : Value) (xs : List Int) (b : Int) (w : World) (hl : Sl w l (i64s xs)) : Calls Tryz.prog 8 #[l, .int .i64 b] w fun e w' => e = .returned (.int .i64 (refE xs b)) ∧ w = w' := by
  obtain ⟨A, c, rfl, hm⟩ := i64s_form hl
  have HE := hid (refE.eq_1 xs b)
  by_cases h0 : b < 0
  · rw [if_neg (by rw [boundB_iff]; omega)] at HE
    clear hl
    go_enter Tryz.func8, Tryz.ntmps8
    go_wp2_with fail
    go_ret
    exact ⟨by rw [HE.out]; rfl, rfl⟩
  by_cases h1 : 2147483648 < b
  · rw [if_neg (by rw [boundB_iff]; omega)] at HE
    clear hl
    go_enter Tryz.func8, Tryz.ntmps8
    go_wp2_with fail
    go_ret
    exact ⟨by rw [HE.out]; rfl, rfl⟩
  rw [if_pos ((boundB_iff b).2 (by omega))] at HE
  by_cases h2 : 65536 < xs.length
  · rw [if_pos h2] at HE
    have h2' : (65536 : Int) < xs.length := by omega
    clear hl
    go_enter Tryz.func8, Tryz.ntmps8
    go_wp2_with fail
    go_ret
    exact ⟨by rw [HE.out]; rfl, rfl⟩
  rw [if_neg h2] at HE
  have h2' : ¬ (65536 : Int) < xs.length := by omega
  obtain ⟨q, rfl⟩ := Int.eq_ofNat_of_zero_le (show 0 ≤ b by omega)
  rw [Int.toNat_natCast] at HE
  have hwn : IntKind.i64.wrap (-(q : Int)) = -(q : Int) := IntWalk.i64_in _ (by omega)
  have H := hid hl
  clear hl h2
  go_enter Tryz.func8, Tryz.ntmps8
  go_wp2_with fail
  go_loop [5] (fun i => ∃ k : Nat, k ≤ xs.length ∧ i = .int .i64 k ∧ Hid (withinB q (xs.take k) = true)) (fun i => xs.length - (intOf i).toNat)
  case atStart => exact ⟨0, by omega, rfl, by simp [withinB, Hid]⟩
  case round =>
    obtain ⟨k, hk, rfl, hd⟩ := hrel
    by_cases hkm : k < xs.length
    · have hin : (k : Int) < xs.length := by omega
      obtain ⟨ad, rfl, hc⟩ := i64s_at H.out hkm
      have hnw : ∀ x, xs[k] = x → ¬ (-(q : Int) ≤ x ∧ x ≤ (q : Int)) → withinB q xs = false := fun x hx hxn => by
        rw [show withinB q xs = xs.all (inB q) from rfl, List.all_eq_false]
        exact ⟨x, by rw [← hx]; exact List.getElem_mem _, by rw [inB_no hxn]; simp⟩
      have hyw : ∀ x, xs[k] = x → -(q : Int) ≤ x → x ≤ (q : Int) → withinB q (xs.take (k + 1)) = true := fun x hx h3 h4 => by
        have hdd : (xs.take k).all (inB q) = true := hd.out
        rw [show withinB q (xs.take (k + 1)) = (xs.take (k + 1)).all (inB q) from rfl, take_snocI xs k hkm, List.all_append, hdd, hx]
        simp [(inB_iff q x).2 ⟨h3, h4⟩]
      obtain ⟨x, hxe⟩ : ∃ x, xs[k] = x := ⟨_, rfl⟩
      rw [hxe] at hc
      replace hnw := hid (hnw x hxe)
      replace hyw := hid (hyw x hxe)
      clear hxe
      by_cases h3 : x < -(q : Int)
      · go_wp2_with fail
        go_ret
        exact ⟨by rw [HE.out, if_neg (by rw [hnw.out (by omega)]; simp)]; rfl, rfl⟩
      · by_cases h4 : (q : Int) < x
        · go_wp2_with fail
          go_ret
          exact ⟨by rw [HE.out, if_neg (by rw [hnw.out (by omega)]; simp)]; rfl, rfl⟩
        · go_wp2_with fail
          go_round
          case rel => exact ⟨k + 1, by omega, by go_num, hyw.out (by omega) (by omega)⟩
          case measure => simp [intOf]; omega
    · have hin : ¬ (k : Int) < xs.length := by omega
      obtain rfl : k = xs.length := by omega
      go_wp2_with fail
      go_ret
      have h := hd.out
      rw [List.take_length] at h
      exact ⟨by rw [HE.out, if_pos h]; rfl, rfl⟩

theorem fresh_one (w : World) (x : Bool) : FreshI w (bis [x]) (.slice (some ⟨w.heap.size, 0, none⟩) 1 1) (w.alloc (.cells #[.int .i64 (bi x)] 3)) :=
  ⟨blk_ownI (D := [bi x]) (Blk.new w 3 #[.int .i64 (bi x)]) rfl (by omega), (Below.refl _ _).alloc (Nat.le_refl _) _, fun g hg => by simp [Value.ownBlock] at hg; omega⟩

set_option maxRecDepth 100000 in
set_option maxHeartbeats 4000000 in
theorem refcode21_any (l : Value) (xs : List Int) (b : Nat) (w : World) (hl : Sl w l (i64s xs)) (hx : InI xs) (hn : xs.length ≤ 65536) (hb : b ≤ 2147483648) (hw : withinB b xs = true) :
    Calls Tryz.prog 10 #[l, .int .i64 (b : Int)] w (CodeS w (codeB b xs) (codeB b xs).length) := by
  obtain ⟨A, c, rfl, hm⟩ := i64s_form hl
  have hmay := within_may hb hn hw
  have hcd := within_coded hb hw
  have HLE := hid (fun W (h : Sl W (.slice A xs.length c) (i64s xs)) => refleast_any (.slice A xs.length c) xs W h hx)
  have hox : orderX xs = (ordL xs, leastW xs) := by unfold orderX; rw [if_pos hmay]
  rw [hox] at HLE
  have hol := Nat.le_trans (ordL_le xs) (ordM_le xs.length)
  have HWH := hid (fun W (h : Sl W (.slice A xs.length c) (i64s xs)) => refwhole_any (.slice A xs.length c) xs (ordL xs) W h hx hn hcd hol)
  have hwl := leastW_len hmay
  have HEC := hid (codesF_within hb hw)
  have hel := evenC_le hb hw
  have HCF := hid (fun m => codesF_le (liftN b (xs.take m)) (2 * b + 1))
  have HCO := hid (fun v W => refcode08_any v (2 * b + 1) W)
  have HCL := hid (fun v => codeF_length v (2 * b + 1))
  have HCE := hid (fun v => costF_le v (2 * b + 1))
  have HSN := hid (fun ys v => codesF_snoc ys v (2 * b + 1))
  have HCB := hid (codeB.eq_1 b xs)
  have hlb := leastW_bd hx hn
  obtain ⟨B, hB⟩ : ∃ B, codeB b xs = B := ⟨_, rfl⟩
  rw [hB] at HCB ⊢
  have hw3 : IntKind.i64.wrap (2 * (b : Int)) = ((2 * b : Nat) : Int) := by rw [IntWalk.i64_in _ (by omega)]; omega
  have hw4 : IntKind.i64.wrap (((2 * b : Nat) : Int) + 1) = ((2 * b + 1 : Nat) : Int) := by rw [IntWalk.i64_in _ (by omega)]; omega
  have hw5 : IntKind.u64.wrap ((2 * b + 1 : Nat) : Int) = ((2 * b + 1 : Nat) : Int) := IntWalk.u64_in _ (by omega)
  obtain ⟨sp, hsp⟩ : ∃ sp, 2 * b + 1 = sp := ⟨_, rfl⟩
  rw [hsp] at hw4 hw5 HEC
  simp only [hsp] at HCF HCO HCL HCE HSN
  obtain ⟨d2, hd2⟩ : ∃ d2, 2 * b = d2 := ⟨_, rfl⟩
  rw [hd2] at hw3 hw4
  obtain ⟨o, ho⟩ : ∃ o, ordL xs = o := ⟨_, rfl⟩
  rw [ho] at HLE HCB hwl
  simp only [ho] at HWH
  obtain ⟨E, hE⟩ : ∃ E, evenC b xs = E := ⟨_, rfl⟩
  rw [hE] at HEC HCB hel
  obtain ⟨M, hM⟩ : ∃ M, leastW xs = M := ⟨_, rfl⟩
  rw [hM] at HLE HCB hlb hwl
  obtain ⟨K, hK⟩ : ∃ K, wholeC xs o = K := ⟨_, rfl⟩
  rw [hK] at HCB hwl
  simp only [hK] at HWH
  have HWI := hid (fun x (h : x ∈ xs) => within_at hw h)
  have H := hid hl
  clear hl hx hw hmay hcd hox hol hB hsp hd2 ho hE hM hK
  go_enter Tryz.func10, Tryz.ntmps10
  go_wp2_with fail
  have F0 := hid (fresh_one w false)
  go_loopw [5, 6] (fun s i wr => ∃ (k m : Nat) (A2 : Option Addr) (c2 : Nat), k ≤ xs.length ∧ i = .int .i64 k ∧ s = .slice A2 m c2 ∧ Hid ((false :: codesF (liftN b (xs.take k)) sp).length = m) ∧ FreshI w (bis (false :: codesF (liftN b (xs.take k)) sp)) (.slice A2 m c2) wr) (fun _ i _ => xs.length - (intOf i).toNat)
  case atStart => exact ⟨0, 1, _, _, by omega, rfl, rfl, rfl, F0.out⟩
  case round =>
    obtain ⟨k, m, A2, c2, hk, rfl, rfl, hlen, hf⟩ := hrel
    have hml : m ≤ 1 + 65536 * 40 := by
      have h := hlen.out
      have h2 := HCF.out k
      rw [liftN_length, List.length_take] at h2
      rw [List.length_cons] at h
      omega
    have HFF := hid hf
    by_cases hkm : k < xs.length
    · have hin : (k : Int) < xs.length := by omega
      obtain ⟨ad, rfl, hc⟩ := i64s_at (H.out.below hf.bel) hkm
      have hxb := HWI.out xs[k] (List.getElem_mem _)
      obtain ⟨x, hxe⟩ : ∃ x, xs[k] = x := ⟨_, rfl⟩
      rw [hxe] at hc hxb
      have HX := hid hxe
      have hu : x + (b : Int) = (((x + (b : Int)).toNat : Nat) : Int) := by omega
      obtain ⟨u, hue⟩ : ∃ u, (x + (b : Int)).toNat = u := ⟨_, rfl⟩
      rw [hue] at hu
      have hw1 : IntKind.i64.wrap (x + (b : Int)) = (u : Int) := by rw [hu]; exact IntWalk.i64_in _ (by omega)
      have hw2 : IntKind.u64.wrap (u : Int) = (u : Int) := IntWalk.u64_in _ (by omega)
      have HU := hid hue
      have HC := hid (HCO.out u wr)
      have hce := HCE.out u
      have HL := hid (HCL.out u)
      have HS := hid (HSN.out (liftN b (xs.take k)) u)
      obtain ⟨D, hD⟩ : ∃ D, codeF u sp = D := ⟨_, rfl⟩
      rw [hD] at HC HL HS
      obtain ⟨s, hs⟩ : ∃ s, costF u sp = s := ⟨_, rfl⟩
      rw [hs] at HC HL hce
      clear hf hxe hu hue hD hs hxb
      go_wp2_with fail
      with_reducible refine HC.out.mono ?_
      rintro e w3 ⟨A3, c3, rfl, hf3⟩
      have H3 := hid (And.intro (HFF.out.later hf3.bel) hf3)
      clear hf3
      go_wp2_with (at_builtin; go_must (refine wpList_app _ rfl (.tmp 16) (.tmp 28) 22 rfl 3 .i64 8 Tryz.underlying22 Tryz.info_int (.slice A2 m c2) m (i64s (bis (false :: codesF (liftN b (xs.take k)) sp))) rfl ?a1 (.slice A3 s c3) (i64s (bis D)) rfl ?a2 i64s_one (by decide) ?a3 ?_); rotate_right; intro v6 w6 hown hg hmv; replace hown := hid hown; replace hg := hid hg; replace hmv := hid hmv)
      case a1 => exact H3.out.1.own_of hlen.out
      case a2 => exact H3.out.2.sl
      case a3 => rw [i64s_length, bis_length, HL.out]; omega
      have h6 := H3.out.1.bits_app' hlen.out hown.out hg.out hmv.out
      have hl6 : (false :: codesF (liftN b (xs.take k)) sp ++ D).length = m + s := by rw [List.length_append, hlen.out, HL.out]
      obtain ⟨A6, c6, rfl⟩ := h6.form
      rw [bis_length, hl6] at h6 ⊢
      have H6 := hid (And.intro hl6 h6)
      clear hl6 h6 hown hg hmv
      go_wp2_with fail
      go_roundw
      case rel =>
        have e : false :: codesF (liftN b (xs.take (k + 1))) sp = false :: codesF (liftN b (xs.take k)) sp ++ D := by rw [take_snocI xs k hkm, liftN_snoc, HX.out, HU.out, HS.out]; rfl
        exact ⟨k + 1, m + s, A6, c6, by omega, by go_num, rfl, by show _ = _; rw [e]; exact H6.out.1, by rw [e]; exact H6.out.2⟩
      case measure => simp [intOf]; omega
    · have hin : ¬ (k : Int) < xs.length := by omega
      obtain rfl : k = xs.length := by omega
      have hlen2 := hlen.out
      have hff := HFF.out
      rw [List.take_length, HEC.out] at hlen2 hff
      have hme : m = 1 + E.length := by rw [List.length_cons] at hlen2; omega
      have HF2 := hid (And.intro hff (And.intro hlen2 (H.out.below hf.bel)))
      have hw6 : IntKind.i64.wrap (1 + (M : Int)) = ((1 + M : Nat) : Int) := by rw [IntWalk.i64_in _ (by omega)]; omega
      clear hf hlen2 hff hlen HFF
      by_cases hlt : M < E.length
      · have hlt' : ((1 + M : Nat) : Int) < (m : Int) := by omega
        rw [if_pos hlt] at HCB
        have HBL := hid (show B.length = 1 + K.length by rw [HCB.out, List.length_cons]; omega)
        clear hlt hme
        go_wp2_with fail
        with_reducible refine (HLE.out _ HF2.out.2.2).mono ?_
        rintro e w3 ⟨rfl, hb3⟩
        have H3 := hid (And.intro (HF2.out.1.later hb3).bel (HF2.out.2.2.below hb3))
        clear hb3
        go_wp2_with fail
        have HFO := hid (fresh_one w3 true)
        have hb4 := (Below.refl w3.heap.size w3).alloc (Nat.le_refl _) (.cells #[.int .i64 1] 3)
        with_reducible refine (HWH.out _ (H3.out.2.below hb4)).mono ?_
        rintro e w4 ⟨A4, c4, rfl, hf4⟩
        have H4 := hid (And.intro (HFO.out.later hf4.bel) hf4)
        clear hf4 hb4
        go_wp2_with (at_builtin; go_must (refine wpList_app _ rfl (.tmp 40) (.tmp 43) 22 rfl 3 .i64 8 Tryz.underlying22 Tryz.info_int (.slice (some ⟨w3.heap.size, 0, none⟩) 1 1) 1 (i64s (bis [true])) rfl ?b1 (.slice A4 K.length c4) (i64s (bis K)) rfl ?b2 i64s_one (by decide) ?b3 ?_); rotate_right; intro v6 w6 hown hg hmv; replace hown := hid hown; replace hg := hid hg; replace hmv := hid hmv)
        case b1 => exact H4.out.1.own_of rfl
        case b2 => exact H4.out.2.sl
        case b3 => rw [i64s_length, bis_length]; omega
        have h6 := H4.out.1.bits_app' (n := 1) rfl hown.out hg.out hmv.out
        obtain ⟨A6, c6, rfl⟩ := h6.form
        rw [show [true] ++ K = B by rw [HCB.out]; rfl, bis_length] at h6 ⊢
        have H6 := hid (h6.after H3.out.1)
        clear h6 hown hg hmv
        go_wp2_with fail
        go_ret
        exact ⟨A6, c6, rfl, H6.out⟩
      · have hlt' : ¬ ((1 + M : Nat) : Int) < (m : Int) := by omega
        rw [if_neg hlt] at HCB
        have HBL := hid (show B.length = m by rw [HCB.out]; exact HF2.out.2.1)
        clear hlt hme
        go_wp2_with fail
        with_reducible refine (HLE.out _ HF2.out.2.2).mono ?_
        rintro e w3 ⟨rfl, hb3⟩
        have H3 := hid (HF2.out.1.later hb3)
        clear hb3
        go_wp2_with fail
        go_ret
        rw [HBL.out]
        refine ⟨A2, c2, rfl, ?_⟩
        rw [HCB.out]
        exact H3.out
end Go.Proofs.YtjboboaccjbebaaGreat
/- Layer 21: evens, parted, Get, of a code. -/
namespace Go.Proofs.YtjboboaccjbebaaGreat
open Go.RowKit

theorem off21 (v b : Nat) (w : World) (hb : b ≤ 274877906944) (h : v ≤ 2 * b) : Calls Tryz.prog 66 #[.int .u64 (v : Int), .int .i64 (b : Int)] w fun e w' => e = .returned (.tuple #[.int .i64 ((v : Int) - (b : Int)), .int .i64 0]) ∧ w = w' := by
  have h' : ¬ 2 * (b : Int) < v := by omega
  go_enter Tryz.func66, Tryz.ntmps66
  go_wp2_with fail
  go_ret2
  exact ⟨rfl, rfl⟩
def offL21 (b : Nat) (us : List Nat) : List Int := us.map fun (u : Nat) => (u : Int) - (b : Int)
theorem offL21_snoc (b : Nat) (us : List Nat) (u : Nat) : offL21 b (us ++ [u]) = offL21 b us ++ [(u : Int) - (b : Int)] := by simp [offL21]
theorem offL21_length (b : Nat) (us : List Nat) : (offL21 b us).length = us.length := List.length_map _

/-- What a good reading hands back. -/
def GoodS (p : Nat) (v : Value) (F : List Nat) (w : World) (l : List Int) (j n : Nat) (e : Ending) (w' : World) : Prop :=
  ∃ A c, e = .returned (.tuple #[.slice A n c, .int .i64 0]) ∧ GI (fun w' j => Rd w' p v F j) w p j l (.slice A n c) w'
theorem GoodS.from_ {p : Nat} {v : Value} {F : List Nat} {w w2 w' : World} {l : List Int} {j n : Nat} {e : Ending} (hk : Kept (fun k => k = p) w w2) (hp : p < w.heap.size) (h : GoodS p v F w2 l j n e w') : GoodS p v F w l j n e w' := by
  obtain ⟨A, c, h1, h2⟩ := h
  have hs := hk.size
  exact ⟨A, c, h1, h2.rd, hk.trans h2.kp fun _ _ e => e, h2.own, fun g hg => by have := h2.new g hg; omega, hp⟩
theorem GoodS.shape {p : Nat} {v : Value} {F : List Nat} {w w' : World} {l : List Int} {j n : Nat} {e : Ending} (h : GoodS p v F w l j n e w') : ∃ A c, e = .returned (.tuple #[.slice A n c, .int .i64 0]) := by
  obtain ⟨A, c, h1, _⟩ := h
  exact ⟨A, c, h1⟩

set_option maxRecDepth 100000 in
set_option maxHeartbeats 4000000 in
theorem cevens_ok (w : World) (p : Nat) (v : Value) (F : List Nat) (i b n j : Nat) (us : List Nat) (h : Rd w p v F i) (hS : egS (flat F) (2 * b + 1) i n = .ok (us, j)) (hu : ∀ u ∈ us, u ≤ 2 * b) (hb : b ≤ 2147483648) (hn : n ≤ 65536) (hv : ∀ g, v.ownBlock = some g → g < w.heap.size) :
    Calls Tryz.prog 33 #[.pointer (some ⟨p, 0, none⟩), .int .i64 (n : Int), .int .i64 (b : Int)] w (GoodS p v F w (offL21 b us) j n) := by
  have hsb : spanB (2 * b + 1) = true := (spanB_iff _).2 ⟨by omega, by omega⟩
  have HG := hid (egetall_any w p v F i (2 * b + 1) n h hsb (by omega) hv)
  rw [hS] at HG
  have HLE := hid (egS_len hS)
  have HSP := hid (fun W => cspan_any b W hb)
  obtain ⟨sp, hsp⟩ : ∃ sp, 2 * b + 1 = sp := ⟨_, rfl⟩
  simp only [hsp] at HG HSP
  have HU := hid hu
  clear hS hsb hsp h hu
  have hmk := fun W => make_int n (by omega) W
  go_enter Tryz.func33, Tryz.ntmps33
  go_wp2_with fail
  with_reducible refine (HSP.out _).mono ?_
  rintro e w0 ⟨rfl, rfl⟩
  go_wp2_with fail
  refine HG.out.mono ?_
  rintro e w1 h
  obtain ⟨A, c, rfl, hg⟩ := h
  have H1 := hid (And.intro hg (Sl.of_own hg.own))
  clear hg
  go_wp2_with fail
  clear hmk
  go_loopw [28] (fun ix wr => ∃ d m : Nat, d + m = n ∧ ix = .int .i64 d ∧ Hid (Blk wr w1.heap.size 3 (i64s (offL21 b (us.take d) ++ List.replicate m 0)).toArray) ∧ Hid (Below w1.heap.size w1 wr)) (fun ix _ => n - (intOf ix).toNat)
  case atStart => exact ⟨0, n, by omega, rfl, by rw [made_zero]; simpa [Hid, offL21] using Blk.new w1 _ _, (Below.refl _ _).alloc (Nat.le_refl _) _⟩
  case round =>
    obtain ⟨d, m, hdm, rfl, hblk, hbel⟩ := hrel
    rcases m with _ | m
    · have hin : ¬ (d : Int) < n := by omega
      obtain rfl : d = n := by omega
      go_wp2_with fail
      go_ret2
      have h := hblk.out
      rw [List.take_of_length_le (Nat.le_of_eq HLE.out), List.replicate_zero, List.append_nil] at h
      have hs := H1.out.1.kp.size
      exact ⟨_, _, rfl, H1.out.1.rd.below hbel.out, H1.out.1.kp.then_below hbel.out, blk_ownI h (by rw [offL21_length]; exact HLE.out) (by omega), fun g hg => by simp [Value.ownBlock] at hg; omega, H1.out.1.lt⟩
    · have hin : (d : Int) < n := by omega
      have hdx : d < us.length := by rw [HLE.out]; omega
      obtain ⟨ad, rfl, hc⟩ := u64s_at (H1.out.2.below hbel.out) hdx
      have hub := HU.out us[d] (List.getElem_mem _)
      have hlz : (offL21 b (us.take d)).length = d := by rw [offL21_length, List.length_take]; omega
      have hcb := hblk.out.cell d
      have hfb := hblk.out.frozen d
      rw [i64s_get _ _ _ hlz] at hcb
      obtain ⟨u, hue⟩ : ∃ u, us[d] = u := ⟨_, rfl⟩
      rw [hue] at hc hub
      have HX := hid (And.intro hue hlz)
      have HZ := hid (off21 u b wr (by omega) hub)
      obtain ⟨z, hz⟩ : ∃ z, (u : Int) - (b : Int) = z := ⟨_, rfl⟩
      rw [hz] at HZ
      have HZZ := hid hz
      clear hue hlz hz hub
      go_wp2_with fail
      with_reducible refine HZ.out.mono ?_
      rintro e w2 ⟨rfl, rfl⟩
      go_wp2_with fail
      go_roundw
      case rel =>
        refine ⟨d + 1, m, by omega, by go_num, ?_, hbel.out.setCell (by simp) _⟩
        have h := hblk.out.upd d (.int .i64 z)
        rw [i64s_store _ _ _ _ HX.out.2] at h
        show Blk _ _ _ _
        rw [take_snocI us d hdx, offL21_snoc, HX.out.1, HZZ.out]
        exact h
      case measure => simp [intOf]; omega

theorem par1_any (g : Nat) (x : Int) (b : Nat) (w : World) (hb : b ≤ 2147483648) (hc : w.cell? ⟨g, 0, none⟩ = some (.int .i64 (b : Int))) : Calls Tryz.prog 68 #[.int .i64 x, .pointer (some ⟨g, 0, none⟩)] w fun e w' => e = .returned (.bool (!inB b x)) ∧ w = w' := by
  have HB := hid (beyond_any x b w hb)
  go_enter Tryz.func68, Tryz.ntmps68
  go_wp2_with fail
  with_reducible refine HB.out.mono ?_
  rintro e w1 ⟨rfl, rfl⟩
  go_wp2_with fail
  go_ret
  exact ⟨rfl, rfl⟩
theorem enters_par1 : ∀ args w, (callFunc 68 args).run Tryz.prog w = .ok (.enter 68 args) w := enters_of Tryz.func68 (by kernel_rfl) rfl

set_option maxRecDepth 100000 in
set_option maxHeartbeats 4000000 in
theorem cparted_ok (w : World) (p : Nat) (v : Value) (F : List Nat) (i b n j q : Nat) (l : List Int) (h : Rd w p v F i) (hS : pwT (flat F) i n = .ok ((l, q), j)) (hw : withinB b l = true) (hb : b ≤ 2147483648) (hn : n ≤ 65536) (hln : l.length = n) (hv : ∀ g, v.ownBlock = some g → g < w.heap.size) :
    Calls Tryz.prog 34 #[.pointer (some ⟨p, 0, none⟩), .int .i64 (n : Int), .int .i64 (b : Int)] w (GoodS p v F w l j n) := by
  have hpl := h.blk.lt
  have hb0 := (Below.refl w.heap.size w).alloc (Nat.le_refl _) (.cells #[.int .i64 (b : Int)] 3)
  have HG := hid (pGet_any (w.alloc (.cells #[.int .i64 (b : Int)] 3)) p v F i n (h.below hb0) hn (fun g hg => by have := hv g hg; simp; omega))
  rw [hS] at HG
  have HB := hid (And.intro hb0 (Blk.new w 3 #[.int .i64 (b : Int)]))
  have HCT := hid (fun W z (hz : Sl W z (i64s l)) (hc : Blk W w.heap.size 3 #[.int .i64 (b : Int)]) => contains_any 68 #[.pointer (some ⟨w.heap.size, 0, none⟩)] enters_par1 (fun x => !inB b x) (fun _ => True) z l W hz (fun _ _ => trivial) (fun x n _ => (par1_any w.heap.size x b _ hb (by simp [(hc.drewN n).cell 0])).mono fun _ _ ⟨he, hw⟩ => ⟨he, 0, hw.symm⟩))
  rw [any_beyond, hw] at HCT
  subst hln
  clear hS hw h hb0
  go_enter Tryz.func34, Tryz.ntmps34
  go_wp2_with fail
  refine HG.out.mono ?_
  rintro e w1 h
  obtain ⟨A, c, rfl, hg⟩ := h
  have hbk := HB.out.2.kept hg.kp (by omega)
  have H1 := hid (And.intro hg (And.intro (Sl.of_own hg.own) hbk))
  clear hg hbk
  go_wp2_with fail
  with_reducible refine (HCT.out _ _ H1.out.2.1 H1.out.2.2).mono ?_
  rintro e w2 ⟨rfl, n2, rfl⟩
  go_wp2_with fail
  go_ret2
  have hs := H1.out.1.kp.size
  refine ⟨A, c, rfl, H1.out.1.rd.drewN n2, ((Kept.of_below' HB.out.1).trans H1.out.1.kp fun _ _ e => e).drewN n2, ?_, fun g hg => ?_, hpl⟩
  · exact own_of_heap H1.out.1.own fun g hg => by simp
  · have := H1.out.1.new g hg
    simp at this
    omega

set_option maxRecDepth 100000 in
set_option maxHeartbeats 4000000 in
theorem corrGet_ok (w : World) (p : Nat) (v : Value) (F : List Nat) (b : Nat) (l : List Int) (T : List Bool) (h : Rd w p v F 0) (hF : flat F = codeB b l ++ T) (h0 : refE l (b : Int) = 0) (hv : ∀ g, v.ownBlock = some g → g < w.heap.size) :
    Calls Tryz.prog 14 #[.pointer (some ⟨p, 0, none⟩), .int .i64 (l.length : Int), .int .i64 (b : Int)] w (GoodS p v F w l (codeB b l).length l.length) := by
  obtain ⟨q, hq, hb, hn, hwi⟩ := refE_zero h0
  obtain rfl : q = b := by omega
  have hpl := h.blk.lt
  have HG := hid (get_any w p v F 0 1 h)
  have HK := hid (fun W => cknown_any (q : Int) W)
  rw [(boundB_iff _).2 (by omega)] at HK
  have hn0 : ¬ (l.length : Int) < 0 := by omega
  have hn1 : ¬ (65536 : Int) < l.length := by omega
  have hmay := within_may hb hn hwi
  have hcd := within_coded hb hwi
  by_cases hlt : leastW l < (evenC q l).length
  · have hcb : codeB q l = true :: wholeC l (ordL l) := by unfold codeB; rw [if_pos hlt]
    have hd : (flat F).drop 0 = bitsOf 1 1 ++ (wholeC l (ordL l) ++ T) := by rw [hF, hcb]; rfl
    obtain ⟨g1, g2, g3, g4, g5⟩ := get_seg hd (by omega) (by omega) (Nat.zero_le _)
    rw [show ((1 : Nat) : Int) = 1 from rfl] at g1 g2 g3
    rw [g1, g2, g3, Nat.zero_add] at HG
    rw [Nat.zero_add] at g4 g5
    have e := pw_code hn hcd (ordM_at (by omega) (ordL_le l)) g5 g4
    have HP := hid (fun W (hR : RI w p v F 1 W) => (cparted_ok W p v F 1 q l.length _ _ l hR.1 e hwi hb hn rfl (fun g hg => Nat.lt_of_lt_of_le (hv g hg) hR.2.size)).mono fun e w' hh => GoodS.from_ hR.2 hpl hh)
    have HL := hid (show (codeB q l).length = 1 + (wholeC l (ordL l)).length by rw [hcb, List.length_cons]; omega)
    rw [HL.out]
    clear g1 g2 g3 g4 g5 hd hcb hlt hmay hcd h hF h0 hwi e hq
    go_enter Tryz.func14, Tryz.ntmps14
    go_wp2_with fail
    with_reducible refine (HK.out _).mono ?_
    rintro e w0 ⟨rfl, rfl⟩
    go_wp2_with fail
    with_reducible refine HG.out.mono ?_
    rintro e w1 ⟨rfl, hr1⟩
    have H1 := hid hr1
    clear hr1
    go_wp2_with fail
    refine (HP.out _ H1.out).mono ?_
    intro e w2 hp2
    obtain ⟨A, c, rfl⟩ := hp2.shape
    have H2 := hid hp2
    clear hp2
    go_wp2_with fail
    go_ret2
    exact H2.out
  · have hcb : codeB q l = false :: evenC q l := by unfold codeB; rw [if_neg hlt]
    have hd : (flat F).drop 0 = bitsOf 0 1 ++ (evenC q l ++ T) := by rw [hF, hcb]; rfl
    obtain ⟨g1, g2, g3, g4, g5⟩ := get_seg hd (by omega) (by omega) (Nat.zero_le _)
    rw [show ((1 : Nat) : Int) = 1 from rfl] at g1 g2 g3
    rw [g1, g2, g3, Nat.zero_add] at HG
    rw [Nat.zero_add] at g4 g5
    have e := egS_codes_at (T := T) (k := 2 * q + 1) (by omega) (by omega) g5 (liftN q l).length (liftN q l) (Nat.le_refl _) (lift_lt hwi) g4
    rw [List.take_length, liftN_length] at e
    have hu : ∀ u ∈ liftN q l, u ≤ 2 * q := fun u hu => by have := lift_lt hwi u hu; omega
    have HP := hid (fun W (hR : RI w p v F 1 W) => (cevens_ok W p v F 1 q l.length _ (liftN q l) hR.1 e hu hb hn (fun g hg => Nat.lt_of_lt_of_le (hv g hg) hR.2.size)).mono fun e w' hh => GoodS.from_ hR.2 hpl hh)
    simp only [show offL21 q (liftN q l) = l from lift_back hwi] at HP
    have HL := hid (show (codeB q l).length = 1 + (codesE (liftN q l) (2 * q + 1)).length by rw [hcb, List.length_cons]; unfold evenC; omega)
    rw [HL.out]
    clear g1 g2 g3 g4 g5 hd hcb hlt hmay hcd h hF h0 hwi e hq hu
    go_enter Tryz.func14, Tryz.ntmps14
    go_wp2_with fail
    with_reducible refine (HK.out _).mono ?_
    rintro e w0 ⟨rfl, rfl⟩
    go_wp2_with fail
    with_reducible refine HG.out.mono ?_
    rintro e w1 ⟨rfl, hr1⟩
    have H1 := hid hr1
    clear hr1
    go_wp2_with fail
    refine (HP.out _ H1.out).mono ?_
    intro e w2 hp2
    obtain ⟨A, c, rfl⟩ := hp2.shape
    have H2 := hid hp2
    clear hp2
    go_wp2_with fail
    go_ret2
    exact H2.out
end Go.Proofs.YtjboboaccjbebaaGreat
