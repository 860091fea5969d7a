/- The walk of RicePuts. -/
import Derived.Test.YtgjiffpiffphfaaRPutsS
import Derived.Test.YtgjiffpiffphfaaKnown06
import Derived.Test.YtgjiffpiffphfaaRef02b
import Derived.Test.YtgjiffpiffphfaaStr
import Derived.Test.YtgjiffpiffphfaaRiceT
import Derived.Deep.RegionWith
import Derived.Deep.CutRange
namespace Go.Proofs.Ytgjiffpiffphfaa
open Go.RowKit

/-- Two writers, a list, and bits as a list of ints. -/
structure RP (w : World) (p1 p2 : Nat) (u1 u2 l : Value) (xs : List Nat) (L1 L2 C : List Bool) (v : Value) (wr : World) : Prop where
  rw_ : RW w p1 p2 u1 u2 l xs L1 L2 wr
  fr : FreshI w (bis C) v wr
section
variable {w wr w1 w2 : World} {p1 p2 : Nat} {u1 u2 l v v' : Value} {xs : List Nat} {L1 L2 C C' L' : List Bool} {n : Nat}
theorem RP.later (h : RP w p1 p2 u1 u2 l xs L1 L2 C v wr) (hb : Below wr.heap.size wr w1) : RP w p1 p2 u1 u2 l xs L1 L2 C v w1 := ⟨h.rw_.later hb, h.fr.later hb⟩
theorem RP.drew (h : RP w p1 p2 u1 u2 l xs L1 L2 C v wr) : RP w p1 p2 u1 u2 l xs L1 L2 C v wr.drew := h.later (Below.refl _ _).drew
theorem RP.put (h : RP w p1 p2 u1 u2 l xs L1 L2 C v wr) (k : WI wr p2 u2 L' w1) : ∃ u', RP w p1 p2 u1 u' l xs L1 L' C v w1 := by
  have hk := k.kept
  obtain ⟨u', hr⟩ := h.rw_.step2 k
  exact ⟨u', hr, own_kept h.fr.1 hk (own_footI h.rw_.w2 h.fr.1), hr.bel, h.fr.2.2⟩
theorem RP.app (h : RP w p1 p2 u1 u2 l xs L1 L2 C v w1) (hn : C.length = n) (hown : w2.ownsRow 0 3 1 v' (n + (i64s (bis C')).length) (i64s (bis C) ++ i64s (bis C'))) (hg : w1.grownBy w2 v.ownBlock) (hm : Moved w1 v v') : RP w p1 p2 u1 u2 l xs L1 L2 (C ++ C') v' w2 := by
  have hk : Kept (fun k => v.ownBlock = some k) w1 w2 := (Kept.refl _ w1).grown hg fun k hk _ => hk
  have hf := h.fr.bits_app' hn hown hg hm
  exact ⟨⟨h.rw_.w1.keep hk fun i hi e => own_footI h.rw_.w1 h.fr.1 i e hi, h.rw_.w2.keep hk fun i hi e => own_footI h.rw_.w2 h.fr.1 i e hi, h.rw_.ap, hf.2.1, h.rw_.low1, h.rw_.low2, h.rw_.old⟩, hf⟩
theorem RP.len2 (h : RP w p1 p2 u1 u2 l xs L1 L2 C v wr) (hL : L2.length ≤ 100000) : Calls Try.prog 27 #[.pointer (some ⟨p2, 0, none⟩)] wr fun e w' => e = .returned (.int .i64 (L2.length : Int)) ∧ Below wr.heap.size wr w' :=
  (len_any wr p2 u2 L2 h.rw_.w2 (by omega)).mono fun _ _ ⟨he, n, hw⟩ => ⟨he, hw ▸ below_drewN' (Below.refl _ _) n⟩
theorem RP.len1 (h : RP w p1 p2 u1 u2 l xs L1 L2 C v wr) (hL : L1.length ≤ 100000) : Calls Try.prog 27 #[.pointer (some ⟨p1, 0, none⟩)] wr fun e w' => e = .returned (.int .i64 (L1.length : Int)) ∧ Below wr.heap.size wr w' :=
  (len_any wr p1 u1 L1 h.rw_.w1 (by omega)).mono fun _ _ ⟨he, n, hw⟩ => ⟨he, hw ▸ below_drewN' (Below.refl _ _) n⟩
end
theorem RW.new {w : World} {l : Value} {xs : List Nat} (h : Sl w l (u64s xs)) : RW w w.heap.size (w.heap.size + 1) (.slice none 0 0) (.slice none 0 0) l xs [] [] ((w.alloc (.cells #[.slice none 0 0, .int .u8 0, .int .i64 0] 33)).alloc (.cells #[.slice none 0 0, .int .u8 0, .int .i64 0] 33)) := by
  have h2 := Wr.new (w.alloc (.cells #[.slice none 0 0, .int .u8 0, .int .i64 0] 33))
  have hs : (w.alloc (.cells #[.slice none 0 0, .int .u8 0, .int .i64 0] 33)).heap.size = w.heap.size + 1 := by simp
  rw [hs] at h2
  refine ⟨(Wr.new w).below ((Below.refl _ _).alloc (Nat.le_refl _) _), h2, fun i h1 h2 => ?_, ((Below.refl _ _).alloc (Nat.le_refl _) _).alloc (by simp) _, fun i hi => ?_, fun i hi => ?_, h⟩
  · have := foot_nil h1; have := foot_nil h2; omega
  · have := foot_nil hi; omega
  · have := foot_nil hi; omega
theorem RW.apart {w wr : World} {p1 p2 : Nat} {u1 u2 l : Value} {xs : List Nat} {L1 L2 : List Bool} (h : RW w p1 p2 u1 u2 l xs L1 L2 wr) (hne : u64s xs ≠ []) (g : Nat) (hg : l.ownBlock = some g) : ¬ Foot p1 u1 g ∧ g < wr.heap.size := by
  obtain ⟨g', e, hlt⟩ := h.old.block_lt hne
  rw [hg] at e
  injection e with e
  subst e
  exact ⟨fun hf => by have := h.low1 _ hf; omega, Nat.lt_of_lt_of_le hlt h.bel.size⟩

/-- The bits that PutAll leaves. -/
def paBits (xs : List Nat) (k : Int) : List Bool := if putAErr xs k = 0 then codesR xs k else []
theorem putall_gen {w W : World} {p1 p2 : Nat} {u1 u2 l : Value} {xs : List Nat} (k : Int) (h : RW w p1 p2 u1 u2 l xs [] [] W) (hx : InU xs) (hm : xs.length ≤ 200) :
    Calls Try.prog 21 #[.pointer (some ⟨p1, 0, none⟩), l, .int .i64 k] W fun e w' => e = .returned (.int .i64 (putAErr xs k)) ∧ WI W p1 u1 (paBits xs k) w' := by
  by_cases hr : paramB k = true ∧ xs.all mayB = true
  · have e : putAErr xs k = 0 := by unfold putAErr; rw [if_pos hr.1, if_pos hr.2]
    refine (rputall_ok p1 u1 [] l xs k W h.w1 (by simp) h.sl hx (by omega) h.apart hr.1 hr.2).mono ?_
    rintro _ w' ⟨rfl, hw⟩
    unfold paBits
    rw [e, if_pos rfl]
    exact ⟨rfl, hw⟩
  · refine (rputall_bad p1 l xs k W h.sl hx hr).mono ?_
    rintro _ w' ⟨rfl, hw⟩
    have e : putAErr xs k ≠ 0 := by
      unfold putAErr
      split
      · split
        · exact absurd ⟨by assumption, by assumption⟩ hr
        · decide
      · decide
    unfold paBits
    rw [if_neg e]
    exact ⟨rfl, u1, h.w1.below hw, .refl _ _, Kept.of_below' hw⟩

theorem codesR_snoc' (xs : List Nat) (x : Nat) (k : Int) : codesR (xs ++ [x]) k = codesR xs k ++ codeR x k := by simp [codesR]

namespace ricePuts
set_option maxRecDepth 100000 in
set_option maxHeartbeats 4000000 in
theorem walk_long (A : Option Addr) (c : Nat) (xs : List Nat) (k : Int) (w : World) (h1 : 200 < xs.length) :
    Calls Try.prog 4 #[.slice A xs.length c, .int .i64 k] w fun e w' => e = .returned (.bool true) ∧ Below w.heap.size w w' := by
  have h1' : (200 : Int) < xs.length := by omega
  go_enter Try.func4, Try.ntmps4
  go_wp2_with fail
  with_reducible refine (known06 _).mono ?_
  rintro e w1 ⟨rfl, hb⟩
  replace hb := hid hb
  go_wp2_with fail
  go_ret
  exact ⟨rfl, hb.out⟩

set_option maxRecDepth 100000 in
set_option maxHeartbeats 40000000 in
theorem walk_main (l : Value) (xs : List Nat) (k : Int) (w : World) (hl : Sl w l (u64s xs)) (hx : InU xs) (hm : xs.length ≤ 200) :
    Calls Try.prog 4 #[l, .int .i64 k] w fun e w' => e = .returned (.bool true) ∧ Below w.heap.size w w' := by
  obtain ⟨A, c, rfl, _⟩ := u64s_form hl
  have h1' : ¬ (200 : Int) < xs.length := by omega
  have H0 := hid (RW.new hl)
  have HPA := hid (fun W p1 p2 u1 u2 (h : RW w p1 p2 u1 u2 (.slice A xs.length c) xs [] [] W) => putall_gen k h hx hm)
  have HT := hid (fun W (h : Sl W (.slice A xs.length c) (u64s xs)) => total_any (.slice A xs.length c) xs k W h hx (by omega))
  have HAL := hid (fun W (h : Sl W (.slice A xs.length c) (u64s xs)) => refall_any (.slice A xs.length c) xs W h)
  have HP := hid (fun W => refparam_any k W)
  have HPT := hid (fun x W p u L (h : Wr W p u L) (hL : L.length ≤ 100000) (hu : x < 18446744073709551616) => rput_any W p u L x k h (by omega) hu)
  have HCD := hid (fun x W => refcode_any06 x k W)
  have HX := hid hx
  have HEr := hid (putAErr.eq_1 xs k)
  have HPb := hid (paBits.eq_1 xs k)
  have hBl := codesR_length xs k
  have hB1 := totalR_le xs k
  have HF := hid (fun j => show (codesR (xs.take j) k).length ≤ 12800 from by
    rw [codesR_length]
    have := totalR_le (xs.take j) k
    rw [List.length_take] at this
    omega)
  have HE2 := hid (fun x => putRErr.eq_1 x k)
  obtain ⟨b, hb⟩ : ∃ b, paramB k = b := ⟨_, rfl⟩
  rw [hb] at HEr HP
  simp only [hb] at HE2
  obtain ⟨E, hE⟩ : ∃ E, putAErr xs k = E := ⟨_, rfl⟩
  rw [hE] at HEr HPb
  simp only [hE] at HPA
  obtain ⟨L1, hL1⟩ : ∃ L1, paBits xs k = L1 := ⟨_, rfl⟩
  rw [hL1] at HPb
  simp only [hL1] at HPA
  clear hb hE hL1 hl hx
  go_enter Try.func4, Try.ntmps4
  go_wp2_with fail
  with_reducible refine (HPA.out _ _ _ _ _ H0.out).mono ?_
  rintro e w1 ⟨rfl, hw1⟩
  obtain ⟨u1, h1⟩ := H0.out.step1 hw1
  have H1 := hid (RP.mk (C := []) (v := .slice none 0 0) h1 ⟨World.ownsRow_nil _ _ _ _, h1.bel, by simp [Value.ownBlock]⟩)
  clear hw1 h1
  go_wp2_with fail
  go_loopw [9, 10] (fun o i wr => ∃ (j m : Nat) (A4 : Option Addr) (c4 : Nat) (u2 : Value), j ≤ xs.length ∧ i = .int .i64 j ∧ o = .slice A4 m c4 ∧ Hid ((codesR (xs.take j) k).length = m) ∧ RP w w.heap.size (w.heap.size + 1) u1 u2 (.slice A xs.length c) xs L1 (codesR (xs.take j) k) (codesR (xs.take j) k) (.slice A4 m c4) wr) (fun _ i _ => xs.length - (intOf i).toNat)
  case atStart => exact ⟨0, 0, none, 0, _, by omega, rfl, rfl, rfl, H1.out⟩
  case round =>
    obtain ⟨j, m, A4, c4, u2, hj, rfl, rfl, hlen, hrp⟩ := hrel
    have HR := hid hrp
    have hm128 : m ≤ 12800 := by have := HF.out j; rw [hlen.out] at this; exact this
    clear hrp
    by_cases hjm : j < xs.length
    · have hin : (j : Int) < xs.length := by omega
      have hj0 : (0 : Int) ≤ j := by omega
      obtain ⟨ad, rfl, hc⟩ := u64s_at HR.out.rw_.sl hjm
      have hc0 := u64s_at H0.out.old hjm
      obtain ⟨x, hxx⟩ : ∃ x, xs[j] = x := ⟨_, rfl⟩
      have hx64 := HX.out xs[j] (List.getElem_mem _)
      rw [hxx] at hc hx64
      have HXX := hid hxx
      clear hxx
      obtain ⟨f, hf⟩ : ∃ f, putRErr x k = f := ⟨_, rfl⟩
      have HPX := hid (fun W p u L (h : Wr W p u L) (hL : L.length ≤ 100000) => by have := HPT.out x W p u L h hL hx64; rw [hf] at this; exact this)
      have hfe := HE2.out x
      rw [hf] at hfe
      have HMX := hid (fun W => refmay_any x W)
      obtain ⟨d, hd⟩ : ∃ d, mayB x = d := ⟨_, rfl⟩
      rw [hd] at hfe HMX
      have HCX := hid (fun W => HCD.out x W)
      have HLX := hid (codeR_length x k)
      have hlx := costR_le x k
      obtain ⟨n2, hn2⟩ : ∃ n2, costR x k = n2 := ⟨_, rfl⟩
      rw [hn2] at hlx HLX
      simp only [hn2] at HCX
      have hcase : (b = false ∧ f = 1) ∨ (b = true ∧ d = true ∧ f = 0) ∨ (b = true ∧ d = false ∧ f = 3) := by
        cases b
        · exact .inl ⟨rfl, hfe⟩
        · cases d
          · exact .inr (.inr ⟨rfl, rfl, hfe⟩)
          · exact .inr (.inl ⟨rfl, rfl, hfe⟩)
      clear hf hd hn2 hfe hc0
      rcases hcase with ⟨rfl, rfl⟩ | ⟨rfl, rfl, rfl⟩ | ⟨rfl, rfl, rfl⟩
      all_goals (
        go_wp2_with fail
        with_reducible refine (HPX.out _ _ _ _ HR.out.rw_.w2 (by rw [hlen.out]; omega)).mono ?_
        rintro e w5 ⟨rfl, hw5⟩
        obtain ⟨u3, h5⟩ := HR.out.put hw5
        have H5 := hid h5
        obtain ⟨_, e5, hc5⟩ := u64s_at h5.rw_.sl hjm
        cases e5
        rw [HXX.out] at hc5
        clear h5 hw5 hc
        go_wp2_with fail
        with_reducible refine (HP.out _).mono ?_
        rintro e w6 ⟨rfl, rfl⟩
        go_wp2_with fail
        try (
          with_reducible refine (HMX.out _).mono ?_
          rintro e w6 ⟨rfl, rfl⟩
          go_wp2_with fail)
        with_reducible refine (HCX.out _).mono ?_
        rintro e w7 ⟨A7, c7, rfl, hf7⟩
        have H7 := hid (And.intro (H5.out.later hf7.bel) hf7)
        clear hf7
        go_wp2_with (at_builtin; go_must (refine wpList_app _ rfl (.tmp 50) (.tmp 56) 27 rfl 3 .i64 8 Try.underlying27 Try.info_int (.slice A4 m c4) m (i64s (bis (codesR (xs.take j) k))) rfl ?c1 (.slice A7 n2 c7) (i64s (bis (codeR x k))) rfl ?c2 i64s_one (by decide) ?c3 ?_); rotate_right; intro v8 w8 hown hg hmv; replace hown := hid hown; replace hg := hid hg; replace hmv := hid hmv)
        case c1 => exact H7.out.1.fr.own_of hlen.out
        case c2 => exact H7.out.2.sl
        case c3 => rw [i64s_length, bis_length, HLX.out]; omega
        have h8 := H7.out.1.app hlen.out hown.out hg.out hmv.out
        obtain ⟨A8, c8, rfl⟩ := h8.fr.form
        rw [bis_length, List.length_append, hlen.out, HLX.out] at h8 ⊢
        rw [← HXX.out, ← codesR_snoc', ← take_snocI xs j hjm] at h8
        have H8 := hid h8
        clear h8 hown hg hmv
        go_wp2_with fail
        go_roundw
        case rel =>
          refine ⟨j + 1, m + n2, A8, c8, u3, by omega, by go_num, rfl, ?_, H8.out⟩
          show (codesR (xs.take (j + 1)) k).length = m + n2
          rw [take_snocI xs j hjm, codesR_snoc', List.length_append, hlen.out, HXX.out, HLX.out]
        case measure => simp [intOf]; omega)
    · have hin : ¬ (j : Int) < xs.length := by omega
      obtain rfl : j = xs.length := by omega
      obtain ⟨B, hB⟩ : ∃ B, codesR xs k = B := ⟨_, rfl⟩
      rw [List.take_length, hB] at HR hlen
      rw [hB] at hBl HPb
      rw [← hBl] at HT
      have hB2 : B.length ≤ 12800 := by omega
      obtain rfl := hlen.out
      clear hB hBl hB1 HF HX HPT HCD HE2 hm128 hlen hj
      have hbb0 : ((B.length : Int) != (B.length : Int)) = false := by simp
      have hbb : ((B.length : Int) == (B.length : Int)) = true := by simp
      go_upto_region 19 with fail
      go_cut [71] from 13 (fun cc wx => cc = .bool false ∧ RP w w.heap.size (w.heap.size + 1) u1 u2 (.slice A xs.length c) xs L1 B B (.slice A4 B.length c4) wx)
      case first =>
        first
        | go_region_with
          (first
            | (go_at_call 25; (with_reducible refine (bytes_any _ _ _ B HR.out.drew.rw_.w2 (by omega)).mono ?_); rintro e w6 ⟨F1, A1, c1, rfl, hf, hf1, hb1⟩; have hs1 := Sl.of_own hf.1; have hstr1 := str_of w6 _ F1 hs1 hb1; have h6 := HR.out.drew.later hf.2.1; have H6 := hid (And.intro h6 (And.intro hf1 (And.intro hb1 hs1))); clear hs1 hb1 hf1 hf h6)
            | (go_at_call 26; (with_reducible refine (refbytes_any _ B _ H6.out.1.fr.sl (by omega)).mono ?_); rintro e w7 ⟨F2, A2, c2, rfl, hf, hf2, hb2⟩; obtain rfl : F2 = F1 := flat_inj hb2 H6.out.2.2.1 (hf2.trans H6.out.2.1.symm); have hstr2 := str_of w7 _ F2 (Sl.of_own hf.1) hb2; have hstr3 := str_of w7 _ F2 (H6.out.2.2.2.below hf.2.1) hb2; have h7 := H6.out.1.later hf.2.1; have H7 := hid h7; clear hb2 hf2 hf h7)
            | (go_at_call 27; (with_reducible refine (H7.out.len2 (by omega)).mono ?_); rintro e w8 ⟨rfl, hb⟩; have h8 := H7.out.later hb; have H8 := hid h8; clear hb h8))
        | fail
        all_goals (go_wp2_with fail; go_meet)
        all_goals exact ⟨rfl, H8.out⟩
      case rest =>
        obtain ⟨rfl, hrp⟩ := hcut
        have H9 := hid hrp
        clear hrp
        cases b
        · obtain rfl : E = 1 := HEr.out
          obtain rfl : L1 = [] := HPb.out
          go_wp2_with fail
          with_reducible refine (HP.out _).mono ?_
          rintro e w6 ⟨rfl, rfl⟩
          go_wp2_with fail
          with_reducible refine (H9.out.len1 (by simp)).mono ?_
          rintro e w7 ⟨rfl, hb7⟩
          have H10 := hid (H9.out.later hb7)
          clear hb7
          go_wp2_with fail
          with_reducible refine (known06 _).mono ?_
          rintro e w8 ⟨rfl, hbb⟩
          have H11 := hid (H10.out.later hbb)
          clear hbb
          go_wp2_with fail
          go_ret
          exact ⟨rfl, H11.out.fr.bel⟩
        obtain ⟨d, hd⟩ : ∃ d, xs.all mayB = d := ⟨_, rfl⟩
        rw [hd] at HEr HAL
        clear hd
        cases d
        · obtain rfl : E = 3 := HEr.out
          obtain rfl : L1 = [] := HPb.out
          go_wp2_with fail
          with_reducible refine (HP.out _).mono ?_
          rintro e w6 ⟨rfl, rfl⟩
          go_wp2_with fail
          with_reducible refine (HAL.out _ H9.out.rw_.sl).mono ?_
          rintro e w6 ⟨rfl, rfl⟩
          go_wp2_with fail
          with_reducible refine (H9.out.len1 (by simp)).mono ?_
          rintro e w7 ⟨rfl, hb7⟩
          have H10 := hid (H9.out.later hb7)
          clear hb7
          go_wp2_with fail
          with_reducible refine (known06 _).mono ?_
          rintro e w8 ⟨rfl, hbb⟩
          have H11 := hid (H10.out.later hbb)
          clear hbb
          go_wp2_with fail
          go_ret
          exact ⟨rfl, H11.out.fr.bel⟩
        · obtain rfl : E = 0 := HEr.out
          obtain rfl : L1 = B := HPb.out
          go_wp2_with fail
          with_reducible refine (HP.out _).mono ?_
          rintro e w6 ⟨rfl, rfl⟩
          go_wp2_with fail
          with_reducible refine (HAL.out _ H9.out.rw_.sl).mono ?_
          rintro e w6 ⟨rfl, rfl⟩
          go_wp2_with fail
          have HZ := hid hB2
          first
          | go_region_with
            (first
              | (go_at_call 27; (with_reducible refine (H9.out.drew.len1 (by omega)).mono ?_); rintro e w14 ⟨rfl, hb⟩; have h14 := H9.out.drew.later hb; have H14 := hid h14; clear hb h14)
              | (go_at_call 18; (with_reducible refine (HT.out _ H14.out.rw_.sl).mono ?_); rintro e w15 ⟨rfl, hb⟩; have h15 := H14.out.later hb; have H15 := hid h15; clear hb h15)
              | (go_at_call 25; (with_reducible refine (bytes_any _ _ _ _ H15.out.rw_.w1 (by omega)).mono ?_); rintro e w16 ⟨F1, A1, c1, rfl, hf, hf1, hb1⟩; have hs1 := Sl.of_own hf.1; have hstr1 := str_of w16 _ F1 hs1 hb1; have h16 := H15.out.later hf.2.1; have H16 := hid (And.intro h16 (And.intro hf1 (And.intro hb1 hs1))); clear hs1 hb1 hf1 hf h16)
              | (go_at_call 26; (with_reducible refine (refbytes_any _ _ _ H16.out.1.fr.sl (by omega)).mono ?_); rintro e w17 ⟨F2, A2, c2, rfl, hf, hf2, hb2⟩; obtain rfl : F2 = F1 := flat_inj hb2 H16.out.2.2.1 (hf2.trans H16.out.2.1.symm); have hstr2 := str_of w17 _ F2 (Sl.of_own hf.1) hb2; have hstr3 := str_of w17 _ F2 (H16.out.2.2.2.below hf.2.1) hb2; have h17 := H16.out.1.later hf.2.1; have H17 := hid h17; clear hb2 hf2 hf h17)
              | (go_at_call 15; (with_reducible refine (known06 _).mono ?_); rintro e w18 ⟨rfl, hb⟩; have h18 := H17.out.later hb; have H18 := hid h18.fr.bel; clear hb h18))
          | fail
          all_goals (go_wp2_with fail)
          all_goals (go_ret)
          all_goals exact ⟨rfl, H18.out⟩

theorem walk {l : Value} {xs : List Nat} {k : Int} {w : World} (hl : Sl w l (u64s xs)) (hx : InU xs) :
    Calls Try.prog 4 #[l, .int .i64 k] w fun e w' => e = .returned (.bool true) ∧ Below w.heap.size w w' := by
  by_cases h : 200 < xs.length
  · obtain ⟨A, c, rfl, _⟩ := u64s_form hl
    exact walk_long A c xs k w h
  · exact walk_main l xs k w hl hx (by omega)
end ricePuts
end Go.Proofs.Ytgjiffpiffphfaa
