/- The walk of RiceBack. -/
import Derived.Test.YtgjiffpiffphfaaEW
import Derived.Test.YtgjiffpiffphfaaRBackP
import Derived.Test.YtgjiffpiffphfaaRef02b
import Derived.Test.YtgjiffpiffphfaaUints06
import Derived.Test.YtgjiffpiffphfaaKnown06
import Derived.Test.YtgjiffpiffphfaaBitAt
import Derived.Deep.RegionHeld3
import Derived.Deep.RegionWith
import Derived.Deep.CutRange
namespace Go.Proofs.Ytgjiffpiffphfaa
open Go.RowKit

namespace riceBack
set_option maxRecDepth 100000 in
set_option maxHeartbeats 4000000 in
theorem walk_long (A A1 : Option Addr) (c c1 n m : Nat) (k : Int) (w : World) (h : 200 < n ∨ 200 < m ∨ paramB k = false) :
    Calls Try.prog 14 #[.slice A n c, .slice A1 m c1, .int .i64 k] w fun e w' => e = .returned (.bool true) ∧ Below w.heap.size w w' := by
  have HP := hid (fun W => refparam_any k W)
  by_cases h1 : 200 < n
  · have h1' : (200 : Int) < n := by omega
    go_enter Try.func14, Try.ntmps14
    go_wp2_with fail
    with_reducible refine (known06 _).mono ?_
    rintro e w1 ⟨rfl, hb⟩
    replace hb := hid hb
    go_wp2_with fail
    go_ret
    exact ⟨rfl, hb.out⟩
  by_cases h2 : 200 < m
  · have h1' : ¬ (200 : Int) < n := by omega
    have h2' : (200 : Int) < m := by omega
    go_enter Try.func14, Try.ntmps14
    go_wp2_with fail
    with_reducible refine (known06 _).mono ?_
    rintro e w1 ⟨rfl, hb⟩
    replace hb := hid hb
    go_wp2_with fail
    go_ret
    exact ⟨rfl, hb.out⟩
  · have h1' : ¬ (200 : Int) < n := by omega
    have h2' : ¬ (200 : Int) < m := by omega
    have h3 : paramB k = false := by rcases h with h | h | h <;> first | exact h | omega
    rw [h3] at HP
    clear h3 h
    go_enter Try.func14, Try.ntmps14
    go_wp2_with fail
    with_reducible refine (HP.out w).mono ?_
    rintro e w1 ⟨rfl, rfl⟩
    go_wp2_with fail
    with_reducible refine (known06 _).mono ?_
    rintro e w1 ⟨rfl, hb⟩
    replace hb := hid hb
    go_wp2_with fail
    go_ret
    exact ⟨rfl, hb.out⟩

/-- PutAll, whatever comes of it. -/
theorem putall_both (W : World) (p : Nat) (u l : Value) (xs : List Nat) (k : Nat) {w : World} (h : EW w p u l xs [] W) (hx : InU xs) (hm : xs.length ≤ 200) :
    Calls Try.prog 21 #[.pointer (some ⟨p, 0, none⟩), l, .int .i64 (k : Int)] W fun e w' => e = .returned (.int .i64 (putAErr xs k)) ∧ (putAErr xs k = 0 → WI W p u (codesR xs k) w') ∧ (putAErr xs k ≠ 0 → Below W.heap.size W w') := by
  by_cases hr : paramB (k : Int) = true ∧ xs.all mayB = true
  · have e : putAErr xs k = 0 := by unfold putAErr; rw [if_pos hr.1, if_pos hr.2]
    refine (rputall_ok p u [] l xs k W h.ww (by simp) h.sl hx (by omega) h.apart hr.1 hr.2).mono ?_
    rintro _ w' ⟨rfl, hw⟩
    rw [e]
    exact ⟨rfl, fun _ => hw, fun h => absurd rfl h⟩
  · refine (rputall_bad p l xs k W h.sl hx hr).mono ?_
    rintro _ w' ⟨rfl, hw⟩
    refine ⟨rfl, fun h0 => absurd h0 ?_, fun _ => by first | exact hw | (subst hw; exact Below.refl _ _)⟩
    unfold putAErr
    split
    · split
      · exact absurd ⟨by assumption, by assumption⟩ hr
      · decide
    · decide

set_option maxRecDepth 100000 in
set_option maxHeartbeats 40000000 in
theorem walk_main (l : Value) (A1 : Option Addr) (c1 : Nat) (xs F : List Nat) (k : Nat) (w : World) (hl : Sl w l (u64s xs)) (hx : InU xs) (hm : xs.length ≤ 200) (hv : Sl w (.slice A1 F.length c1) (u8s F)) (hb : ∀ x ∈ F, x < 256) (hF : F.length ≤ 200) (hk : k ≤ 30) :
    Calls Try.prog 14 #[l, .slice A1 F.length c1, .int .i64 (k : Int)] w fun e w' => e = .returned (.bool true) ∧ Below w.heap.size w w' := by
  obtain ⟨A, c, rfl, _⟩ := u64s_form hl
  have h1' : ¬ (200 : Int) < xs.length := by omega
  have h2' : ¬ (200 : Int) < F.length := by omega
  have HP := hid (fun W => refparam_any (k : Int) W)
  rw [(paramB_iff (k : Int)).2 (by omega)] at HP
  have H0 := hid (EW.new hl)
  have HPA := hid (fun W p u (h : EW w p u (.slice A xs.length c) xs [] W) => putall_both W p u _ xs k h hx hm)
  have hBl := codesR_length xs k
  have hB1 := totalR_le xs k
  have HGA : Hid (∀ (W : World) (q : Nat) (v : Value) (F1 : List Nat), Rd W q v F1 0 → flat F1 = padded (codesR xs k) → putAErr xs k = 0 → (∀ g, v.ownBlock = some g → g < W.heap.size) →
      Calls Try.prog 52 #[.pointer (some ⟨q, 0, none⟩), .int .i64 (xs.length : Int), .int .i64 (k : Int)] W fun e w' => ∃ A c, e = .returned (.tuple #[.slice A xs.length c, .int .i64 0]) ∧ GU (fun w' j => Rd w' q v F1 j) W q (codesR xs k).length xs (.slice A xs.length c) w') := by
    intro W q v F1 h hf hxs hv
    have g := rgetall_any W q v F1 0 k xs.length h hk (by omega) hv
    have ha : ∀ x ∈ xs, x < 1099511627776 := by
      unfold putAErr at hxs
      split at hxs
      · split at hxs
        · rename_i h2
          rw [List.all_eq_true] at h2
          exact fun x hx => (mayB_iff x).1 (h2 x hx)
        · cases hxs
      · cases hxs
    have e := rgS_codes (L := padded (codesR xs k)) (T := List.replicate ((8 - (codesR xs k).length % 8) % 8) false) hk xs.length xs (Nat.le_refl _) ha rfl
    rw [List.take_length] at e
    rw [hf, e] at g
    exact g
  have H := hid (And.intro hl (And.intro hv hb))
  have HGT := hid (fun W q v j (h : Rd W q v F j) => rget_any W q v F j k h hk)
  have HCV := hid (fun j (h : j ≤ (flat F).length) => And.intro (rgT_conv (L := flat F) (i := j) hk h) (rgT_bad (L := flat F) (i := j) (k := k)))
  obtain ⟨x, hxx⟩ : ∃ x, putAErr xs k = x := ⟨_, rfl⟩
  obtain ⟨B, hB⟩ : ∃ B, codesR xs k = B := ⟨_, rfl⟩
  rw [hB] at hBl
  simp only [hxx, hB] at HPA HGA
  have hBl2 : B.length ≤ 12800 := by omega
  clear hxx hB hBl hB1 hl hx hv hb
  go_enter Try.func14, Try.ntmps14
  go_wp2_with fail
  with_reducible refine (HP.out w).mono ?_
  rintro e w1 ⟨rfl, rfl⟩
  go_wp2_with fail
  with_reducible refine (HPA.out _ _ _ H0.out).mono ?_
  rintro e w1 ⟨rfl, hw1⟩
  have H1 := hid hw1
  clear hw1
  go_upto_if 39 with fail
  go_cut [] from 19 (fun wx => Below w.heap.size w wx)
  case first =>
    by_cases hx0 : x = 0
    · subst hx0
      obtain ⟨u, h1⟩ := H0.out.step (H1.out.1 rfl)
      have H2 := hid h1
      clear h1
      go_wp2_with fail
      with_reducible refine (bytes_any w1 _ u B H2.out.ww (by omega)).mono ?_
      rintro e w2 ⟨F1, A2, c2, rfl, hf, hfl, hby⟩
      have hlen : F1.length ≤ 2000 := by
        have h := congrArg List.length hfl
        rw [flat_length] at h
        unfold padded at h
        rw [List.length_append, List.length_replicate] at h
        omega
      have H3 := hid (And.intro (H2.out.later hf.2.1) (And.intro (Sl.of_own hf.1) (And.intro hfl hby)))
      clear hf hfl hby
      go_wp2_with fail
      with_reducible refine (read_any w2 _ F1 H3.out.2.1 (by omega) H3.out.2.2.2).mono ?_
      rintro e w3 ⟨q, vq, rfl, hrd, hb3, hq, hvq⟩
      have H4 := hid (And.intro (H3.out.1.later hb3) (And.intro hrd (And.intro hq (And.intro (fun g (hg : vq.ownBlock = some g) => Nat.lt_trans (hvq g hg).2 hrd.blk.lt) (show ¬ Foot w.heap.size u q from fun hf => by have := H3.out.1.ww.footlt hf; omega)))))
      clear hrd hb3 hq hvq
      go_wp2_with fail
      with_reducible refine (HGA.out w3 q vq F1 H4.out.2.1 H3.out.2.2.1 (by trivial) H4.out.2.2.2.1).mono ?_
      rintro e w4 ⟨A4, c4, rfl, hg4⟩
      have H5 := hid (And.intro (H4.out.1.kept hg4.kp (Nat.le_trans H3.out.1.bel.size H4.out.2.2.1) H4.out.2.2.2.2) (And.intro hg4.rd (Sl.of_own hg4.own)))
      clear hg4
      have hbb : ((B.length : Int) != (B.length : Int)) = false := by simp
      go_wp2_with fail
      with_reducible refine (uints_any _ _ xs xs _ H5.out.1.sl H5.out.2.2).mono ?_
      rintro e w5 ⟨he5, n5, hw5⟩
      rw [decide_eq_true rfl] at he5
      subst he5
      have H6 := hid (And.intro (H5.out.1.later (w1 := w5) (hw5 ▸ below_drewN' (.refl _ _) n5)) (H5.out.2.1.below (w' := w5) (hw5 ▸ below_drewN' (.refl _ _) n5)))
      clear hw5
      go_wp2_with fail
      with_reducible refine (at_any _ _ _ _ _ H6.out.2).mono ?_
      rintro e w6 ⟨rfl, rfl⟩
      go_wp2_with fail
      with_reducible refine (H6.out.1.len (by omega)).mono ?_
      rintro e w7 ⟨rfl, hb7⟩
      have H7 := hid (H6.out.1.later hb7)
      clear hb7
      go_wp2_with fail
      go_meet
      case rel => exact H7.out.bel
    · have hx1 : (x == 0) = false := by rw [beq_eq_false_iff_ne]; exact hx0
      have H2 := hid (H0.out.later (H1.out.2 hx0))
      go_wp2_with fail
      go_meet
      case rel => exact H2.out.bel
  case rest =>
    have HB := hid hcut
    clear hcut
    go_wp2_with fail
    with_reducible refine (read_any wc _ F (H.out.2.1.below HB.out) (by omega) H.out.2.2).mono ?_
    rintro e w2 ⟨q, vq, rfl, hr⟩
    have HR := hid (RS.new HB.out hr)
    clear hr
    go_wp2_with fail
    go_loopw [12] (fun i wr => ∃ n j : Nat, n ≤ 20 ∧ i = .int .i64 n ∧ RS w q vq F j wr) (fun i _ => 20 - (intOf i).toNat)
    case atStart => exact ⟨0, 0, by omega, rfl, HR.out⟩
    case round =>
      obtain ⟨n, j, hn, rfl, hrs⟩ := hrel
      have HRS := hid hrs
      have hjl := hrs.rd.at_
      rw [← flat_length] at hjl
      obtain ⟨hcv, hbad⟩ := HCV.out j hjl
      have HG := HGT.out wr q vq j hrs.rd
      obtain ⟨r, hr⟩ : ∃ r, rgT (flat F) j k = r := ⟨_, rfl⟩
      rw [hr] at hcv hbad HG
      clear hr hrs
      obtain ⟨x, e1, a⟩ := r
      replace hcv : e1 = 0 → x < 1099511627776 ∧ a = j + costK x k ∧ a ≤ (flat F).length ∧ (flat F).drop j = codeK x k ++ (flat F).drop a := hcv
      replace hbad : e1 ≠ 0 → x = 0 := hbad
      replace HG := hid HG
      by_cases hn20 : n < 20
      · have hin : (n : Int) < 20 := by omega
        by_cases he : e1 = 0
        · subst he
          obtain ⟨hx40, ha, hal, hdr⟩ := hcv rfl
          have HC := hid (And.intro hdr hjl)
          have HA := hid (And.intro ha hal)
          have hal0 : a ≤ 1600 := by rw [flat_length] at hal; omega
          have hjl0 : j ≤ 1600 := by rw [flat_length] at hjl; omega
          clear hcv hbad hdr hjl ha hal
          go_wp2_with fail
          with_reducible refine (at_any _ _ _ _ _ HRS.out.rd).mono ?_
          rintro e w3 ⟨rfl, rfl⟩
          go_wp2_with fail
          with_reducible refine HG.out.mono ?_
          rintro e w3 ⟨rfl, hri⟩
          have H3 := hid (HRS.out.get hri)
          clear hri
          go_wp2_with fail
          with_reducible refine (refread_any _ _ F ((H.out.2.1.below H3.out.bel).alloc _) (by omega) H.out.2.2).mono ?_
          rintro e w4 ⟨q2, v2, rfl, hr2⟩
          have H4 := hid (RX.new (j := j) H3.out hr2 HC.out.2)
          have hc4 := hr2.1.blk.cell 1
          have hc4' := hr2.1.blk.frozen 1
          clear hr2
          go_wp2_with fail
          have hlk := codeK_length x k
          obtain ⟨B2, hB2⟩ : ∃ B2, codeK x k = B2 := ⟨_, rfl⟩
          have HPU := hid (fun W p u (h : Wr W p u []) => rput_ok W p u [] x k h (by simp) hx40 hk)
          have hck := costK_le x k hk
          rw [hB2] at hlk HC HPU
          rw [List.nil_append] at HPU
          have hB64 : B2.length ≤ 64 := by omega
          have hcmp : ((B2.length : Int) != (a : Int) - (j : Int)) = false := by rw [bne_eq_false_iff_eq]; have := HA.out.1; omega
          clear hB2 hlk hck
          with_reducible refine (HPU.out _ _ _ H4.out.ww).mono ?_
          rintro e w5 ⟨rfl, hw5⟩
          obtain ⟨u2, h5⟩ := H4.out.put hw5
          have H5 := hid h5
          clear h5 hw5
          go_wp2_with fail
          with_reducible refine (len_any _ _ _ _ H5.out.ww (by omega)).mono ?_
          rintro e w6 ⟨rfl, n6, hw6⟩
          have H6 := hid (H5.out.later (w1 := w6) (hw6 ▸ below_drewN' (.refl _ _) n6))
          clear hw6
          go_wp2_with fail
          with_reducible refine (at_any _ _ _ _ _ H6.out.rs.rd).mono ?_
          rintro e w7 ⟨rfl, rfl⟩
          go_wp2_with fail
          go_loopw [18] (fun m wr2 => ∃ m' : Nat, m' ≤ B2.length ∧ m = .int .i64 m' ∧ RX w q vq F a w3.heap.size u2 B2 q2 v2 j wr2) (fun m _ => B2.length - (intOf m).toNat)
          case atStart => exact ⟨0, by omega, rfl, H6.out⟩
          case round =>
            obtain ⟨m', hm', rfl, hrx⟩ := hrel
            have HX := hid hrx
            clear hrx
            by_cases hmm : m' < B2.length
            · have hin2 : (m' : Int) < B2.length := by omega
              obtain ⟨b0, hb1, hb2⟩ : ∃ b0, B2[m']? = some b0 ∧ (flat F)[j + m']? = some b0 := by
                refine ⟨B2[m'], List.getElem?_eq_getElem hmm, ?_⟩
                rw [← List.getElem?_drop, HC.out.1, List.getElem?_append_left hmm, List.getElem?_eq_getElem hmm]
              go_wp2_with fail
              with_reducible refine (len_any _ _ _ _ HX.out.ww (by omega)).mono ?_
              rintro e w8 ⟨rfl, n8, hw8⟩
              have H8 := hid (HX.out.later (w1 := w8) (hw8 ▸ below_drewN' (.refl _ _) n8))
              clear hw8
              obtain ⟨A9, c9, rfl⟩ : ∃ A9 c9, v2 = .slice A9 (flat F).length c9 := by
                obtain ⟨A9, c9, e, _⟩ := H8.out.rr.sl.form
                rw [i64s_length, bis_length] at e
                exact ⟨A9, c9, e⟩
              have hyl := (List.getElem?_eq_some_iff.1 hb2).1
              have hjl2 := HC.out.2
              have hF8 : (flat F).length ≤ 1600 := by rw [flat_length]; omega
              obtain ⟨y, hy⟩ : ∃ y, j + m' = y := ⟨_, rfl⟩
              rw [hy] at hb2 hyl
              obtain ⟨ad, rfl, hl2⟩ := bit_at H8.out.rr.sl hb2
              have hl1 := H8.out.cells
              have hjm : IntKind.i64.wrap ((j : Int) + (m' : Int)) = (y : Int) := by rw [IntWalk.i64_in _ (by omega)]; omega
              have hy0 : (0 : Int) ≤ (y : Int) := by omega
              have hy1 : (y : Int) < ((flat F).length : Int) := by omega
              have hm0 : (0 : Int) ≤ (m' : Int) := by omega
              have hbi : (bi b0 != bi b0) = false := by simp
              have HY := hid (And.intro hy (And.intro hyl hF8))
              clear hy hyl hF8 hjl2
              go_wp2_with fail
              go_upto_region 25 with fail
              go_cut [130] from 109 to 130 (fun c wx => c = .bool false ∧ RX w q vq F a w3.heap.size u2 B2 q2 (.slice (some ad) (flat F).length c9) j wx)
              case first =>
                first
                | go_region_with
                  (first
                    | (go_at_call 25; go_must (refine (bytes_any _ _ _ _ H8.out.drew.ww (by omega)).mono ?_); rintro e w9 ⟨F9, A10, c10, rfl, hf, hfl, hby⟩; have h9 := H8.out.drew.later hf.2.1; have k1 := h9.cells; obtain ⟨_, e9, k2⟩ := bit_at h9.rr.sl hb2; cases e9; have H9 := hid (And.intro h9 (And.intro (Sl.of_own hf.1) (And.intro hfl hby))); clear hf hfl hby h9)
                    | (go_at_call 51; go_must (refine (refof_any _ F9 _ H9.out.2.1 ?_ H9.out.2.2.2).mono ?_); (exact bytes_few H9.out.2.2.1 (by omega)); rintro e w10 ⟨A11, c11, rfl, hf⟩; have h10 := H9.out.1.later hf.2.1; have m1 := h10.cells; obtain ⟨_, e10, m2⟩ := bit_at h10.rr.sl hb2; cases e10; obtain ⟨ad2, rfl, m3⟩ := bit_at (L := flat F9) hf.sl (b := b0) (i := m') (by rw [H9.out.2.2.1]; unfold padded; rw [List.getElem?_append_left hmm]; exact hb1); have n3 : (m' : Int) < ((bis (flat F9)).length : Int) := len_in H9.out.2.2.1 hmm; have H10 := hid h10; clear hf h10))
                | fail
                all_goals (go_wp2_with fail; go_meet)
                all_goals exact ⟨rfl, H10.out⟩
              case rest =>
                obtain ⟨rfl, hrx⟩ := hcut
                have H10 := hid hrx
                clear hrx
                go_wp2_with fail
                go_roundw
                case rel => exact ⟨m' + 1, by omega, by go_num, H10.out⟩
                case measure => simp [intOf]; omega
            · have hin2 : ¬ (m' : Int) < B2.length := by omega
              go_wp2_with fail
              with_reducible refine (len_any _ _ _ _ HX.out.ww (by omega)).mono ?_
              rintro e w8 ⟨rfl, n8, hw8⟩
              have H8 := hid (HX.out.later (w1 := w8) (hw8 ▸ below_drewN' (.refl _ _) n8))
              clear hw8
              go_wp2_with fail
              go_roundw
              case rel => exact ⟨n + 1, a, by omega, by go_num, H8.out.rs⟩
              case measure => simp [intOf]; omega
        · have he' : (e1 != 0) = true := by rw [bne_iff_ne]; exact he
          obtain rfl := hbad he
          clear hcv hbad
          go_wp2_with fail
          with_reducible refine (at_any _ _ _ _ _ HRS.out.rd).mono ?_
          rintro e w3 ⟨rfl, rfl⟩
          go_wp2_with fail
          with_reducible refine HG.out.mono ?_
          rintro e w3 ⟨rfl, hri⟩
          have H3 := hid (HRS.out.get hri)
          clear hri
          go_wp2_with fail
          with_reducible refine (known06 _).mono ?_
          rintro e w4 ⟨rfl, hbb⟩
          have H4 := hid (H3.out.later hbb)
          clear hbb
          go_wp2_with fail
          go_ret
          exact ⟨rfl, H4.out.bel⟩
      · have hin : ¬ (n : Int) < 20 := by omega
        clear hcv hbad
        go_wp2_with fail
        with_reducible refine (known06 _).mono ?_
        rintro e w4 ⟨rfl, hbb⟩
        have H4 := hid (HRS.out.later hbb)
        clear hbb
        go_wp2_with fail
        go_ret
        exact ⟨rfl, H4.out.bel⟩

theorem walk {l : Value} {xs F : List Nat} {A1 : Option Addr} {c1 : Nat} {k : Int} {w : World} (hl : Sl w l (u64s xs)) (hx : InU xs) (hv : Sl w (.slice A1 F.length c1) (u8s F)) (hb : ∀ x ∈ F, x < 256) :
    Calls Try.prog 14 #[l, .slice A1 F.length c1, .int .i64 k] w fun e w' => e = .returned (.bool true) ∧ Below w.heap.size w w' := by
  by_cases h : 200 < xs.length ∨ 200 < F.length ∨ paramB k = false
  · obtain ⟨A, c, rfl, _⟩ := u64s_form hl
    exact walk_long A A1 c c1 _ _ k w h
  · have hp : paramB k = true := by
      cases e : paramB k
      · exact absurd (.inr (.inr e)) h
      · rfl
    obtain ⟨h0, h30⟩ := (paramB_iff k).1 hp
    obtain ⟨k, rfl⟩ := Int.eq_ofNat_of_zero_le h0
    exact walk_main l A1 c1 xs F k w hl hx (by omega) hv hb (by omega) (by omega)
end riceBack
end Go.Proofs.Ytgjiffpiffphfaa
