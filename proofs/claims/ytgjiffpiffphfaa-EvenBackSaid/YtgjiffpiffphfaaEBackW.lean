/- The walk of EvenBack. -/
import Derived.Test.YtgjiffpiffphfaaEW
import Derived.Test.YtgjiffpiffphfaaEBackP
import Derived.Test.YtgjiffpiffphfaaERef
import Derived.Test.YtgjiffpiffphfaaRef02b
import Derived.Test.YtgjiffpiffphfaaUints06
import Derived.Test.YtgjiffpiffphfaaKnown08
import Derived.Test.YtgjiffpiffphfaaBitAt
import Derived.Deep.Quiet
import Derived.Deep.QuietTactic
import Derived.Deep.Cut
namespace Go.Proofs.Ytgjiffpiffphfaa
open Go.RowKit

namespace evenBack
theorem egS_bad {L : List Bool} {k i : Nat} : ∀ {n : Nat} {x : Int}, egS L k i n = .error x → x ≠ 0
  | 0, x, h => by rw [egS] at h; cases h
  | n + 1, x, h => by
    cases e : egS L k i n with
    | error y =>
      rw [egS, e] at h
      injection h with h
      subst h
      exact egS_bad e
    | ok a =>
      obtain ⟨l', j'⟩ := a
      rw [egS_step e] at h
      split at h
      · cases h
      · injection h with h
        rename_i hne
        exact h ▸ hne

theorem codesE_le (xs : List Nat) {k : Nat} (h1 : 1 ≤ k) (h2 : k ≤ 1099511627776) : (codesE xs k).length ≤ xs.length * 40 := by
  induction xs with
  | nil => simp [codesE]
  | cons y ys ih =>
    have h := costE_le y h1 h2
    have e : codesE (y :: ys) k = codeE y k ++ codesE ys k := rfl
    rw [e, List.length_append, codeE_length, List.length_cons]
    omega

set_option maxRecDepth 100000 in
set_option maxHeartbeats 4000000 in
theorem walk_long (A A1 : Option Addr) (c c1 n m : Nat) (k : Nat) (w : World) (h : 200 < n ∨ 200 < m ∨ spanB k = false) :
    Calls Try.prog 11 #[.slice A n c, .slice A1 m c1, .int .u64 (k : Int)] w fun e w' => e = .returned (.bool true) ∧ Below w.heap.size w w' := by
  have HP := hid (fun W => refspan_any k W)
  by_cases h1 : 200 < n
  · have h1' : (200 : Int) < n := by omega
    go_enter Try.func11, Try.ntmps11
    go_wp2_with fail
    with_reducible refine (known08 _).mono ?_
    rintro e w1 ⟨rfl, hb⟩
    replace hb := hid hb
    go_wp2_with fail
    go_ret
    exact ⟨rfl, hb.out⟩
  by_cases h2 : 200 < m
  · have h1' : ¬ (200 : Int) < n := by omega
    have h2' : (200 : Int) < m := by omega
    go_enter Try.func11, Try.ntmps11
    go_wp2_with fail
    with_reducible refine (known08 _).mono ?_
    rintro e w1 ⟨rfl, hb⟩
    replace hb := hid hb
    go_wp2_with fail
    go_ret
    exact ⟨rfl, hb.out⟩
  · have h1' : ¬ (200 : Int) < n := by omega
    have h2' : ¬ (200 : Int) < m := by omega
    have h3 : spanB k = false := by rcases h with h | h | h <;> first | exact h | omega
    rw [h3] at HP
    clear h3 h
    go_enter Try.func11, Try.ntmps11
    go_wp2_with fail
    with_reducible refine (HP.out w).mono ?_
    rintro e w1 ⟨rfl, rfl⟩
    go_wp2_with fail
    with_reducible refine (known08 _).mono ?_
    rintro e w1 ⟨rfl, hb⟩
    replace hb := hid hb
    go_wp2_with fail
    go_ret
    exact ⟨rfl, hb.out⟩

/-- PutAll, whatever comes of it. -/
theorem putall_both (W : World) (p : Nat) (u l : Value) (xs : List Nat) (k : Nat) {w : World} (h : EW w p u l xs [] W) (hx : InU xs) (hm : xs.length ≤ 200) :
    Calls Try.prog 43 #[.pointer (some ⟨p, 0, none⟩), l, .int .u64 (k : Int)] W fun e w' => e = .returned (.int .i64 (ePErr xs k)) ∧ (ePErr xs k = 0 → WI W p u (codesE xs k) w') ∧ (ePErr xs k ≠ 0 → Below W.heap.size W w') := by
  by_cases hr : spanB k = true ∧ belowB xs k = true
  · have e : ePErr xs k = 0 := by unfold ePErr; rw [if_pos hr.1, if_pos hr.2]
    refine (eputall_ok p u [] l xs k W h.ww (by simp) h.sl hx (by omega) h.apart hr.1 hr.2).mono ?_
    rintro _ w' ⟨rfl, hw⟩
    rw [e]
    exact ⟨rfl, fun _ => hw, fun h => absurd rfl h⟩
  · refine (eputall_bad p l xs k W h.sl hx hr).mono ?_
    rintro _ w' ⟨rfl, hw⟩
    refine ⟨rfl, fun h0 => absurd h0 ?_, fun _ => by first | exact hw | (subst hw; exact Below.refl _ _)⟩
    unfold ePErr
    split
    · split
      · exact absurd ⟨by assumption, by assumption⟩ hr
      · decide
    · decide

set_option maxRecDepth 100000 in
set_option maxHeartbeats 40000000 in
theorem walk_main (l : Value) (A1 : Option Addr) (c1 : Nat) (xs F : List Nat) (k : Nat) (w : World) (hl : Sl w l (u64s xs)) (hx : InU xs) (hm : xs.length ≤ 200) (hv : Sl w (.slice A1 F.length c1) (u8s F)) (hb : ∀ x ∈ F, x < 256) (hF : F.length ≤ 200) (hk : spanB k = true) :
    Calls Try.prog 11 #[l, .slice A1 F.length c1, .int .u64 (k : Int)] w fun e w' => e = .returned (.bool true) ∧ Below w.heap.size w w' := by
  obtain ⟨A, c, rfl, _⟩ := u64s_form hl
  have h1' : ¬ (200 : Int) < xs.length := by omega
  have h2' : ¬ (200 : Int) < F.length := by omega
  have HP := hid (fun W => refspan_any k W)
  rw [hk] at HP
  have H0 := hid (EW.new hl)
  have HPA := hid (fun W p u (h : EW w p u (.slice A xs.length c) xs [] W) => putall_both W p u _ xs k h hx hm)
  obtain ⟨k1, k2⟩ := (spanB_iff k).1 hk
  have hBl := codesE_le xs k1 k2
  have HGA : Hid (∀ (W : World) (q : Nat) (v : Value) (F1 : List Nat), Rd W q v F1 0 → flat F1 = padded (codesE xs k) → ePErr xs k = 0 → (∀ g, v.ownBlock = some g → g < W.heap.size) →
      Calls Try.prog 42 #[.pointer (some ⟨q, 0, none⟩), .int .i64 (xs.length : Int), .int .u64 (k : Int)] W fun e w' => ∃ A c, e = .returned (.tuple #[.slice A xs.length c, .int .i64 0]) ∧ GU (fun w' j => Rd w' q v F1 j) W q (codesE xs k).length xs (.slice A xs.length c) w') := by
    intro W q v F1 h hf hxs hv
    have g := egetall_any W q v F1 0 k xs.length h hk (by omega) hv
    have ha : ∀ x ∈ xs, x < k := by
      by_cases h2 : belowB xs k = true
      · unfold belowB at h2
        rw [List.all_eq_true] at h2
        exact fun x hx => by simpa using h2 x hx
      · unfold ePErr at hxs
        rw [if_pos hk, if_neg h2] at hxs
        exact absurd hxs (by decide)
    have e := egS_codes (L := padded (codesE xs k)) (T := List.replicate ((8 - (codesE xs k).length % 8) % 8) false) k1 k2 xs.length xs (Nat.le_refl _) ha rfl
    rw [List.take_length] at e
    rw [hf, e] at g
    exact g
  have H := hid (And.intro hl (And.intro hv hb))
  have hk2 := hk
  obtain ⟨S, hS⟩ : ∃ S, egS (flat F) k 0 5 = S := ⟨_, rfl⟩
  have HG5 : Hid (∀ (W : World) (q : Nat) (v : Value) (F' : List Nat), Rd W q v F' 0 → F' = F → (∀ g, v.ownBlock = some g → g < W.heap.size) →
      Calls Try.prog 42 #[.pointer (some ⟨q, 0, none⟩), .int .i64 5, .int .u64 (k : Int)] W (GAPost (fun w' j => Rd w' q v F j) W q S 5)) := by
    intro W q v F' h e hvv
    subst e
    have g := egetall_any W q v F' 0 k 5 h hk (by omega) hvv
    rw [hS] at g
    exact g
  have HSE := hid (fun x (h : S = .error x) => show x ≠ 0 from by have := egS_bad (hS.trans h); exact this)
  have HSO := hid (fun m j (h : S = .ok (m, j)) => by
    have e := hS.trans h
    obtain ⟨c1, c2, c3, c4⟩ := egS_conv k1 k2 5 m j e
    exact And.intro c1 (And.intro c2 (And.intro c3 (And.intro c4 (egS_len e)))))
  obtain ⟨x, hxx⟩ : ∃ x, ePErr xs k = x := ⟨_, rfl⟩
  obtain ⟨B, hB⟩ : ∃ B, codesE xs k = B := ⟨_, rfl⟩
  rw [hB] at hBl
  simp only [hxx, hB] at HPA HGA
  have hBl2 : B.length ≤ 12800 := by omega
  clear hxx hB hBl hl hx hv hb hS
  go_enter Try.func11, Try.ntmps11
  go_wp2_with fail
  with_reducible refine (HP.out w).mono ?_
  rintro e w1 ⟨rfl, rfl⟩
  go_wp2_with fail
  with_reducible refine (HPA.out _ _ _ H0.out).mono ?_
  rintro e w1 ⟨rfl, hw1⟩
  have H1 := hid hw1
  clear hw1
  go_upto_if 38 with fail
  go_cut [] from 18 (fun wx => Below w.heap.size w wx)
  case first =>
    by_cases hx0 : x = 0
    · subst hx0
      obtain ⟨u, h1⟩ := H0.out.step (H1.out.1 rfl)
      have H2 := hid h1
      clear h1
      go_wp2_with fail
      with_reducible refine (bytes_any w1 _ u B H2.out.ww (by omega)).mono ?_
      rintro e w2 ⟨F1, A2, c2, rfl, hf, hfl, hby⟩
      have hlen : F1.length ≤ 2000 := by
        have h := congrArg List.length hfl
        rw [flat_length] at h
        unfold padded at h
        rw [List.length_append, List.length_replicate] at h
        omega
      have H3 := hid (And.intro (H2.out.later hf.2.1) (And.intro (Sl.of_own hf.1) (And.intro hfl hby)))
      clear hf hfl hby
      go_wp2_with fail
      with_reducible refine (read_any w2 _ F1 H3.out.2.1 (by omega) H3.out.2.2.2).mono ?_
      rintro e w3 ⟨q, vq, rfl, hrd, hb3, hq, hvq⟩
      have H4 := hid (And.intro (H3.out.1.later hb3) (And.intro hrd (And.intro hq (And.intro (fun g (hg : vq.ownBlock = some g) => Nat.lt_trans (hvq g hg).2 hrd.blk.lt) (show ¬ Foot w.heap.size u q from fun hf => by have := H3.out.1.ww.footlt hf; omega)))))
      clear hrd hb3 hq hvq
      go_wp2_with fail
      with_reducible refine (HGA.out w3 q vq F1 H4.out.2.1 H3.out.2.2.1 (by trivial) H4.out.2.2.2.1).mono ?_
      rintro e w4 ⟨A4, c4, rfl, hg4⟩
      have H5 := hid (And.intro (H4.out.1.kept hg4.kp (Nat.le_trans H3.out.1.bel.size H4.out.2.2.1) H4.out.2.2.2.2) (And.intro hg4.rd (Sl.of_own hg4.own)))
      clear hg4
      have hbb : ((B.length : Int) != (B.length : Int)) = false := by simp
      go_wp2_with fail
      with_reducible refine (uints_any _ _ xs xs _ H5.out.1.sl H5.out.2.2).mono ?_
      rintro e w5 ⟨he5, n5, hw5⟩
      rw [decide_eq_true rfl] at he5
      subst he5
      have H6 := hid (And.intro (H5.out.1.later (w1 := w5) (hw5 ▸ below_drewN' (.refl _ _) n5)) (H5.out.2.1.below (w' := w5) (hw5 ▸ below_drewN' (.refl _ _) n5)))
      clear hw5
      go_wp2_with fail
      with_reducible refine (at_any _ _ _ _ _ H6.out.2).mono ?_
      rintro e w6 ⟨rfl, rfl⟩
      go_wp2_with fail
      with_reducible refine (H6.out.1.len (by omega)).mono ?_
      rintro e w7 ⟨rfl, hb7⟩
      have H7 := hid (H6.out.1.later hb7)
      clear hb7
      go_wp2_with fail
      go_meet
      case rel => exact H7.out.bel
    · have hx1 : (x == 0) = false := by rw [beq_eq_false_iff_ne]; exact hx0
      have H2 := hid (H0.out.later (H1.out.2 hx0))
      go_wp2_with fail
      go_meet
      case rel => exact H2.out.bel
  case rest =>
    have HB := hid hcut
    clear hcut
    go_wp2_with fail
    with_reducible refine (read_any wc _ F (H.out.2.1.below HB.out) (by omega) H.out.2.2).mono ?_
    rintro e w2 ⟨q, vq, rfl, hr⟩
    have HR := hid (RS.new HB.out hr)
    clear hr
    go_wp2_with fail
    cases S with
    | error x9 =>
      have hx9 : x9 ≠ 0 := HSE.out x9 rfl
      have hx9' : (x9 != 0) = true := by rw [bne_iff_ne]; exact hx9
      with_reducible refine (HG5.out w2 q vq F HR.out.rd rfl (fun g hg => Nat.lt_trans (HR.out.hv g hg) HR.out.rd.blk.lt)).mono ?_
      rintro e w3 ⟨rfl, hkp, _, _⟩
      have H3 := hid (show Below w.heap.size w w3 from Kept.after HR.out.bel (Nat.le_refl _) hkp fun i hi => by have := HR.out.hq; omega)
      clear hkp
      go_wp2_with fail
      with_reducible refine (known08 _).mono ?_
      rintro e w4 ⟨rfl, hbb⟩
      have H4 := hid (H3.out.trans (hbb.mono H3.out.size))
      clear hbb
      go_wp2_with fail
      go_ret
      exact ⟨rfl, H4.out⟩
    | ok aj =>
      obtain ⟨m, j⟩ := aj
      obtain ⟨hmk, hj, hjl, hcode, hm5⟩ := HSO.out m j rfl
      obtain ⟨B2, hB2⟩ : ∃ B2, codesE m k = B2 := ⟨_, rfl⟩
      have HPU := hid (fun W p u l (h : Wr W p u []) (hl : Sl W l (u64s m)) (hap : u64s m ≠ [] → ∀ g, l.ownBlock = some g → ¬ Foot p u g ∧ g < W.heap.size) => eputall_ok p u [] l m k W h (by simp) hl (fun x hx => by have := hmk x hx; omega) (by omega) hap hk2 (by unfold belowB; rw [List.all_eq_true]; exact fun x hx => by simpa using hmk x hx))
      rw [hB2] at HPU hj hcode
      rw [List.nil_append] at HPU
      have HC := hid (And.intro hj (And.intro hcode hm5))
      have hF8 : (flat F).length ≤ 1600 := by rw [flat_length]; omega
      have hB16 : B2.length ≤ 1600 := by omega
      have hcmp : ((B2.length : Int) != (j : Int)) = false := by rw [bne_eq_false_iff_eq]; omega
      have hj16 : j ≤ 1600 := by omega
      clear hB2 hmk hj hcode hjl hF8 HSE HSO
      with_reducible refine (HG5.out w2 q vq F HR.out.rd rfl (fun g hg => Nat.lt_trans (HR.out.hv g hg) HR.out.rd.blk.lt)).mono ?_
      rintro e w3 ⟨A4, c4, rfl, hg4⟩
      have H3 := hid (And.intro (HR.out.get ⟨hg4.rd, hg4.kp⟩) (And.intro (Sl.of_own hg4.own) (fun g hg => (hg4.own.lt g hg).2)))
      clear hg4
      go_wp2_with fail
      have HW0 := hid (show RS w q vq F j (w3.alloc (.cells #[.slice none 0 0, .int .u8 0, .int .i64 0] 33)) ∧ Wr (w3.alloc (.cells #[.slice none 0 0, .int .u8 0, .int .i64 0] 33)) w3.heap.size (.slice none 0 0) [] from
        ⟨H3.out.1.later ((Below.refl _ _).alloc (Nat.le_refl _) _), Wr.new w3⟩)
      with_reducible refine (HPU.out _ _ _ _ HW0.out.2 (H3.out.2.1.alloc _) (fun _ g hg => ⟨fun hf => by have := foot_nil hf; have := H3.out.2.2 g hg; omega, by have := H3.out.2.2 g hg; simp; omega⟩)).mono ?_
      rintro e w5 ⟨rfl, hw5⟩
      obtain ⟨u2, h5, hm5, hk5⟩ := hw5
      have hwz := HW0.out.1.bel.size
      have hql := H3.out.1.rd.blk.lt
      have H5 := hid (show RS w q vq F j w5 ∧ Wr w5 w3.heap.size u2 B2 from
        ⟨⟨HW0.out.1.rd.keep hk5 (fun hf => by have := foot_nil hf; omega) (fun g hg hf => by have := foot_nil hf; have := H3.out.1.hv g hg; omega), Kept.after HW0.out.1.bel (Nat.le_refl _) hk5 (fun i hi => by have := foot_nil hi; have := H3.out.1.bel.size; omega), H3.out.1.hq, H3.out.1.hv⟩, h5⟩)
      clear h5 hm5 hk5 hwz hql
      go_wp2_with fail
      with_reducible refine (len_any _ _ _ _ H5.out.2 (by omega)).mono ?_
      rintro e w6 ⟨rfl, n6, hw6⟩
      have hb6 : Below w5.heap.size w5 w6 := hw6 ▸ below_drewN' (.refl _ _) n6
      have H6 := hid (And.intro (H5.out.1.later hb6) (H5.out.2.below hb6))
      clear hw6 hb6
      go_wp2_with fail
      with_reducible refine (at_any _ _ _ _ _ H6.out.1.rd).mono ?_
      rintro e w7 ⟨rfl, rfl⟩
      go_wp2_with fail
      with_reducible refine (bytes_any _ _ _ _ H6.out.2 (by omega)).mono ?_
      rintro e w7 ⟨F1, A7, c7, rfl, hf, hfl, hby⟩
      have hF1 := bytes_few hfl (by omega)
      have H7 := hid (And.intro (H6.out.1.later hf.2.1) (And.intro (H6.out.2.below hf.2.1) (And.intro (Sl.of_own hf.1) (And.intro hfl hby))))
      clear hf hfl hby
      go_wp2_with fail
      with_reducible refine (refof_any _ F1 _ H7.out.2.2.1 hF1 H7.out.2.2.2.2).mono ?_
      rintro e w8 ⟨A8, c8, rfl, hf⟩
      have H8 := hid (And.intro (H7.out.1.later hf.2.1) (And.intro (H7.out.2.1.below hf.2.1) hf.sl))
      clear hf
      go_wp2_with fail
      with_reducible refine (refof_any _ F _ (H.out.2.1.below H8.out.1.bel) (by omega) H.out.2.2).mono ?_
      rintro e w9 ⟨A9, c9, rfl, hf⟩
      have H9 := hid (show Below w.heap.size w w9 ∧ Wr w9 w3.heap.size u2 B2 ∧ Sl w9 (.slice A8 (bis (flat F1)).length c8) (i64s (bis (flat F1))) ∧ Sl w9 (.slice A9 (bis (flat F)).length c9) (i64s (bis (flat F))) from
        ⟨(H8.out.1.later hf.2.1).bel, H8.out.2.1.below hf.2.1, H8.out.2.2.below hf.2.1, hf.sl⟩)
      clear hf
      go_wp2_with fail
      go_loopw [17] (fun i wr => ∃ m' : Nat, m' ≤ B2.length ∧ i = .int .i64 m' ∧ Below w.heap.size w wr ∧ Below w9.heap.size w9 wr) (fun i _ => B2.length - (intOf i).toNat)
      case atStart => exact ⟨0, by omega, rfl, H9.out.1, Below.refl _ _⟩
      case round =>
        obtain ⟨m', hm', rfl, hw1, hw2⟩ := hrel
        have HX := hid (And.intro hw1 (And.intro (H9.out.2.1.below hw2) (And.intro (H9.out.2.2.1.below hw2) (And.intro (H9.out.2.2.2.below hw2) hw2))))
        clear hw1 hw2
        by_cases hmm : m' < B2.length
        · have hin2 : (m' : Int) < B2.length := by omega
          obtain ⟨b0, hb1, hb2⟩ : ∃ b0, (flat F1)[m']? = some b0 ∧ (flat F)[m']? = some b0 := by
            refine ⟨B2[m'], ?_, ?_⟩
            · rw [H7.out.2.2.2.1]; unfold padded; rw [List.getElem?_append_left hmm, List.getElem?_eq_getElem hmm]
            · rw [HC.out.2.1, List.getElem?_append_left hmm, List.getElem?_eq_getElem hmm]
          have hl1 : (m' : Int) < ((bis (flat F1)).length : Int) := by have := (List.getElem?_eq_some_iff.1 hb1).1; rw [bis_length]; omega
          have hl2 : (m' : Int) < ((bis (flat F)).length : Int) := by have := (List.getElem?_eq_some_iff.1 hb2).1; rw [bis_length]; omega
          have hm0 : (0 : Int) ≤ (m' : Int) := by omega
          have hbi : (bi b0 != bi b0) = false := by simp
          go_wp2_with fail
          with_reducible refine (len_any _ _ _ _ HX.out.2.1 (by omega)).mono ?_
          rintro e w10 ⟨rfl, n10, hw10⟩
          have hb10 : Below wr.heap.size wr w10 := hw10 ▸ below_drewN' (.refl _ _) n10
          have HY := hid (And.intro (HX.out.1.trans (hb10.mono HX.out.1.size)) (HX.out.2.2.2.2.trans (hb10.mono HX.out.2.2.2.2.size)))
          obtain ⟨ad1, rfl, hc1⟩ := bit_at (HX.out.2.2.1.below hb10) hb1
          obtain ⟨ad2, rfl, hc2⟩ := bit_at (HX.out.2.2.2.1.below hb10) hb2
          clear hw10 hb10
          go_wp2_with fail
          go_quiet (fail)
          go_wp2_with fail
          go_roundw
          case rel => exact ⟨m' + 1, by omega, by go_num, below_drewN' HY.out.1 nq, below_drewN' HY.out.2 nq⟩
          case measure => simp [intOf]; omega
        · have hin2 : ¬ (m' : Int) < B2.length := by omega
          go_wp2_with fail
          with_reducible refine (len_any _ _ _ _ HX.out.2.1 (by omega)).mono ?_
          rintro e w10 ⟨rfl, n10, hw10⟩
          have H10 := hid (show Below w.heap.size w w10 from hw10 ▸ below_drewN' HX.out.1 n10)
          clear hw10
          go_wp2_with fail
          with_reducible refine (known08 _).mono ?_
          rintro e w11 ⟨rfl, hbb⟩
          have H11 := hid (H10.out.trans (hbb.mono H10.out.size))
          clear hbb
          go_wp2_with fail
          go_ret
          exact ⟨rfl, H11.out⟩

theorem walk {l : Value} {xs F : List Nat} {A1 : Option Addr} {c1 : Nat} {k : Nat} {w : World} (hl : Sl w l (u64s xs)) (hx : InU xs) (hv : Sl w (.slice A1 F.length c1) (u8s F)) (hb : ∀ x ∈ F, x < 256) :
    Calls Try.prog 11 #[l, .slice A1 F.length c1, .int .u64 (k : Int)] w fun e w' => e = .returned (.bool true) ∧ Below w.heap.size w w' := by
  by_cases h : 200 < xs.length ∨ 200 < F.length ∨ spanB k = false
  · obtain ⟨A, c, rfl, _⟩ := u64s_form hl
    exact walk_long A A1 c c1 _ _ k w h
  · have hp : spanB k = true := by
      cases e : spanB k
      · exact absurd (.inr (.inr e)) h
      · rfl
    exact walk_main l A1 c1 xs F k w hl hx (by omega) hv hb (by omega) hp
end evenBack
end Go.Proofs.Ytgjiffpiffphfaa
