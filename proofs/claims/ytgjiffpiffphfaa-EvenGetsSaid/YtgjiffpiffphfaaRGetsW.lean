/- The walk of RiceGets. -/
import Derived.Test.YtgjiffpiffphfaaRefGA06
import Derived.Test.YtgjiffpiffphfaaUints06
import Derived.Test.YtgjiffpiffphfaaKnown06
import Derived.Deep.RegionHeld3
import Derived.Deep.RegionWith
namespace Go.Proofs.Ytgjiffpiffphfaa
open Go.RowKit

/-- A number that is read stands in at least one bit. -/
theorem onesAt_adv {L : List Bool} {i : Nat} (h : onesErr L i 24 = 0) : i + 1 ≤ onesAt L i 24 := by
  unfold onesErr at h
  unfold onesAt
  split
  · rw [if_pos (by assumption)] at h; cases h
  · rw [if_neg (by assumption)] at h
    split
    · omega
    · rw [if_neg (by assumption)] at h
      split
      · rw [if_pos (by assumption)] at h; cases h
      · omega
theorem getAt_adv {L : List Bool} {i : Nat} {n : Int} (h : getErr L i n = 0) : i ≤ getAt L i n ∧ getAt L i n ≤ L.length := by
  unfold getErr at h
  unfold getAt
  split at h
  · cases h
  · split at h
    · cases h
    · rw [if_neg (by omega)]; omega
theorem rgT_adv {L : List Bool} {i k : Nat} (h : (rgT L i k).2.1 = 0) : i + 1 ≤ (rgT L i k).2.2 ∧ (rgT L i k).2.2 ≤ L.length := by
  rw [rgT] at h ⊢
  by_cases h1 : onesErr L i 24 = 0
  · have ha := onesAt_adv h1
    rw [if_neg (by simp [h1])] at h ⊢
    by_cases h2 : onesVal L i 24 < 24
    · rw [if_pos h2] at h ⊢
      by_cases h3 : getErr L (onesAt L i 24) k = 0
      · have hb := getAt_adv h3
        rw [if_neg (by simp [h3])]
        exact ⟨by show _ ≤ getAt _ _ _; omega, hb.2⟩
      · rw [if_pos h3] at h
        exact absurd h h3
    · rw [if_neg h2] at h ⊢
      by_cases h3 : getErr L (onesAt L i 24) 40 = 0
      · have hb := getAt_adv h3
        rw [if_neg (by simp [h3])] at h ⊢
        split at h
        · cases h
        · rw [if_neg (by assumption)]
          exact ⟨by show _ ≤ getAt _ _ _; omega, hb.2⟩
      · rw [if_pos h3] at h
        exact absurd h h3
  · rw [if_pos h1] at h
    exact absurd h h1
theorem rgS_adv {L : List Bool} {k i : Nat} : ∀ {n : Nat} {l : List Nat} {j : Nat}, rgS L k i n = .ok (l, j) → i + n ≤ j ∧ (0 < n → j ≤ L.length)
  | 0, l, j, h => by
    rw [rgS] at h
    injection h with h
    injection h with h1 h2
    omega
  | n + 1, l, j, h => by
    rw [rgS] at h
    cases e : rgS L k i n with
    | error x => rw [e] at h; cases h
    | ok a =>
      obtain ⟨l', j'⟩ := a
      rw [e] at h
      have hl := rgS_adv e
      simp only at h
      split at h
      · have := rgT_adv (by assumption)
        injection h with h
        injection h with h1 h2
        omega
      · cases h

theorem rgT_errs {L : List Bool} {i k : Nat} (hk : k ≤ 30) : (rgT L i k).2.1 = 0 ∨ (rgT L i k).2.1 = 10 ∨ (rgT L i k).2.1 = 12 := by
  have ho : onesErr L i 24 = 0 ∨ onesErr L i 24 = 10 := by
    unfold onesErr
    rw [if_neg (by omega)]
    split
    · exact .inl rfl
    · split
      · exact .inr rfl
      · exact .inl rfl
  have hg : ∀ (j : Nat) (n : Int), 0 ≤ n → n ≤ 64 → getErr L j n = 0 ∨ getErr L j n = 10 := by
    intro j n h0 h1
    unfold getErr
    rw [if_neg (by omega)]
    split
    · exact .inr rfl
    · exact .inl rfl
  have g1 := hg (onesAt L i 24) k (by omega) (by omega)
  have g2 := hg (onesAt L i 24) 40 (by omega) (by omega)
  rw [rgT]
  split
  · show onesErr L i 24 = 0 ∨ onesErr L i 24 = 10 ∨ onesErr L i 24 = 12; omega
  · split
    · split
      · show getErr L (onesAt L i 24) k = 0 ∨ getErr L (onesAt L i 24) k = 10 ∨ getErr L (onesAt L i 24) k = 12; omega
      · exact .inl rfl
    · split
      · show getErr L (onesAt L i 24) 40 = 0 ∨ getErr L (onesAt L i 24) 40 = 10 ∨ getErr L (onesAt L i 24) 40 = 12; omega
      · split
        · exact .inr (.inr rfl)
        · exact .inl rfl
theorem rgS_errs {L : List Bool} {k i : Nat} (hk : k ≤ 30) : ∀ {n : Nat} {x : Int}, rgS L k i n = .error x → x = 10 ∨ x = 12
  | 0, x, h => by rw [rgS] at h; cases h
  | n + 1, x, h => by
    cases e : rgS L k i n with
    | error y =>
      rw [rgS, e] at h
      injection h with h
      subst h
      exact rgS_errs hk e
    | ok a =>
      obtain ⟨l', j'⟩ := a
      rw [rgS_step e] at h
      split at h
      · cases h
      · injection h with h
        have := rgT_errs (L := L) (i := j') hk
        omega

/-- Two readers over the same bits, and two lists, in new memory. -/
structure G2 (w : World) (q1 q2 : Nat) (v1 v2 : Value) (F : List Nat) (j1 j2 : Nat) (l : List Nat) (u1 u2 : Value) (wr : World) : Prop where
  rd1 : Rd wr q1 v1 F j1
  rd2 : RefRd wr q2 v2 (flat F) j2
  s1 : Sl wr u1 (u64s l)
  s2 : Sl wr u2 (u64s l)
  bel : Below w.heap.size w wr
section
variable {w wr w1 : World} {q1 q2 j1 j2 : Nat} {v1 v2 u1 u2 : Value} {F l : List Nat}
theorem G2.later (h : G2 w q1 q2 v1 v2 F j1 j2 l u1 u2 wr) (hb : Below wr.heap.size wr w1) : G2 w q1 q2 v1 v2 F j1 j2 l u1 u2 w1 :=
  ⟨h.rd1.below hb, h.rd2.below hb, h.s1.below hb, h.s2.below hb, h.bel.trans (hb.mono h.bel.size)⟩
theorem G2.drew (h : G2 w q1 q2 v1 v2 F j1 j2 l u1 u2 wr) : G2 w q1 q2 v1 v2 F j1 j2 l u1 u2 wr.drew := h.later (Below.refl _ _).drew
theorem G2.cell (h : G2 w q1 q2 v1 v2 F j1 j2 l u1 u2 wr) : wr.cell? ⟨q2, 1, none⟩ = some (.int .i64 (j2 : Int)) := by
  have := h.rd2.blk.cell 1
  simpa using this
end

/-- Readers that were just made. -/
structure R2 (w : World) (q1 q2 : Nat) (v1 v2 : Value) (F : List Nat) (wr : World) : Prop where
  rd1 : Rd wr q1 v1 F 0
  rd2 : RefRd wr q2 v2 (flat F) 0
  bel : Below w.heap.size w wr
  ne : q1 ≠ q2
  n1 : v1.ownBlock ≠ some q2
  n2 : v2.ownBlock ≠ some q1
  hq1 : w.heap.size ≤ q1
  hq2 : w.heap.size ≤ q2
  l1 : ∀ g, v1.ownBlock = some g → g < wr.heap.size
  l2 : ∀ g, v2.ownBlock = some g → g < wr.heap.size
theorem R2.new {w w1 w2 : World} {q1 q2 : Nat} {v1 v2 : Value} {F : List Nat} (h1 : Rd w1 q1 v1 F 0 ∧ Below w.heap.size w w1 ∧ w.heap.size ≤ q1 ∧ ∀ g, v1.ownBlock = some g → w.heap.size ≤ g ∧ g < q1)
    (h2 : RefRd w2 q2 v2 (flat F) 0 ∧ Below w1.heap.size w1 w2 ∧ w1.heap.size ≤ q2 ∧ ∀ g, v2.ownBlock = some g → w1.heap.size ≤ g ∧ g < q2) : R2 w q1 q2 v1 v2 F w2 := by
  obtain ⟨hrd, hbel, hq1, hv1⟩ := h1
  obtain ⟨hrd2, hbel2, hq2, hv2⟩ := h2
  have hs := hbel.size
  have hs2 := hbel2.size
  have hlt1 := hrd.blk.lt
  have hlt2 := hrd2.blk.lt
  refine ⟨hrd.below hbel2, hrd2, hbel.trans (hbel2.mono hs), by omega, ?_, ?_, hq1, by omega, fun g hg => by have := (hv1 g hg).2; omega, fun g hg => by have := (hv2 g hg).2; omega⟩
  · intro e
    have := (hv1 _ e).2
    omega
  · intro e
    have := (hv2 _ e).1
    omega

theorem both_ok {w wr w3 w4 : World} {q1 q2 : Nat} {v1 v2 : Value} {F l : List Nat} {j : Nat} {u1 u2 : Value} (hR : R2 w q1 q2 v1 v2 F wr)
    (h1 : GU (fun w' j => Rd w' q1 v1 F j) wr q1 j l u1 w3) (h2 : GU (fun w' j => RefRd w' q2 v2 (flat F) j) w3 q2 j l u2 w4) : G2 w q1 q2 v1 v2 F j j l u1 u2 w4 := by
  have hlt2 := hR.rd2.blk.lt
  have hlt1 := hR.rd1.blk.lt
  have b3 : Below w.heap.size w w3 := Kept.after hR.bel (Nat.le_refl _) h1.kp fun i hi => by have := hR.hq1; omega
  exact ⟨h1.rd.keep h2.kp hR.ne fun g hg e => hR.n1 (by rw [hg, e]), h2.rd, (Sl.of_own h1.own).kept' h2.kp fun _ g hg e => by have := h1.new g hg; omega, Sl.of_own h2.own, Kept.after b3 (Nat.le_refl _) h2.kp fun i hi => by have := hR.hq2; omega⟩
theorem both_err {w wr w3 w4 : World} {q1 q2 : Nat} {v1 v2 : Value} {F : List Nat} {j1 j2 : Nat} (hR : R2 w q1 q2 v1 v2 F wr)
    (r1 : Rd w3 q1 v1 F j1) (k1 : Kept (fun k => k = q1) wr w3) (r2 : RefRd w4 q2 v2 (flat F) j2) (k2 : Kept (fun k => k = q2) w3 w4) : G2 w q1 q2 v1 v2 F j1 j2 [] (.slice none 0 0) (.slice none 0 0) w4 := by
  have b3 : Below w.heap.size w w3 := Kept.after hR.bel (Nat.le_refl _) k1 fun i hi => by have := hR.hq1; omega
  exact ⟨r1.keep k2 hR.ne fun g hg e => hR.n1 (by rw [hg, e]), r2, Sl.nil_ _, Sl.nil_ _, Kept.after b3 (Nat.le_refl _) k2 fun i hi => by have := hR.hq2; omega⟩

namespace riceGets
set_option maxRecDepth 100000 in
set_option maxHeartbeats 4000000 in
theorem walk_long (A : Option Addr) (c : Nat) (F : List Nat) (n k : Int) (w : World) (h1 : 300 < F.length) :
    Calls Try.prog 12 #[.slice A F.length c, .int .i64 n, .int .i64 k] w fun e w' => e = .returned (.bool true) ∧ Below w.heap.size w w' := by
  have h1' : (300 : Int) < F.length := by omega
  go_enter Try.func12, Try.ntmps12
  go_wp2_with fail
  with_reducible refine (known06 _).mono ?_
  rintro e w1 ⟨rfl, hb⟩
  replace hb := hid hb
  go_wp2_with fail
  go_ret
  exact ⟨rfl, hb.out⟩

set_option maxRecDepth 100000 in
set_option maxHeartbeats 4000000 in
theorem walk_bad (A : Option Addr) (c : Nat) (F : List Nat) (n k : Int) (w : World) (hv : Sl w (.slice A F.length c) (u8s F)) (hb : ∀ x ∈ F, x < 256) (h1 : F.length ≤ 300) (hbad : paramB k = false ∨ n < 0 ∨ 1048576 < n) :
    Calls Try.prog 12 #[.slice A F.length c, .int .i64 n, .int .i64 k] w fun e w' => e = .returned (.bool true) ∧ Below w.heap.size w w' := by
  have h1' : ¬ (300 : Int) < F.length := by omega
  have H := hid (And.intro hv (And.intro hb hbad))
  have HGA := hid (fun p W => rgetall_arg p n k W hbad)
  have HP := hid (fun W => refparam_any k W)
  have HPK := hid (paramB_iff k)
  have HGX := hid (fun p W (h : paramB k = false) => rget_arg p k W h)
  clear hv hb
  obtain ⟨b, hb⟩ : ∃ b, paramB k = b := ⟨_, rfl⟩
  rw [hb] at HP HPK HGX hbad
  clear hb
  go_enter Try.func12, Try.ntmps12
  go_wp2_with fail
  with_reducible refine (read_any w _ F H.out.1 (by omega) H.out.2.1).mono ?_
  rintro e w1 ⟨q1, v1, rfl, hr1⟩
  have H1 := hid hr1
  clear hr1
  go_wp2_with fail
  with_reducible refine (refread_any w1 _ F (H.out.1.below H1.out.2.1) (by omega) H.out.2.1).mono ?_
  rintro e w2 ⟨q2, v2, rfl, hr2⟩
  have H2 := hid (R2.new H1.out hr2)
  clear hr2
  go_wp2_with fail
  with_reducible refine (HGA.out q1 w2).mono ?_
  rintro e w3 ⟨rfl, rfl⟩
  go_wp2_with fail
  with_reducible refine (HP.out w2).mono ?_
  rintro e w3 ⟨rfl, rfl⟩
  cases b
  · clear hbad
    go_wp2_with fail
    with_reducible refine (HGX.out q1 w2 (by simp)).mono ?_
    rintro e w3 ⟨rfl, rfl⟩
    go_wp2_with fail
    with_reducible refine (HP.out w2).mono ?_
    rintro e w3 ⟨rfl, rfl⟩
    go_wp2_with fail
    with_reducible refine (known06 _).mono ?_
    rintro e w3 ⟨rfl, hb⟩
    have H3 := hid (H2.out.bel.trans (hb.mono H2.out.bel.size))
    clear hb
    go_wp2_with fail
    go_ret
    exact ⟨rfl, H3.out⟩
  · have hkk := HPK.out.1 (by simp)
    obtain ⟨kk, rfl⟩ := Int.eq_ofNat_of_zero_le hkk.1
    have HG := hid (rget_any w2 q1 v1 F 0 kk H2.out.rd1 (by omega))
    have HBEL := hid (fun w3 j (h : RI w2 q1 v1 F j w3) => (show Below w.heap.size w w3 from Kept.after H2.out.bel (Nat.le_refl _) h.2 fun i hi => by have := H2.out.hq1; omega))
    obtain ⟨r, hr⟩ : ∃ r, rgT (flat F) 0 kk = r := ⟨_, rfl⟩
    rw [hr] at HG
    clear hr
    by_cases hn0 : n < 0
    · clear hbad
      go_wp2_with fail
      with_reducible refine HG.out.mono ?_
      rintro e w3 ⟨rfl, hri⟩
      have H3 := hid (HBEL.out _ _ hri)
      clear hri
      go_wp2_with fail
      with_reducible refine (HP.out w3).mono ?_
      rintro e w4 ⟨rfl, rfl⟩
      go_wp2_with fail
      with_reducible refine (known06 _).mono ?_
      rintro e w4 ⟨rfl, hb⟩
      have H4 := hid (H3.out.trans (hb.mono H3.out.size))
      clear hb
      go_wp2_with fail
      go_ret
      exact ⟨rfl, H4.out⟩
    · have hn2 : 1048576 < n := by rcases hbad with h | h | h <;> first | exact h | cases h | omega
      clear hbad
      go_wp2_with fail
      with_reducible refine HG.out.mono ?_
      rintro e w3 ⟨rfl, hri⟩
      have H3 := hid (HBEL.out _ _ hri)
      clear hri
      go_wp2_with fail
      with_reducible refine (HP.out w3).mono ?_
      rintro e w4 ⟨rfl, rfl⟩
      go_wp2_with fail
      with_reducible refine (known06 _).mono ?_
      rintro e w4 ⟨rfl, hb⟩
      have H4 := hid (H3.out.trans (hb.mono H3.out.size))
      clear hb
      go_wp2_with fail
      go_ret
      exact ⟨rfl, H4.out⟩

set_option maxRecDepth 100000 in
set_option maxHeartbeats 4000000 in
theorem walk_deep (A : Option Addr) (c : Nat) (F : List Nat) (n k : Nat) (w : World) (hv : Sl w (.slice A F.length c) (u8s F)) (hb : ∀ x ∈ F, x < 256) (h1 : F.length ≤ 300) (hk : k ≤ 30) (hn : n ≤ 1048576) (hd : 4000 < n) :
    Calls Try.prog 12 #[.slice A F.length c, .int .i64 (n : Int), .int .i64 (k : Int)] w fun e w' => e = .returned (.bool true) ∧ Below w.heap.size w w' := by
  have h1' : ¬ (300 : Int) < F.length := by omega
  have H := hid (And.intro hv hb)
  have HP := hid (fun W => refparam_any (k : Int) W)
  rw [(paramB_iff (k : Int)).2 (by omega)] at HP
  obtain ⟨x, hx⟩ : ∃ x, rgS (flat F) k 0 n = .error x := by
    cases e : rgS (flat F) k 0 n with
    | error x => exact ⟨x, rfl⟩
    | ok a =>
      obtain ⟨l, j⟩ := a
      have := rgS_adv e
      rw [flat_length] at this
      omega
  have HGA := hid (fun W q v (h : Rd W q v F 0) (hv : ∀ g, v.ownBlock = some g → g < W.heap.size) => by have := rgetall_any W q v F 0 k n h hk hn hv; rw [hx] at this; exact this)
  clear hv hb hx
  go_enter Try.func12, Try.ntmps12
  go_wp2_with fail
  with_reducible refine (read_any w _ F H.out.1 (by omega) H.out.2).mono ?_
  rintro e w1 ⟨q1, v1, rfl, hr1⟩
  have H1 := hid hr1
  clear hr1
  go_wp2_with fail
  with_reducible refine (refread_any w1 _ F (H.out.1.below H1.out.2.1) (by omega) H.out.2).mono ?_
  rintro e w2 ⟨q2, v2, rfl, hr2⟩
  have H2 := hid (R2.new H1.out hr2)
  clear hr2
  go_wp2_with fail
  with_reducible refine (HGA.out w2 q1 v1 H2.out.rd1 H2.out.l1).mono ?_
  rintro e w3 ⟨rfl, hkp, hx0, _⟩
  have hx' : (x == 0) = false := by rw [beq_eq_false_iff_ne]; exact hx0
  have hx'' : (x != 0) = true := by rw [bne_iff_ne]; exact hx0
  have H3 := hid (show Below w.heap.size w w3 from Kept.after H2.out.bel (Nat.le_refl _) hkp fun i hi => by have := H2.out.hq1; omega)
  clear hkp
  go_wp2_with fail
  with_reducible refine (HP.out w3).mono ?_
  rintro e w4 ⟨rfl, rfl⟩
  go_wp2_with fail
  with_reducible refine (known06 _).mono ?_
  rintro e w4 ⟨rfl, hb⟩
  have H4 := hid (H3.out.trans (hb.mono H3.out.size))
  clear hb
  go_wp2_with fail
  go_ret
  exact ⟨rfl, H4.out⟩

set_option maxRecDepth 100000 in
set_option maxHeartbeats 40000000 in
theorem walk_main (A : Option Addr) (c : Nat) (F : List Nat) (n k : Nat) (w : World) (hv : Sl w (.slice A F.length c) (u8s F)) (hb : ∀ x ∈ F, x < 256) (h1 : F.length ≤ 300) (hk : k ≤ 30) (hn : n ≤ 4000) :
    Calls Try.prog 12 #[.slice A F.length c, .int .i64 (n : Int), .int .i64 (k : Int)] w fun e w' => e = .returned (.bool true) ∧ Below w.heap.size w w' := by
  have h1' : ¬ (300 : Int) < F.length := by omega
  have H := hid (And.intro hv hb)
  have HP := hid (fun W => refparam_any (k : Int) W)
  rw [(paramB_iff (k : Int)).2 (by omega)] at HP
  have HG1 := hid (fun W q v (h : Rd W q v F 0) (hv : ∀ g, v.ownBlock = some g → g < W.heap.size) => rgetall_any W q v F 0 k n h hk (by omega) hv)
  have HG2 := hid (fun W q v (h : RefRd W q v (flat F) 0) (hv : ∀ g, v.ownBlock = some g → g < W.heap.size) => refgetall06_any W q v (flat F) 0 k n h hk (by omega) hv)
  obtain ⟨S, hS⟩ : ∃ S, rgS (flat F) k 0 n = S := ⟨_, rfl⟩
  rw [hS] at HG1 HG2
  have HX := hid (fun x (h : S = .error x) => rgS_errs hk (hS.trans h))
  clear hv hb hS
  go_enter Try.func12, Try.ntmps12
  go_wp2_with fail
  with_reducible refine (read_any w _ F H.out.1 (by omega) H.out.2).mono ?_
  rintro e w1 ⟨q1, v1, rfl, hr1⟩
  have H1 := hid hr1
  clear hr1
  go_wp2_with fail
  with_reducible refine (refread_any w1 _ F (H.out.1.below H1.out.2.1) (by omega) H.out.2).mono ?_
  rintro e w2 ⟨q2, v2, rfl, hr2⟩
  have H2 := hid (R2.new H1.out hr2)
  clear hr2
  go_wp2_with fail
  with_reducible refine (HG1.out w2 q1 v1 H2.out.rd1 H2.out.l1).mono ?_
  rintro e w3 hga
  cases S with
  | ok a =>
    obtain ⟨l, j⟩ := a
    obtain ⟨A3, c3, rfl, hg3⟩ := hga
    have H3 := hid hg3
    clear hg3
    go_wp2_with fail
    with_reducible refine (HP.out w3).mono ?_
    rintro e w4 ⟨rfl, rfl⟩
    go_wp2_with fail
    with_reducible refine (HG2.out w3 q2 v2 (H2.out.rd2.keep H3.out.kp (Ne.symm H2.out.ne) fun g hg e => absurd (show v2.ownBlock = some q1 by rw [hg, e]) H2.out.n2) (fun g hg => Nat.lt_of_lt_of_le (H2.out.l2 g hg) H3.out.kp.size)).mono ?_
    rintro e w4 ⟨A4, c4, rfl, hg4⟩
    have H4 := hid (both_ok H2.out H3.out hg4)
    clear hg4
    have p0 := H4.out.cell
    have hjj : ((j : Int) == (j : Int)) = true := by simp
    go_wp2_with fail
    go_region_held3 (fun w' => w'.cell? ⟨q2, 1, none⟩ = some (.int .i64 (j : Int)))
      (first | exact k7 | exact k6 | exact k5 | go_keep)
      (first
        | (go_at_call 49; go_must (refine (uints_any _ _ l l _ H4.out.drew.s1 H4.out.drew.s2).mono ?_); rintro e w5 ⟨he5, n5, hw5⟩; rw [decide_eq_true rfl] at he5; subst he5; have h5 := H4.out.drew.later (w1 := w5) (hw5 ▸ below_drewN' (Below.refl _ _) n5); clear hw5; have k5 := h5.cell; have H5 := hid h5; clear h5)
        | (go_at_call 50; go_must (refine (at_any _ _ _ _ _ H5.out.rd1).mono ?_); rintro e w6 ⟨rfl, rfl⟩; have k6 := H5.out.cell)
        | (go_at_call 15; go_must (refine (known06 _).mono ?_); rintro e w7 ⟨rfl, hb⟩; have h7 := H5.out.later hb; have k7 := h7.cell; have H7 := hid h7; clear hb h7))
    all_goals (go_wp2_with fail)
    all_goals (go_ret)
    all_goals exact ⟨rfl, H7.out.bel⟩
  | error x =>
    have hxs := HX.out x rfl
    clear HX
    obtain ⟨rfl, hkp, hx0, j1, hrd1⟩ := hga
    have H3 := hid (And.intro hkp hrd1)
    clear hkp hrd1 hx0
    rcases hxs with rfl | rfl
    all_goals (
      go_wp2_with fail
      with_reducible refine (HP.out w3).mono ?_
      rintro e w4 ⟨rfl, rfl⟩
      go_wp2_with fail
      with_reducible refine (HG2.out w3 q2 v2 (H2.out.rd2.keep H3.out.1 (Ne.symm H2.out.ne) fun g hg e => absurd (show v2.ownBlock = some q1 by rw [hg, e]) H2.out.n2) (fun g hg => Nat.lt_of_lt_of_le (H2.out.l2 g hg) H3.out.1.size)).mono ?_
      rintro e w4 ⟨rfl, hkp4, _, j2, hrd4⟩
      have H4 := hid (both_err H2.out H3.out.2 H3.out.1 hrd4 hkp4)
      clear hkp4 hrd4
      have p0 := H4.out.cell
      go_wp2_with fail
      first
      | go_region_with
        (first
          | (go_at_call 49; go_must (refine (uints_any _ _ [] [] _ (Sl.nil_ _) (Sl.nil_ _)).mono ?_); rintro e w5 ⟨he5, n5, hw5⟩; rw [decide_eq_true rfl] at he5; subst he5; have h5 := H4.out.drew.later (w1 := w5) (hw5 ▸ below_drewN' (Below.refl _ _) n5); clear hw5; have k5 := h5.cell; have H5 := hid h5; clear h5)
          | (go_at_call 15; go_must (refine (known06 _).mono ?_); rintro e w7 ⟨rfl, hb⟩; have h7 := H5.out.later hb; have k7 := h7.cell; have H7 := hid h7; clear hb h7))
      | fail
      all_goals (go_wp2_with fail)
      all_goals (go_ret)
      all_goals exact ⟨rfl, H7.out.bel⟩)

theorem walk {A : Option Addr} {c : Nat} {F : List Nat} {n k : Int} {w : World} (hv : Sl w (.slice A F.length c) (u8s F)) (hb : ∀ x ∈ F, x < 256) :
    Calls Try.prog 12 #[.slice A F.length c, .int .i64 n, .int .i64 k] w fun e w' => e = .returned (.bool true) ∧ Below w.heap.size w w' := by
  by_cases h1 : 300 < F.length
  · exact walk_long A c F n k w h1
  cases hp : paramB k
  · exact walk_bad A c F n k w hv hb (by omega) (.inl hp)
  by_cases h0 : n < 0 ∨ 1048576 < n
  · exact walk_bad A c F n k w hv hb (by omega) (.inr h0)
  obtain ⟨hk1, hk2⟩ := (paramB_iff k).1 hp
  obtain ⟨k, rfl⟩ := Int.eq_ofNat_of_zero_le hk1
  obtain ⟨n, rfl⟩ := Int.eq_ofNat_of_zero_le (show 0 ≤ n by omega)
  by_cases h2 : 4000 < n
  · exact walk_deep A c F n k w hv hb (by omega) (by omega) (by omega) h2
  · exact walk_main A c F n k w hv hb (by omega) (by omega) (by omega)
end riceGets
end Go.Proofs.Ytgjiffpiffphfaa
