/- The walk of RunsGets. -/
import Derived.Test.YtjboboaccjbebaaRunY
import Derived.Test.YtjboboaccjbebaaEWI
import Derived.Test.YtjboboaccjbebaaKnown07
import Derived.Test.YtjboboaccjbebaaRef06
import Derived.Deep.RegionHeld3
import Derived.Deep.RegionWith
namespace Go.Proofs.Ytjboboaccjbebaa
open Go.RowKit

theorem rgT_errs {L : List Bool} {i k : Nat} (hk : k ≤ 30) : (rgT L i k).2.1 = 0 ∨ (rgT L i k).2.1 = 10 ∨ (rgT L i k).2.1 = 12 := by
  have ho : onesErr L i 24 = 0 ∨ onesErr L i 24 = 10 := by
    unfold onesErr
    rw [if_neg (by omega)]
    split
    · exact .inl rfl
    · split
      · exact .inr rfl
      · exact .inl rfl
  have hg : ∀ (j : Nat) (n : Int), 0 ≤ n → n ≤ 64 → getErr L j n = 0 ∨ getErr L j n = 10 := by
    intro j n h0 h1
    unfold getErr
    rw [if_neg (by omega)]
    split
    · exact .inr rfl
    · exact .inl rfl
  have g1 := hg (onesAt L i 24) k (by omega) (by omega)
  have g2 := hg (onesAt L i 24) 40 (by omega) (by omega)
  rw [rgT]
  split
  · show onesErr L i 24 = 0 ∨ onesErr L i 24 = 10 ∨ onesErr L i 24 = 12; omega
  · split
    · split
      · show getErr L (onesAt L i 24) k = 0 ∨ getErr L (onesAt L i 24) k = 10 ∨ getErr L (onesAt L i 24) k = 12; omega
      · exact .inl rfl
    · split
      · show getErr L (onesAt L i 24) 40 = 0 ∨ getErr L (onesAt L i 24) 40 = 10 ∨ getErr L (onesAt L i 24) 40 = 12; omega
      · split
        · exact .inr (.inr rfl)
        · exact .inl rfl
theorem ggF_errs {L : List Bool} : ∀ f i, f ≤ 32 → (ggF L f i).2.1 = 0 ∨ (ggF L f i).2.1 = 10 ∨ (ggF L f i).2.1 = 12
  | 0, i, _ => .inr (.inr (by rw [ggF]))
  | f + 1, i, hf => by
    have hg : ∀ (j : Nat) (n : Int), 0 ≤ n → n ≤ 64 → getErr L j n = 0 ∨ getErr L j n = 10 := by
      intro j n h0 h1
      unfold getErr
      rw [if_neg (by omega)]
      split
      · exact .inr rfl
      · exact .inl rfl
    rw [ggF]
    split
    · have := hg i 1 (by omega) (by omega)
      show getErr L i 1 = 0 ∨ getErr L i 1 = 10 ∨ getErr L i 1 = 12
      omega
    · split
      · split
        · have := hg (getAt L i 1) ((31 - f : Nat) : Int) (by omega) (by omega)
          show getErr L (getAt L i 1) ((31 - f : Nat) : Int) = 0 ∨ getErr L (getAt L i 1) ((31 - f : Nat) : Int) = 10 ∨ getErr L (getAt L i 1) ((31 - f : Nat) : Int) = 12
          omega
        · exact .inl rfl
      · exact ggF_errs f _ (by omega)
theorem rnF_errs {L : List Bool} {k N : Nat} (hk : k ≤ 30) : ∀ (f : Nat) (out : List Int) (i : Nat) {x : Int}, rnF L k N f out i = .error x → x = 10 ∨ x = 12
  | 0, out, i, x, h => by rw [rnF] at h; cases h
  | f + 1, out, i, x, h => by
    rw [rnF] at h
    split at h
    · cases h
    split at h
    · rename_i h1
      injection h with h
      have := ggF_errs (L := L) 32 i (Nat.le_refl _)
      unfold ggT at h h1
      omega
    split at h
    · injection h with h; exact .inr h.symm
    split at h
    · cases h
    split at h
    · rename_i h1
      injection h with h
      have := rgT_errs (L := L) (i := (ggT L i).2.2) hk
      omega
    split at h
    · injection h with h; exact .inr h.symm
    · exact rnF_errs hk f _ _ h
theorem rn_errs {L : List Bool} {k N i : Nat} {x : Int} (hk : k ≤ 30) (h : rnT L k N i = .error x) : x = 10 ∨ x = 12 := rnF_errs hk _ _ _ h

/-- Two readers over the same bits, and two lists, in new memory. -/
structure GI2 (w : World) (q1 q2 : Nat) (v1 v2 : Value) (F : List Nat) (j1 j2 : Nat) (l : List Int) (u1 u2 : Value) (wr : World) : Prop where
  rd1 : Rd wr q1 v1 F j1
  rd2 : RefRd wr q2 v2 (flat F) j2
  s1 : Sl wr u1 (i64s l)
  s2 : Sl wr u2 (i64s l)
  bel : Below w.heap.size w wr
section
variable {w wr w1 : World} {q1 q2 j1 j2 : Nat} {v1 v2 u1 u2 : Value} {F : List Nat} {l : List Int}
theorem GI2.later (h : GI2 w q1 q2 v1 v2 F j1 j2 l u1 u2 wr) (hb : Below wr.heap.size wr w1) : GI2 w q1 q2 v1 v2 F j1 j2 l u1 u2 w1 :=
  ⟨h.rd1.below hb, h.rd2.below hb, h.s1.below hb, h.s2.below hb, h.bel.trans (hb.mono h.bel.size)⟩
theorem GI2.drew (h : GI2 w q1 q2 v1 v2 F j1 j2 l u1 u2 wr) : GI2 w q1 q2 v1 v2 F j1 j2 l u1 u2 wr.drew := h.later (Below.refl _ _).drew
theorem GI2.cell (h : GI2 w q1 q2 v1 v2 F j1 j2 l u1 u2 wr) : wr.cell? ⟨q2, 1, none⟩ = some (.int .i64 (j2 : Int)) := by
  have := h.rd2.blk.cell 1
  simpa using this
end

/-- Readers that were just made. -/
structure RI2 (w : World) (q1 q2 : Nat) (v1 v2 : Value) (F : List Nat) (wr : World) : Prop where
  rd1 : Rd wr q1 v1 F 0
  rd2 : RefRd wr q2 v2 (flat F) 0
  bel : Below w.heap.size w wr
  ne : q1 ≠ q2
  n1 : v1.ownBlock ≠ some q2
  n2 : v2.ownBlock ≠ some q1
  hq1 : w.heap.size ≤ q1
  hq2 : w.heap.size ≤ q2
  l1 : ∀ g, v1.ownBlock = some g → g < wr.heap.size
  l2 : ∀ g, v2.ownBlock = some g → g < wr.heap.size
theorem RI2.new {w w1 w2 : World} {q1 q2 : Nat} {v1 v2 : Value} {F : List Nat} (h1 : Rd w1 q1 v1 F 0 ∧ Below w.heap.size w w1 ∧ w.heap.size ≤ q1 ∧ ∀ g, v1.ownBlock = some g → w.heap.size ≤ g ∧ g < q1)
    (h2 : RefRd w2 q2 v2 (flat F) 0 ∧ Below w1.heap.size w1 w2 ∧ w1.heap.size ≤ q2 ∧ ∀ g, v2.ownBlock = some g → w1.heap.size ≤ g ∧ g < q2) : RI2 w q1 q2 v1 v2 F w2 := by
  obtain ⟨hrd, hbel, hq1, hv1⟩ := h1
  obtain ⟨hrd2, hbel2, hq2, hv2⟩ := h2
  have hs := hbel.size
  have hs2 := hbel2.size
  have hlt1 := hrd.blk.lt
  have hlt2 := hrd2.blk.lt
  refine ⟨hrd.below hbel2, hrd2, hbel.trans (hbel2.mono hs), by omega, ?_, ?_, hq1, by omega, fun g hg => by have := (hv1 g hg).2; omega, fun g hg => by have := (hv2 g hg).2; omega⟩
  · intro e
    have := (hv1 _ e).2
    omega
  · intro e
    have := (hv2 _ e).1
    omega

theorem bothI_ok {w wr w3 w4 : World} {q1 q2 : Nat} {v1 v2 : Value} {F : List Nat} {l : List Int} {j : Nat} {u1 u2 : Value} (hR : RI2 w q1 q2 v1 v2 F wr)
    (h1 : GI (fun w' j => Rd w' q1 v1 F j) wr q1 j l u1 w3) (h2 : GI (fun w' j => RefRd w' q2 v2 (flat F) j) w3 q2 j l u2 w4) : GI2 w q1 q2 v1 v2 F j j l u1 u2 w4 := by
  have hlt2 := hR.rd2.blk.lt
  have hlt1 := hR.rd1.blk.lt
  have b3 : Below w.heap.size w w3 := Kept.after hR.bel (Nat.le_refl _) h1.kp fun i hi => by have := hR.hq1; omega
  exact ⟨h1.rd.keep h2.kp hR.ne fun g hg e => hR.n1 (by rw [hg, e]), h2.rd, (Sl.of_own h1.own).kept' h2.kp fun _ g hg e => by have := h1.new g hg; omega, Sl.of_own h2.own, Kept.after b3 (Nat.le_refl _) h2.kp fun i hi => by have := hR.hq2; omega⟩
theorem bothI_err {w wr w3 w4 : World} {q1 q2 : Nat} {v1 v2 : Value} {F : List Nat} {j1 j2 : Nat} (hR : RI2 w q1 q2 v1 v2 F wr)
    (r1 : Rd w3 q1 v1 F j1) (k1 : Kept (fun k => k = q1) wr w3) (r2 : RefRd w4 q2 v2 (flat F) j2) (k2 : Kept (fun k => k = q2) w3 w4) : GI2 w q1 q2 v1 v2 F j1 j2 [] (.slice none 0 0) (.slice none 0 0) w4 := by
  have b3 : Below w.heap.size w w3 := Kept.after hR.bel (Nat.le_refl _) k1 fun i hi => by have := hR.hq1; omega
  exact ⟨r1.keep k2 hR.ne fun g hg e => hR.n1 (by rw [hg, e]), r2, Sl.nil_ _, Sl.nil_ _, Kept.after b3 (Nat.le_refl _) k2 fun i hi => by have := hR.hq2; omega⟩

namespace runsGets
set_option maxRecDepth 100000 in
set_option maxHeartbeats 4000000 in
theorem walk_long (A : Option Addr) (c : Nat) (F : List Nat) (n k : Int) (w : World) (h1 : 200 < F.length) :
    Calls Try.prog 8 #[.slice A F.length c, .int .i64 n, .int .i64 k] w fun e w' => e = .returned (.bool true) ∧ Below w.heap.size w w' := by
  have h1' : (200 : Int) < F.length := by omega
  go_enter Try.func8, Try.ntmps8
  go_wp2_with fail
  with_reducible refine (known07 _).mono ?_
  rintro e w1 ⟨rfl, hb⟩
  replace hb := hid hb
  go_wp2_with fail
  go_ret
  exact ⟨rfl, hb.out⟩

set_option maxRecDepth 100000 in
set_option maxHeartbeats 4000000 in
theorem walk_bad (A : Option Addr) (c : Nat) (F : List Nat) (n k : Int) (w : World) (hv : Sl w (.slice A F.length c) (u8s F)) (hb : ∀ x ∈ F, x < 256) (h1 : F.length ≤ 200) (hbad : paramB k = false ∨ n < 0 ∨ 1048576 < n) :
    Calls Try.prog 8 #[.slice A F.length c, .int .i64 n, .int .i64 k] w fun e w' => e = .returned (.bool true) ∧ Below w.heap.size w w' := by
  have h1' : ¬ (200 : Int) < F.length := by omega
  have H := hid (And.intro hv (And.intro hb hbad))
  have HGA := hid (fun p W => getl_arg p n k W hbad)
  have HP := hid (fun W => refparam_any k W)
  clear hv hb
  obtain ⟨b, hb⟩ : ∃ b, paramB k = b := ⟨_, rfl⟩
  rw [hb] at HP hbad
  clear hb
  go_enter Try.func8, Try.ntmps8
  go_wp2_with fail
  with_reducible refine (read_any w _ F H.out.1 (by omega) H.out.2.1).mono ?_
  rintro e w1 ⟨q1, v1, rfl, hr1⟩
  have H1 := hid hr1
  clear hr1
  go_wp2_with fail
  with_reducible refine (refread_any w1 _ F (H.out.1.below H1.out.2.1) (by omega) H.out.2.1).mono ?_
  rintro e w2 ⟨q2, v2, rfl, hr2⟩
  have H2 := hid (RI2.new H1.out hr2)
  clear hr2
  go_wp2_with fail
  with_reducible refine (HP.out w2).mono ?_
  rintro e w3 ⟨rfl, rfl⟩
  have hcase : b = false ∨ (b = true ∧ n < 0) ∨ (b = true ∧ ¬ n < 0 ∧ 1048576 < n) := by
    cases b
    · exact .inl rfl
    · by_cases h : n < 0
      · exact .inr (.inl ⟨rfl, h⟩)
      · exact .inr (.inr ⟨rfl, h, by rcases hbad with h1 | h1 | h1 <;> first | exact h1 | cases h1 | omega⟩)
  clear hbad
  rcases hcase with rfl | ⟨rfl, hn⟩ | ⟨rfl, hn, hn2⟩
  all_goals (
    go_wp2_with fail
    with_reducible refine (HGA.out q1 w2).mono ?_
    rintro e w3 ⟨rfl, rfl⟩
    go_wp2_with fail
    with_reducible refine (known07 _).mono ?_
    rintro e w3 ⟨rfl, hb⟩
    have H3 := hid (H2.out.bel.trans (hb.mono H2.out.bel.size))
    clear hb
    go_wp2_with fail
    go_ret
    exact ⟨rfl, H3.out⟩)

set_option maxRecDepth 100000 in
set_option maxHeartbeats 4000000 in
theorem walk_deep (A : Option Addr) (c : Nat) (F : List Nat) (n k : Nat) (w : World) (hv : Sl w (.slice A F.length c) (u8s F)) (hb : ∀ x ∈ F, x < 256) (h1 : F.length ≤ 200) (hk : k ≤ 30) (hn : n ≤ 1048576) (hd : 3000 < n) :
    Calls Try.prog 8 #[.slice A F.length c, .int .i64 (n : Int), .int .i64 (k : Int)] w fun e w' => e = .returned (.bool true) ∧ Below w.heap.size w w' := by
  have h1' : ¬ (200 : Int) < F.length := by omega
  have H := hid (And.intro hv hb)
  have HP := hid (fun W => refparam_any (k : Int) W)
  rw [(paramB_iff (k : Int)).2 (by omega)] at HP
  clear hv hb
  have hn0 : ¬ (n : Int) < 0 := by omega
  have hn1 : ¬ (1048576 : Int) < n := by omega
  have hn2 : (3000 : Int) < n := by omega
  go_enter Try.func8, Try.ntmps8
  go_wp2_with fail
  with_reducible refine (read_any w _ F H.out.1 (by omega) H.out.2).mono ?_
  rintro e w1 ⟨q1, v1, rfl, hr1⟩
  have H1 := hid hr1
  clear hr1
  go_wp2_with fail
  with_reducible refine (refread_any w1 _ F (H.out.1.below H1.out.2.1) (by omega) H.out.2).mono ?_
  rintro e w2 ⟨q2, v2, rfl, hr2⟩
  have H2 := hid (RI2.new H1.out hr2)
  clear hr2
  go_wp2_with fail
  with_reducible refine (HP.out w2).mono ?_
  rintro e w4 ⟨rfl, rfl⟩
  go_wp2_with fail
  with_reducible refine (known07 _).mono ?_
  rintro e w4 ⟨rfl, hb⟩
  have H4 := hid (H2.out.bel.trans (hb.mono H2.out.bel.size))
  clear hb
  go_wp2_with fail
  go_ret
  exact ⟨rfl, H4.out⟩

end runsGets
end Go.Proofs.Ytjboboaccjbebaa
