/- The walk of BitioReads. -/
import Derived.Test.YtfbccmogiafgfaaRefRd
import Derived.Test.YtfbccmogiafgfaaKnown02
namespace Go.Proofs.Ytfbccmogiafgfaa
open Go.RowKit

theorem quiet1 {P : Program} {f : FuncId} {args : Array Value} {w : World} {n : Nat} {v : Value} (h : Calls P f args (w.drewN n) fun e w' => e = .returned v ∧ w.drewN n = w') :
    Calls P f args (w.drewN n) fun e w'' => e = .returned v ∧ ∃ m, w'' = w.drewN m := h.mono fun _ _ ⟨he, hm⟩ => ⟨he, n, hm.symm⟩
theorem quiet2 {P : Program} {f : FuncId} {args : Array Value} {w : World} {n : Nat} {v : Value} (h : Calls P f args (w.drewN n) fun e w' => e = .returned v ∧ ∃ m, w' = (w.drewN n).drewN m) :
    Calls P f args (w.drewN n) fun e w'' => e = .returned v ∧ ∃ m, w'' = w.drewN m := h.mono fun _ _ ⟨he, m, hm⟩ => ⟨he, n + m, by rw [hm, World.drewN_drewN]⟩

/-- A slice of pairs of ints, in old memory. -/
def Pairs (w : World) (A : Option Addr) (n : Nat) (K N : Nat → Int) : Prop :=
  ∀ i, i < n → ∃ ad, A = some ad ∧ ad.block < w.heap.size ∧ w.cell? (ad.add (i * 2)) = some (.int .i64 (K i)) ∧ w.cell? ⟨(ad.add (i * 2)).block, (ad.add (i * 2)).off + 1, none⟩ = some (.int .i64 (N i))

namespace bitioReads
/-- Both readers stand at one bit. -/
def Rel (w : World) (q1 q2 : Nat) (v1 v2 : Value) (F : List Nat) (wr : World) : Prop := ∃ a, Rd wr q1 v1 F a ∧ RefRd wr q2 v2 (flat F) a ∧ Below w.heap.size w wr

def Apart (w : World) (q1 q2 : Nat) (v1 v2 : Value) : Prop := q1 ≠ q2 ∧ v1.ownBlock ≠ some q2 ∧ v2.ownBlock ≠ some q1 ∧ w.heap.size ≤ q1 ∧ w.heap.size ≤ q2

theorem Rel.fst {w wr w1 : World} {q1 q2 : Nat} {v1 v2 : Value} {F : List Nat} {a b : Nat} (hA : Apart w q1 q2 v1 v2) (h2 : RefRd wr q2 v2 (flat F) a) (hb : Below w.heap.size w wr) (k : RI wr q1 v1 F b w1) :
    Rd w1 q1 v1 F b ∧ RefRd w1 q2 v2 (flat F) a ∧ Below w.heap.size w w1 :=
  ⟨k.1, h2.keep k.2 (fun e => hA.1 e.symm) (fun g hg e => hA.2.2.1 (by rw [hg, e])), Kept.after hb (Nat.le_refl _) k.2 fun i hi => by have := hA.2.2.2.1; omega⟩
theorem Rel.snd {w wr w1 : World} {q1 q2 : Nat} {v1 v2 : Value} {F : List Nat} {a b : Nat} (hA : Apart w q1 q2 v1 v2) (h1 : Rd wr q1 v1 F a) (hb : Below w.heap.size w wr) (k : RRI wr q2 v2 (flat F) b w1) :
    Rd w1 q1 v1 F a ∧ RefRd w1 q2 v2 (flat F) b ∧ Below w.heap.size w w1 :=
  ⟨h1.keep k.2 hA.1 (fun g hg e => hA.2.1 (by rw [hg, e])), k.1, Kept.after hb (Nat.le_refl _) k.2 fun i hi => by have := hA.2.2.2.2; omega⟩

set_option maxRecDepth 100000 in
set_option maxHeartbeats 4000000 in
theorem walk (A : Option Addr) (c m : Nat) (B : Option Addr) (d : Nat) (F : List Nat) (K N : Nat → Int) (w : World) (hv : Sl w (.slice A F.length c) (u8s F)) (hb : ∀ x ∈ F, x < 256) (hl : Pairs w B m K N) (hc : F.length ≤ 9223372036854775807) (hm : m ≤ 9223372036854775807) :
    Calls Try.prog 9 #[.slice A F.length c, .slice B m d] w fun e w' => e = .returned (.bool true) ∧ Below w.heap.size w w' := by
  by_cases h1 : 200 < F.length
  · have h1' : (200 : Int) < F.length := by omega
    clear hv hb hl
    go_enter Try.func9, Try.ntmps9
    go_wp2_with fail
    with_reducible refine (known02 _).mono ?_
    rintro e w1 ⟨rfl, hb⟩
    replace hb := hid hb
    go_wp2_with fail
    go_ret
    exact ⟨rfl, hb.out⟩
  have h1' : ¬ (200 : Int) < F.length := by omega
  by_cases h2 : 100 < m
  · have h2' : (100 : Int) < m := by omega
    clear hv hb hl
    go_enter Try.func9, Try.ntmps9
    go_wp2_with fail
    with_reducible refine (known02 _).mono ?_
    rintro e w1 ⟨rfl, hb⟩
    replace hb := hid hb
    go_wp2_with fail
    go_ret
    exact ⟨rfl, hb.out⟩
  have h2' : ¬ (100 : Int) < m := by omega
  have H := hid (And.intro hv (And.intro hb hl))
  clear hv hb hl
  go_enter Try.func9, Try.ntmps9
  go_wp2_with fail
  have HC := read_any w _ F H.out.1 (by omega) H.out.2.1
  with_reducible refine HC.mono ?_
  clear HC
  rintro e w1 ⟨q1, v1, rfl, hrd, hbel, hq1, hv1⟩
  have H1 := hid (And.intro hrd (And.intro hbel (And.intro hq1 hv1)))
  clear hrd hbel hq1 hv1
  go_wp2_with fail
  have HC := refread_any w1 _ F (H.out.1.below H1.out.2.1) (by omega) H.out.2.1
  with_reducible refine HC.mono ?_
  clear HC
  rintro e w2 ⟨q2, v2, rfl, hrd2, hbel2, hq2, hv2⟩
  have HA := hid (show Apart w q1 q2 v1 v2 ∧ Rel w q1 q2 v1 v2 F w2 from by
    obtain ⟨hrd, hbel, hq1, hv1⟩ := H1.out
    have hs := hbel.size
    have hlt1 := hrd.blk.lt
    refine ⟨⟨by omega, ?_, ?_, hq1, by omega⟩, 0, hrd.below hbel2, hrd2, hbel.trans (hbel2.mono hs)⟩
    · intro e
      have := (hv1 _ e).2
      omega
    · intro e
      have := (hv2 _ e).1
      omega)
  clear hrd2 hbel2 hq2 hv2
  go_wp2_with fail
  go_loopw [7] (fun i wr => ∃ k : Nat, k ≤ m ∧ i = .int .i64 k ∧ Rel w q1 q2 v1 v2 F wr) (fun i _ => m - (intOf i).toNat)
  case atStart => exact ⟨0, Nat.zero_le _, rfl, HA.out.2⟩
  case round =>
    obtain ⟨k, hk, rfl, a, hrd, hrf, hbel⟩ := hrel
    have hfl : ((flat F).length : Int) = 8 * (F.length : Int) := by rw [flat_length]; omega
    by_cases hkm : k < m
    · have hin : (k : Int) < m := by omega
      obtain ⟨ad, rfl, hlt, hcK, hcN⟩ := H.out.2.2 k hkm
      have hcK' := (hbel.cell (p := ad.add (k * 2)) (by rw [block_of_add]; exact hlt)).trans hcK
      have hcN' := (hbel.cell (p := ⟨(ad.add (k * 2)).block, (ad.add (k * 2)).off + 1, none⟩) (by rw [block_of_add]; exact hlt)).trans hcN
      have HR := hid (And.intro hrd (And.intro hrf hbel))
      clear hrd hrf hbel hcK
      obtain ⟨K0, hK⟩ : ∃ x, K k = x := ⟨_, rfl⟩
      obtain ⟨N0, hN⟩ : ∃ x, N k = x := ⟨_, rfl⟩
      rw [hK] at hcK'
      rw [hN] at hcN' hcN
      clear hK hN
      by_cases hk0 : K0 = 0
      · subst hk0
        go_wp2_with fail
        have HC := get_any wr q1 v1 F a N0 HR.out.1
        with_reducible refine HC.mono ?_
        clear HC
        rintro e w3 ⟨rfl, hk3⟩
        have HR3 := hid (Rel.fst HA.out.1 HR.out.2.1 HR.out.2.2 hk3)
        have hcN3 := (HR3.out.2.2.cell (p := ⟨(ad.add (k * 2)).block, (ad.add (k * 2)).off + 1, none⟩) (by rw [block_of_add]; exact hlt)).trans hcN
        clear hk3
        go_wp2_with fail
        have HC := refget_any w3 q2 v2 (flat F) a N0 HR3.out.2.1
        with_reducible refine HC.mono ?_
        clear HC
        rintro e w4 ⟨rfl, hk4⟩
        have HR4 := hid (Rel.snd HA.out.1 HR3.out.1 HR3.out.2.2 hk4)
        clear hk4 hcN3
        go_wp2_with fail
        have b1 := HR4.out.2.1.blk.cell 1
        simp at b1
        go_quiet (first | (go_at_call 33; exact quiet1 (at_any _ _ _ _ _ (HR4.out.1.drewN _))) | (go_at_call 34; exact quiet2 (left_any _ _ _ _ _ (HR4.out.1.drewN _))) | (go_at_call 41; exact quiet2 (refleft_any _ _ _ _ _ (HR4.out.2.1.drewN _))))
        go_wp2_with fail
        go_roundw
        case rel => exact ⟨k + 1, by omega, by go_num, _, HR4.out.1.drewN _, HR4.out.2.1.drewN _, below_drewN' HR4.out.2.2 _⟩
        case measure => simp [intOf]; omega
      by_cases hk1 : K0 = 1
      · subst hk1
        go_wp2_with fail
        have HC := rones_any wr q1 v1 F a N0 HR.out.1
        with_reducible refine HC.mono ?_
        clear HC
        rintro e w3 ⟨rfl, hk3⟩
        have HR3 := hid (Rel.fst HA.out.1 HR.out.2.1 HR.out.2.2 hk3)
        have hcN3 := (HR3.out.2.2.cell (p := ⟨(ad.add (k * 2)).block, (ad.add (k * 2)).off + 1, none⟩) (by rw [block_of_add]; exact hlt)).trans hcN
        clear hk3
        go_wp2_with fail
        have HC := refones_any w3 q2 v2 (flat F) a N0 HR3.out.2.1
        with_reducible refine HC.mono ?_
        clear HC
        rintro e w4 ⟨rfl, hk4⟩
        have HR4 := hid (Rel.snd HA.out.1 HR3.out.1 HR3.out.2.2 hk4)
        clear hk4 hcN3
        go_wp2_with fail
        have b1 := HR4.out.2.1.blk.cell 1
        simp at b1
        go_quiet (first | (go_at_call 33; exact quiet1 (at_any _ _ _ _ _ (HR4.out.1.drewN _))) | (go_at_call 34; exact quiet2 (left_any _ _ _ _ _ (HR4.out.1.drewN _))) | (go_at_call 41; exact quiet2 (refleft_any _ _ _ _ _ (HR4.out.2.1.drewN _))))
        go_wp2_with fail
        go_roundw
        case rel => exact ⟨k + 1, by omega, by go_num, _, HR4.out.1.drewN _, HR4.out.2.1.drewN _, below_drewN' HR4.out.2.2 _⟩
        case measure => simp [intOf]; omega
      by_cases hk2 : K0 = 2
      · subst hk2
        go_wp2_with fail
        have HC := ralign_any wr q1 v1 F a HR.out.1
        with_reducible refine HC.mono ?_
        clear HC
        rintro e w3 ⟨rfl, hk3⟩
        have HR3 := hid (Rel.fst HA.out.1 HR.out.2.1 HR.out.2.2 hk3)
        have hcN3 := (HR3.out.2.2.cell (p := ⟨(ad.add (k * 2)).block, (ad.add (k * 2)).off + 1, none⟩) (by rw [block_of_add]; exact hlt)).trans hcN
        clear hk3
        go_wp2_with fail
        have HC := refralign_any w3 q2 v2 (flat F) a HR3.out.2.1 (by rw [flat_length]; omega)
        with_reducible refine HC.mono ?_
        clear HC
        rintro e w4 ⟨rfl, hk4⟩
        have HR4 := hid (Rel.snd HA.out.1 HR3.out.1 HR3.out.2.2 hk4)
        clear hk4 hcN3
        go_wp2_with fail
        have b1 := HR4.out.2.1.blk.cell 1
        simp at b1
        go_quiet (first | (go_at_call 33; exact quiet1 (at_any _ _ _ _ _ (HR4.out.1.drewN _))) | (go_at_call 34; exact quiet2 (left_any _ _ _ _ _ (HR4.out.1.drewN _))) | (go_at_call 41; exact quiet2 (refleft_any _ _ _ _ _ (HR4.out.2.1.drewN _))))
        go_wp2_with fail
        go_roundw
        case rel => exact ⟨k + 1, by omega, by go_num, _, HR4.out.1.drewN _, HR4.out.2.1.drewN _, below_drewN' HR4.out.2.2 _⟩
        case measure => simp [intOf]; omega
      · have e0 : (K0 == 0) = false := by simpa using hk0
        have e1 : (K0 == 1) = false := by simpa using hk1
        have e2 : (K0 == 2) = false := by simpa using hk2
        clear hk0 hk1 hk2
        go_wp2_with fail
        have b1 := HR.out.2.1.blk.cell 1
        simp at b1
        go_quiet (first | (go_at_call 33; exact quiet1 (at_any _ _ _ _ _ (HR.out.1.drewN _))) | (go_at_call 34; exact quiet2 (left_any _ _ _ _ _ (HR.out.1.drewN _))) | (go_at_call 41; exact quiet2 (refleft_any _ _ _ _ _ (HR.out.2.1.drewN _))))
        go_wp2_with fail
        go_roundw
        case rel => exact ⟨k + 1, by omega, by go_num, _, HR.out.1.drewN _, HR.out.2.1.drewN _, below_drewN' HR.out.2.2 _⟩
        case measure => simp [intOf]; omega
    · have hin : ¬ (k : Int) < m := by omega
      have HB := hid hbel
      clear hrd hrf hbel
      go_wp2_with fail
      with_reducible refine (known02 _).mono ?_
      rintro e w5 ⟨rfl, hb⟩
      replace hb := hid hb
      go_wp2_with fail
      go_ret
      exact ⟨rfl, HB.out.trans (hb.out.mono HB.out.size)⟩
end bitioReads
end Go.Proofs.Ytfbccmogiafgfaa
