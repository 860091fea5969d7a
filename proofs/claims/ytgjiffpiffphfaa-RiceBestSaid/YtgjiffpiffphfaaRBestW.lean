/- The walk of RiceBest. -/
import Derived.Test.YtgjiffpiffphfaaGuess06
import Derived.Test.YtgjiffpiffphfaaKnown06
import Derived.Deep.RegionWith
namespace Go.Proofs.Ytgjiffpiffphfaa
open Go.RowKit
namespace riceBest

theorem most_le {most other : Int} {m : Nat} (hm : mostK most = m) (h0 : ¬ other < 0) (h1 : ¬ most < other) (h2 : ¬ 30 < other) : ∃ j : Nat, other = (j : Int) ∧ j ≤ m := by
  obtain ⟨_, hc⟩ := mostK_spec most
  rw [hm] at hc
  refine ⟨other.toNat, by omega, ?_⟩
  unfold clampI at hc
  split at hc
  · omega
  · split at hc <;> omega

set_option maxRecDepth 100000 in
set_option maxHeartbeats 1600000 in
theorem walk {l : Value} {xs : List Nat} {most other : Int} {w : World} (hl : Sl w l (u64s xs)) (hx : InU xs) :
    Calls Try.prog 5 #[l, .int .i64 most, .int .i64 other] w fun e w' => e = .returned (.bool true) ∧ Below w.heap.size w w' := by
  obtain ⟨A, c, rfl, _⟩ := u64s_form hl
  by_cases h : 100 < xs.length
  · have h' : (100 : Int) < xs.length := by omega
    clear hl hx
    go_enter Try.func5, Try.ntmps5
    go_wp2_with fail
    with_reducible refine (known06 _).mono ?_
    rintro e w1 ⟨rfl, hb⟩
    replace hb := hid hb
    go_wp2_with fail
    go_ret
    exact ⟨rfl, hb.out⟩
  have h' : ¬ (100 : Int) < xs.length := by omega
  obtain ⟨m, hm⟩ : ∃ m, mostK most = m := ⟨_, rfl⟩
  have HM := hid (fun h0 h1 h2 => @most_le most other m hm h0 h1 h2)
  have HB1 := hid (fun W (hW : Sl W (.slice A xs.length c) (u64s xs)) => best_any (.slice A xs.length c) xs most W hW hx (by omega))
  have HB2 := hid (fun W (hW : Sl W (.slice A xs.length c) (u64s xs)) => refbest_any (.slice A xs.length c) xs most W hW (by omega))
  have HL := hid (fun (j : Nat) (h : j ≤ m) => bestTo_least (fun k => totalR xs (k : Int)) m j h)
  unfold BestPost at HB1 HB2
  rw [hm] at HB1 HB2
  obtain ⟨b, hb⟩ : ∃ b, bestTo (fun k => totalR xs (k : Int)) m = b := ⟨_, rfl⟩
  rw [hb] at HB1 HB2 HL
  obtain ⟨t, ht⟩ : ∃ t, totalR xs (b : Int) = t := ⟨_, rfl⟩
  rw [ht] at HB1 HB2
  have HL' : Hid (∀ j : Nat, j ≤ m → t ≤ totalR xs (j : Int)) := fun j hj => by have := HL.out j hj; rw [← ht]; exact this
  have HG1 := hid (fun W (hW : Sl W (.slice A xs.length c) (u64s xs)) => guess_any (.slice A xs.length c) xs W hW hx)
  have HG2 := hid (fun W (hW : Sl W (.slice A xs.length c) (u64s xs)) => refguess_any (.slice A xs.length c) xs W hW hx)
  obtain ⟨g, hg⟩ : ∃ g, guessN xs = g := ⟨_, rfl⟩
  rw [hg] at HG1 HG2
  have HT := hid (fun W (hW : Sl W (.slice A xs.length c) (u64s xs)) => total_any (.slice A xs.length c) xs other W hW hx (by omega))
  have H := hid hl
  clear hl hx hm hb ht hg HL
  have e1 : ((b : Int) == (b : Int)) = true := by simp
  have e2 : ((t : Int) == (t : Int)) = true := by simp
  have e3 : ((g : Int) == (g : Int)) = true := by simp
  obtain ⟨y, hy⟩ : ∃ y, totalR xs other = y := ⟨_, rfl⟩
  have HY := hid hy
  rw [hy] at HT
  have HTY : Hid (¬ other < 0 → ¬ most < other → ¬ 30 < other → t ≤ y) := fun h0 h1 h2 => by
    obtain ⟨j, rfl, hj⟩ := HM.out h0 h1 h2
    rw [← HY.out]
    exact HL'.out j hj
  clear hy
  go_enter Try.func5, Try.ntmps5
  go_wp2_with fail
  with_reducible refine (HB1.out _ H.out).mono ?_
  rintro e w1 ⟨rfl, hb1⟩
  have H1 := hid (And.intro (H.out.below hb1) hb1)
  clear hb1
  go_wp2_with fail
  with_reducible refine (HB2.out _ H1.out.1).mono ?_
  rintro e w2 ⟨rfl, hb2⟩
  have H2 := hid (And.intro (H1.out.1.below hb2) (H1.out.2.trans (hb2.mono H1.out.2.size)))
  clear hb2
  go_wp2_with fail
  with_reducible refine (HG1.out _ H2.out.1).mono ?_
  rintro e w3 ⟨rfl, rfl⟩
  go_wp2_with fail
  with_reducible refine (HG2.out _ H2.out.1).mono ?_
  rintro e w3 ⟨rfl, rfl⟩
  by_cases o0 : other < 0
  · go_wp2_with fail
    with_reducible refine (known06 _).mono ?_
    rintro e w4 ⟨rfl, hb⟩
    have H3 := hid (H2.out.2.trans (hb.mono H2.out.2.size))
    clear hb
    go_wp2_with fail
    go_ret
    exact ⟨rfl, H3.out⟩
  by_cases o1 : most < other
  · go_wp2_with fail
    with_reducible refine (known06 _).mono ?_
    rintro e w4 ⟨rfl, hb⟩
    have H3 := hid (H2.out.2.trans (hb.mono H2.out.2.size))
    clear hb
    go_wp2_with fail
    go_ret
    exact ⟨rfl, H3.out⟩
  by_cases o2 : 30 < other
  · go_wp2_with fail
    with_reducible refine (known06 _).mono ?_
    rintro e w4 ⟨rfl, hb⟩
    have H3 := hid (H2.out.2.trans (hb.mono H2.out.2.size))
    clear hb
    go_wp2_with fail
    go_ret
    exact ⟨rfl, H3.out⟩
  have hty := HTY.out (by omega) (by omega) (by omega)
  have hty' : ¬ ((y : Int) < (t : Int)) := by omega
  go_wp2_with fail
  with_reducible refine (HT.out _ H2.out.1).mono ?_
  rintro e w4 ⟨rfl, hb4⟩
  have H4 := hid (H2.out.2.trans (hb4.mono H2.out.2.size))
  clear hb4
  go_wp2_with fail
  with_reducible refine (known06 _).mono ?_
  rintro e w5 ⟨rfl, hb⟩
  have H3 := hid (H4.out.trans (hb.mono H4.out.size))
  clear hb
  go_wp2_with fail
  go_ret
  exact ⟨rfl, H3.out⟩
end riceBest
end Go.Proofs.Ytgjiffpiffphfaa
