/- The walk of RiceCosts. -/
import Derived.Test.YtgjiffpiffphfaaCode06
import Derived.Test.YtgjiffpiffphfaaKnown06
import Derived.Deep.RegionWith
namespace Go.Proofs.Ytgjiffpiffphfaa
open Go.RowKit
namespace riceCosts
set_option maxRecDepth 100000 in
set_option maxHeartbeats 1600000 in
theorem walk {l : Value} {xs : List Nat} {u : Nat} {k : Int} {w : World} (hu : u < 18446744073709551616) (hl : Sl w l (u64s xs)) (hx : InU xs) :
    Calls Try.prog 3 #[.int .u64 (u : Int), l, .int .i64 k] w fun e w' => e = .returned (.bool true) ∧ Below w.heap.size w w' := by
  obtain ⟨A, c, rfl, _⟩ := u64s_form hl
  by_cases h : 200 < xs.length
  · have h' : (200 : Int) < xs.length := by omega
    clear hl hx
    go_enter Try.func3, Try.ntmps3
    go_wp2_with fail
    with_reducible refine (known06 _).mono ?_
    rintro e w1 ⟨rfl, hb⟩
    replace hb := hid hb
    go_wp2_with fail
    go_ret
    exact ⟨rfl, hb.out⟩
  · have h' : ¬ (200 : Int) < xs.length := by omega
    have H := hid (And.intro hl (And.intro hx hu))
    have HC1 := rcost_any u k w hu
    have HC2 := refcost_any u k w
    have HC3 := hid (fun W => rcost_any u k W hu)
    have HT2 := hid (fun W (hW : Sl W (.slice A xs.length c) (u64s xs)) => reftotal_any (.slice A xs.length c) xs k W hW (by omega))
    have HT1 := hid (fun W (hW : Sl W (.slice A xs.length c) (u64s xs)) => total_any (.slice A xs.length c) xs k W hW hx (by omega))
    have HC4 := hid (fun W => refcode_any06 u k W)
    obtain ⟨y, hy⟩ : ∃ y, costR u k = y := ⟨_, rfl⟩
    rw [hy] at HC1 HC2 HC3 HC4
    obtain ⟨t, ht⟩ : ∃ t, totalR xs k = t := ⟨_, rfl⟩
    rw [ht] at HT1 HT2
    replace HC1 := hid HC1
    replace HC2 := hid HC2
    clear hl hx hu hy ht
    have hyy : ((y : Int) == (y : Int)) = true := by simp
    have htt : ((t : Int) == (t : Int)) = true := by simp
    go_enter Try.func3, Try.ntmps3
    go_wp2_with fail
    with_reducible refine HC1.out.mono ?_
    rintro e w1 ⟨rfl, rfl⟩
    go_wp2_with fail
    with_reducible refine HC2.out.mono ?_
    rintro e w1 ⟨rfl, rfl⟩
    go_wp2_with fail
    with_reducible refine (HT1.out _ H.out.1).mono ?_
    rintro e w1 ⟨rfl, hb1⟩
    have H1 := hid hb1
    clear hb1
    go_wp2_with fail
    with_reducible refine (HT2.out _ (H.out.1.below H1.out)).mono ?_
    rintro e w2 ⟨rfl, rfl⟩
    go_wp2_with fail
    with_reducible refine (HC4.out _).mono ?_
    rintro e w2 ⟨A2, c2, rfl, hf⟩
    have H2 := hid (H1.out.trans (hf.bel.mono H1.out.size))
    clear hf
    go_wp2_with fail
    with_reducible refine (HC3.out _).mono ?_
    rintro e w3 ⟨rfl, rfl⟩
    go_wp2_with fail
    with_reducible refine (known06 _).mono ?_
    rintro e w3 ⟨rfl, hb⟩
    have H3 := hid (H2.out.trans (hb.mono H2.out.size))
    clear hb
    go_wp2_with fail
    go_ret
    exact ⟨rfl, H3.out⟩
end riceCosts
end Go.Proofs.Ytgjiffpiffphfaa
