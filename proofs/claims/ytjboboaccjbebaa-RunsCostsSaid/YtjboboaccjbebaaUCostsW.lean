/- The walk of RunsCosts. -/
import Derived.Test.YtjboboaccjbebaaRunT
import Derived.Test.YtjboboaccjbebaaKnown07
namespace Go.Proofs.Ytjboboaccjbebaa
open Go.RowKit
namespace runsCosts
set_option maxRecDepth 100000 in
set_option maxHeartbeats 1600000 in
theorem walk {l : Value} {xs : List Int} {k : Int} {w : World} (hl : Sl w l (i64s xs)) (hx : InI xs) :
    Calls Try.prog 4 #[l, .int .i64 k] w fun e w' => e = .returned (.bool true) ∧ Below w.heap.size w w' := by
  obtain ⟨A, c, rfl, _⟩ := i64s_form hl
  by_cases h : 60 < xs.length
  · have h' : (60 : Int) < xs.length := by omega
    clear hl hx
    go_enter Try.func4, Try.ntmps4
    go_wp2_with fail
    with_reducible refine (known07 _).mono ?_
    rintro e w1 ⟨rfl, hb⟩
    replace hb := hid hb
    go_wp2_with fail
    go_ret
    exact ⟨rfl, hb.out⟩
  have h' : ¬ (60 : Int) < xs.length := by omega
  have HB1 := hid (fun W (hW : Sl W (.slice A xs.length c) (i64s xs)) => bestl_any (.slice A xs.length c) xs W hW hx (by omega))
  have HB2 := hid (fun W (hW : Sl W (.slice A xs.length c) (i64s xs)) => refbestl_any (.slice A xs.length c) xs W hW hx (by omega))
  have HC1 := hid (fun W (hW : Sl W (.slice A xs.length c) (i64s xs)) => costl_any (.slice A xs.length c) xs k W hW hx (by omega))
  have HC2 := hid (fun W (hW : Sl W (.slice A xs.length c) (i64s xs)) => refcostl_any (.slice A xs.length c) xs k W hW hx (by omega))
  unfold BestL at HB1 HB2
  obtain ⟨b, hb⟩ : ∃ b, bestTo (fun k => costL xs (k : Int)) 30 = b := ⟨_, rfl⟩
  rw [hb] at HB1 HB2
  obtain ⟨t, ht⟩ : ∃ t, costL xs (b : Int) = t := ⟨_, rfl⟩
  rw [ht] at HB1 HB2
  obtain ⟨y, hy⟩ : ∃ y, costL xs k = y := ⟨_, rfl⟩
  rw [hy] at HC1 HC2
  have H := hid hl
  clear hl hx hb ht hy
  have e1 : ((b : Int) == (b : Int)) = true := by simp
  have e2 : ((t : Int) == (t : Int)) = true := by simp
  have e3 : ((y : Int) == (y : Int)) = true := by simp
  go_enter Try.func4, Try.ntmps4
  go_wp2_with fail
  with_reducible refine (HB1.out _ H.out).mono ?_
  rintro e w1 ⟨rfl, hb1⟩
  have H1 := hid (And.intro (H.out.below hb1) hb1)
  clear hb1
  go_wp2_with fail
  with_reducible refine (HB2.out _ H1.out.1).mono ?_
  rintro e w2 ⟨rfl, hb2⟩
  have H2 := hid (And.intro (H1.out.1.below hb2) (H1.out.2.trans (hb2.mono H1.out.2.size)))
  clear hb2
  go_wp2_with fail
  with_reducible refine (HC1.out _ H2.out.1).mono ?_
  rintro e w3 ⟨rfl, hb3⟩
  have H3 := hid (And.intro (H2.out.1.below hb3) (H2.out.2.trans (hb3.mono H2.out.2.size)))
  clear hb3
  go_wp2_with fail
  with_reducible refine (HC2.out _ H3.out.1).mono ?_
  rintro e w4 ⟨rfl, n4, hw4⟩
  have H4 := hid (show Below w.heap.size w w4 from hw4 ▸ below_drewN' H3.out.2 n4)
  clear hw4
  go_wp2_with fail
  with_reducible refine (known07 _).mono ?_
  rintro e w5 ⟨rfl, hb⟩
  have H5 := hid (H4.out.trans (hb.mono H4.out.size))
  clear hb
  go_wp2_with fail
  go_ret
  exact ⟨rfl, H5.out⟩
end runsCosts
end Go.Proofs.Ytjboboaccjbebaa
