/- The walk of PartChooses. -/
import Derived.Test.YtjboboaccjbebaaMgF
import Derived.Test.YtjboboaccjbebaaMgE

namespace Go.Proofs.Ytjboboaccjbebaa
open Go.RowKit
namespace partChooses
set_option maxRecDepth 100000 in
set_option maxHeartbeats 4000000 in
theorem walk {l : Value} {xs : List Int} {w : World} (hl : Sl w l (i64s xs)) (hx : InI xs) :
    Calls Try.prog 10 #[l] w fun e w' => e = .returned (.bool true) ∧ Below w.heap.size w w' := by
  obtain ⟨A, c, rfl, _⟩ := i64s_form hl
  by_cases h : 60 < xs.length
  · have h' : (60 : Int) < xs.length := by omega
    clear hl hx
    go_enter Try.func10, Try.ntmps10
    go_wp2_with fail
    with_reducible refine (known09 _).mono ?_
    rintro e w1 ⟨rfl, hb⟩
    replace hb := hid hb
    go_wp2_with fail
    go_ret
    exact ⟨rfl, hb.out⟩
  have h' : ¬ (60 : Int) < xs.length := by omega
  have HC := hid (fun W (hW : Sl W (.slice A xs.length c) (i64s xs)) => choosex_any (.slice A xs.length c) xs W hW hx)
  have HM := hid (fun W (hW : Sl W (.slice A xs.length c) (i64s xs)) => refmayl_any (.slice A xs.length c) xs W hW hx)
  have HX := hid (chooseX.eq_1 xs)
  have H := hid hl
  by_cases hm : mayL xs = true
  · have hcd : codedB xs = true := by rwa [mayL_coded (by omega)] at hm
    have HR := hid (fun W (hW : Sl W (.slice A xs.length c) (i64s xs)) => refchoose_any (.slice A xs.length c) xs W hW hx (by omega))
    have HD := hid (fun W (hW : Sl W (.slice A xs.length c) (i64s xs)) => refcode09_any (.slice A xs.length c) xs W hW hx (by omega) hcd)
    rw [codeP_length _ hcd] at HD
    rw [if_pos hm] at HX
    rw [hm] at HM
    rw [HX.out] at HC
    obtain ⟨R, hR⟩ : ∃ R, chooseL xs = R := ⟨_, rfl⟩
    rw [hR] at HC HR HD
    clear hl hx h hm hcd HX hR
    have e1 : ((R.1 : Int) == (R.1 : Int)) = true := by simp
    have e2 : ((R.2.1 : Int) == (R.2.1 : Int)) = true := by simp
    have e3 : ((R.2.2 : Int) == (R.2.2 : Int)) = true := by simp
    unfold wayV at HC HR
    go_enter Try.func10, Try.ntmps10
    go_wp2_with fail
    with_reducible refine (HC.out _ H.out).mono ?_
    rintro e w1 ⟨rfl, hb1⟩
    have hA := (hb1.alloc hb1.size (.cells #[.int .i64 (R.1 : Int), .int .i64 (R.2.1 : Int)] 61))
    have H1 := hid (And.intro hA (Blk.new w1 61 #[.int .i64 (R.1 : Int), .int .i64 (R.2.1 : Int)]))
    clear hb1 hA
    go_wp2_with fail
    with_reducible refine (HM.out _ (H.out.below H1.out.1)).mono ?_
    rintro e w2 ⟨rfl, rfl⟩
    go_wp2_with fail
    with_reducible refine (HR.out _ (H.out.below H1.out.1)).mono ?_
    rintro e w3 ⟨rfl, hb3⟩
    have hblk : Blk w3 w1.heap.size 61 #[.int .i64 (R.1 : Int), .int .i64 (R.2.1 : Int)] := (hb3.block _ H1.out.2.lt).trans H1.out.2
    have hbw := (H1.out.1.trans (hb3.mono H1.out.1.size))
    have hB := Blk.new w3 64 #[.int .i64 (R.1 : Int), .int .i64 (R.2.1 : Int)]
    have hK := hblk.alloc (.cells #[.int .i64 (R.1 : Int), .int .i64 (R.2.1 : Int)] 64)
    have hW := hbw.alloc hbw.size (.cells #[.int .i64 (R.1 : Int), .int .i64 (R.2.1 : Int)] 64)
    have c0 := hK.cell 0
    have c1 := hK.cell 1
    have d0 := hB.cell 0
    have d1 := hB.cell 1
    simp at c0 c1 d0 d1
    have H3 := hid hW
    clear hb3 hblk hbw hB hK hW
    go_wp2_with fail
    with_reducible refine (HD.out _ (H.out.below H3.out)).mono ?_
    rintro e w4 ⟨A4, c4, rfl, hf4⟩
    have H4 := hid (H3.out.trans (hf4.bel.mono H3.out.size))
    clear hf4
    go_wp2_with fail
    with_reducible refine (known09 _).mono ?_
    rintro e w5 ⟨rfl, hb⟩
    have H5 := hid (H4.out.trans (hb.mono H4.out.size))
    clear hb
    go_wp2_with fail
    go_ret
    exact ⟨rfl, H5.out⟩
  · rw [if_neg hm] at HX
    rw [show mayL xs = false by simpa using hm] at HM
    rw [HX.out] at HC
    clear hl hx h hm HX
    unfold wayV at HC
    go_enter Try.func10, Try.ntmps10
    go_wp2_with fail
    with_reducible refine (HC.out _ H.out).mono ?_
    rintro e w1 ⟨rfl, hb1⟩
    have hA := (hb1.alloc hb1.size (.cells #[.int .i64 0, .int .i64 0] 61))
    have hB := Blk.new w1 61 #[.int .i64 0, .int .i64 0]
    have c0 := hB.cell 0
    have c1 := hB.cell 1
    simp at c0 c1
    have H1 := hid hA
    clear hb1 hA hB
    go_wp2_with fail
    with_reducible refine (HM.out _ (H.out.below H1.out)).mono ?_
    rintro e w2 ⟨rfl, rfl⟩
    go_wp2_with fail
    with_reducible refine (known09 _).mono ?_
    rintro e w5 ⟨rfl, hb⟩
    have H5 := hid (H1.out.trans (hb.mono H1.out.size))
    clear hb
    go_wp2_with fail
    go_ret
    exact ⟨rfl, H5.out⟩
end partChooses
end Go.Proofs.Ytjboboaccjbebaa
