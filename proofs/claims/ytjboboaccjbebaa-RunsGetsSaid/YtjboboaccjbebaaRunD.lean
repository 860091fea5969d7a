/- Layer 7: Cost, Best. -/
import Derived.Test.YtjboboaccjbebaaRunC
namespace Go.Proofs.Ytjboboaccjbebaa
open Go.RowKit

theorem items_mem {P R : List (Nat × Option Int)} {n : Nat} {o : Option Int} {xs : List Int} (h : P ++ (n, o) :: R = items 0 xs) : (n, o) ∈ items 0 xs := by rw [← h]; simp
theorem items_pre {P R : List (Nat × Option Int)} {a : Nat × Option Int} {xs : List Int} (h : P ++ a :: R = items 0 xs) : P.length ≤ xs.length := by
  have h1 := items_length 0 xs
  rw [← h] at h1
  simp at h1
  omega
theorem enters_cost1 : ∀ args w, (callFunc 72 args).run Try.prog w = .ok (.enter 72 args) w := enters_of Try.func72 (by kernel_rfl) rfl

/-- The state of Cost between the items. -/
def CS (w : World) (b1 b2 : Nat) (k : Int) (P : List (Nat × Option Int)) (W : World) : Prop :=
  Blk W b1 3 #[.int .i64 (sumI k P : Nat)] ∧ Blk W b2 3 #[.int .i64 k] ∧ Below w.heap.size w W

theorem cost1_visit (w : World) (b1 b2 : Nat) (k : Int) (xs : List Int) (hx : InI xs) (hn : xs.length ≤ 1048576) (hne : b1 ≠ b2) (hlow : w.heap.size ≤ b1) :
    Visit 72 #[.pointer (some ⟨b1, 0, none⟩), .pointer (some ⟨b2, 0, none⟩)] xs (CS w b1 b2 k) := by
  rintro P n o R W hP ⟨h1, h2, h3⟩
  have hs := sumI_le k P
  have hl := items_pre hP
  have ho := items_ok 0 xs hx (by omega) _ (items_mem hP)
  refine (cost1_any b1 b2 n (sumI k P) o k W h1 h2 hne (by omega) ho).mono ?_
  rintro e w' ⟨rfl, hb, hk⟩
  refine ⟨rfl, ?_, h2.kept hk (Ne.symm hne), Kept.after h3 (Nat.le_refl _) hk fun i hi => by rw [hi]; exact hlow⟩
  rw [sumI_snoc]
  exact hb
theorem costL_ok {xs : List Int} {k : Int} (h1 : paramB k = true) (h2 : codedB xs = true) : costL xs k = sumI k (items 0 xs) := by
  unfold costL
  rw [if_pos ⟨h1, h2⟩, codeL_length]
theorem costL_le (xs : List Int) (k : Int) : costL xs k ≤ (xs.length + 1) * 127 := by
  unfold costL
  split
  · exact codeL_le xs k
  · omega

set_option maxRecDepth 100000 in
set_option maxHeartbeats 4000000 in
theorem costl_any (l : Value) (xs : List Int) (k : Int) (w : World) (hl : Sl w l (i64s xs)) (hx : InI xs) (hn : xs.length ≤ 1048576) :
    Calls Try.prog 28 #[l, .int .i64 k] w fun e w' => e = .returned (.int .i64 (costL xs k : Nat)) ∧ Below w.heap.size w w' := by
  obtain ⟨A, c, rfl, hm⟩ := i64s_form hl
  have hmf : ∀ (fn : Fn) (first cap : Array Value) (w : World), (Instr.makeFunc fn first cap).run Try.prog w = .ok (.func fn first cap) w := fun _ _ _ _ => rfl
  have HC := hid (fun W (h : Sl W (.slice A xs.length c) (i64s xs)) => coded_any (.slice A xs.length c) xs W h hx)
  have H := hid (And.intro hl hx)
  obtain ⟨b, hb⟩ : ∃ b, codedB xs = b := ⟨_, rfl⟩
  rw [hb] at HC
  have HB := hid hb
  clear hl hx hb
  have hbel : Below w.heap.size w (w.alloc (.cells #[.int .i64 k] 3)) := (Below.refl _ _).alloc (Nat.le_refl _) _
  have HBE := hid hbel
  have HSL := hid (H.out.1.below hbel)
  clear hbel
  by_cases h0 : k < 0
  · have HE := hid (show costL xs k = 0 by unfold costL; rw [if_neg (by intro h; have := (paramB_iff k).1 h.1; omega)])
    go_enter Try.func28, Try.ntmps28
    go_wp2_with fail
    go_ret
    exact ⟨by rw [HE.out]; rfl, HBE.out⟩
  by_cases h1 : 30 < k
  · have HE := hid (show costL xs k = 0 by unfold costL; rw [if_neg (by intro h; have := (paramB_iff k).1 h.1; omega)])
    go_enter Try.func28, Try.ntmps28
    go_wp2_with fail
    go_ret
    exact ⟨by rw [HE.out]; rfl, HBE.out⟩
  cases b
  · have HE := hid (show costL xs k = 0 by unfold costL; rw [if_neg (by intro h; rw [HB.out] at h; cases h.2)])
    go_enter Try.func28, Try.ntmps28
    go_wp2_with fail
    with_reducible refine (HC.out _ HSL.out).mono ?_
    rintro e w1 ⟨rfl, n, rfl⟩
    go_wp2_with fail
    go_ret
    exact ⟨by rw [HE.out]; rfl, below_drewN' HBE.out n⟩
  · have HE := hid (costL_ok ((paramB_iff k).2 ⟨by omega, by omega⟩) HB.out)
    go_enter Try.func28, Try.ntmps28
    go_wp2_with fail
    with_reducible refine (HC.out _ HSL.out).mono ?_
    rintro e w1 ⟨rfl, n, rfl⟩
    go_wp2_with fail
    have hb1 : Below w.heap.size w (((w.alloc (.cells #[.int .i64 k] 3)).drewN n).alloc (.cells #[.int .i64 0] 3)) := (below_drewN' HBE.out n).alloc (below_drewN' HBE.out n).size _
    have hI0 : CS w (w.heap.size + 1) w.heap.size k [] (((w.alloc (.cells #[.int .i64 k] 3)).drewN n).alloc (.cells #[.int .i64 0] 3)) := by
      refine ⟨?_, ((Blk.new w 3 #[.int .i64 k]).drewN n).alloc _, hb1⟩
      have := Blk.new ((w.alloc (.cells #[.int .i64 k] 3)).drewN n) 3 #[.int .i64 0]
      rw [show ((w.alloc (.cells #[.int .i64 k] 3)).drewN n).heap.size = w.heap.size + 1 from by simp] at this
      exact this
    have HEA := hid (each_any 72 #[.pointer (some ⟨w.heap.size + 1, 0, none⟩), .pointer (some ⟨w.heap.size, 0, none⟩)] enters_cost1 (.slice A xs.length c) xs _ (CS w (w.heap.size + 1) w.heap.size k) ⟨A, c, rfl⟩ hm (fun P W h => H.out.1.below h.2.2) (cost1_visit w (w.heap.size + 1) w.heap.size k xs H.out.2 hn (by omega) (by omega)) hI0)
    clear hb1 hI0
    with_reducible refine HEA.out.mono ?_
    rintro e w2 ⟨rfl, hcs⟩
    have hc5 := hcs.1.cell 0
    simp at hc5
    rw [← HE.out] at hc5
    have HCS := hid hcs.2.2
    obtain ⟨y, hy⟩ : ∃ y, costL xs k = y := ⟨_, rfl⟩
    rw [hy] at hc5
    have HY := hid hy
    clear hcs hy
    go_wp2_with fail
    go_ret
    rw [HY.out]
    exact ⟨rfl, HCS.out⟩

/-- The parameter that costs least, and the cost. -/
def BestL (w : World) (xs : List Int) (e : Ending) (w' : World) : Prop :=
  e = .returned (.tuple #[.int .i64 (bestTo (fun k => costL xs (k : Int)) 30 : Nat), .int .i64 (costL xs ((bestTo (fun k => costL xs (k : Int)) 30 : Nat) : Int) : Nat)]) ∧ Below w.heap.size w w'

set_option maxHeartbeats 800000 in
theorem bestl_any (l : Value) (xs : List Int) (w : World) (hl : Sl w l (i64s xs)) (hx : InI xs) (hn : xs.length ≤ 1048576) :
    Calls Try.prog 26 #[l] w (BestL w xs) := by
  have HT := hid (fun (k : Int) W (h : Sl W l (i64s xs)) => costl_any l xs k W h hx hn)
  have H := hid (And.intro hl hx)
  clear hl hx
  obtain ⟨c, hc⟩ : ∃ c : Nat → Nat, (fun k : Nat => costL xs (k : Int)) = c := ⟨_, rfl⟩
  have hcb : ∀ k : Nat, costL xs (k : Int) = c k := fun k => by rw [← hc]
  have hc64 : ∀ k, c k ≤ 134217728 := fun k => by rw [← hcb]; have := costL_le xs (k : Int); omega
  have HCB := hid (And.intro hcb (And.intro hc64 hc))
  clear hcb hc64 hc
  go_enter Try.func26, Try.ntmps26
  go_wp2_with fail
  have HCC := HT.out 0 w H.out.1
  rw [show costL xs 0 = c 0 from HCB.out.1 0] at HCC
  with_reducible refine HCC.mono ?_
  clear HCC
  rintro e w1 ⟨rfl, hb1⟩
  have H1 := hid hb1
  clear hb1
  go_wp2_with fail
  go_loopw [4, 5, 6] (fun b t i wr => ∃ (k bb tt : Nat), k ≤ 30 ∧ i = .int .i64 ((k : Int) + 1) ∧ b = .int .i64 bb ∧ t = .int .i64 tt ∧ Below w.heap.size w wr ∧ Hid (bb = bestTo c k ∧ tt = c bb)) (fun _ _ i _ => 31 - (intOf i).toNat)
  case atStart => exact ⟨0, 0, c 0, by omega, rfl, rfl, rfl, H1.out, rfl, rfl⟩
  case round =>
    obtain ⟨k, bb, tt, hk, rfl, rfl, rfl, hbel, hd⟩ := hrel
    have HB := hid hbel
    clear hbel
    by_cases hkm : k < 30
    · have hin : (k : Int) + 1 ≤ 30 := by omega
      go_wp2_with fail
      have HCC := HT.out ((k : Int) + 1) wr (H.out.1.below HB.out)
      rw [show costL xs ((k : Int) + 1) = c (k + 1) from HCB.out.1 (k + 1)] at HCC
      obtain ⟨y, hy⟩ : ∃ y, c (k + 1) = y := ⟨_, rfl⟩
      rw [hy] at HCC
      have HY := hid hy
      clear hy
      with_reducible refine HCC.mono ?_
      clear HCC
      rintro e w3 ⟨rfl, hb3⟩
      have H3 := hid (HB.out.trans (hb3.mono HB.out.size))
      clear hb3
      by_cases hlt : y < tt
      · have hlt' : (y : Int) < tt := by omega
        go_wp2_with fail
        go_roundw
        case rel => exact ⟨k + 1, k + 1, y, by omega, by go_num, by go_num, rfl, H3.out, by rw [bestTo, if_pos (by rw [HY.out, ← hd.out.1, ← hd.out.2]; exact hlt)], HY.out.symm⟩
        case measure => simp [intOf]; omega
      · have hlt' : ¬ (y : Int) < tt := by omega
        go_wp2_with fail
        go_roundw
        case rel => exact ⟨k + 1, bb, tt, by omega, by go_num, rfl, rfl, H3.out, by rw [bestTo, if_neg (by rw [HY.out, ← hd.out.1, ← hd.out.2]; exact hlt)]; exact hd.out.1, hd.out.2⟩
        case measure => simp [intOf]; omega
    · have hin : ¬ (k : Int) + 1 ≤ 30 := by omega
      obtain rfl : k = 30 := by omega
      go_wp2_with fail
      go_ret2
      refine ⟨?_, HB.out⟩
      rw [HCB.out.2.2, HCB.out.1, ← hd.out.1, ← hd.out.2]
      rfl
end Go.Proofs.Ytjboboaccjbebaa
