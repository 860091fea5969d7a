/- Layer 6: sum, Total, Best. -/
import Derived.Test.YtjboboaccjbebaaRice
namespace Go.Proofs.Ytjboboaccjbebaa
open Go.RowKit

/-- A function value that answers f x at each x of which P holds; it only reads. -/
def QuietN (g : Nat) (cap : Array Value) (f : Nat → Nat) (P : Nat → Prop) (w : World) : Prop :=
  ∀ (x n : Nat), P x → Calls Try.prog g (#[.int .u64 (x : Int)] ++ cap) (w.drewN n) fun e w' => e = .returned (.int .i64 (f x : Nat)) ∧ ∃ m, w' = (w.drewN n).drewN m

/-- What f says of all. -/
def sumN (f : Nat → Nat) (xs : List Nat) : Nat := (xs.map f).sum
theorem sumN_snoc (f : Nat → Nat) (xs : List Nat) (x : Nat) : sumN f (xs ++ [x]) = sumN f xs + f x := by simp [sumN]
theorem sumN_le (f : Nat → Nat) (xs : List Nat) (b : Nat) (h : ∀ x ∈ xs, f x ≤ b) : sumN f xs ≤ xs.length * b := by
  induction xs with
  | nil => simp [sumN]
  | cons x xs ih =>
    have h1 := ih fun y hy => h y (by simp [hy])
    have h2 := h x (by simp)
    simp only [sumN, List.map_cons, List.sum_cons, List.length_cons, Nat.add_mul, Nat.one_mul] at h1 ⊢
    omega

set_option maxRecDepth 100000 in
theorem sum_any (g : Nat) (cap : Array Value) (eg : ∀ args w, (callFunc g args).run Try.prog w = .ok (.enter g args) w) (f : Nat → Nat) (P : Nat → Prop) (l : Value) (xs : List Nat) (w : World) (hl : Sl w l (u64s xs)) (hP : ∀ x ∈ xs, P x) (hf : QuietN g cap f P w) (hb : ∀ x, f x ≤ 64) (hn : xs.length ≤ 1048576) :
    Calls Try.prog 168 #[l, .func (.func g) #[] cap] w (DrawnI w (.int .i64 (sumN f xs : Nat))) := by
  obtain ⟨A, c, rfl, hm⟩ := u64s_form hl
  have H := hid (And.intro hl (And.intro hP (And.intro hf hb)))
  clear hl hP hf hb
  go_enter Try.func168, Try.ntmps168
  go_wp2_with fail
  go_loopw [5, 10] (fun s i wr => ∃ (k n t : Nat), k ≤ xs.length ∧ i = .int .i64 k ∧ s = .int .i64 t ∧ t ≤ 67108864 ∧ wr = w.drewN n ∧ Hid (t = sumN f (xs.take k))) (fun _ i _ => xs.length - (intOf i).toNat)
  case atStart => exact ⟨0, 0, 0, by omega, rfl, rfl, by omega, rfl, by simp [Hid, sumN]⟩
  case round =>
    obtain ⟨k, n, t, hk, rfl, rfl, ht, rfl, hd⟩ := hrel
    by_cases hkm : k < xs.length
    · have hin : (k : Int) < xs.length := by omega
      obtain ⟨ad, rfl, hc⟩ := u64s_at H.out.1 hkm
      have hcall := H.out.2.2.1 xs[k] n (H.out.2.1 _ (List.getElem_mem _))
      obtain ⟨x, hx⟩ : ∃ x, xs[k] = x := ⟨_, rfl⟩
      rw [hx] at hc hcall
      have hf64 := H.out.2.2.2 x
      obtain ⟨y, hy⟩ : ∃ y, f x = y := ⟨_, rfl⟩
      rw [hy] at hcall hf64
      have HX := hid (And.intro hx (And.intro hy hcall))
      clear hx hcall hy
      go_wp2_with (go_at_fn g; refine HX.out.2.2.mono ?_; rintro e w' ⟨rfl, m1, rfl⟩)
      go_roundw
      case rel =>
        have hs : t + y = sumN f (xs.take (k + 1)) := by rw [take_snocI xs k hkm, sumN_snoc, HX.out.1, HX.out.2.1, ← hd.out]
        have hle := sumN_le f (xs.take (k + 1)) 64 fun z _ => H.out.2.2.2 z
        rw [List.length_take] at hle
        exact ⟨k + 1, n + m1, t + y, by omega, by go_num, by go_num, by omega, rfl, hs⟩
      case measure => simp [intOf]; omega
    · have hin : ¬ (k : Int) < xs.length := by omega
      obtain rfl : k = xs.length := by omega
      go_wp2_with fail
      go_ret
      have h := hd.out
      rw [List.take_length] at h
      exact ⟨by rw [← h]; rfl, n, rfl⟩

theorem enters_total : ∀ args w, (callFunc 169 args).run Try.prog w = .ok (.enter 169 args) w := enters_of Try.func169 (by kernel_rfl) rfl
theorem totlit_any (b u : Nat) (k : Int) (w : World) (hu : u < 18446744073709551616) (hc : w.cell? ⟨b, 0, none⟩ = some (.int .i64 k)) :
    Calls Try.prog 169 #[.int .u64 (u : Int), .pointer (some ⟨b, 0, none⟩)] w fun e w' => e = .returned (.int .i64 (costR u k : Nat)) ∧ w = w' := by
  have HC := hid (rcost_any u k w hu)
  clear hu
  go_enter Try.func169, Try.ntmps169
  go_wp2_with fail
  with_reducible refine HC.out.mono ?_
  rintro e w1 ⟨rfl, rfl⟩
  go_wp2_with fail
  go_ret
  exact ⟨rfl, rfl⟩

/-- What all cost. -/
def totalR (xs : List Nat) (k : Int) : Nat := sumN (fun u => costR u k) xs
theorem totalR_le (xs : List Nat) (k : Int) : totalR xs k ≤ xs.length * 64 := sumN_le _ xs 64 fun _ _ => costR_le _ _
def InU (xs : List Nat) : Prop := ∀ x ∈ xs, x < 18446744073709551616

theorem total_any (l : Value) (xs : List Nat) (k : Int) (w : World) (hl : Sl w l (u64s xs)) (hx : InU xs) (hn : xs.length ≤ 1048576) :
    Calls Try.prog 165 #[l, .int .i64 k] w fun e w' => e = .returned (.int .i64 (totalR xs k : Nat)) ∧ Below w.heap.size w w' := by
  have hmf : ∀ (fn : Fn) (first cap : Array Value) (w : World), (Instr.makeFunc fn first cap).run Try.prog w = .ok (.func fn first cap) w := fun _ _ _ _ => rfl
  have HS := hid (sum_any 169 #[.pointer (some ⟨w.heap.size, 0, none⟩)] enters_total (fun u => costR u k) (fun u => u < 18446744073709551616) l xs (w.alloc (.cells #[.int .i64 k] 3)) (hl.alloc _) hx (fun x n hx => (totlit_any w.heap.size x k _ hx (by simp)).mono fun _ _ ⟨he, hw⟩ => ⟨he, 0, hw.symm⟩) (fun _ => costR_le _ _) hn)
  have HH := hid (And.intro hl hx)
  clear hl hx
  go_enter Try.func165, Try.ntmps165
  go_wp2_with fail
  with_reducible refine HS.out.mono ?_
  rintro e w1 ⟨rfl, n, rfl⟩
  go_wp2_with fail
  go_ret
  exact ⟨rfl, below_drewN' ((Below.refl _ _).alloc (Nat.le_refl _) _) n⟩

/-- The first of 0 .. m where c is least. -/
def bestTo (c : Nat → Nat) : Nat → Nat
  | 0 => 0
  | m + 1 => if c (m + 1) < c (bestTo c m) then m + 1 else bestTo c m
theorem bestTo_le (c : Nat → Nat) (m : Nat) : bestTo c m ≤ m := by
  induction m with
  | zero => simp [bestTo]
  | succ m ih => simp only [bestTo]; split <;> omega
theorem bestTo_least (c : Nat → Nat) (m j : Nat) (h : j ≤ m) : c (bestTo c m) ≤ c j := by
  induction m with
  | zero => obtain rfl : j = 0 := by omega
            simp [bestTo]
  | succ m ih =>
    simp only [bestTo]
    split
    · next hc =>
      by_cases hj : j = m + 1
      · subst hj; exact Nat.le_refl _
      · have := ih (by omega); omega
    · next hc =>
      by_cases hj : j = m + 1
      · subst hj; omega
      · exact ih (by omega)
/-- How far parameters are tried. -/
def mostK (most : Int) : Nat := (clampI most 0 30).toNat
theorem mostK_spec (most : Int) : mostK most ≤ 30 ∧ ((mostK most : Nat) : Int) = clampI most 0 30 := by
  have := clampI_bd most 0 30 (by omega)
  unfold mostK
  omega

/-- The best parameter, and the cost. -/
def BestPost (w : World) (xs : List Nat) (m : Nat) (e : Ending) (w' : World) : Prop :=
  e = .returned (.tuple #[.int .i64 (bestTo (fun k => totalR xs (k : Int)) m : Nat), .int .i64 (totalR xs ((bestTo (fun k => totalR xs (k : Int)) m : Nat) : Int) : Nat)]) ∧ Below w.heap.size w w'

set_option maxHeartbeats 800000 in
theorem best_any (l : Value) (xs : List Nat) (most : Int) (w : World) (hl : Sl w l (u64s xs)) (hx : InU xs) (hn : xs.length ≤ 1048576) :
    Calls Try.prog 157 #[l, .int .i64 most] w (BestPost w xs (mostK most)) := by
  obtain ⟨hm30, hmc⟩ := mostK_spec most
  have HT := hid (fun (k : Int) W (h : Sl W l (u64s xs)) => total_any l xs k W h hx hn)
  have HC := hid (fun W => (show Calls Try.prog 166 #[.int .i64 most, .int .i64 0, .int .i64 30] W fun e w' => e = .returned (.int .i64 (mostK most : Nat)) ∧ W = w' by rw [hmc]; exact clamp_any most 0 30 W))
  have H := hid (And.intro hl hx)
  obtain ⟨m, hm⟩ : ∃ m, mostK most = m := ⟨_, rfl⟩
  rw [hm] at hm30 HC
  have HM := hid hm
  clear hl hx hmc hm
  obtain ⟨c, hc⟩ : ∃ c : Nat → Nat, (fun k : Nat => totalR xs (k : Int)) = c := ⟨_, rfl⟩
  have hcb : ∀ k : Nat, totalR xs (k : Int) = c k := fun k => by rw [← hc]
  have hc64 : ∀ k, c k ≤ 67108864 := fun k => by rw [← hcb]; have := totalR_le xs (k : Int); omega
  have HCB := hid (And.intro hcb (And.intro hc64 hc))
  clear hcb hc64 hc
  go_enter Try.func157, Try.ntmps157
  go_wp2_with fail
  have HCC := HT.out 0 w H.out.1
  rw [show totalR xs 0 = c 0 from HCB.out.1 0] at HCC
  with_reducible refine HCC.mono ?_
  clear HCC
  rintro e w1 ⟨rfl, hb1⟩
  have H1 := hid hb1
  clear hb1
  go_wp2_with fail
  go_loopw [6, 7, 8] (fun b t i wr => ∃ (k bb tt : Nat), k ≤ m ∧ i = .int .i64 ((k : Int) + 1) ∧ b = .int .i64 bb ∧ t = .int .i64 tt ∧ Below w.heap.size w wr ∧ Hid (bb = bestTo c k ∧ tt = c bb)) (fun _ _ i _ => (m + 1) - (intOf i).toNat)
  case atStart => exact ⟨0, 0, c 0, by omega, rfl, rfl, rfl, H1.out, rfl, rfl⟩
  case round =>
    obtain ⟨k, bb, tt, hk, rfl, rfl, rfl, hbel, hd⟩ := hrel
    have HB := hid hbel
    clear hbel
    go_wp2_with fail
    with_reducible refine (HC.out wr).mono ?_
    rintro e w2 ⟨rfl, rfl⟩
    by_cases hkm : k < m
    · have hin : (k : Int) + 1 ≤ m := by omega
      go_wp2_with fail
      have HCC := HT.out ((k : Int) + 1) wr (H.out.1.below HB.out)
      rw [show totalR xs ((k : Int) + 1) = c (k + 1) from HCB.out.1 (k + 1)] at HCC
      obtain ⟨y, hy⟩ : ∃ y, c (k + 1) = y := ⟨_, rfl⟩
      rw [hy] at HCC
      have HY := hid hy
      clear hy
      with_reducible refine HCC.mono ?_
      clear HCC
      rintro e w3 ⟨rfl, hb3⟩
      have H3 := hid (HB.out.trans (hb3.mono HB.out.size))
      clear hb3
      by_cases hlt : y < tt
      · have hlt' : (y : Int) < tt := by omega
        go_wp2_with fail
        go_roundw
        case rel => exact ⟨k + 1, k + 1, y, by omega, by go_num, by go_num, rfl, H3.out, by rw [bestTo, if_pos (by rw [HY.out, ← hd.out.1, ← hd.out.2]; exact hlt)], HY.out.symm⟩
        case measure => simp [intOf]; omega
      · have hlt' : ¬ (y : Int) < tt := by omega
        go_wp2_with fail
        go_roundw
        case rel => exact ⟨k + 1, bb, tt, by omega, by go_num, rfl, rfl, H3.out, by rw [bestTo, if_neg (by rw [HY.out, ← hd.out.1, ← hd.out.2]; exact hlt)]; exact hd.out.1, hd.out.2⟩
        case measure => simp [intOf]; omega
    · have hin : ¬ (k : Int) + 1 ≤ m := by omega
      obtain rfl : k = m := by omega
      go_wp2_with fail
      go_ret2
      refine ⟨?_, HB.out⟩
      rw [HM.out, HCB.out.2.2, HCB.out.1, ← hd.out.1, ← hd.out.2]
      rfl
end Go.Proofs.Ytjboboaccjbebaa
