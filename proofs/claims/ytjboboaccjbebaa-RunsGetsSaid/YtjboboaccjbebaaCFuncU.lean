/- slices.IndexFunc and ContainsFunc of uints, whatever the function value: it may read, and draw. -/
import Derived.Test.YtjboboaccjbebaaU64
import Derived.Shelf.Abstract
namespace Go.Proofs.Ytjboboaccjbebaa
open Go.RowKit

/-- A function value that answers p x at each x of which P holds; it only reads. -/
def QuietU (g : Nat) (cap : Array Value) (p : Nat → Bool) (P : Nat → Prop) (w : World) : Prop :=
  ∀ (x n : Nat), P x → Calls Try.prog g (#[.int .u64 (x : Int)] ++ cap) (w.drewN n) fun e w' => e = .returned (.bool (p x)) ∧ ∃ m, w' = (w.drewN n).drewN m

/-- The first place where p holds. -/
def firstU (p : Nat → Bool) : List Nat → Nat → Int
  | [], _ => -1
  | x :: xs, i => if p x then (i : Int) else firstU p xs (i + 1)
theorem firstU_skip (p : Nat → Bool) (xs ys : List Nat) (i : Nat) (h : ∀ x ∈ xs, p x = false) : firstU p (xs ++ ys) i = firstU p ys (i + xs.length) := by
  induction xs generalizing i with
  | nil => simp
  | cons x xs ih =>
    rw [List.cons_append, firstU, h x (by simp)]
    simp only [Bool.false_eq_true, if_false]
    rw [ih _ fun y hy => h y (by simp [hy])]
    congr 1
    simp; omega
theorem firstU_any (p : Nat → Bool) (xs : List Nat) (i : Nat) : decide (0 ≤ firstU p xs i) = xs.any p := by
  induction xs generalizing i with
  | nil => simp [firstU]
  | cons x xs ih =>
    rw [firstU, List.any_cons]
    cases h : p x
    · simp only [Bool.false_eq_true, if_false, Bool.false_or]
      exact ih _
    · simp

set_option maxRecDepth 100000 in
theorem indexU_any (g : Nat) (cap : Array Value) (eg : ∀ args w, (callFunc g args).run Try.prog w = .ok (.enter g args) w) (p : Nat → Bool) (P : Nat → Prop) (l : Value) (xs : List Nat) (w : World) (hl : Sl w l (u64s xs)) (hP : ∀ x ∈ xs, P x) (hf : QuietU g cap p P w) :
    Calls Try.prog 162 #[l, .func (.func g) #[] cap] w (DrawnI w (.int .i64 (firstU p xs 0))) := by
  obtain ⟨A, c, rfl, hm⟩ := u64s_form hl
  have H := hid (And.intro hl (And.intro hP hf))
  clear hl hP hf
  go_enter Try.func162, Try.ntmps162
  go_wp2_with fail
  go_loopw [5, 8] (fun _ i wr => ∃ k n : Nat, k ≤ xs.length ∧ i = .int .i64 k ∧ wr = w.drewN n ∧ Hid (∀ x ∈ xs.take k, p x = false)) (fun _ i _ => xs.length - (intOf i).toNat)
  case atStart => exact ⟨0, 0, by omega, rfl, rfl, by simp [Hid]⟩
  case round =>
    obtain ⟨k, n, hk, rfl, rfl, hall⟩ := hrel
    by_cases hkm : k < xs.length
    · have hin : (k : Int) < xs.length := by omega
      obtain ⟨ad, rfl, hc⟩ := u64s_at H.out.1 hkm
      have hcall := H.out.2.2 xs[k] n (H.out.2.1 _ (List.getElem_mem _))
      obtain ⟨x, hx⟩ : ∃ x, xs[k] = x := ⟨_, rfl⟩
      rw [hx] at hc hcall
      obtain ⟨b, hb⟩ : ∃ b, p x = b := ⟨_, rfl⟩
      rw [hb] at hcall
      have HX := hid (And.intro hx (And.intro hb hcall))
      clear hx hcall hb
      cases b
      · go_wp2_with (go_at_fn g; refine HX.out.2.2.mono ?_; rintro e w' ⟨rfl, m1, rfl⟩)
        go_roundw
        case rel =>
          refine ⟨k + 1, n + m1, by omega, by go_num, rfl, ?_⟩
          intro y hy
          rw [take_snocI xs k hkm] at hy
          rcases List.mem_append.1 hy with hy | hy
          · exact hall.out y hy
          · simp at hy
            rw [hy, HX.out.1, HX.out.2.1]
        case measure => simp [intOf]; omega
      · go_wp2_with (go_at_fn g; refine HX.out.2.2.mono ?_; rintro e w' ⟨rfl, m1, rfl⟩)
        go_ret
        refine ⟨?_, _, rfl⟩
        have h := firstU_skip p (xs.take k) (xs.drop k) 0 hall.out
        rw [List.take_append_drop, List.length_take, Nat.min_eq_left hk, Nat.zero_add, List.drop_eq_getElem_cons hkm, firstU, HX.out.1, HX.out.2.1] at h
        rw [h]
        rfl
    · have hin : ¬ (k : Int) < xs.length := by omega
      obtain rfl : k = xs.length := by omega
      go_wp2_with fail
      go_ret
      refine ⟨?_, _, rfl⟩
      have h := firstU_skip p xs [] 0 (by have := hall.out; rwa [List.take_length] at this)
      rw [List.append_nil] at h
      rw [h]
      rfl

theorem containsU_any (g : Nat) (cap : Array Value) (eg : ∀ args w, (callFunc g args).run Try.prog w = .ok (.enter g args) w) (p : Nat → Bool) (P : Nat → Prop) (l : Value) (xs : List Nat) (w : World) (hl : Sl w l (u64s xs)) (hP : ∀ x ∈ xs, P x) (hf : QuietU g cap p P w) :
    Calls Try.prog 148 #[l, .func (.func g) #[] cap] w (DrawnI w (.bool (xs.any p))) := by
  have hF := hid (firstU_any p xs 0)
  have HI := hid (indexU_any g cap eg p P l xs w hl hP hf)
  clear hl hf
  go_enter Try.func148, Try.ntmps148
  go_wp2_with fail
  with_reducible refine HI.out.mono ?_
  rintro e w1 ⟨rfl, n, rfl⟩
  go_wp2_with fail
  go_ret
  exact ⟨by rw [← hF.out]; rfl, n, rfl⟩
end Go.Proofs.Ytjboboaccjbebaa
