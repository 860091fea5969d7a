/- slices.IndexFunc and ContainsFunc of ints, whatever the function value: it may read, and draw. -/
import Derived.Test.YtjboboaccjbebaaInts
import Derived.Shelf.Abstract
namespace Go.Proofs.Ytjboboaccjbebaa
open Go.RowKit

/-- A function value that answers p x at each x of which P holds; it only reads. -/
def QuietB (k : IntKind) (g : Nat) (cap : Array Value) (p : Int → Bool) (P : Int → Prop) (w : World) : Prop :=
  ∀ x n, P x → Calls Try.prog g (#[.int k x] ++ cap) (w.drewN n) fun e w' => e = .returned (.bool (p x)) ∧ ∃ m, w' = (w.drewN n).drewN m

/-- The first place where p holds. -/
def firstI (p : Int → Bool) : List Int → Nat → Int
  | [], _ => -1
  | x :: xs, i => if p x then (i : Int) else firstI p xs (i + 1)
theorem firstI_skip (p : Int → Bool) (xs ys : List Int) (i : Nat) (h : ∀ x ∈ xs, p x = false) : firstI p (xs ++ ys) i = firstI p ys (i + xs.length) := by
  induction xs generalizing i with
  | nil => simp
  | cons x xs ih =>
    rw [List.cons_append, firstI, h x (by simp)]
    simp only [Bool.false_eq_true, if_false]
    rw [ih _ fun y hy => h y (by simp [hy])]
    congr 1
    simp; omega
theorem firstI_any (p : Int → Bool) (xs : List Int) (i : Nat) : decide (0 ≤ firstI p xs i) = xs.any p := by
  induction xs generalizing i with
  | nil => simp [firstI]
  | cons x xs ih =>
    rw [firstI, List.any_cons]
    cases h : p x
    · simp only [Bool.false_eq_true, if_false, Bool.false_or]
      exact ih _
    · simp

set_option maxRecDepth 100000 in
theorem index_any (g : Nat) (cap : Array Value) (eg : ∀ args w, (callFunc g args).run Try.prog w = .ok (.enter g args) w) (p : Int → Bool) (P : Int → Prop) (l : Value) (xs : List Int) (w : World) (hl : Sl w l (i64s xs)) (hP : ∀ x ∈ xs, P x) (hf : QuietB .i64 g cap p P w) :
    Calls Try.prog 152 #[l, .func (.func g) #[] cap] w (DrawnI w (.int .i64 (firstI p xs 0))) := by
  obtain ⟨A, c, rfl, hm⟩ := i64s_form hl
  have H := hid (And.intro hl (And.intro hP hf))
  clear hl hP hf
  go_enter Try.func152, Try.ntmps152
  go_wp2_with fail
  go_loopw [5, 8] (fun _ i wr => ∃ k n : Nat, k ≤ xs.length ∧ i = .int .i64 k ∧ wr = w.drewN n ∧ Hid (∀ x ∈ xs.take k, p x = false)) (fun _ i _ => xs.length - (intOf i).toNat)
  case atStart => exact ⟨0, 0, by omega, rfl, rfl, by simp [Hid]⟩
  case round =>
    obtain ⟨k, n, hk, rfl, rfl, hall⟩ := hrel
    by_cases hkm : k < xs.length
    · have hin : (k : Int) < xs.length := by omega
      obtain ⟨ad, rfl, hc⟩ := i64s_at H.out.1 hkm
      have hcall := H.out.2.2 xs[k] n (H.out.2.1 _ (List.getElem_mem _))
      obtain ⟨x, hx⟩ : ∃ x, xs[k] = x := ⟨_, rfl⟩
      rw [hx] at hc hcall
      obtain ⟨b, hb⟩ : ∃ b, p x = b := ⟨_, rfl⟩
      rw [hb] at hcall
      have HX := hid (And.intro hx (And.intro hb hcall))
      clear hx hcall hb
      cases b
      · go_wp2_with (go_at_fn g; refine HX.out.2.2.mono ?_; rintro e w' ⟨rfl, m1, rfl⟩)
        go_roundw
        case rel =>
          refine ⟨k + 1, n + m1, by omega, by go_num, rfl, ?_⟩
          intro y hy
          rw [take_snocI xs k hkm] at hy
          rcases List.mem_append.1 hy with hy | hy
          · exact hall.out y hy
          · simp at hy
            rw [hy, HX.out.1, HX.out.2.1]
        case measure => simp [intOf]; omega
      · go_wp2_with (go_at_fn g; refine HX.out.2.2.mono ?_; rintro e w' ⟨rfl, m1, rfl⟩)
        go_ret
        refine ⟨?_, _, rfl⟩
        have h := firstI_skip p (xs.take k) (xs.drop k) 0 hall.out
        rw [List.take_append_drop, List.length_take, Nat.min_eq_left hk, Nat.zero_add, List.drop_eq_getElem_cons hkm, firstI, HX.out.1, HX.out.2.1] at h
        rw [h]
        rfl
    · have hin : ¬ (k : Int) < xs.length := by omega
      obtain rfl : k = xs.length := by omega
      go_wp2_with fail
      go_ret
      refine ⟨?_, _, rfl⟩
      have h := firstI_skip p xs [] 0 (by have := hall.out; rwa [List.take_length] at this)
      rw [List.append_nil] at h
      rw [h]
      rfl

theorem contains_any (g : Nat) (cap : Array Value) (eg : ∀ args w, (callFunc g args).run Try.prog w = .ok (.enter g args) w) (p : Int → Bool) (P : Int → Prop) (l : Value) (xs : List Int) (w : World) (hl : Sl w l (i64s xs)) (hP : ∀ x ∈ xs, P x) (hf : QuietB .i64 g cap p P w) :
    Calls Try.prog 116 #[l, .func (.func g) #[] cap] w (DrawnI w (.bool (xs.any p))) := by
  have hF := hid (firstI_any p xs 0)
  have HI := hid (index_any g cap eg p P l xs w hl hP hf)
  clear hl hf
  go_enter Try.func116, Try.ntmps116
  go_wp2_with fail
  with_reducible refine HI.out.mono ?_
  rintro e w1 ⟨rfl, n, rfl⟩
  go_wp2_with fail
  go_ret
  exact ⟨by rw [← hF.out]; rfl, n, rfl⟩
end Go.Proofs.Ytjboboaccjbebaa
