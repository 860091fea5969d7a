/- A writer in new memory beside a list of whole numbers in old memory. -/
import Derived.Test.YtjboboaccjbebaaRunU
import Derived.Test.YtjboboaccjbebaaEW
import Derived.Test.YtjboboaccjbebaaStr
import Derived.Test.YtjboboaccjbebaaRef02b
namespace Go.Proofs.Ytjboboaccjbebaa
open Go.RowKit

structure EWI (w : World) (p : Nat) (u l : Value) (xs : List Int) (L : List Bool) (wr : World) : Prop where
  ww : Wr wr p u L
  bel : Below w.heap.size w wr
  low : ∀ k, Foot p u k → w.heap.size ≤ k
  old : Sl w l (i64s xs)
section
variable {w wr w1 : World} {p : Nat} {u l : Value} {xs : List Int} {L L' : List Bool}
theorem EWI.sl (h : EWI w p u l xs L wr) : Sl wr l (i64s xs) := h.old.below h.bel
theorem EWI.later (h : EWI w p u l xs L wr) (hb : Below wr.heap.size wr w1) : EWI w p u l xs L w1 := ⟨h.ww.below hb, h.bel.trans (hb.mono h.bel.size), h.low, h.old⟩
theorem EWI.drew (h : EWI w p u l xs L wr) : EWI w p u l xs L wr.drew := h.later (Below.refl _ _).drew
theorem EWI.step (h : EWI w p u l xs L wr) (k : WI wr p u L' w1) : ∃ u', EWI w p u' l xs L' w1 := by
  obtain ⟨u', hw, hm, hk⟩ := k
  refine ⟨u', hw, Kept.after h.bel (Nat.le_refl _) hk h.low, fun i hi => ?_, h.old⟩
  rcases Nat.lt_or_ge i wr.heap.size with hl | hl
  · exact h.low i (hm.foot hl hi)
  · have := h.bel.size; omega
theorem EWI.kept {q : Nat} (h : EWI w p u l xs L wr) (hk : Kept (fun k => k = q) wr w1) (hq : w.heap.size ≤ q) (hf : ¬ Foot p u q) : EWI w p u l xs L w1 :=
  ⟨h.ww.keep hk fun k hfk e => hf (e ▸ hfk), Kept.after h.bel (Nat.le_refl _) hk fun i hi => by omega, h.low, h.old⟩
theorem EWI.new {w : World} {l : Value} {xs : List Int} (h : Sl w l (i64s xs)) : EWI w w.heap.size (.slice none 0 0) l xs [] (w.alloc (.cells #[.slice none 0 0, .int .u8 0, .int .i64 0] 27)) :=
  ⟨Wr.new w, (Below.refl _ _).alloc (Nat.le_refl _) _, fun k hk => by rw [foot_nil hk]; exact Nat.le_refl _, h⟩
theorem EWI.apart (h : EWI w p u l xs L wr) (hne : i64s xs ≠ []) (g : Nat) (hg : l.ownBlock = some g) : ¬ Foot p u g ∧ g < wr.heap.size := by
  obtain ⟨g', e, hlt⟩ := h.old.block_lt hne
  rw [hg] at e
  injection e with e
  subst e
  exact ⟨fun hf => by have := h.low _ hf; omega, Nat.lt_of_lt_of_le hlt h.bel.size⟩
theorem EWI.len (h : EWI w p u l xs L wr) (hL : L.length ≤ 1000000) : Calls Try.prog 21 #[.pointer (some ⟨p, 0, none⟩)] wr fun e w' => e = .returned (.int .i64 (L.length : Int)) ∧ Below wr.heap.size wr w' :=
  (len_any wr p u L h.ww (by omega)).mono fun _ _ ⟨he, n, hw⟩ => ⟨he, hw ▸ below_drewN' (Below.refl _ _) n⟩
end
end Go.Proofs.Ytjboboaccjbebaa
