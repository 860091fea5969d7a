/- Two writers beside a list, and a growing list of bits: the state of RicePuts. -/
import Derived.Test.YtjboboaccjbebaaCode06
import Derived.Test.YtjboboaccjbebaaRicePA
namespace Go.Proofs.Ytjboboaccjbebaa
open Go.RowKit

theorem wr_typeI {w : World} {p : Nat} {u : Value} {L : List Bool} (hw : Wr w p u L) {g : Nat} {cs : Array Value} {t : TypeId} (hg : w.heap[g]? = some (.cells cs t (0, 0))) (ht : t ≠ 27) (ht8 : t ≠ 5) : ¬ Foot p u g := by
  obtain ⟨F, part, n, h, _⟩ := hw
  rintro (rfl | hf)
  · have := h.blk
    unfold Blk at this
    rw [this] at hg
    injection hg with hg
    injection hg with _ e
    exact ht e.symm
  · rcases h.own.2 with ⟨rfl, _⟩ | ⟨g', cap, cur, rfl, _, hh, _⟩
    · simp [Value.ownBlock] at hf
    · simp [Value.ownBlock] at hf
      subst hf
      rw [hh] at hg
      injection hg with hg
      injection hg with _ e
      exact ht8 e.symm

/-- A block of a writer is no ints' block. -/
theorem own_footI {w : World} {p : Nat} {u v : Value} {L : List Bool} {n : Nat} {xs : List Value} (hw : Wr w p u L) (h : w.ownsRow 0 3 1 v n xs) : ∀ g, v.ownBlock = some g → ¬ Foot p u g := by
  intro g hg
  rcases h.2 with ⟨rfl, _⟩ | ⟨g', cap, cur, rfl, _, hh, _⟩
  · simp [Value.ownBlock] at hg
  · simp [Value.ownBlock] at hg
    subst hg
    exact wr_typeI hw hh (by decide) (by decide)

structure RW (w : World) (p1 p2 : Nat) (u1 u2 l : Value) (xs : List Nat) (L1 L2 : List Bool) (wr : World) : Prop where
  w1 : Wr wr p1 u1 L1
  w2 : Wr wr p2 u2 L2
  ap : ∀ i, Foot p1 u1 i → ¬ Foot p2 u2 i
  bel : Below w.heap.size w wr
  low1 : ∀ i, Foot p1 u1 i → w.heap.size ≤ i
  low2 : ∀ i, Foot p2 u2 i → w.heap.size ≤ i
  old : Sl w l (u64s xs)
section
variable {w wr wx : World} {p1 p2 : Nat} {u1 u2 l : Value} {xs : List Nat} {L1 L2 L' : List Bool}
theorem RW.sl (h : RW w p1 p2 u1 u2 l xs L1 L2 wr) : Sl wr l (u64s xs) := h.old.below h.bel
theorem RW.later (h : RW w p1 p2 u1 u2 l xs L1 L2 wr) (hb : Below wr.heap.size wr wx) : RW w p1 p2 u1 u2 l xs L1 L2 wx :=
  ⟨h.w1.below hb, h.w2.below hb, h.ap, h.bel.trans (hb.mono h.bel.size), h.low1, h.low2, h.old⟩
theorem RW.step1 (h : RW w p1 p2 u1 u2 l xs L1 L2 wr) (k : WI wr p1 u1 L' wx) : ∃ u', RW w p1 p2 u' u2 l xs L' L2 wx := by
  obtain ⟨u', hw, hm, hk⟩ := k
  refine ⟨u', hw, h.w2.keep hk fun i hi hf => h.ap i hf hi, fun i hi hf => ?_, Kept.after h.bel (Nat.le_refl _) hk h.low1, fun i hi => ?_, h.low2, h.old⟩
  · exact h.ap i (hm.foot (h.w2.footlt hf) hi) hf
  · rcases Nat.lt_or_ge i wr.heap.size with hl | hl
    · exact h.low1 i (hm.foot hl hi)
    · have := h.bel.size; omega
theorem RW.step2 (h : RW w p1 p2 u1 u2 l xs L1 L2 wr) (k : WI wr p2 u2 L' wx) : ∃ u', RW w p1 p2 u1 u' l xs L1 L' wx := by
  obtain ⟨u', hw, hm, hk⟩ := k
  refine ⟨u', h.w1.keep hk fun i hi hf => h.ap i hi hf, hw, fun i hi hf => ?_, Kept.after h.bel (Nat.le_refl _) hk h.low2, h.low1, fun i hi => ?_, h.old⟩
  · exact h.ap i hi (hm.foot (h.w1.footlt hi) hf)
  · rcases Nat.lt_or_ge i wr.heap.size with hl | hl
    · exact h.low2 i (hm.foot hl hi)
    · have := h.bel.size; omega
end
end Go.Proofs.Ytjboboaccjbebaa
