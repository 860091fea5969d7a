/- A writer in new memory beside a list in old memory; readers in new memory. -/
import Derived.Test.YtjboboaccjbebaaGreatMgA
import Derived.Test.YtjboboaccjbebaaGreatMgB
import Derived.Test.YtjboboaccjbebaaGreatMgC
import Derived.Test.YtjboboaccjbebaaGreatMgE

namespace Go.Proofs.YtjboboaccjbebaaGreat
open Go.RowKit

/-- A writer in new memory, and a list in old. -/
structure EW (w : World) (p : Nat) (u l : Value) (xs : List Nat) (L : List Bool) (wr : World) : Prop where
  ww : Wr wr p u L
  bel : Below w.heap.size w wr
  low : ∀ k, Foot p u k → w.heap.size ≤ k
  old : Sl w l (u64s xs)
section
variable {w wr w1 : World} {p : Nat} {u l : Value} {xs : List Nat} {L L' : List Bool}
theorem EW.sl (h : EW w p u l xs L wr) : Sl wr l (u64s xs) := h.old.below h.bel
theorem EW.later (h : EW w p u l xs L wr) (hb : Below wr.heap.size wr w1) : EW w p u l xs L w1 := ⟨h.ww.below hb, h.bel.trans (hb.mono h.bel.size), h.low, h.old⟩
theorem EW.drew (h : EW w p u l xs L wr) : EW w p u l xs L wr.drew := h.later (Below.refl _ _).drew
theorem EW.step (h : EW w p u l xs L wr) (k : WI wr p u L' w1) : ∃ u', EW w p u' l xs L' w1 := by
  obtain ⟨u', hw, hm, hk⟩ := k
  refine ⟨u', hw, Kept.after h.bel (Nat.le_refl _) hk h.low, fun i hi => ?_, h.old⟩
  rcases Nat.lt_or_ge i wr.heap.size with hl | hl
  · exact h.low i (hm.foot hl hi)
  · have := h.bel.size; omega
theorem EW.kept {q : Nat} (h : EW w p u l xs L wr) (hk : Kept (fun k => k = q) wr w1) (hq : w.heap.size ≤ q) (hf : ¬ Foot p u q) : EW w p u l xs L w1 :=
  ⟨h.ww.keep hk fun k hfk e => hf (e ▸ hfk), Kept.after h.bel (Nat.le_refl _) hk fun i hi => by omega, h.low, h.old⟩
theorem EW.new {w : World} {l : Value} {xs : List Nat} (h : Sl w l (u64s xs)) : EW w w.heap.size (.slice none 0 0) l xs [] (w.alloc (.cells #[.slice none 0 0, .int .u8 0, .int .i64 0] 27)) :=
  ⟨Wr.new w, (Below.refl _ _).alloc (Nat.le_refl _) _, fun k hk => by rw [foot_nil hk]; exact Nat.le_refl _, h⟩
theorem EW.apart (h : EW w p u l xs L wr) (hne : u64s xs ≠ []) (g : Nat) (hg : l.ownBlock = some g) : ¬ Foot p u g ∧ g < wr.heap.size := by
  obtain ⟨g', e, hlt⟩ := h.old.block_lt hne
  rw [hg] at e
  injection e with e
  subst e
  exact ⟨fun hf => by have := h.low _ hf; omega, Nat.lt_of_lt_of_le hlt h.bel.size⟩
theorem EW.len (h : EW w p u l xs L wr) (hL : L.length ≤ 100000) : Calls Tryz.prog 9 #[.pointer (some ⟨p, 0, none⟩)] wr fun e w' => e = .returned (.int .i64 (L.length : Int)) ∧ Below wr.heap.size wr w' :=
  (len_any wr p u L h.ww (by omega)).mono fun _ _ ⟨he, n, hw⟩ => ⟨he, hw ▸ below_drewN' (Below.refl _ _) n⟩
end

/-- A reader in new memory. -/
structure RS (w : World) (q : Nat) (v : Value) (F : List Nat) (j : Nat) (wr : World) : Prop where
  rd : Rd wr q v F j
  bel : Below w.heap.size w wr
  hq : w.heap.size ≤ q
  hv : ∀ g, v.ownBlock = some g → g < q
section
variable {w wr w1 : World} {q j j' : Nat} {v : Value} {F : List Nat}
theorem RS.later (h : RS w q v F j wr) (hb : Below wr.heap.size wr w1) : RS w q v F j w1 := ⟨h.rd.below hb, h.bel.trans (hb.mono h.bel.size), h.hq, h.hv⟩
theorem RS.get (h : RS w q v F j wr) (k : RI wr q v F j' w1) : RS w q v F j' w1 := ⟨k.1, Kept.after h.bel (Nat.le_refl _) k.2 fun i hi => by have := h.hq; omega, h.hq, h.hv⟩
theorem RS.new (hb0 : Below w.heap.size w wr) (h : Rd w1 q v F 0 ∧ Below wr.heap.size wr w1 ∧ wr.heap.size ≤ q ∧ ∀ g, v.ownBlock = some g → wr.heap.size ≤ g ∧ g < q) : RS w q v F 0 w1 :=
  ⟨h.1, hb0.trans (h.2.1.mono hb0.size), Nat.le_trans hb0.size h.2.2.1, fun g hg => (h.2.2.2 g hg).2⟩
end

section
variable {w wr w1 : World} {q a p2 q2 j : Nat} {v u2 v2 : Value} {F : List Nat} {B B' : List Bool}
end
end Go.Proofs.YtjboboaccjbebaaGreat
/- A writer in new memory beside a list of whole numbers in old memory. -/
namespace Go.Proofs.YtjboboaccjbebaaGreat
open Go.RowKit

structure EWI (w : World) (p : Nat) (u l : Value) (xs : List Int) (L : List Bool) (wr : World) : Prop where
  ww : Wr wr p u L
  bel : Below w.heap.size w wr
  low : ∀ k, Foot p u k → w.heap.size ≤ k
  old : Sl w l (i64s xs)
section
variable {w wr w1 : World} {p : Nat} {u l : Value} {xs : List Int} {L L' : List Bool}
theorem EWI.sl (h : EWI w p u l xs L wr) : Sl wr l (i64s xs) := h.old.below h.bel
theorem EWI.later (h : EWI w p u l xs L wr) (hb : Below wr.heap.size wr w1) : EWI w p u l xs L w1 := ⟨h.ww.below hb, h.bel.trans (hb.mono h.bel.size), h.low, h.old⟩
theorem EWI.drew (h : EWI w p u l xs L wr) : EWI w p u l xs L wr.drew := h.later (Below.refl _ _).drew
theorem EWI.step (h : EWI w p u l xs L wr) (k : WI wr p u L' w1) : ∃ u', EWI w p u' l xs L' w1 := by
  obtain ⟨u', hw, hm, hk⟩ := k
  refine ⟨u', hw, Kept.after h.bel (Nat.le_refl _) hk h.low, fun i hi => ?_, h.old⟩
  rcases Nat.lt_or_ge i wr.heap.size with hl | hl
  · exact h.low i (hm.foot hl hi)
  · have := h.bel.size; omega
theorem EWI.kept {q : Nat} (h : EWI w p u l xs L wr) (hk : Kept (fun k => k = q) wr w1) (hq : w.heap.size ≤ q) (hf : ¬ Foot p u q) : EWI w p u l xs L w1 :=
  ⟨h.ww.keep hk fun k hfk e => hf (e ▸ hfk), Kept.after h.bel (Nat.le_refl _) hk fun i hi => by omega, h.low, h.old⟩
theorem EWI.new {w : World} {l : Value} {xs : List Int} (h : Sl w l (i64s xs)) : EWI w w.heap.size (.slice none 0 0) l xs [] (w.alloc (.cells #[.slice none 0 0, .int .u8 0, .int .i64 0] 27)) :=
  ⟨Wr.new w, (Below.refl _ _).alloc (Nat.le_refl _) _, fun k hk => by rw [foot_nil hk]; exact Nat.le_refl _, h⟩
theorem EWI.apart (h : EWI w p u l xs L wr) (hne : i64s xs ≠ []) (g : Nat) (hg : l.ownBlock = some g) : ¬ Foot p u g ∧ g < wr.heap.size := by
  obtain ⟨g', e, hlt⟩ := h.old.block_lt hne
  rw [hg] at e
  injection e with e
  subst e
  exact ⟨fun hf => by have := h.low _ hf; omega, Nat.lt_of_lt_of_le hlt h.bel.size⟩
theorem EWI.len (h : EWI w p u l xs L wr) (hL : L.length ≤ 1000000) : Calls Tryz.prog 9 #[.pointer (some ⟨p, 0, none⟩)] wr fun e w' => e = .returned (.int .i64 (L.length : Int)) ∧ Below wr.heap.size wr w' :=
  (len_any wr p u L h.ww (by omega)).mono fun _ _ ⟨he, n, hw⟩ => ⟨he, hw ▸ below_drewN' (Below.refl _ _) n⟩
end
end Go.Proofs.YtjboboaccjbebaaGreat
