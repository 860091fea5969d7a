/- A writer in new memory beside a list in old memory; readers in new memory. -/
import Derived.Test.YtjboboaccjbebaaMgA
import Derived.Test.YtjboboaccjbebaaMgB
import Derived.Test.YtjboboaccjbebaaMgC
import Derived.Test.YtjboboaccjbebaaMgE

namespace Go.Proofs.Ytjboboaccjbebaa
open Go.RowKit

/-- A writer in new memory, and a list in old. -/
structure EW (w : World) (p : Nat) (u l : Value) (xs : List Nat) (L : List Bool) (wr : World) : Prop where
  ww : Wr wr p u L
  bel : Below w.heap.size w wr
  low : ∀ k, Foot p u k → w.heap.size ≤ k
  old : Sl w l (u64s xs)
section
variable {w wr w1 : World} {p : Nat} {u l : Value} {xs : List Nat} {L L' : List Bool}
theorem EW.sl (h : EW w p u l xs L wr) : Sl wr l (u64s xs) := h.old.below h.bel
theorem EW.later (h : EW w p u l xs L wr) (hb : Below wr.heap.size wr w1) : EW w p u l xs L w1 := ⟨h.ww.below hb, h.bel.trans (hb.mono h.bel.size), h.low, h.old⟩
theorem EW.drew (h : EW w p u l xs L wr) : EW w p u l xs L wr.drew := h.later (Below.refl _ _).drew
theorem EW.step (h : EW w p u l xs L wr) (k : WI wr p u L' w1) : ∃ u', EW w p u' l xs L' w1 := by
  obtain ⟨u', hw, hm, hk⟩ := k
  refine ⟨u', hw, Kept.after h.bel (Nat.le_refl _) hk h.low, fun i hi => ?_, h.old⟩
  rcases Nat.lt_or_ge i wr.heap.size with hl | hl
  · exact h.low i (hm.foot hl hi)
  · have := h.bel.size; omega
theorem EW.kept {q : Nat} (h : EW w p u l xs L wr) (hk : Kept (fun k => k = q) wr w1) (hq : w.heap.size ≤ q) (hf : ¬ Foot p u q) : EW w p u l xs L w1 :=
  ⟨h.ww.keep hk fun k hfk e => hf (e ▸ hfk), Kept.after h.bel (Nat.le_refl _) hk fun i hi => by omega, h.low, h.old⟩
theorem EW.new {w : World} {l : Value} {xs : List Nat} (h : Sl w l (u64s xs)) : EW w w.heap.size (.slice none 0 0) l xs [] (w.alloc (.cells #[.slice none 0 0, .int .u8 0, .int .i64 0] 27)) :=
  ⟨Wr.new w, (Below.refl _ _).alloc (Nat.le_refl _) _, fun k hk => by rw [foot_nil hk]; exact Nat.le_refl _, h⟩
theorem EW.apart (h : EW w p u l xs L wr) (hne : u64s xs ≠ []) (g : Nat) (hg : l.ownBlock = some g) : ¬ Foot p u g ∧ g < wr.heap.size := by
  obtain ⟨g', e, hlt⟩ := h.old.block_lt hne
  rw [hg] at e
  injection e with e
  subst e
  exact ⟨fun hf => by have := h.low _ hf; omega, Nat.lt_of_lt_of_le hlt h.bel.size⟩
theorem EW.len (h : EW w p u l xs L wr) (hL : L.length ≤ 100000) : Calls Try.prog 21 #[.pointer (some ⟨p, 0, none⟩)] wr fun e w' => e = .returned (.int .i64 (L.length : Int)) ∧ Below wr.heap.size wr w' :=
  (len_any wr p u L h.ww (by omega)).mono fun _ _ ⟨he, n, hw⟩ => ⟨he, hw ▸ below_drewN' (Below.refl _ _) n⟩
end

/-- A reader in new memory. -/
structure RS (w : World) (q : Nat) (v : Value) (F : List Nat) (j : Nat) (wr : World) : Prop where
  rd : Rd wr q v F j
  bel : Below w.heap.size w wr
  hq : w.heap.size ≤ q
  hv : ∀ g, v.ownBlock = some g → g < q
section
variable {w wr w1 : World} {q j j' : Nat} {v : Value} {F : List Nat}
theorem RS.later (h : RS w q v F j wr) (hb : Below wr.heap.size wr w1) : RS w q v F j w1 := ⟨h.rd.below hb, h.bel.trans (hb.mono h.bel.size), h.hq, h.hv⟩
theorem RS.get (h : RS w q v F j wr) (k : RI wr q v F j' w1) : RS w q v F j' w1 := ⟨k.1, Kept.after h.bel (Nat.le_refl _) k.2 fun i hi => by have := h.hq; omega, h.hq, h.hv⟩
theorem RS.new (hb0 : Below w.heap.size w wr) (h : Rd w1 q v F 0 ∧ Below wr.heap.size wr w1 ∧ wr.heap.size ≤ q ∧ ∀ g, v.ownBlock = some g → wr.heap.size ≤ g ∧ g < q) : RS w q v F 0 w1 :=
  ⟨h.1, hb0.trans (h.2.1.mono hb0.size), Nat.le_trans hb0.size h.2.2.1, fun g hg => (h.2.2.2 g hg).2⟩
end

/-- A reader, a writer behind it, and the reference's reader, set to a place. -/
structure RX (w : World) (q : Nat) (v : Value) (F : List Nat) (a : Nat) (p2 : Nat) (u2 : Value) (B : List Bool) (q2 : Nat) (v2 : Value) (j : Nat) (wr : World) : Prop where
  rs : RS w q v F a wr
  ww : Wr wr p2 u2 B
  rr : RefRd wr q2 v2 (flat F) j
  low : ∀ i, Foot p2 u2 i → w.heap.size ≤ i
  s1 : ∀ i, Foot p2 u2 i → i ≠ q ∧ v.ownBlock ≠ some i
  s2 : ∀ i, Foot p2 u2 i → i ≠ q2 ∧ v2.ownBlock ≠ some i
  hv2 : ∀ g, v2.ownBlock = some g → g < q2
section
variable {w wr w1 : World} {q a p2 q2 j : Nat} {v u2 v2 : Value} {F : List Nat} {B B' : List Bool}
theorem RX.later (h : RX w q v F a p2 u2 B q2 v2 j wr) (hb : Below wr.heap.size wr w1) : RX w q v F a p2 u2 B q2 v2 j w1 := ⟨h.rs.later hb, h.ww.below hb, h.rr.below hb, h.low, h.s1, h.s2, h.hv2⟩
theorem RX.drew (h : RX w q v F a p2 u2 B q2 v2 j wr) : RX w q v F a p2 u2 B q2 v2 j wr.drew := h.later (Below.refl _ _).drew
theorem RX.cells (h : RX w q v F a p2 u2 B q2 v2 j wr) : wr.cell? ⟨q2, 0, none⟩ = some v2 := by
  have := h.rr.blk.cell 0
  simpa using this
theorem RX.put (h : RX w q v F a p2 u2 B q2 v2 j wr) (k : WI wr p2 u2 B' w1) : ∃ u', RX w q v F a p2 u' B' q2 v2 j w1 := by
  obtain ⟨u', hw, hm, hk⟩ := k
  have hs := hk.size
  have hfoot : ∀ i, Foot p2 u' i → i < wr.heap.size → Foot p2 u2 i := fun i hi hl => hm.foot hl hi
  refine ⟨u', ⟨h.rs.rd.keep hk (fun hf => (h.s1 _ hf).1 rfl) (fun g hg hf => (h.s1 _ hf).2 hg), Kept.after h.rs.bel (Nat.le_refl _) hk h.low, h.rs.hq, h.rs.hv⟩, hw, h.rr.keep hk (fun hf => (h.s2 _ hf).1 rfl) (fun g hg hf => (h.s2 _ hf).2 hg), fun i hi => ?_, fun i hi => ?_, fun i hi => ?_, h.hv2⟩
  · rcases Nat.lt_or_ge i wr.heap.size with hl | hl
    · exact h.low i (hfoot i hi hl)
    · have := h.rs.bel.size; omega
  · rcases Nat.lt_or_ge i wr.heap.size with hl | hl
    · exact h.s1 i (hfoot i hi hl)
    · have h1 := h.rs.rd.blk.lt
      exact ⟨by omega, fun e => by have := h.rs.hv _ e; omega⟩
  · rcases Nat.lt_or_ge i wr.heap.size with hl | hl
    · exact h.s2 i (hfoot i hi hl)
    · have h1 := h.rr.blk.lt
      exact ⟨by omega, fun e => by have := h.hv2 _ e; omega⟩
theorem RX.new (h : RS w q v F a wr) (h2 : RefRd w1 q2 v2 (flat F) 0 ∧ Below (wr.alloc (.cells #[.slice none 0 0, .int .u8 0, .int .i64 0] 27)).heap.size (wr.alloc (.cells #[.slice none 0 0, .int .u8 0, .int .i64 0] 27)) w1 ∧ (wr.alloc (.cells #[.slice none 0 0, .int .u8 0, .int .i64 0] 27)).heap.size ≤ q2 ∧ ∀ g, v2.ownBlock = some g → (wr.alloc (.cells #[.slice none 0 0, .int .u8 0, .int .i64 0] 27)).heap.size ≤ g ∧ g < q2) (hj : j ≤ (flat F).length) :
    RX w q v F a wr.heap.size (.slice none 0 0) [] q2 v2 j (w1.setCell ⟨q2, 1, none⟩ (.int .i64 (j : Int))) := by
  obtain ⟨hr, hb, hq2, hv2⟩ := h2
  have hs : (wr.alloc (.cells #[.slice none 0 0, .int .u8 0, .int .i64 0] 27)).heap.size = wr.heap.size + 1 := by simp
  rw [hs] at hq2 hv2
  have hb1 := (Below.refl _ wr).alloc (Nat.le_refl _) (.cells #[.slice none 0 0, .int .u8 0, .int .i64 0] 27)
  have h1 := (h.later hb1).later hb
  have hk : Kept (fun k => k = q2) w1 (w1.setCell ⟨q2, 1, none⟩ (.int .i64 (j : Int))) := Kept.setCell (S := fun k => k = q2) (p := ⟨q2, 1, none⟩) (Kept.refl _ _) (fun _ => rfl) _
  have hql := h.rd.blk.lt
  have hwz := h.bel.size
  refine ⟨⟨h1.rd.keep hk (by omega) (fun g hg => by have := h.hv g hg; omega), Kept.after h1.bel (Nat.le_refl _) hk (fun i hi => by omega), h1.hq, h1.hv⟩, ((Wr.new wr).below hb).keep hk fun k hf e => ?_, hr.move j hj, fun i hi => ?_, fun i hi => ?_, fun i hi => ?_, fun g hg => (hv2 g hg).2⟩
  · have := foot_nil hf; omega
  · have := foot_nil hi; omega
  · have := foot_nil hi
    exact ⟨by omega, fun e => by have := h.hv _ e; omega⟩
  · have := foot_nil hi
    exact ⟨by omega, fun e => by have := (hv2 _ e).1; omega⟩
end
end Go.Proofs.Ytjboboaccjbebaa
/- A writer in new memory beside a list of whole numbers in old memory. -/
namespace Go.Proofs.Ytjboboaccjbebaa
open Go.RowKit

structure EWI (w : World) (p : Nat) (u l : Value) (xs : List Int) (L : List Bool) (wr : World) : Prop where
  ww : Wr wr p u L
  bel : Below w.heap.size w wr
  low : ∀ k, Foot p u k → w.heap.size ≤ k
  old : Sl w l (i64s xs)
section
variable {w wr w1 : World} {p : Nat} {u l : Value} {xs : List Int} {L L' : List Bool}
theorem EWI.sl (h : EWI w p u l xs L wr) : Sl wr l (i64s xs) := h.old.below h.bel
theorem EWI.later (h : EWI w p u l xs L wr) (hb : Below wr.heap.size wr w1) : EWI w p u l xs L w1 := ⟨h.ww.below hb, h.bel.trans (hb.mono h.bel.size), h.low, h.old⟩
theorem EWI.drew (h : EWI w p u l xs L wr) : EWI w p u l xs L wr.drew := h.later (Below.refl _ _).drew
theorem EWI.step (h : EWI w p u l xs L wr) (k : WI wr p u L' w1) : ∃ u', EWI w p u' l xs L' w1 := by
  obtain ⟨u', hw, hm, hk⟩ := k
  refine ⟨u', hw, Kept.after h.bel (Nat.le_refl _) hk h.low, fun i hi => ?_, h.old⟩
  rcases Nat.lt_or_ge i wr.heap.size with hl | hl
  · exact h.low i (hm.foot hl hi)
  · have := h.bel.size; omega
theorem EWI.kept {q : Nat} (h : EWI w p u l xs L wr) (hk : Kept (fun k => k = q) wr w1) (hq : w.heap.size ≤ q) (hf : ¬ Foot p u q) : EWI w p u l xs L w1 :=
  ⟨h.ww.keep hk fun k hfk e => hf (e ▸ hfk), Kept.after h.bel (Nat.le_refl _) hk fun i hi => by omega, h.low, h.old⟩
theorem EWI.new {w : World} {l : Value} {xs : List Int} (h : Sl w l (i64s xs)) : EWI w w.heap.size (.slice none 0 0) l xs [] (w.alloc (.cells #[.slice none 0 0, .int .u8 0, .int .i64 0] 27)) :=
  ⟨Wr.new w, (Below.refl _ _).alloc (Nat.le_refl _) _, fun k hk => by rw [foot_nil hk]; exact Nat.le_refl _, h⟩
theorem EWI.apart (h : EWI w p u l xs L wr) (hne : i64s xs ≠ []) (g : Nat) (hg : l.ownBlock = some g) : ¬ Foot p u g ∧ g < wr.heap.size := by
  obtain ⟨g', e, hlt⟩ := h.old.block_lt hne
  rw [hg] at e
  injection e with e
  subst e
  exact ⟨fun hf => by have := h.low _ hf; omega, Nat.lt_of_lt_of_le hlt h.bel.size⟩
theorem EWI.len (h : EWI w p u l xs L wr) (hL : L.length ≤ 1000000) : Calls Try.prog 21 #[.pointer (some ⟨p, 0, none⟩)] wr fun e w' => e = .returned (.int .i64 (L.length : Int)) ∧ Below wr.heap.size wr w' :=
  (len_any wr p u L h.ww (by omega)).mono fun _ _ ⟨he, n, hw⟩ => ⟨he, hw ▸ below_drewN' (Below.refl _ _) n⟩
end
end Go.Proofs.Ytjboboaccjbebaa
