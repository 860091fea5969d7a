/- A writer in new memory beside a list in old memory; readers in new memory. -/
import Derived.Test.YtjboboaccjbebaaMgA
import Derived.Test.YtjboboaccjbebaaMgB
import Derived.Test.YtjboboaccjbebaaMgC
import Derived.Test.YtjboboaccjbebaaMgE
import Derived.Test.YtjboboaccjbebaaMgF

namespace Go.Proofs.Ytjboboaccjbebaa
open Go.RowKit

/-- A writer in new memory, and a list in old. -/
structure EW (w : World) (p : Nat) (u l : Value) (xs : List Nat) (L : List Bool) (wr : World) : Prop where
  ww : Wr wr p u L
  bel : Below w.heap.size w wr
  low : ∀ k, Foot p u k → w.heap.size ≤ k
  old : Sl w l (u64s xs)
section
variable {w wr w1 : World} {p : Nat} {u l : Value} {xs : List Nat} {L L' : List Bool}
theorem EW.sl (h : EW w p u l xs L wr) : Sl wr l (u64s xs) := h.old.below h.bel
theorem EW.later (h : EW w p u l xs L wr) (hb : Below wr.heap.size wr w1) : EW w p u l xs L w1 := ⟨h.ww.below hb, h.bel.trans (hb.mono h.bel.size), h.low, h.old⟩
theorem EW.drew (h : EW w p u l xs L wr) : EW w p u l xs L wr.drew := h.later (Below.refl _ _).drew
theorem EW.step (h : EW w p u l xs L wr) (k : WI wr p u L' w1) : ∃ u', EW w p u' l xs L' w1 := by
  obtain ⟨u', hw, hm, hk⟩ := k
  refine ⟨u', hw, Kept.after h.bel (Nat.le_refl _) hk h.low, fun i hi => ?_, h.old⟩
  rcases Nat.lt_or_ge i wr.heap.size with hl | hl
  · exact h.low i (hm.foot hl hi)
  · have := h.bel.size; omega
theorem EW.kept {q : Nat} (h : EW w p u l xs L wr) (hk : Kept (fun k => k = q) wr w1) (hq : w.heap.size ≤ q) (hf : ¬ Foot p u q) : EW w p u l xs L w1 :=
  ⟨h.ww.keep hk fun k hfk e => hf (e ▸ hfk), Kept.after h.bel (Nat.le_refl _) hk fun i hi => by omega, h.low, h.old⟩
theorem EW.new {w : World} {l : Value} {xs : List Nat} (h : Sl w l (u64s xs)) : EW w w.heap.size (.slice none 0 0) l xs [] (w.alloc (.cells #[.slice none 0 0, .int .u8 0, .int .i64 0] 27)) :=
  ⟨Wr.new w, (Below.refl _ _).alloc (Nat.le_refl _) _, fun k hk => by rw [foot_nil hk]; exact Nat.le_refl _, h⟩
theorem EW.apart (h : EW w p u l xs L wr) (hne : u64s xs ≠ []) (g : Nat) (hg : l.ownBlock = some g) : ¬ Foot p u g ∧ g < wr.heap.size := by
  obtain ⟨g', e, hlt⟩ := h.old.block_lt hne
  rw [hg] at e
  injection e with e
  subst e
  exact ⟨fun hf => by have := h.low _ hf; omega, Nat.lt_of_lt_of_le hlt h.bel.size⟩
theorem EW.len (h : EW w p u l xs L wr) (hL : L.length ≤ 100000) : Calls Try.prog 21 #[.pointer (some ⟨p, 0, none⟩)] wr fun e w' => e = .returned (.int .i64 (L.length : Int)) ∧ Below wr.heap.size wr w' :=
  (len_any wr p u L h.ww (by omega)).mono fun _ _ ⟨he, n, hw⟩ => ⟨he, hw ▸ below_drewN' (Below.refl _ _) n⟩
end

/-- A reader in new memory. -/
structure RS (w : World) (q : Nat) (v : Value) (F : List Nat) (j : Nat) (wr : World) : Prop where
  rd : Rd wr q v F j
  bel : Below w.heap.size w wr
  hq : w.heap.size ≤ q
  hv : ∀ g, v.ownBlock = some g → g < q
section
variable {w wr w1 : World} {q j j' : Nat} {v : Value} {F : List Nat}
theorem RS.later (h : RS w q v F j wr) (hb : Below wr.heap.size wr w1) : RS w q v F j w1 := ⟨h.rd.below hb, h.bel.trans (hb.mono h.bel.size), h.hq, h.hv⟩
theorem RS.get (h : RS w q v F j wr) (k : RI wr q v F j' w1) : RS w q v F j' w1 := ⟨k.1, Kept.after h.bel (Nat.le_refl _) k.2 fun i hi => by have := h.hq; omega, h.hq, h.hv⟩
theorem RS.new (hb0 : Below w.heap.size w wr) (h : Rd w1 q v F 0 ∧ Below wr.heap.size wr w1 ∧ wr.heap.size ≤ q ∧ ∀ g, v.ownBlock = some g → wr.heap.size ≤ g ∧ g < q) : RS w q v F 0 w1 :=
  ⟨h.1, hb0.trans (h.2.1.mono hb0.size), Nat.le_trans hb0.size h.2.2.1, fun g hg => (h.2.2.2 g hg).2⟩
end

/-- A reader, a writer behind it, and the reference's reader, set to a place. -/
structure RX (w : World) (q : Nat) (v : Value) (F : List Nat) (a : Nat) (p2 : Nat) (u2 : Value) (B : List Bool) (q2 : Nat) (v2 : Value) (j : Nat) (wr : World) : Prop where
  rs : RS w q v F a wr
  ww : Wr wr p2 u2 B
  rr : RefRd wr q2 v2 (flat F) j
  low : ∀ i, Foot p2 u2 i → w.heap.size ≤ i
  s1 : ∀ i, Foot p2 u2 i → i ≠ q ∧ v.ownBlock ≠ some i
  s2 : ∀ i, Foot p2 u2 i → i ≠ q2 ∧ v2.ownBlock ≠ some i
  hv2 : ∀ g, v2.ownBlock = some g → g < q2
section
variable {w wr w1 : World} {q a p2 q2 j : Nat} {v u2 v2 : Value} {F : List Nat} {B B' : List Bool}
theorem RX.later (h : RX w q v F a p2 u2 B q2 v2 j wr) (hb : Below wr.heap.size wr w1) : RX w q v F a p2 u2 B q2 v2 j w1 := ⟨h.rs.later hb, h.ww.below hb, h.rr.below hb, h.low, h.s1, h.s2, h.hv2⟩
theorem RX.drew (h : RX w q v F a p2 u2 B q2 v2 j wr) : RX w q v F a p2 u2 B q2 v2 j wr.drew := h.later (Below.refl _ _).drew
theorem RX.cells (h : RX w q v F a p2 u2 B q2 v2 j wr) : wr.cell? ⟨q2, 0, none⟩ = some v2 := by
  have := h.rr.blk.cell 0
  simpa using this
theorem RX.put (h : RX w q v F a p2 u2 B q2 v2 j wr) (k : WI wr p2 u2 B' w1) : ∃ u', RX w q v F a p2 u' B' q2 v2 j w1 := by
  obtain ⟨u', hw, hm, hk⟩ := k
  have hs := hk.size
  have hfoot : ∀ i, Foot p2 u' i → i < wr.heap.size → Foot p2 u2 i := fun i hi hl => hm.foot hl hi
  refine ⟨u', ⟨h.rs.rd.keep hk (fun hf => (h.s1 _ hf).1 rfl) (fun g hg hf => (h.s1 _ hf).2 hg), Kept.after h.rs.bel (Nat.le_refl _) hk h.low, h.rs.hq, h.rs.hv⟩, hw, h.rr.keep hk (fun hf => (h.s2 _ hf).1 rfl) (fun g hg hf => (h.s2 _ hf).2 hg), fun i hi => ?_, fun i hi => ?_, fun i hi => ?_, h.hv2⟩
  · rcases Nat.lt_or_ge i wr.heap.size with hl | hl
    · exact h.low i (hfoot i hi hl)
    · have := h.rs.bel.size; omega
  · rcases Nat.lt_or_ge i wr.heap.size with hl | hl
    · exact h.s1 i (hfoot i hi hl)
    · have h1 := h.rs.rd.blk.lt
      exact ⟨by omega, fun e => by have := h.rs.hv _ e; omega⟩
  · rcases Nat.lt_or_ge i wr.heap.size with hl | hl
    · exact h.s2 i (hfoot i hi hl)
    · have h1 := h.rr.blk.lt
      exact ⟨by omega, fun e => by have := h.hv2 _ e; omega⟩
theorem RX.new (h : RS w q v F a wr) (h2 : RefRd w1 q2 v2 (flat F) 0 ∧ Below (wr.alloc (.cells #[.slice none 0 0, .int .u8 0, .int .i64 0] 27)).heap.size (wr.alloc (.cells #[.slice none 0 0, .int .u8 0, .int .i64 0] 27)) w1 ∧ (wr.alloc (.cells #[.slice none 0 0, .int .u8 0, .int .i64 0] 27)).heap.size ≤ q2 ∧ ∀ g, v2.ownBlock = some g → (wr.alloc (.cells #[.slice none 0 0, .int .u8 0, .int .i64 0] 27)).heap.size ≤ g ∧ g < q2) (hj : j ≤ (flat F).length) :
    RX w q v F a wr.heap.size (.slice none 0 0) [] q2 v2 j (w1.setCell ⟨q2, 1, none⟩ (.int .i64 (j : Int))) := by
  obtain ⟨hr, hb, hq2, hv2⟩ := h2
  have hs : (wr.alloc (.cells #[.slice none 0 0, .int .u8 0, .int .i64 0] 27)).heap.size = wr.heap.size + 1 := by simp
  rw [hs] at hq2 hv2
  have hb1 := (Below.refl _ wr).alloc (Nat.le_refl _) (.cells #[.slice none 0 0, .int .u8 0, .int .i64 0] 27)
  have h1 := (h.later hb1).later hb
  have hk : Kept (fun k => k = q2) w1 (w1.setCell ⟨q2, 1, none⟩ (.int .i64 (j : Int))) := Kept.setCell (S := fun k => k = q2) (p := ⟨q2, 1, none⟩) (Kept.refl _ _) (fun _ => rfl) _
  have hql := h.rd.blk.lt
  have hwz := h.bel.size
  refine ⟨⟨h1.rd.keep hk (by omega) (fun g hg => by have := h.hv g hg; omega), Kept.after h1.bel (Nat.le_refl _) hk (fun i hi => by omega), h1.hq, h1.hv⟩, ((Wr.new wr).below hb).keep hk fun k hf e => ?_, hr.move j hj, fun i hi => ?_, fun i hi => ?_, fun i hi => ?_, fun g hg => (hv2 g hg).2⟩
  · have := foot_nil hf; omega
  · have := foot_nil hi; omega
  · have := foot_nil hi
    exact ⟨by omega, fun e => by have := h.hv _ e; omega⟩
  · have := foot_nil hi
    exact ⟨by omega, fun e => by have := (hv2 _ e).1; omega⟩
end
end Go.Proofs.Ytjboboaccjbebaa
/- A writer in new memory beside a list of whole numbers in old memory. -/
namespace Go.Proofs.Ytjboboaccjbebaa
open Go.RowKit

structure EWI (w : World) (p : Nat) (u l : Value) (xs : List Int) (L : List Bool) (wr : World) : Prop where
  ww : Wr wr p u L
  bel : Below w.heap.size w wr
  low : ∀ k, Foot p u k → w.heap.size ≤ k
  old : Sl w l (i64s xs)
section
variable {w wr w1 : World} {p : Nat} {u l : Value} {xs : List Int} {L L' : List Bool}
theorem EWI.sl (h : EWI w p u l xs L wr) : Sl wr l (i64s xs) := h.old.below h.bel
theorem EWI.later (h : EWI w p u l xs L wr) (hb : Below wr.heap.size wr w1) : EWI w p u l xs L w1 := ⟨h.ww.below hb, h.bel.trans (hb.mono h.bel.size), h.low, h.old⟩
theorem EWI.drew (h : EWI w p u l xs L wr) : EWI w p u l xs L wr.drew := h.later (Below.refl _ _).drew
theorem EWI.step (h : EWI w p u l xs L wr) (k : WI wr p u L' w1) : ∃ u', EWI w p u' l xs L' w1 := by
  obtain ⟨u', hw, hm, hk⟩ := k
  refine ⟨u', hw, Kept.after h.bel (Nat.le_refl _) hk h.low, fun i hi => ?_, h.old⟩
  rcases Nat.lt_or_ge i wr.heap.size with hl | hl
  · exact h.low i (hm.foot hl hi)
  · have := h.bel.size; omega
theorem EWI.kept {q : Nat} (h : EWI w p u l xs L wr) (hk : Kept (fun k => k = q) wr w1) (hq : w.heap.size ≤ q) (hf : ¬ Foot p u q) : EWI w p u l xs L w1 :=
  ⟨h.ww.keep hk fun k hfk e => hf (e ▸ hfk), Kept.after h.bel (Nat.le_refl _) hk fun i hi => by omega, h.low, h.old⟩
theorem EWI.new {w : World} {l : Value} {xs : List Int} (h : Sl w l (i64s xs)) : EWI w w.heap.size (.slice none 0 0) l xs [] (w.alloc (.cells #[.slice none 0 0, .int .u8 0, .int .i64 0] 27)) :=
  ⟨Wr.new w, (Below.refl _ _).alloc (Nat.le_refl _) _, fun k hk => by rw [foot_nil hk]; exact Nat.le_refl _, h⟩
theorem EWI.apart (h : EWI w p u l xs L wr) (hne : i64s xs ≠ []) (g : Nat) (hg : l.ownBlock = some g) : ¬ Foot p u g ∧ g < wr.heap.size := by
  obtain ⟨g', e, hlt⟩ := h.old.block_lt hne
  rw [hg] at e
  injection e with e
  subst e
  exact ⟨fun hf => by have := h.low _ hf; omega, Nat.lt_of_lt_of_le hlt h.bel.size⟩
theorem EWI.len (h : EWI w p u l xs L wr) (hL : L.length ≤ 1000000) : Calls Try.prog 21 #[.pointer (some ⟨p, 0, none⟩)] wr fun e w' => e = .returned (.int .i64 (L.length : Int)) ∧ Below wr.heap.size wr w' :=
  (len_any wr p u L h.ww (by omega)).mono fun _ _ ⟨he, n, hw⟩ => ⟨he, hw ▸ below_drewN' (Below.refl _ _) n⟩
end
end Go.Proofs.Ytjboboaccjbebaa
/- The walk of PartPuts. -/
namespace Go.Proofs.Ytjboboaccjbebaa
open Go.RowKit
namespace partPuts
set_option maxRecDepth 100000 in
set_option maxHeartbeats 4000000 in
theorem walk_long (A : Option Addr) (c : Nat) (xs : List Int) (k : Int) (w : World) (h1 : 60 < xs.length) :
    Calls Try.prog 11 #[.slice A xs.length c, .int .i64 k] w fun e w' => e = .returned (.bool true) ∧ Below w.heap.size w w' := by
  have h1' : (60 : Int) < xs.length := by omega
  go_enter Try.func11, Try.ntmps11
  go_wp2_with fail
  with_reducible refine (known09 _).mono ?_
  rintro e w1 ⟨rfl, hb⟩
  replace hb := hid hb
  go_wp2_with fail
  go_ret
  exact ⟨rfl, hb.out⟩

set_option maxRecDepth 100000 in
set_option maxHeartbeats 4000000 in
theorem walk_bad (l : Value) (xs : List Int) (k : Int) (w : World) (hl : Sl w l (i64s xs)) (hx : InI xs) (hm : xs.length ≤ 60) (hr : ¬ (codedB xs = true ∧ orderB xs.length k = true)) :
    Calls Try.prog 11 #[l, .int .i64 k] w fun e w' => e = .returned (.bool true) ∧ Below w.heap.size w w' := by
  obtain ⟨A, c, rfl, _⟩ := i64s_form hl
  have h1' : ¬ (60 : Int) < xs.length := by omega
  have H0 := hid (EWI.new hl)
  have hne : pPutErr xs k ≠ 0 := by
    unfold pPutErr
    rw [if_neg (by omega)]
    split
    · split
      · exact absurd ⟨by assumption, by assumption⟩ hr
      · decide
    · decide
  have HP := hid (fun p W (h : Sl W (.slice A xs.length c) (i64s xs)) => pPut_bad p (.slice A xs.length c) xs k W h hx hne)
  have HS := hid (fun W => reforder_any xs.length k W)
  have HB := hid (fun W (h : Sl W (.slice A xs.length c) (i64s xs)) => refmayl_any (.slice A xs.length c) xs W h hx)
  rw [mayL_coded (by omega)] at HB
  have HE := hid (pPutErr.eq_1 xs k)
  rw [if_neg (show ¬ 65536 < xs.length by omega)] at HE
  have HH := hid hr
  obtain ⟨b, hb⟩ : ∃ b, orderB xs.length k = b := ⟨_, rfl⟩
  obtain ⟨d, hd⟩ : ∃ d, codedB xs = d := ⟨_, rfl⟩
  obtain ⟨x, hxx⟩ : ∃ x, pPutErr xs k = x := ⟨_, rfl⟩
  rw [hb] at HS HE HH
  rw [hd] at HB HE HH
  rw [hxx] at HP HE
  clear hb hd hxx hr hl hx hne
  cases d
  · obtain rfl : x = 3 := by rw [HE.out]; rfl
    clear HE HH
    go_enter Try.func11, Try.ntmps11
    go_wp2_with fail
    with_reducible refine (HP.out _ _ H0.out.sl).mono ?_
    rintro e w1 ⟨rfl, hb1⟩
    have H1 := hid (H0.out.later hb1)
    clear hb1
    go_wp2_with fail
    with_reducible refine (HB.out _ H1.out.sl).mono ?_
    rintro e w2 ⟨rfl, rfl⟩
    go_wp2_with fail
    with_reducible refine (H1.out.len (by simp)).mono ?_
    rintro e w3 ⟨rfl, hb3⟩
    have H3 := hid (H1.out.later hb3)
    clear hb3
    go_wp2_with fail
    with_reducible refine (known09 _).mono ?_
    rintro e w5 ⟨rfl, hbb⟩
    have H5 := hid (H3.out.later hbb)
    clear hbb
    go_wp2_with fail
    go_ret
    exact ⟨rfl, H5.out.bel⟩
  · obtain rfl : b = false := by cases b; rfl; exact absurd ⟨rfl, rfl⟩ HH.out
    obtain rfl : x = 1 := by rw [HE.out]; rfl
    clear HE HH
    go_enter Try.func11, Try.ntmps11
    go_wp2_with fail
    with_reducible refine (HP.out _ _ H0.out.sl).mono ?_
    rintro e w1 ⟨rfl, hb1⟩
    have H1 := hid (H0.out.later hb1)
    clear hb1
    go_wp2_with fail
    with_reducible refine (HB.out _ H1.out.sl).mono ?_
    rintro e w2 ⟨rfl, rfl⟩
    go_wp2_with fail
    with_reducible refine (HS.out _).mono ?_
    rintro e w2 ⟨rfl, rfl⟩
    go_wp2_with fail
    with_reducible refine (H1.out.len (by simp)).mono ?_
    rintro e w3 ⟨rfl, hb3⟩
    have H3 := hid (H1.out.later hb3)
    clear hb3
    go_wp2_with fail
    with_reducible refine (known09 _).mono ?_
    rintro e w6 ⟨rfl, hbb⟩
    have H6 := hid (H3.out.later hbb)
    clear hbb
    go_wp2_with fail
    go_ret
    exact ⟨rfl, H6.out.bel⟩

theorem partsN_small {xs : List Int} (h : InI xs) (p m : Nat) (hm : m ≤ 2 ^ p) : partsN xs p m ≤ m * (12 + 64 * xs.length) := by
  induction m with
  | zero => simp [partsN]
  | succ m ih =>
    have h1 := choose_le (partL xs p m)
    have h2 := needL_64 (part_inI h p m)
    have h3 : (partL xs p m).length ≤ xs.length := by rw [partL_length xs p m (by omega)]; have := bnd_le xs.length p (i := m + 1) hm; omega
    have h4 : needL (partL xs p m) * (partL xs p m).length ≤ 64 * xs.length := Nat.mul_le_mul h2 h3
    have ih := ih (by omega)
    unfold cW at h1
    rw [partsN, Nat.succ_mul]
    omega

set_option maxRecDepth 100000 in
set_option maxHeartbeats 8000000 in
theorem walk_main (l : Value) (xs : List Int) (k : Nat) (w : World) (hl : Sl w l (i64s xs)) (hx : InI xs) (hm : xs.length ≤ 60) (hk : orderB xs.length (k : Int) = true) (hcd : codedB xs = true) :
    Calls Try.prog 11 #[l, .int .i64 (k : Int)] w fun e w' => e = .returned (.bool true) ∧ Below w.heap.size w w' := by
  obtain ⟨A, c, rfl, _⟩ := i64s_form hl
  have h1' : ¬ (60 : Int) < xs.length := by omega
  have hk6 : k ≤ 6 := by
    obtain ⟨q, e, h⟩ := orderB_nat hk
    omega
  have H0 := hid (EWI.new hl)
  have HP := hid (fun p u W (h : EWI w p u (.slice A xs.length c) xs [] W) => pPut_ok p u [] (.slice A xs.length c) xs k W h.ww (by simp) h.sl hx (by omega) h.apart hcd hk)
  have HS := hid (fun W => reforder_any xs.length (k : Int) W)
  have HB := hid (fun W (h : Sl W (.slice A xs.length c) (i64s xs)) => refmayl_any (.slice A xs.length c) xs W h hx)
  rw [mayL_coded (by omega)] at HB
  have HCD := hid (fun W (h : Sl W (.slice A xs.length c) (i64s xs)) => refwhole_any (.slice A xs.length c) xs k W h hx (by omega) hcd hk6)
  rw [hcd] at HB
  rw [hk] at HS
  have hcl2 : (wholeC xs k).length ≤ 300000 := by
    rw [wholeC_length hcd]
    have h1 := partsN_small hx k (2 ^ k) (Nat.le_refl _)
    have h2 : 2 ^ k ≤ 2 ^ 6 := Nat.pow_le_pow_right (by omega) hk6
    have h3 : 2 ^ k * (12 + 64 * xs.length) ≤ 64 * (12 + 64 * 60) := Nat.mul_le_mul (by omega) (by omega)
    omega
  obtain ⟨B, hB⟩ : ∃ B, wholeC xs k = B := ⟨_, rfl⟩
  rw [hB] at HCD hcl2
  simp only [hB, List.nil_append] at HP
  clear hcd hl hx hB hk hk6
  have hbb : ((B.length : Int) == (B.length : Int)) = true := by simp
  go_enter Try.func11, Try.ntmps11
  go_wp2_with fail
  with_reducible refine (HP.out _ _ _ H0.out).mono ?_
  rintro e w1 ⟨rfl, hw1⟩
  obtain ⟨u, h1⟩ := H0.out.step hw1
  have H1 := hid h1
  clear hw1 h1
  go_wp2_with fail
  with_reducible refine (HB.out _ H1.out.sl).mono ?_
  rintro e w2 ⟨rfl, rfl⟩
  go_wp2_with fail
  with_reducible refine (HS.out _).mono ?_
  rintro e w2 ⟨rfl, rfl⟩
  go_wp2_with fail
  with_reducible refine (HCD.out _ H1.out.sl).mono ?_
  rintro e w3 ⟨A3, c3, rfl, hf3⟩
  have H3 := hid (And.intro (H1.out.later hf3.bel) hf3.sl)
  clear hf3
  go_wp2_with fail
  go_region_with
    (first
      | (go_at_call 21; (with_reducible refine (H3.out.1.drew.len (by omega)).mono ?_); rintro e w4 ⟨rfl, hb⟩; have h4 := H3.out.1.drew.later hb; have H4 := hid (And.intro h4 (H3.out.2.drew.below hb)); clear hb h4)
      | (go_at_call 24; (with_reducible refine (bytes_any _ _ _ B H4.out.1.ww (by omega)).mono ?_); rintro e w6 ⟨F1, A1, c1, rfl, hf, hf1, hb1⟩; have hs1 := Sl.of_own hf.1; have hstr1 := str_of w6 _ F1 hs1 hb1; have h6 := H4.out.1.later hf.2.1; have H6 := hid (And.intro h6 (And.intro (H4.out.2.below hf.2.1) (And.intro hf1 (And.intro hb1 hs1)))); clear hs1 hb1 hf1 hf h6)
      | (go_at_call 25; (with_reducible refine (refbytes_any _ B _ H6.out.2.1 (by omega)).mono ?_); rintro e w7 ⟨F2, A2, c2, rfl, hf, hf2, hb2⟩; obtain rfl : F2 = F1 := flat_inj hb2 H6.out.2.2.2.1 (hf2.trans H6.out.2.2.1.symm); have hstr2 := str_of w7 _ F2 (Sl.of_own hf.1) hb2; have hstr3 := str_of w7 _ F2 (H6.out.2.2.2.2.below hf.2.1) hb2; have h7 := H6.out.1.later hf.2.1; have H7 := hid h7; clear hb2 hf2 hf h7)
      | (go_at_call 42; (with_reducible refine (known09 _).mono ?_); rintro e w8 ⟨rfl, hb⟩; have h8 := H7.out.later hb; have H8 := hid h8.bel; clear hb h8))
  all_goals (go_wp2_with fail)
  all_goals (go_ret)
  all_goals exact ⟨rfl, H8.out⟩

theorem walk {l : Value} {xs : List Int} {k : Int} {w : World} (hl : Sl w l (i64s xs)) (hx : InI xs) :
    Calls Try.prog 11 #[l, .int .i64 k] w fun e w' => e = .returned (.bool true) ∧ Below w.heap.size w w' := by
  by_cases h : 60 < xs.length
  · obtain ⟨A, c, rfl, _⟩ := i64s_form hl
    exact walk_long A c xs k w h
  by_cases hr : codedB xs = true ∧ orderB xs.length k = true
  · obtain ⟨q, rfl, _⟩ := orderB_nat hr.2
    exact walk_main l xs q w hl hx (by omega) hr.2 hr.1
  · exact walk_bad l xs k w hl hx (by omega) hr
end partPuts
end Go.Proofs.Ytjboboaccjbebaa
