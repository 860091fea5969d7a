/- Layer 12: Get: a predictor's code is read as that predictor. -/
import Derived.Test.YtfbccmogiafgfaaCoefP
import Derived.Test.YtfbccmogiafgfaaRGet
namespace Go.Proofs.Ytfbccmogiafgfaa
open Go.RowKit

/-- Bits that stand at place i are got as their number. -/
theorem get_bits (w : World) (p : Nat) (v : Value) (F : List Nat) (i : Nat) (x n : Nat) (ni : Int) (hni : ni = (n : Int)) (h : Rd w p v F i) (hn : n ≤ 64) (hx : x < 2 ^ n) (hb : ((flat F).drop i).take n = bitsOf x n) (hi : i + n ≤ 8 * F.length) :
    Calls Try.prog 32 #[.pointer (some ⟨p, 0, none⟩), .int .i64 ni] w fun e w' => e = .returned (.tuple #[.int .u64 (x : Int), .int .i64 0]) ∧ RI w p v F (i + n) w' := by
  subst hni
  have h := get_ok w p v F i n h hn hi
  rw [hb, valOf_bitsOf, Nat.mod_eq_of_lt hx] at h
  exact h

/-- The three numbers' variables, and the reader, since w. -/
structure TG (w : World) (p : Nat) (v : Value) (F : List Nat) (i : Nat) (cs : Array Value) (wr : World) : Prop where
  rd : Rd wr p v F i
  res : Blk wr w.heap.size 91 #[.int .i64 0, .int .i64 0, .int .i64 0]
  out : Blk wr (w.heap.size + 1) 91 cs
  kp : Kept (fun k => k = p) w wr
  lt : p < w.heap.size
section
variable {w wr w1 : World} {p i j : Nat} {v : Value} {F : List Nat} {cs : Array Value}
theorem TG.new (h : Rd w p v F i) : TG w p v F i #[.int .i64 0, .int .i64 0, .int .i64 0] ((w.alloc (.cells #[.int .i64 0, .int .i64 0, .int .i64 0] 91)).alloc (.cells #[.int .i64 0, .int .i64 0, .int .i64 0] 91)) := by
  have hb := ((Below.refl _ w).alloc (Nat.le_refl _) (.cells #[.int .i64 0, .int .i64 0, .int .i64 0] 91)).alloc (by simp) (.cells #[.int .i64 0, .int .i64 0, .int .i64 0] 91)
  have h2 := Blk.new (w.alloc (.cells #[.int .i64 0, .int .i64 0, .int .i64 0] 91)) 91 #[.int .i64 0, .int .i64 0, .int .i64 0]
  rw [show (w.alloc (.cells #[.int .i64 0, .int .i64 0, .int .i64 0] 91)).heap.size = w.heap.size + 1 by simp] at h2
  exact ⟨h.below hb, (Blk.new w _ _).alloc _, h2, Kept.of_below' hb, h.blk.lt⟩
theorem TG.get (h : TG w p v F i cs wr) (k : RI wr p v F j w1) : TG w p v F j cs w1 :=
  ⟨k.1, h.res.kept k.2 (by have := h.lt; omega), h.out.kept k.2 (by have := h.lt; omega), h.kp.trans k.2 fun _ _ e => e, h.lt⟩
theorem TG.store (h : TG w p v F i cs wr) (k : Nat) (u : Value) (hv : ∀ g, v.ownBlock = some g → g < w.heap.size) : TG w p v F i (cs.setIfInBounds k u) (wr.setCell ⟨w.heap.size + 1, k, none⟩ u) :=
  ⟨⟨h.rd.blk.far (by have := h.lt; simp; omega) u, h.rd.sl.setCell (fun e => by have := hv _ e; simp at this; omega) u, h.rd.ne, h.rd.at_, h.rd.len, h.rd.by_⟩, h.res.far (by simp) u, h.out.upd k u, h.kp.setCell (fun hl => by simp at hl; omega) u, h.lt⟩
/-- A store of a reader's caller, into new memory. -/
theorem RI.store {w0 : World} (h : RI w0 p v F i wr) {q : Addr} (hq : w0.heap.size ≤ q.block) (hp : p < w0.heap.size) (hv : ∀ g, v.ownBlock = some g → g < w0.heap.size) (u : Value) : RI w0 p v F i (wr.setCell q u) :=
  ⟨⟨h.1.blk.far (by omega) u, h.1.sl.setCell (fun e => by have := hv _ e; omega) u, h.1.ne, h.1.at_, h.1.len, h.1.by_⟩, h.2.setCell (fun hl => by omega) u⟩
theorem TG.slice_lt (h : Rd w p v F i) (h0 : F ≠ []) (g : Nat) (hg : v.ownBlock = some g) : g < w.heap.size := by
  obtain ⟨g', e, hl⟩ := h.sl.block_lt (fun e => h0 (List.map_eq_nil_iff.1 e))
  rw [hg] at e
  injection e with e
  omega
end

set_option maxRecDepth 100000 in
set_option maxHeartbeats 800000 in
theorem three_ok (w : World) (p : Nat) (v : Value) (F : List Nat) (i x y z : Nat) (h : Rd w p v F i) (hx : x < 64) (hy : y < 16) (hz : z < 16) (hb : ((flat F).drop i).take 14 = bitsOf x 6 ++ bitsOf y 4 ++ bitsOf z 4) (hi : i + 14 ≤ 8 * F.length) :
    Calls Try.prog 74 #[.pointer (some ⟨p, 0, none⟩)] w fun e w' => e = .returned (.tuple #[.agg #[.int .i64 (x : Int), .int .i64 (y : Int), .int .i64 (z : Int)], .int .i64 0]) ∧ RI w p v F (i + 14) w' := by
  have hF : F ≠ [] := fun e => by rw [e] at hi; simp at hi
  have hv := fun g hg => TG.slice_lt h hF g hg
  have e0 : ((flat F).drop i).take 6 = bitsOf x 6 := by
    have := congrArg (List.take 6) hb
    rwa [List.take_take, List.append_assoc, List.take_left' (bitsOf_length _ _)] at this
  have e1 : ((flat F).drop (i + 6)).take 4 = bitsOf y 4 := by
    have := congrArg (fun l => (l.drop 6).take 4) hb
    rw [List.drop_take, List.take_take, List.drop_drop, List.append_assoc, List.drop_left' (bitsOf_length _ _), List.take_left' (bitsOf_length _ _)] at this
    exact this
  have e2 : ((flat F).drop (i + 6 + 4)).take 4 = bitsOf z 4 := by
    have := congrArg (fun l => (l.drop 10).take 4) hb
    rw [List.drop_take, List.take_take, List.drop_drop, List.drop_left' (by simp [bitsOf_length])] at this
    have t : (bitsOf z 4).take 4 = bitsOf z 4 := List.take_of_length_le (by rw [bitsOf_length]; omega)
    rw [t] at this
    exact this
  have H := hid (And.intro (TG.new h) (And.intro hv (And.intro e0 (And.intro e1 e2))))
  clear h hv e0 e1 e2 hb hF
  have i0 : ∀ w, (Instr.index 91 (.agg #[.int .i64 6, .int .i64 4, .int .i64 4]) (.int .i64 0)).run Try.prog w = .ok (.int .i64 6) w := fun _ => by kernel_rfl
  have i1 : ∀ w, (Instr.index 91 (.agg #[.int .i64 6, .int .i64 4, .int .i64 4]) (.int .i64 1)).run Try.prog w = .ok (.int .i64 4) w := fun _ => by kernel_rfl
  have i2 : ∀ w, (Instr.index 91 (.agg #[.int .i64 6, .int .i64 4, .int .i64 4]) (.int .i64 2)).run Try.prog w = .ok (.int .i64 4) w := fun _ => by kernel_rfl
  go_enter Try.func74, Try.ntmps74
  go_wp2_with fail
  refine wp_loop_rounds 4 ?_
  rw [rounds_succ]
  go_wp2_with fail
  have HC := get_bits _ p v F i x 6 6 rfl H.out.1.rd (by omega) hx H.out.2.2.1 (by omega)
  with_reducible refine HC.mono ?_
  clear HC
  rintro e w1 ⟨rfl, hr⟩
  have H1 := hid (H.out.1.get hr)
  have c0 := (H.out.1.get hr).out.cell 0
  have f0 := (H.out.1.get hr).out.frozen 0
  simp at c0
  clear hr
  go_wp2_with fail
  rw [rounds_succ]
  go_wp2_with fail
  have HC := get_bits _ p v F (i + 6) y 4 4 rfl (H1.out.store 0 (.int .i64 (x : Int)) H.out.2.1).rd (by omega) hy H.out.2.2.2.1 (by omega)
  with_reducible refine HC.mono ?_
  clear HC
  rintro e w2 ⟨rfl, hr⟩
  have h2 := (H1.out.store 0 (.int .i64 (x : Int)) H.out.2.1).get hr
  have H2 := hid h2
  clear c0 f0
  have c0 := h2.out.cell 1
  have f0 := h2.out.frozen 1
  simp at c0
  clear hr h2
  go_wp2_with fail
  rw [rounds_succ]
  go_wp2_with fail
  have HC := get_bits _ p v F (i + 6 + 4) z 4 4 rfl (H2.out.store 1 (.int .i64 (y : Int)) H.out.2.1).rd (by omega) hz H.out.2.2.2.2 (by omega)
  with_reducible refine HC.mono ?_
  clear HC
  rintro e w3 ⟨rfl, hr⟩
  have h3 := (H2.out.store 1 (.int .i64 (y : Int)) H.out.2.1).get hr
  have H3 := hid h3
  clear c0 f0
  have c0 := h3.out.cell 2
  have f0 := h3.out.frozen 2
  simp at c0
  have h4 := h3.store 2 (.int .i64 (z : Int)) H.out.2.1
  have d0 := h4.out.cell 0
  have d1 := h4.out.cell 1
  have d2 := h4.out.cell 2
  have r0 := h4.res.cell 0
  have r1 := h4.res.cell 1
  have r2 := h4.res.cell 2
  have g0 := h4.res.frozen 0
  have g1 := h4.res.frozen 1
  have g2 := h4.res.frozen 2
  simp at d0 d1 d2 r0 r1 r2
  have H4 := hid h4
  clear hr h3 h4
  obtain ⟨w4, hw4⟩ : ∃ w4, w3.setCell ⟨w.heap.size + 1, 2, none⟩ (.int .i64 (z : Int)) = w4 := ⟨_, rfl⟩
  rw [hw4] at d0 d1 d2 r0 r1 r2 g0 g1 g2 H4
  have HW := hid hw4
  clear hw4
  go_wp2_with fail
  rw [HW.out, rounds_succ]
  go_wp2_with fail
  have hlt := H4.out.lt
  have hri : RI w p v F (i + 14) w4 := ⟨H4.out.rd, H4.out.kp⟩
  exact bodyPost_ret (v := .tuple #[.agg #[.int .i64 (x : Int), .int .i64 (y : Int), .int .i64 (z : Int)], .int .i64 0]) (by simp [results, Try.results74, go_sem, r0, r1, r2]) rfl ⟨rfl, ((hri.store (by simp) hlt H.out.2.1 _).store (by simp) hlt H.out.2.1 _).store (by simp) hlt H.out.2.1 _⟩

/-- Bits ahead of others. -/
theorem drop_seg {L A T : List Bool} {i n : Nat} (h : L.drop i = A ++ T) (hn : A.length = n) : (L.drop i).take n = A ∧ L.drop (i + n) = T := by
  refine ⟨by rw [h, List.take_left' hn], ?_⟩
  rw [← List.drop_drop, h, List.drop_left' hn]
theorem drop_fits {L A T : List Bool} {i : Nat} (h : L.drop i = A ++ T) (hA : A ≠ []) : i + A.length ≤ L.length := by
  have := congrArg List.length h
  rw [List.length_drop, List.length_append] at this
  have : 0 < A.length := List.length_pos_iff.2 hA
  omega
end Go.Proofs.Ytfbccmogiafgfaa
