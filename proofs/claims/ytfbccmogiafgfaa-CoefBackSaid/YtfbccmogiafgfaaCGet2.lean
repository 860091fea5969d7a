/- Layer 12: Get: a predictor's code is read as that predictor (the loop). -/
import Derived.Test.YtfbccmogiafgfaaCGet
import Derived.Test.YtfbccmogiafgfaaCode12
namespace Go.Proofs.Ytfbccmogiafgfaa
open Go.RowKit

/-- The state of Get: the reader, the result's variable, the predictor's variable q, its coefficients so far. -/
structure GS (w : World) (p : Nat) (v : Value) (F : List Nat) (q : Nat) (s : Int) (j : Nat) (L : List Int) (u : Value) (wr : World) : Prop where
  rd : Rd wr p v F j
  kp : Kept (fun k => k = p) w wr
  own : wr.ownsRow 0 3 1 u L.length (i64s L)
  new : ∀ g, u.ownBlock = some g → w.heap.size ≤ g
  res : Blk wr w.heap.size 25 #[.slice none 0 0, .int .i64 0]
  out : Blk wr q 25 #[u, .int .i64 s]
  hq : w.heap.size < q
  lt : p < w.heap.size
  hv : ∀ g, v.ownBlock = some g → g < w.heap.size
section
variable {w wr w1 w2 : World} {p q j j' : Nat} {v u : Value} {F : List Nat} {s : Int} {L : List Int}
theorem GS.get (h : GS w p v F q s j L u wr) (k : RI wr p v F j' w1) : GS w p v F q s j' L u w1 :=
  ⟨k.1, h.kp.trans k.2 fun _ _ e => e, own_kept h.own k.2 fun g hg e => by have := h.new g hg; have := h.lt; omega, h.new, h.res.kept k.2 (by have := h.lt; omega), h.out.kept k.2 (by have := h.lt; have := h.hq; omega), h.hq, h.lt, h.hv⟩
theorem GS.grow {x : Int} {g cap : Nat} (h : GS w p v F q s j L u wr)
    (hown : w2.ownsRow 0 3 1 (.slice (some ⟨g, 0, none⟩) (L.length + 1) cap) (L.length + 1) (i64s L ++ [.int .i64 x])) (hg : (wr.alloc (.cells #[.int .i64 x] 3)).grownBy w2 u.ownBlock) (hm : u.ownBlock = some g ∨ g = wr.heap.size + 1) :
    Blk w2 q 25 #[u, .int .i64 s] ∧ GS w p v F q s j (L ++ [x]) (.slice (some ⟨g, 0, none⟩) (L.length + 1) cap) (w2.setCell ⟨q, 0, none⟩ (.slice (some ⟨g, 0, none⟩) (L.length + 1) cap)) := by
  have hlt := h.lt
  have hq := h.hq
  have hs := h.kp.size
  have b1 := Blk.grown (h.out.alloc _) hg (own_ne h.own h.out (by decide))
  have b2 := Blk.grown (h.res.alloc _) hg (own_ne h.own h.res (by decide))
  rw [i64s_append_one] at hown
  have hne := own_ne hown b1 (by decide)
  have hpr : u.ownBlock ≠ some p := fun e => by have := h.new p e; omega
  have hrd : Rd w2 p v F j := ⟨Blk.grown (h.rd.blk.alloc _) hg hpr, (h.rd.sl.alloc _).grown hg (by
    by_cases hn : v.ownBlock = none
    · exact .inl hn
    · refine .inr fun e => ?_
      cases hvb : v.ownBlock with
      | none => exact hn hvb
      | some g' =>
        have h1 := h.hv g' hvb
        rw [hvb] at e
        have h2 := h.new g' e.symm
        omega), h.rd.ne, h.rd.at_, h.rd.len, h.rd.by_⟩
  have hkp : Kept (fun k => k = p) w w2 := (h.kp.alloc _).grown hg fun k hk hl => by have := h.new k hk; omega
  have hl : (L ++ [x]).length = L.length + 1 := by simp
  refine ⟨b1, ⟨⟨hrd.blk.far (by show p ≠ q; omega) _, hrd.sl.setCell (fun e => by have := h.hv _ e; simp at this; omega) _, hrd.ne, hrd.at_, hrd.len, hrd.by_⟩, hkp.setCell (fun hl => by simp at hl; omega) _, ?_, ?_, b2.far (by show w.heap.size ≠ q; omega) _, by simpa using b1.upd 0 (.slice (some ⟨g, 0, none⟩) (L.length + 1) cap), hq, hlt, h.hv⟩⟩
  · rw [hl]; exact own_setCell hown hne _
  · intro k hk
    simp [Value.ownBlock] at hk
    subst hk
    rcases hm with e | e
    · exact h.new g e
    · omega
end

/-- The sign of n bits. -/
theorem signext (x : Int) (n : Nat) (h1 : -(2 ^ (n - 1)) ≤ x) (h2 : x < 2 ^ (n - 1)) (hn1 : 1 ≤ n) (hn : n ≤ 63) : IntKind.i64.wrap (IntKind.u64.wrap (((x % 2 ^ n).toNat : Int) * 2 ^ (64 - n))) / 2 ^ (64 - n) = x := by
  have e : (2 : Int) ^ n = 2 * 2 ^ (n - 1) := by rw [← pow_succ_int, show n - 1 + 1 = n by omega]
  have e64 : (2 : Int) ^ (n - 1) * (2 * 2 ^ (64 - n)) = 18446744073709551616 := by
    rw [← pow_succ_int, ← Int.pow_add, show n - 1 + (64 - n + 1) = 64 by omega]; rfl
  have hp := pow_pos_int (n - 1)
  have hq := pow_pos_int (64 - n)
  have h0 := Int.emod_nonneg x (show (2 : Int) ^ n ≠ 0 by omega)
  rw [Int.toNat_of_nonneg h0, e, IntKind.wrap_u64, IntKind.wrap_i64]
  generalize (2 : Int) ^ (64 - n) = f at *
  generalize (2 : Int) ^ (n - 1) = q at *
  have eq2 : q * f * 2 = 18446744073709551616 := by rw [← e64, Int.mul_assoc, Int.mul_comm f 2]
  have hxf : x * f < q * f := Int.mul_lt_mul_of_pos_right h2 hq
  have hxf' : -(q * f) ≤ x * f := by
    have := Int.mul_le_mul_of_nonneg_right h1 (show 0 ≤ f by omega)
    rwa [Int.neg_mul] at this
  have hm : (x % (2 * q)) * f = x * f ∨ (x % (2 * q)) * f = x * f + 18446744073709551616 := by
    by_cases hx : 0 ≤ x
    · left; rw [Int.emod_eq_of_lt hx (by omega)]
    · right
      rw [show x = (x + 2 * q) + (-1) * (2 * q) by omega, Int.add_mul_emod_self_right, Int.emod_eq_of_lt (by omega) (by omega)]
      have : (x + 2 * q) * f = x * f + q * f * 2 := by rw [Int.add_mul, Int.mul_comm 2 q, Int.mul_assoc, Int.mul_comm 2 f, ← Int.mul_assoc]
      rw [show x + 2 * q + -1 * (2 * q) = x by omega, this, eq2]
  have hfin : (x % (2 * q) * f % 18446744073709551616 + 9223372036854775808) % 18446744073709551616 - 9223372036854775808 = x * f := by
    generalize x % (2 * q) * f = y at *
    generalize x * f = z at *
    generalize q * f = t at *
    omega
  rw [hfin, Int.mul_ediv_cancel _ (by omega)]

/-- What Get hands back. -/
def CGetPost (w : World) (p : Nat) (v : Value) (F : List Nat) (j : Nat) (xs : List Int) (s : Int) (e : Ending) (w' : World) : Prop :=
  ∃ u, e = .returned (.tuple #[.agg #[u, .int .i64 s], .int .i64 0]) ∧ Sl w' u (i64s xs) ∧ RI w p v F j w'

set_option maxRecDepth 100000 in
set_option maxHeartbeats 4000000 in
theorem cget_ok (w : World) (p : Nat) (v : Value) (F : List Nat) (i : Nat) (xs : List Int) (s : Int) (T : List Bool) (h : Rd w p v F i) (hx : In64 xs) (hr : rightB xs s = true) (hb : (flat F).drop i = codeC xs s ++ T) :
    Calls Try.prog 48 #[.pointer (some ⟨p, 0, none⟩)] w (CGetPost w p v F (i + (codeC xs s).length) xs s) := by
  obtain ⟨r1, r2, r3, r4, r5⟩ := widN_right xs s hr
  have hfit := fun (x : Int) (hm : x ∈ xs) => need_fits x (widN xs) ((widN_ge xs).2 x hm) (hx x hm).1 (hx x hm).2
  have hok : ∀ x ∈ xs, ¬ x < -32767 := fun x hm => by
    have := hr
    unfold rightB at this
    rw [Bool.and_eq_true, List.all_eq_true] at this
    have := this.2 x hm
    unfold okC at this
    rw [decide_eq_true_iff] at this
    omega
  have hcl := codeC_length xs s
  have hcf := drop_fits hb (by intro e; rw [e] at hcl; simp at hcl; omega)
  rw [flat_length, hcl] at hcf
  obtain ⟨n, hn⟩ : ∃ n, widN xs = n := ⟨_, rfl⟩
  obtain ⟨m, hm⟩ : ∃ m, n = m + 1 := ⟨n - 1, by omega⟩
  subst hm
  obtain ⟨q, rfl⟩ := Int.eq_ofNat_of_zero_le r2
  have hb' : (flat F).drop i = (bitsOf xs.length 6 ++ bitsOf q 4 ++ bitsOf m 4) ++ (xs.flatMap (cbits (m + 1)) ++ T) := by
    rw [hb, codeC, hn, Int.toNat_natCast, List.append_assoc, Nat.add_sub_cancel]
  obtain ⟨hb1, hb2⟩ := drop_seg (n := 14) hb' (by simp only [List.length_append, bitsOf_length])
  rw [hn] at r4 r5 hfit hcl hcf
  have hF : F ≠ [] := fun e => by rw [e] at hcf; simp at hcf
  have hvl := fun g hg => TG.slice_lt h hF g hg
  have hpl := h.blk.lt
  have HN := hid (And.intro hn (And.intro hfit (And.intro hok (And.intro hb2 (And.intro hcl hvl)))))
  have h0 := h.below ((Below.refl _ w).alloc (Nat.le_refl _) (.cells #[.slice none 0 0, .int .i64 0] 25))
  have H3 := hid (three_ok _ p v F i xs.length q m h0 (by omega) (by omega) (by omega) hb1 (by omega))
  have HR := hid (Blk.new w 25 #[.slice none 0 0, .int .i64 0])
  clear hx hr hb hfit hok hcl hb' hb1 hb2 hvl h h0 hF hn
  go_enter Try.func48, Try.ntmps48
  go_wp2_with fail
  with_reducible refine H3.out.mono ?_
  rintro e w1 ⟨rfl, hri⟩
  have hR1 : Blk w1 w.heap.size 25 #[.slice none 0 0, .int .i64 0] := HR.out.kept hri.2 (by omega)
  have hk1 : Kept (fun k => k = p) w w1 := (Kept.of_below' (S := fun k => k = p) ((Below.refl _ w).alloc (Nat.le_refl _) (.cells #[.slice none 0 0, .int .i64 0] 25))).trans hri.2 fun _ _ e => e
  have hz1 := hR1.lt
  have hb2 := ((Below.refl _ w1).alloc (Nat.le_refl _) (.cells #[.int .i64 (xs.length : Int), .int .i64 (q : Int), .int .i64 (m : Int)] 91)).alloc (by simp) (.cells #[.slice none 0 0, .int .i64 (q : Int)] 25)
  have hO := Blk.new (w1.alloc (.cells #[.int .i64 (xs.length : Int), .int .i64 (q : Int), .int .i64 (m : Int)] 91)) 25 #[.slice none 0 0, .int .i64 (q : Int)]
  rw [show (w1.alloc (.cells #[.int .i64 (xs.length : Int), .int .i64 (q : Int), .int .i64 (m : Int)] 91)).heap.size = w1.heap.size + 1 by simp] at hO
  have G0 := hid (show GS w p v F (w1.heap.size + 1) (q : Int) (i + 14) [] (.slice none 0 0) ((w1.alloc (.cells #[.int .i64 (xs.length : Int), .int .i64 (q : Int), .int .i64 (m : Int)] 91)).alloc (.cells #[.slice none 0 0, .int .i64 (q : Int)] 25)) from
    ⟨hri.1.below hb2, hk1.then_below hb2, World.ownsRow_nil _ _ _ _, by simp [Value.ownBlock], (hR1.alloc _).alloc _, hO, by omega, hpl, HN.out.2.2.2.2.2⟩)
  clear hri hR1 hk1 hb2 hO
  go_wp2_with fail
  go_loopw [38] (fun i' wr => ∃ (k : Nat) (u : Value), k ≤ xs.length ∧ i' = .int .i64 k ∧ GS w p v F (w1.heap.size + 1) (q : Int) (i + 14 + k * (m + 1)) (xs.take k) u wr ∧ Hid ((flat F).drop (i + 14 + k * (m + 1)) = (xs.drop k).flatMap (cbits (m + 1)) ++ T)) (fun i' _ => xs.length - (intOf i').toNat)
  case atStart => exact ⟨0, _, by omega, rfl, by simpa using G0.out, by show _ = _; simpa using HN.out.2.2.2.1⟩
  case round =>
    obtain ⟨k, u, hk, rfl, hg, hd⟩ := hrel
    have hllen : (xs.take k).length ≤ 32 := by rw [List.length_take]; omega
    have c0 := hg.out.cell 0
    have c1 := hg.out.cell 1
    simp at c0 c1
    by_cases hkm : k < xs.length
    · have hin : (k : Int) < xs.length := by omega
      obtain ⟨x, hx⟩ : ∃ x, xs[k] = x := ⟨_, rfl⟩
      have hft := HN.out.2.1 xs[k] (List.getElem_mem _)
      have hgo := HN.out.2.2.1 xs[k] (List.getElem_mem _)
      rw [hx] at hft hgo
      have hd2 := hd.out
      rw [List.drop_eq_getElem_cons hkm, hx, List.flatMap_cons, List.append_assoc] at hd2
      obtain ⟨hd3, hd4⟩ := drop_seg (n := m + 1) hd2 (by rw [cbits, bitsOf_length])
      have hkk : (k + 1) * (m + 1) ≤ xs.length * (m + 1) := Nat.mul_le_mul_right _ hkm
      rw [Nat.add_mul, Nat.one_mul] at hkk
      have hG := hid (get_bits wr p v F (i + 14 + k * (m + 1)) (x % 2 ^ (m + 1)).toNat (m + 1) ((m : Int) + 1) (by omega) hg.rd (by omega) (cmask_lt x (m + 1)) hd3 (by omega))
      have hse := signext x (m + 1) hft.1 hft.2.1 (by omega) (by omega)
      obtain ⟨y, hy⟩ : ∃ y, (x % 2 ^ (m + 1)).toNat = y := ⟨_, rfl⟩
      rw [hy] at hG hse
      have hse' : wrap64 (IntKind.u64.wrap ((y : Int) * 2 ^ (63 - m))) / 2 ^ (63 - m) = x := by
        rw [show 64 - (m + 1) = 63 - m by omega] at hse
        rw [← hse]
        simp only [IntWalk.i64_left]
      have hsa : ∀ Y : Int, Y = (y : Int) → wrap64 (IntKind.u64.wrap (Y * 2 ^ (63 - m))) / 2 ^ (63 - m) = x := fun Y hY => by rw [hY]; exact hse'
      clear hse'
      have HX := hid (And.intro hx (And.intro hd4 hse))
      clear hy
      have HG := hid hg
      have hfree : IntKind.i64.wrap (64 - ((m : Int) + 1)) = 64 - ((m : Int) + 1) := IntWalk.i64_in _ (by omega)
      clear hx hft hd hd2 hd3 hd4 hkk hg hse
      go_wp2_with fail
      with_reducible refine hG.out.mono ?_
      rintro e w2 ⟨rfl, hr⟩
      have H2 := hid (HG.out.get hr)
      clear hr c0 c1
      have c0 := H2.out.out.cell 0
      have c1 := H2.out.out.cell 1
      have f0 := H2.out.out.frozen 0
      simp at c0 c1
      have hl2 := hllen
      go_wp2_with (at_builtin; go_must (refine wpList_app1 _ rfl (.tmp 62) (.tmp 64) 22 rfl 3 .i64 8 Try.underlying22 Try.info_int u (i64s (xs.take k)) (xs.take k).length rfl ?d1 ⟨w2.heap.size, 0, none⟩ x rfl ?d3 (by decide) ?d4 (w2.heap.size + 1) ?d5 ?_); rotate_right; intro g cap w4 hown4 hg4 hat hlt; have hh := H2.out.grow hown4 hg4 hat; have c0' := hh.1.cell 0; have f0' := hh.1.frozen 0; simp at c0'; replace hh := hid hh; clear hown4 hg4 hat)
      case d1 => exact H2.out.own.alloc _
      case d3 => exact World.cell?_alloc_at _ _ _ _ rfl
      case d4 => omega
      case d5 => simp
      go_roundw
      case rel =>
        have h4 := hh.out.2
        have e1 : i + 14 + k * (m + 1) + (m + 1) = i + 14 + (k + 1) * (m + 1) := by rw [Nat.add_mul, Nat.one_mul]; omega
        rw [e1] at h4
        have h5 := HX.out.2.1
        rw [e1] at h5
        have hlk : (xs.take k).length = k := by rw [List.length_take]; omega
        rw [hlk, ← HX.out.1, ← take_snocI xs k hkm] at h4
        exact ⟨k + 1, .slice (some ⟨g, 0, none⟩) (k + 1) cap, by omega, by go_num, h4, h5⟩
      case measure => simp [intOf]; omega
    · have hin : ¬ (k : Int) < xs.length := by omega
      obtain rfl : k = xs.length := by omega
      obtain ⟨A1, cc1, rfl⟩ := (show ∃ A1 cc1, u = .slice A1 (xs.take xs.length).length cc1 by
        obtain ⟨A, c, e, _⟩ := (Sl.of_own hg.own).form
        rw [i64s_length] at e
        exact ⟨A, c, e⟩)
      rw [List.take_length] at hg c0
      have d0 := hg.res.cell 0
      have d1 := hg.res.cell 1
      have e0 := hg.res.frozen 0
      have e1 := hg.res.frozen 1
      simp at d0 d1
      have HG := hid hg
      clear hg
      go_wp2_with fail
      have hg := HG.out
      have hcl := HN.out.2.2.2.2.1
      have n1 := own_ne hg.own hg.res (by decide)
      have hri : RI w p v F (i + (codeC xs (q : Int)).length) wr := by
        rw [hcl, ← Nat.add_assoc]
        exact ⟨hg.rd, hg.kp⟩
      exact bodyPost_ret (v := .tuple #[.agg #[.slice A1 xs.length cc1, .int .i64 (q : Int)], .int .i64 0]) (by simp [results, Try.results48, go_sem, d0, d1]) rfl ⟨_, rfl, ((Sl.of_own hg.own).setCell n1 _).setCell n1 _, (hri.store (by simp) hpl hg.hv _).store (by simp) hpl hg.hv _⟩
end Go.Proofs.Ytfbccmogiafgfaa
