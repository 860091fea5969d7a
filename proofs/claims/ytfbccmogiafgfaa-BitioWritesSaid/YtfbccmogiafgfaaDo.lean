/- 'do' of layer 2's statements: an act upon a writer and upon the reference's list alike. -/
import Derived.Test.YtfbccmogiafgfaaFew
import Derived.Test.YtfbccmogiafgfaaWMany
import Derived.Test.YtfbccmogiafgfaaWAdd
import Derived.Test.YtfbccmogiafgfaaRef02b
namespace Go.Proofs.Ytfbccmogiafgfaa
open Go.RowKit

/-- A writer has just the bits that a list of ints is; the list lies apart. -/
structure Pair (w : World) (p : Nat) (u v : Value) (L : List Bool) : Prop where
  wr : Wr w p u L
  sl : Sl w v (i64s (bis L))
  apart : ∀ g, v.ownBlock = some g → ¬ Foot p u g ∧ g < w.heap.size

theorem Pair.below {w w' : World} {p : Nat} {u v : Value} {L : List Bool} (h : Pair w p u v L) (hb : Below w.heap.size w w') : Pair w' p u v L :=
  ⟨h.wr.below hb, h.sl.below hb, fun g hg => ⟨(h.apart g hg).1, Nat.lt_of_lt_of_le (h.apart g hg).2 hb.size⟩⟩

/-- What an act makes of bits. -/
def actBits (L : List Bool) (K : Int) (V : Nat) (N : Int) : List Bool :=
  if K = 0 then L ++ putBits V N else if K = 1 then L ++ manyBits true N else if K = 2 then L ++ manyBits false N else if K = 3 then padded L else if K = 4 then L ++ L else L

def DoPost (w : World) (p : Nat) (u : Value) (L' : List Bool) (e : Ending) (w' : World) : Prop :=
  ∃ u' A c, e = .returned (.tuple #[.slice A L'.length c, .bool true]) ∧ Pair w' p u' (.slice A L'.length c) L' ∧ Moved w u u' ∧ Kept (Foot p u) w w'

/-- Behind a call of the writer and one that makes a list. -/
theorem do_fresh {w w0 w1 w2 : World} {p : Nat} {u : Value} {L' : List Bool} {A : Option Addr} {c : Nat} (h0 : Below w.heap.size w w0) (hw : WI w0 p u L' w1) (hf : FreshI w1 (bis L') (.slice A (bis L').length c) w2) :
    DoPost w p u L' (.returned (.tuple #[.slice A (bis L').length c, .bool true])) w2 := by
  rw [bis_length] at hf ⊢
  obtain ⟨u1, h1, hm, hk⟩ := hw
  have hs := h0.size
  refine ⟨u1, A, c, rfl, ⟨h1.below hf.2.1, by have := hf.sl; exact this, fun g hg => ⟨fun hft => by have := h1.footlt hft; have := hf.2.2 g hg; omega, (hf.1.lt g hg).2⟩⟩, ?_, ?_⟩
  · rcases hm with e | ⟨g, e, hg⟩
    · exact .inl e
    · exact .inr ⟨g, e, by omega⟩
  · exact ((Kept.of_below' (S := Foot p u) h0).trans hk fun i hi hf => hf).then_below hf.2.1

theorem do_same {w w0 w1 : World} {p : Nat} {u : Value} {L : List Bool} {A : Option Addr} {c : Nat} (h : Pair w p u (.slice A L.length c) L) (h0 : Below w.heap.size w w0) (hw : WI w0 p u L w1) : DoPost w p u L (.returned (.tuple #[.slice A L.length c, .bool true])) w1 := by
  obtain ⟨u1, h1, hm, hk⟩ := hw
  have hs := h0.size
  have h' := h.below h0
  refine ⟨u1, A, c, rfl, ⟨h1, h'.sl.kept hk fun g hg => (h'.apart g hg).1, fun g hg => ⟨fun hf => (h'.apart g hg).1 (hm.foot (h'.apart g hg).2 hf), Nat.lt_of_lt_of_le (h'.apart g hg).2 hk.size⟩⟩, ?_, ?_⟩
  · rcases hm with e | ⟨g, e, hg⟩
    · exact .inl e
    · exact .inr ⟨g, e, by omega⟩
  · exact (Kept.of_below' (S := Foot p u) h0).trans hk fun i hi hf => hf

theorem do_box {w w1 : World} {p : Nat} {u v : Value} {L L' : List Bool} {cs : Array Value} (h : Pair w p u v L) (hw : WI (w.alloc (.cells cs 42)) p u L' w1) : Blk w1 w.heap.size 42 cs :=
  (Blk.new w _ cs).kept hw.kept fun hf => by have := h.wr.footlt hf; omega

set_option maxRecDepth 100000 in
set_option maxHeartbeats 1600000 in
theorem do_put (w : World) (p : Nat) (u : Value) (L : List Bool) (A : Option Addr) (c : Nat) (V : Nat) (N : Int) (h : Pair w p u (.slice A L.length c) L) (hL : L.length ≤ 1000000) (hV : V < 18446744073709551616) :
    Calls Try.prog 26 #[.pointer (some ⟨p, 0, none⟩), .slice A L.length c, .agg #[.int .i64 0, .int .u64 (V : Int), .int .i64 N]] w (DoPost w p u (L ++ putBits V N)) := by
  have H := hid h
  have hb0 := hid (show Below w.heap.size w (w.alloc (.cells #[.int .i64 0, .int .u64 (V : Int), .int .i64 N] 42)) from (Below.refl _ _).alloc (Nat.le_refl _) _)
  clear h
  go_enter Try.func26, Try.ntmps26
  go_wp2_with fail
  have HC := put_any _ p u L V N (H.out.wr.below hb0.out) (by omega) hV
  with_reducible refine HC.mono ?_
  clear HC
  rintro e w1 ⟨rfl, hw⟩
  have hblk := do_box H.out hw
  have c1 := hblk.cell 1
  have c2 := hblk.cell 2
  simp at c1 c2
  have HW := hid hw
  have hsl := hid (((H.out.below hb0.out).sl).kept hw.kept fun g hg => (H.out.apart g hg).1)
  clear hw hblk
  by_cases he : putErr V N = 0
  · obtain ⟨g1, g2, g3⟩ : 0 ≤ N ∧ N ≤ 64 ∧ V < 2 ^ N.toNat := by
      unfold putErr at he
      split at he
      · cases he
      · split at he
        · cases he
        · omega
    obtain ⟨n, rfl⟩ := Int.eq_ofNat_of_zero_le g1
    rw [Int.toNat_natCast] at g3
    rw [he]
    have HE := hid he
    clear he
    go_wp2_with fail
    have HC := refput_ok (.slice A L.length c) L V n w1 hsl.out (by omega) (by omega) hV g3
    with_reducible refine HC.mono ?_
    clear HC
    rintro e w2 ⟨A2, c2, rfl, hf⟩
    have HF := hid hf
    clear hf
    go_wp2_with fail
    go_ret2
    have e1 : putBits V (n : Int) = bitsOf V n := by simp [putBits, HE.out]
    have hw := HW.out
    rw [e1] at hw ⊢
    exact do_fresh hb0.out hw HF.out
  · have HC : Calls Try.prog 63 #[.slice A L.length c, .int .u64 (V : Int), .int .i64 N] w1 fun e w' => e = .returned (.tuple #[.slice A L.length c, .int .i64 (putErr V N)]) ∧ w1 = w' := by
      by_cases hn : N < 0 ∨ 64 < N
      · rw [show putErr V N = 1 from by simp [putErr, hn]]
        exact refput_arg _ _ _ _ hn
      · obtain ⟨n, rfl⟩ := Int.eq_ofNat_of_zero_le (show 0 ≤ N by omega)
        have h2 : 2 ^ n ≤ V := by
          rcases Nat.lt_or_ge V (2 ^ n) with h | h
          · exact absurd (by unfold putErr; rw [if_neg hn, if_neg (by rw [Int.toNat_natCast]; omega)]) he
          · exact h
        rw [show putErr V n = 3 from by unfold putErr; rw [if_neg hn, if_pos (by rw [Int.toNat_natCast]; exact h2)]]
        exact refput_range _ V n w1 (by omega) hV h2
    have E1 := hid (show putBits V N = [] by simp [putBits, he])
    have HC2 := hid HC
    clear HC he
    go_wp2_with fail
    with_reducible refine HC2.out.mono ?_
    rintro e w2 ⟨rfl, rfl⟩
    go_wp2_with fail
    go_ret2
    have hw := HW.out
    rw [E1.out, List.append_nil] at hw ⊢
    exact do_same H.out hb0.out hw

theorem manyErr_bad {n : Int} (h : n < 0 ∨ 1048576 < n) : manyErr n = if n < 0 then 1 else 4 := by
  unfold manyErr
  split
  · rfl
  · rw [if_pos (by omega)]
theorem manyErr_ok {n : Nat} (h : n ≤ 1048576) : manyErr (n : Int) = 0 := by
  unfold manyErr
  rw [if_neg (by omega), if_neg (by omega)]
theorem manyBits_bad {b : Bool} {n : Int} (h : n < 0 ∨ 1048576 < n) : manyBits b n = [] := by
  unfold manyBits
  rw [manyErr_bad h, if_neg]
  split <;> decide
theorem manyBits_ok {b : Bool} {n : Nat} (h : n ≤ 1048576) : manyBits b (n : Int) = List.replicate n b := by
  simp [manyBits, manyErr_ok h]

set_option maxRecDepth 100000 in
set_option maxHeartbeats 1600000 in
theorem do_ones (w : World) (p : Nat) (u : Value) (L : List Bool) (A : Option Addr) (c : Nat) (V : Nat) (N : Int) (h : Pair w p u (.slice A L.length c) L) (hL : L.length ≤ 1000000) :
    Calls Try.prog 26 #[.pointer (some ⟨p, 0, none⟩), .slice A L.length c, .agg #[.int .i64 1, .int .u64 (V : Int), .int .i64 N]] w (DoPost w p u (L ++ manyBits true N)) := by
  have H := hid h
  have hb0 := hid (show Below w.heap.size w (w.alloc (.cells #[.int .i64 1, .int .u64 (V : Int), .int .i64 N] 42)) from (Below.refl _ _).alloc (Nat.le_refl _) _)
  clear h
  go_enter Try.func26, Try.ntmps26
  go_wp2_with fail
  have HC := ones_any _ p u L N (H.out.wr.below hb0.out) (by omega)
  with_reducible refine HC.mono ?_
  clear HC
  rintro e w1 ⟨rfl, hw⟩
  have hblk := do_box H.out hw
  have c2 := hblk.cell 2
  simp at c2
  have HW := hid hw
  have hsl := hid (((H.out.below hb0.out).sl).kept hw.kept fun g hg => (H.out.apart g hg).1)
  clear hw hblk
  by_cases hn : N < 0 ∨ 1048576 < N
  · have e1 := hid (manyErr_bad hn)
    have e2 := hid (show manyBits true N = [] from manyBits_bad hn)
    have HN := hid hn
    clear hn
    go_wp2_with fail
    have HC := refmany_bad (.slice A L.length c) 1 N w1 HN.out
    rw [← e1.out] at HC
    with_reducible refine HC.mono ?_
    clear HC
    rintro e w2 ⟨rfl, rfl⟩
    go_wp2_with fail
    go_ret2
    have hw := HW.out
    rw [e2.out, List.append_nil] at hw ⊢
    exact do_same H.out hb0.out hw
  · obtain ⟨n, rfl⟩ := Int.eq_ofNat_of_zero_le (show 0 ≤ N by omega)
    have hn' : n ≤ 1048576 := by omega
    have e1 := hid (manyErr_ok hn')
    have e2 := hid (show manyBits true (n : Int) = List.replicate n true from manyBits_ok hn')
    clear hn
    rw [e1.out]
    go_wp2_with fail
    have HC := refmany_ok (.slice A L.length c) (bis L) 1 n w1 hsl.out (by rw [bis_length]; omega) hn'
    rw [show bis L ++ List.replicate n 1 = bis (L ++ List.replicate n true) from by simp [bis, bi]] at HC
    with_reducible refine HC.mono ?_
    clear HC
    rintro e w2 ⟨A2, c2, rfl, hf⟩
    have HF := hid hf
    clear hf
    go_wp2_with fail
    go_ret2
    have hw := HW.out
    rw [e2.out] at hw ⊢
    have hf := HF.out
    exact do_fresh hb0.out hw hf

set_option maxRecDepth 100000 in
set_option maxHeartbeats 1600000 in
theorem do_zeros (w : World) (p : Nat) (u : Value) (L : List Bool) (A : Option Addr) (c : Nat) (V : Nat) (N : Int) (h : Pair w p u (.slice A L.length c) L) (hL : L.length ≤ 1000000) :
    Calls Try.prog 26 #[.pointer (some ⟨p, 0, none⟩), .slice A L.length c, .agg #[.int .i64 2, .int .u64 (V : Int), .int .i64 N]] w (DoPost w p u (L ++ manyBits false N)) := by
  have H := hid h
  have hb0 := hid (show Below w.heap.size w (w.alloc (.cells #[.int .i64 2, .int .u64 (V : Int), .int .i64 N] 42)) from (Below.refl _ _).alloc (Nat.le_refl _) _)
  clear h
  go_enter Try.func26, Try.ntmps26
  go_wp2_with fail
  have HC := zeros_any _ p u L N (H.out.wr.below hb0.out) (by omega)
  with_reducible refine HC.mono ?_
  clear HC
  rintro e w1 ⟨rfl, hw⟩
  have hblk := do_box H.out hw
  have c2 := hblk.cell 2
  simp at c2
  have HW := hid hw
  have hsl := hid (((H.out.below hb0.out).sl).kept hw.kept fun g hg => (H.out.apart g hg).1)
  clear hw hblk
  by_cases hn : N < 0 ∨ 1048576 < N
  · have e1 := hid (manyErr_bad hn)
    have e2 := hid (show manyBits false N = [] from manyBits_bad hn)
    have HN := hid hn
    clear hn
    go_wp2_with fail
    have HC := refmany_bad (.slice A L.length c) 0 N w1 HN.out
    rw [← e1.out] at HC
    with_reducible refine HC.mono ?_
    clear HC
    rintro e w2 ⟨rfl, rfl⟩
    go_wp2_with fail
    go_ret2
    have hw := HW.out
    rw [e2.out, List.append_nil] at hw ⊢
    exact do_same H.out hb0.out hw
  · obtain ⟨n, rfl⟩ := Int.eq_ofNat_of_zero_le (show 0 ≤ N by omega)
    have hn' : n ≤ 1048576 := by omega
    have e1 := hid (manyErr_ok hn')
    have e2 := hid (show manyBits false (n : Int) = List.replicate n false from manyBits_ok hn')
    clear hn
    rw [e1.out]
    go_wp2_with fail
    have HC := refmany_ok (.slice A L.length c) (bis L) 0 n w1 hsl.out (by rw [bis_length]; omega) hn'
    rw [show bis L ++ List.replicate n 0 = bis (L ++ List.replicate n false) from by simp [bis, bi]] at HC
    with_reducible refine HC.mono ?_
    clear HC
    rintro e w2 ⟨A2, c2, rfl, hf⟩
    have HF := hid hf
    clear hf
    go_wp2_with fail
    go_ret2
    have hw := HW.out
    rw [e2.out] at hw ⊢
    have hf := HF.out
    exact do_fresh hb0.out hw hf

theorem bis_padded (L : List Bool) : bis L ++ List.replicate (pad8 (bis L).length) 0 = bis (padded L) := by
  unfold padded pad8
  rw [bis_app, bis_length]
  simp [bis, bi]

set_option maxRecDepth 100000 in
set_option maxHeartbeats 1600000 in
theorem do_align (w : World) (p : Nat) (u : Value) (L : List Bool) (A : Option Addr) (c : Nat) (V : Nat) (N : Int) (h : Pair w p u (.slice A L.length c) L) (hL : L.length ≤ 1000000) :
    Calls Try.prog 26 #[.pointer (some ⟨p, 0, none⟩), .slice A L.length c, .agg #[.int .i64 3, .int .u64 (V : Int), .int .i64 N]] w (DoPost w p u (padded L)) := by
  have H := hid h
  have hb0 := hid (show Below w.heap.size w (w.alloc (.cells #[.int .i64 3, .int .u64 (V : Int), .int .i64 N] 42)) from (Below.refl _ _).alloc (Nat.le_refl _) _)
  clear h
  go_enter Try.func26, Try.ntmps26
  go_wp2_with fail
  have HC := align_any _ p u L (H.out.wr.below hb0.out) (by omega)
  with_reducible refine HC.mono ?_
  clear HC
  rintro e w1 ⟨rfl, hw⟩
  have HW := hid hw
  have hsl := hid (((H.out.below hb0.out).sl).kept hw.kept fun g hg => (H.out.apart g hg).1)
  clear hw
  go_wp2_with fail
  have HC := refalign_any (.slice A L.length c) (bis L) w1 hsl.out (by rw [bis_length]; omega)
  rw [bis_padded] at HC
  with_reducible refine HC.mono ?_
  clear HC
  rintro e w2 ⟨A2, c2, rfl, hf⟩
  have HF := hid hf
  clear hf
  go_wp2_with fail
  go_ret2
  exact do_fresh hb0.out HW.out HF.out

set_option maxRecDepth 100000 in
set_option maxHeartbeats 1600000 in
theorem do_other (w : World) (p : Nat) (u : Value) (L : List Bool) (A : Option Addr) (c : Nat) (K : Int) (V : Nat) (N : Int) (h : Pair w p u (.slice A L.length c) L) (hK : K < 0 ∨ 4 < K) :
    Calls Try.prog 26 #[.pointer (some ⟨p, 0, none⟩), .slice A L.length c, .agg #[.int .i64 K, .int .u64 (V : Int), .int .i64 N]] w (DoPost w p u L) := by
  have H := hid h
  have hb0 := hid (show Below w.heap.size w (w.alloc (.cells #[.int .i64 K, .int .u64 (V : Int), .int .i64 N] 42)) from (Below.refl _ _).alloc (Nat.le_refl _) _)
  have e0 : (K == 0) = false := by simp; omega
  have e1 : (K == 1) = false := by simp; omega
  have e2 : (K == 2) = false := by simp; omega
  have e3 : (K == 3) = false := by simp; omega
  have e4 : (K == 4) = false := by simp; omega
  clear h hK
  go_enter Try.func26, Try.ntmps26
  go_wp2_with fail
  go_ret2
  exact do_same H.out hb0.out (H.out.wr.below hb0.out).refl

end Go.Proofs.Ytfbccmogiafgfaa
