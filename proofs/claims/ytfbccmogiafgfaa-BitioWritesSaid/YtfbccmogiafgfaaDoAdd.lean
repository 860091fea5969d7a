/- 'do' of layer 2's statements, the act that adds a writer to itself. -/
import Derived.Test.YtfbccmogiafgfaaDo
namespace Go.Proofs.Ytfbccmogiafgfaa
open Go.RowKit

/-- Behind a list that was made and a call of the writer. -/
theorem do_fresh2 {w w0 w1 w2 : World} {p : Nat} {u : Value} {L L' : List Bool} {A : Option Addr} {c : Nat} (h : Wr w p u L) (h0 : Below w.heap.size w w0) (hf : FreshI w0 (bis L') (.slice A (bis L').length c) w1) (hw : WI w1 p u L' w2) :
    DoPost w p u L' (.returned (.tuple #[.slice A (bis L').length c, .bool true])) w2 := by
  rw [bis_length] at hf ⊢
  obtain ⟨u1, h1, hm, hk⟩ := hw
  have hs := h0.size
  have hs1 := hf.2.1.size
  have hap : ∀ g, (Value.slice A L'.length c).ownBlock = some g → ¬ Foot p u g := fun g hg hft => by
    have := h.footlt hft
    have := hf.2.2 g hg
    omega
  have hb : Below w.heap.size w w1 := h0.trans (hf.2.1.mono hs)
  refine ⟨u1, A, c, rfl, ⟨h1, hf.sl.kept hk hap, fun g hg => ⟨fun hft => hap g hg (hm.foot (hf.1.lt g hg).2 hft), Nat.lt_of_lt_of_le (hf.1.lt g hg).2 hk.size⟩⟩, ?_, (Kept.of_below' (S := Foot p u) hb).trans hk fun i hi hf => hf⟩
  rcases hm with e | ⟨g, e, hg⟩
  · exact .inl e
  · exact .inr ⟨g, e, by omega⟩

set_option maxRecDepth 100000 in
set_option maxHeartbeats 1600000 in
theorem do_add (w : World) (p : Nat) (u : Value) (L : List Bool) (A : Option Addr) (c : Nat) (V : Nat) (N : Int) (h : Pair w p u (.slice A L.length c) L) (hL : L.length ≤ 1000000) :
    Calls Try.prog 26 #[.pointer (some ⟨p, 0, none⟩), .slice A L.length c, .agg #[.int .i64 4, .int .u64 (V : Int), .int .i64 N]] w (DoPost w p u (L ++ L)) := by
  have H := hid h
  have hb0 := hid (show Below w.heap.size w (w.alloc (.cells #[.int .i64 4, .int .u64 (V : Int), .int .i64 N] 42)) from (Below.refl _ _).alloc (Nat.le_refl _) _)
  have hl : (i64s (bis L)).length = L.length := by rw [i64s_length, bis_length]
  have HL := hid hl
  have hE := hid (show FreshI (w.alloc (.cells #[.int .i64 4, .int .u64 (V : Int), .int .i64 N] 42)) [] (.slice (some ⟨w.heap.size + 1, 0, none⟩) 0 0) ((w.alloc (.cells #[.int .i64 4, .int .u64 (V : Int), .int .i64 N] 42)).alloc (.cells #[] 3)) from by simpa using FreshI.empty (w.alloc (.cells #[.int .i64 4, .int .u64 (V : Int), .int .i64 N] 42)))
  clear h hl
  go_enter Try.func26, Try.ntmps26
  go_wp2_with (first
    | (at_builtin; refine wpList_app _ rfl (.tmp 82) (.tmp 83) 22 rfl 3 .i64 8 Try.underlying22 Try.info_int (.slice (some ⟨w.heap.size + 1, 0, none⟩) 0 0) 0 [] rfl ?c1 (.slice A L.length c) (i64s (bis L)) rfl ?c2 i64s_one (by decide) ?c3 ?_; rotate_right; intro v1 w1 hown hg hm; replace hown := hid hown; replace hg := hid hg; replace hm := hid hm)
    | (at_builtin; go_must (refine wpList_app _ rfl (.tmp 84) (.tmp 85) 22 rfl 3 .i64 8 Try.underlying22 Try.info_int v1 (0 + (i64s (bis L)).length) ([] ++ i64s (bis L)) rfl ?d1 (.slice A L.length c) (i64s (bis L)) rfl ?d2 i64s_one (by decide) ?d3 ?_); rotate_right; intro v2 w2 hown2 hg2 hm2; replace hown2 := hid hown2; replace hg2 := hid hg2; replace hm2 := hid hm2))
  case c1 => exact hE.out.1
  case c2 => exact (H.out.below (hb0.out.alloc (by simp) _)).sl
  case c3 => rw [i64s_length, bis_length]; omega
  case d1 => exact hown.out
  case d2 =>
    have h1 := hE.out.app (G := bis L) hown.out hg.out hm.out
    exact (H.out.below (hb0.out.trans (h1.2.1.mono hb0.out.size))).sl
  case d3 => rw [i64s_length, bis_length]; omega
  have hf1 := hE.out.app (G := bis L) hown.out hg.out hm.out
  have hf2 := FreshI.app (G := bis L) hf1 (by have h := hown2.out; rw [Nat.zero_add, List.nil_append, i64s_length] at h; rw [i64s_length, List.nil_append]; exact h) hg2.out hm2.out
  rw [List.nil_append, ← bis_app] at hf2
  obtain ⟨A2, c2, rfl⟩ := hf2.form
  have HF := hid hf2
  clear hf1 hf2 hown hg hm hown2 hg2 hm2
  have HC := add_any w2 p p u u L L (H.out.below (hb0.out.trans (HF.out.2.1.mono hb0.out.size))).wr (H.out.below (hb0.out.trans (HF.out.2.1.mono hb0.out.size))).wr (by omega)
  with_reducible refine HC.mono ?_
  clear HC
  rintro e w3 ⟨rfl, hw⟩
  have HW := hid hw
  clear hw
  go_wp2_with fail
  go_ret2
  exact do_fresh2 H.out.wr hb0.out HF.out HW.out
end Go.Proofs.Ytfbccmogiafgfaa
