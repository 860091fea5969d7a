/- For every input BitioReads returns true: whatever is asked of any bytes, a reader answers as the document says. No condition. -/
import Derived.Test.YtfbccmogiafgfaaReadsW
import Derived.Test.YtfbccmogiafgfaaArgs
import Derived.Below
import Derived.OpenShut
namespace Go.Proofs.Ytfbccmogiafgfaa.bitioReads
open Go.ChangeShapes Go.WideShapes Go.ChangeAt Go.RowKit

theorem own : ownKnob Try.prog.godebug = none := by kernel_rfl
theorem laidOut : laidOutB Try.prog = true := by kernel_rfl

set_option maxRecDepth 100000 in
theorem lifted (os : Os) (started : os.Started) (H : Type) (enc : TypeId × Value → H) :
    ReturnsInHanded {} Try.checked os 9 .any (Rows.bitioReadsSpec.pre6 enc Try.prog Try.f9 Rows.bitioReadsRow.domain false) (Rows.bitioReadsSpec.post enc Try.prog Try.f9 false true false false) := by
  refine returnsInHanded_of_change (C := Try.checked) own started (by kernel_rfl) Try.func9
    (ChangeSpec.witness6 (enc := enc) (C := Try.checked) false ⟨#[], #[.slice none 0 0, .slice none 0 0], []⟩ 8 (by kernel_rfl) (by kernel_rfl) (by kernel_rfl) (by kernel_rfl)) ?_
  intro W base args ds gs before hval0 hW hcnd _
  have hval : ∀ (j : Nat) t v, Try.f9.params[j]? = some t → args[j]? = some v → Value.okWide Try.prog W .any base t v := hval0
  have hW' := hW
  obtain ⟨p, q, hA0, hV, rfl, hfz, hnd⟩ := hW
  have hA : DataW.TrodAll enc Try.prog W 0 (fun _ => true) true Try.f9.params.toList args.toList ds p := hA0
  rw [Try.params9] at hA hval
  obtain ⟨v0, vs0, d0, ds0, p0, q0, hargs, rfl, rfl, h0, r0⟩ := trodAll_cons hA
  obtain ⟨v1, vs1, d1, ds1, p1, q1, rfl, rfl, rfl, h1, r1⟩ := trodAll_cons r0
  obtain ⟨rfl, rfl, rfl⟩ := trodAll_nil r1
  obtain rfl : args = #[v0, v1] := by cases args; simp_all
  obtain ⟨rfl, rfl⟩ := trodVars_none hV
  have g0 := hval 0 36 v0 rfl rfl
  have k0 := h0
  have lt0 : ∀ x ∈ p0, x.block < W.heap.size := by obtain ⟨m, hm⟩ := k0; exact DataW.trod_lt m _ _ _ hm
  have g1 := hval 1 56 v1 rfl rfl
  have k1 := h1
  have lt1 : ∀ x ∈ p1, x.block < W.heap.size := by obtain ⟨m, hm⟩ := k1; exact DataW.trod_lt m _ _ _ hm
  clear hA0 hval0 hval
  obtain ⟨A, F, c, rfl, hs, hb, hF⟩ := arg_bytes g0 h0
  obtain ⟨B, m, d, rfl, hm, hrec⟩ := open_recs Try.underlying56 Try.underlying60 (by kernel_rfl) (by kernel_rfl) g1 h1
  have hpair : ∀ i, i < m → ∃ kn : Int × Int, ∃ ad, B = some ad ∧ ad.block < W.heap.size ∧ W.cell? (ad.add (i * 2)) = some (.int .i64 kn.1) ∧ W.cell? ⟨(ad.add (i * 2)).block, (ad.add (i * 2)).off + 1, none⟩ = some (.int .i64 kn.2) := by
    intro i hi
    obtain ⟨ad, hB, hf⟩ := hrec i hi
    obtain ⟨u0, y0, m0, hc0, ht0⟩ := hf 0 _ rfl
    obtain ⟨u1, y1, m1, hc1, ht1⟩ := hf 1 _ rfl
    obtain ⟨n0, e0, _⟩ := DataW.trod_int Try.underlying3 ht0
    obtain ⟨n1, e1, _⟩ := DataW.trod_int Try.underlying3 ht1
    simp only [List.cons.injEq, and_true] at e0 e1
    subst e0 e1
    refine ⟨(n0, n1), ad, hB, ?_, hc0, ?_⟩
    · have := World.block_lt_of_cell? W _ hc0
      rwa [block_of_add] at this
    · rw [← add_field ad i 2 1 (by omega)]
      exact hc1
  have hch : ∃ kn : Nat → Int × Int, ∀ i, i < m → ∃ ad, B = some ad ∧ ad.block < W.heap.size ∧ W.cell? (ad.add (i * 2)) = some (.int .i64 (kn i).1) ∧ W.cell? ⟨(ad.add (i * 2)).block, (ad.add (i * 2)).off + 1, none⟩ = some (.int .i64 (kn i).2) :=
    ⟨fun i => if h : i < m then Classical.choose (hpair i h) else (0, 0), fun i hi => by simp only [dif_pos hi]; exact Classical.choose_spec (hpair i hi)⟩
  obtain ⟨kn, hkn⟩ := hch
  refine (walk A c m B d F (fun i => (kn i).1) (fun i => (kn i).2) W hs hb hkn hF hm).mono fun e W' ⟨he, bel⟩ => ?_
  subst he
  exact ⟨_, rfl, _, _, _, [], _, [], hW', trodAll_mk1 (shut_bool Try.underlying4 _), (trodAll_cons_mk (Below.trod laidOut (by kernel_rfl) (of_decide_eq_true (by kernel_rfl)) k0 bel lt0) (trodAll_cons_mk (Below.trod laidOut (by kernel_rfl) (of_decide_eq_true (by kernel_rfl)) k1 bel lt1) trodAll_mk0)), rfl, bel.frame _, fun h => by cases h⟩

theorem over : Rows.bitioReadsRow.holds Try.pinned (OpenSpec.ofChange Rows.bitioReadsSpec) :=
  OpenClaim.holds_of_wide 9 Try.f9 rfl rfl rfl rfl rfl rfl rfl ⟨rfl, rfl, rfl, rfl, rfl⟩ rfl rfl rfl rfl rfl (by kernel_rfl) Try.func9 (by kernel_rfl)
    (of_decide_eq_true (by kernel_rfl)) (by unfold Func.isWrapper; first | (rw [if_pos (by decide +kernel)]; kernel_rfl) | (rw [if_neg (by decide +kernel)]; exact ⟨rfl, rfl⟩))
    (fun os started H enc _ => lifted os started H enc)

/-- The statement. -/
theorem proved : Rows.BitioReadsSaid := over
#print axioms proved
end Go.Proofs.Ytfbccmogiafgfaa.bitioReads
