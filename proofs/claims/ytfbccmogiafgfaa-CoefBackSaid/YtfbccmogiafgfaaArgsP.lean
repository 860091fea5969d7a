/- A predictor that came in, opened. -/
import Derived.Test.YtfbccmogiafgfaaArgs2
namespace Go.Proofs.Ytfbccmogiafgfaa
open Go.ChangeShapes Go.WideShapes Go.ChangeAt Go.RowKit Go.Deep

theorem arg_pred {H : Type} {enc : TypeId × Value → H} {w : World} {base : Nat} {spare : Nat → Bool} {held : Bool} {v : Value} {d : DataW H} {p : List MemPlace} {r : Reach} {b0 : Nat}
    (hv : Value.okWide Try.prog w r b0 25 v) (h : DataW.Trod enc Try.prog w base spare held 25 v d p) :
    ∃ (F : List Int) (u : Value) (s : Int), v = .agg #[u, .int .i64 s] ∧ Sl w u (i64s F) ∧ ∀ x ∈ F, -9223372036854775808 ≤ x ∧ x ≤ 9223372036854775807 := by
  obtain ⟨cs, rfl, hs⟩ := okWide_struct Try.underlying25 hv
  have h2 : cs.size = 2 := hs.trans (by kernel_rfl)
  obtain ⟨c0, c1, rfl⟩ : ∃ c0 c1, cs = #[c0, c1] := ⟨cs[0], cs[1], by
    apply Array.ext
    · simpa using h2
    · intro i hi1 hi2
      match i, hi2 with
      | 0, _ => rfl
      | 1, _ => rfl⟩
  obtain ⟨fuel, hf⟩ := h
  obtain ⟨y0, y1, n, _, _, t0, t1⟩ := trod_struct2 Try.underlying25 hf
  have z0 : Try.prog.cellsOf 22 = 1 := by kernel_rfl
  have z1 : Try.prog.cellsOf 3 = 1 := by kernel_rfl
  have e0 : DataW.trod enc Try.prog w base spare held n 22 [c0] = some y0 := by simpa [z0, Value.cells] using t0
  have e1 : DataW.trod enc Try.prog w base spare held n 3 [c1] = some y1 := by simpa [z1, Value.cells] using t1
  obtain ⟨F, hF, hb⟩ := arg_icell e0
  obtain ⟨s, es, _⟩ := DataW.trod_int Try.underlying3 e1
  injection es with es
  subst es
  exact ⟨F, c0, s, rfl, hF, hb⟩
end Go.Proofs.Ytfbccmogiafgfaa
