/- The reference's comparison of two lists of ints. -/
import Derived.Test.YtgjiffpiffphfaaNum
import Derived.Test.YtgjiffpiffphfaaRef02
namespace Go.Proofs.Ytgjiffpiffphfaa
open Go.RowKit

/-- It hands back v and only draws. -/
def DrawnI (w : World) (v : Value) (e : Ending) (w' : World) : Prop := e = .returned v ∧ ∃ n, w' = w.drewN n

theorem take_snocI {α : Type} (xs : List α) (k : Nat) (h : k < xs.length) : xs.take (k + 1) = xs.take k ++ [xs[k]] := List.take_succ_eq_append_getElem h

theorem i64s_at {w : World} {xs : List Int} {A : Option Addr} {n c k : Nat} (h : Sl w (.slice A n c) (i64s xs)) (hk : k < xs.length) : ∃ ad, A = some ad ∧ w.cell? (ad.add k) = some (.int .i64 xs[k]) := by
  obtain ⟨ad, e, hc⟩ := h.at_ (show k < (i64s xs).length by rw [i64s_length]; exact hk)
  refine ⟨ad, e, ?_⟩
  rw [hc]
  simp [i64s]
theorem i64s_form {w : World} {v : Value} {xs : List Int} (h : Sl w v (i64s xs)) : ∃ A c, v = .slice A xs.length c ∧ xs.length ≤ 9223372036854775807 := by
  obtain ⟨A, c, e, _⟩ := h.form
  rw [i64s_length] at e
  have := h.max
  rw [i64s_length] at this
  exact ⟨A, c, e, this⟩

end Go.Proofs.Ytgjiffpiffphfaa
