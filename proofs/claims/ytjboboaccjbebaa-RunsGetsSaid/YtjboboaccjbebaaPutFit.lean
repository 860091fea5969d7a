/- A number that fits is put; a writer's result behind steps that only make memory. -/
import Derived.Test.YtjboboaccjbebaaWPut
namespace Go.Proofs.Ytjboboaccjbebaa
open Go.RowKit

/-- A number that fits is put. -/
theorem put_fit (w : World) (p : Nat) (v : Value) (L : List Bool) (xi ni : Int) (x n : Nat) (hxi : xi = (x : Int)) (hni : ni = (n : Int)) (h : Wr w p v L) (hL : L.length + 64 ≤ 68719476736) (hn : n ≤ 64) (hx : x < 2 ^ n) :
    Calls Try.prog 79 #[.pointer (some ⟨p, 0, none⟩), .int .u64 xi, .int .i64 ni] w fun e w' => e = .returned (.int .i64 0) ∧ WI w p v (L ++ bitsOf x n) w' := by
  subst hxi hni
  exact put_ok w p v L x n h hL hn hx (Nat.lt_of_lt_of_le hx (Nat.pow_le_pow_right (by omega) hn))

/-- Behind a step that only made memory. -/
theorem WI.after_below {w w0 w1 : World} {p : Nat} {v : Value} {L : List Bool} (hb : Below w.heap.size w w0) (h : WI w0 p v L w1) : WI w p v L w1 := by
  obtain ⟨v1, h1, hm, hk⟩ := h
  refine ⟨v1, h1, ?_, (Kept.of_below' (S := Foot p v) hb).trans hk fun i hi hf => hf⟩
  rcases hm with e | ⟨g, e, hg⟩
  · exact .inl e
  · exact .inr ⟨g, e, Nat.le_trans hb.size hg⟩
theorem WI.then_below {w w1 w2 : World} {p : Nat} {v : Value} {L : List Bool} (h : WI w p v L w1) (hb : Below w1.heap.size w1 w2) : WI w p v L w2 := by
  obtain ⟨v1, h1, hm, hk⟩ := h
  exact ⟨v1, h1.below hb, hm, hk.then_below hb⟩

/-- An empty list needs no memory. -/
theorem Sl.kept' {w w' : World} {v : Value} {xs : List Value} {S : Nat → Prop} (h : Sl w v xs) (hk : Kept S w w') (hS : xs ≠ [] → ∀ g, v.ownBlock = some g → ¬ S g) : Sl w' v xs := by
  by_cases he : xs = []
  · subst he
    rcases h with h | ⟨ad, c, rfl, hc, hm, _⟩
    · exact .inl h
    · exact .inr ⟨ad, c, rfl, hc, hm, fun j u hu => by simp at hu⟩
  · exact h.kept hk (hS he)
theorem i64s_ne {xs : List Int} (h : i64s xs ≠ []) : xs ≠ [] := fun e => h (by rw [e]; rfl)

end Go.Proofs.Ytjboboaccjbebaa
