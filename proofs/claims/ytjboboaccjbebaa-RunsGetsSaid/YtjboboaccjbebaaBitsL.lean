/- Lists of bits in new memory: the reference's Bits, and appends of them. -/
import Derived.Test.YtjboboaccjbebaaRef02
namespace Go.Proofs.Ytjboboaccjbebaa
open Go.RowKit

/-- Memory that grew by a fresh row. -/
theorem FreshI.bel {w w1 : World} {F : List Int} {v : Value} (h : FreshI w F v w1) : Below w.heap.size w w1 := h.2.1

/-- What code the reference makes: bits in new memory. -/
def BitsPost (w : World) (B : List Bool) (e : Ending) (w' : World) : Prop := ∃ A c, e = .returned (.slice A B.length c) ∧ FreshI w (bis B) (.slice A B.length c) w'

theorem FreshI.bits_app {w w1 w2 : World} {B C : List Bool} {v v' : Value} (h : FreshI w (bis B) v w1) (hown : w2.ownsRow 0 3 1 v' (B.length + (i64s (bis C)).length) (i64s (bis B) ++ i64s (bis C))) (hg : w1.grownBy w2 v.ownBlock) (hm : Moved w1 v v') : FreshI w (bis (B ++ C)) v' w2 := by
  rw [bis_app]
  exact h.app (by rw [bis_length]; exact hown) hg hm

/-- Bits, with their number written out. -/
def BitsS (w : World) (B : List Bool) (n : Nat) (e : Ending) (w' : World) : Prop := ∃ A c, e = .returned (.slice A n c) ∧ FreshI w (bis B) (.slice A n c) w'
theorem bits_sl (xi ni : Int) (x n : Nat) (hxi : xi = (x : Int)) (hni : ni = (n : Int)) (w : World) (hx : x < 18446744073709551616) (hn : n ≤ 1073741824) :
    Calls Try.prog 80 #[.int .u64 xi, .int .i64 ni] w (BitsS w (bitsOf x n) n) := by
  refine (bits_at xi ni x n hxi hni w hx hn).mono ?_
  rintro e w' ⟨A, c, rfl, hf⟩
  rw [bis_length, bitsOf_length] at hf ⊢
  exact ⟨A, c, rfl, hf⟩
theorem FreshI.own_of {w w1 : World} {B : List Bool} {v : Value} {n : Nat} (h : FreshI w (bis B) v w1) (hn : B.length = n) : w1.ownsRow 0 3 1 v n (i64s (bis B)) := by
  have := h.1
  rwa [bis_length, hn] at this
theorem FreshI.bits_app' {w w1 w2 : World} {B C : List Bool} {v v' : Value} {n : Nat} (h : FreshI w (bis B) v w1) (hn : B.length = n) (hown : w2.ownsRow 0 3 1 v' (n + (i64s (bis C)).length) (i64s (bis B) ++ i64s (bis C))) (hg : w1.grownBy w2 v.ownBlock) (hm : Moved w1 v v') : FreshI w (bis (B ++ C)) v' w2 := by
  subst hn
  exact h.bits_app hown hg hm

end Go.Proofs.Ytjboboaccjbebaa
