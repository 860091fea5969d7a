/- A writer by the bits that it has ('Wr'), and 'bit' at that level. -/
import Derived.Test.YtjboboaccjbebaaWriter
namespace Go.Proofs.Ytjboboaccjbebaa
open Go.RowKit

/-- Block p is a writer that has the bits L; v is its slice of whole bytes. -/
def Wr (w : World) (p : Nat) (v : Value) (L : List Bool) : Prop := ∃ F part n, Wst w p v F part n ∧ L = flat F ++ (bitsOf part 8).take n

/-- The blocks of a writer. -/
def Foot (p : Nat) (v : Value) (k : Nat) : Prop := k = p ∨ v.ownBlock = some k

/-- From w on, in which p was a writer with slice v, only its blocks were touched: it has the bits L now. -/
def WI (w : World) (p : Nat) (v : Value) (L : List Bool) (w' : World) : Prop := ∃ v', Wr w' p v' L ∧ Moved w v v' ∧ Kept (Foot p v) w w'

section
variable {w w' w1 : World} {p : Nat} {v v1 : Value} {L : List Bool}
theorem Moved.refl (w : World) (v : Value) : Moved w v v := .inl rfl
theorem Moved.trans {v2 : Value} (h : Moved w v v1) (hs : w.heap.size ≤ w1.heap.size) (k : Moved w1 v1 v2) : Moved w v v2 := by
  rcases k with k | ⟨g, k, hg⟩
  · rcases h with h | ⟨g, h, hg⟩
    · exact .inl (k.trans h)
    · exact .inr ⟨g, k.trans h, hg⟩
  · exact .inr ⟨g, k, by omega⟩
theorem Moved.foot (h : Moved w v v1) {k : Nat} (hk : k < w.heap.size) (hf : Foot p v1 k) : Foot p v k := by
  rcases hf with hf | hf
  · exact .inl hf
  · rcases h with h | ⟨g, h, hg⟩
    · exact .inr (h ▸ hf)
    · rw [h] at hf
      injection hf with hf
      omega
theorem Wr.lt (h : Wr w p v L) : p < w.heap.size := by obtain ⟨F, part, n, h, _⟩ := h; exact h.blk.lt
theorem Wr.footlt (h : Wr w p v L) {k : Nat} (hk : Foot p v k) : k < w.heap.size := by
  rcases hk with rfl | hk
  · exact h.lt
  · obtain ⟨F, part, n, h, _⟩ := h
    exact (h.own.lt k hk).2
theorem Wr.keep (h : Wr w p v L) {S : Nat → Prop} (hk : Kept S w w') (hS : ∀ k, Foot p v k → ¬ S k) : Wr w' p v L := by
  obtain ⟨F, part, n, h, e⟩ := h
  exact ⟨F, part, n, h.keep hk (hS p (.inl rfl)) (fun g hg => hS g (.inr hg)), e⟩
theorem Wr.drew (h : Wr w p v L) : Wr w.drew p v L := h.keep ((Kept.refl (fun _ => False) w).drew) fun _ _ => id
theorem Wr.drewN (h : Wr w p v L) (n : Nat) : Wr (w.drewN n) p v L := h.keep ((Kept.refl (fun _ => False) w).drewN n) fun _ _ => id
theorem Wr.below (h : Wr w p v L) (hk : Below w.heap.size w w') : Wr w' p v L := h.keep (Kept.of_below' (S := fun _ => False) hk) fun _ _ => id
theorem Wr.refl (h : Wr w p v L) : WI w p v L w := ⟨v, h, .refl _ _, .refl _ _⟩
theorem WI.size (h : WI w p v L w') : w.heap.size ≤ w'.heap.size := by obtain ⟨_, _, _, hk⟩ := h; exact hk.size
theorem WI.kept (h : WI w p v L w') : Kept (Foot p v) w w' := by obtain ⟨_, _, _, hk⟩ := h; exact hk
theorem WI.trans {L' : List Bool} {w2 : World} (h : WI w p v L w1) (k : ∀ v1, Wr w1 p v1 L → WI w1 p v1 L' w2) : WI w p v L' w2 := by
  obtain ⟨v1, h1, hm, hk⟩ := h
  obtain ⟨v2, h2, hm2, hk2⟩ := k v1 h1
  exact ⟨v2, h2, hm.trans hk.size hm2, hk.trans hk2 fun i hi hf => hm.foot hi hf⟩
theorem WI.calls {L' : List Bool} {f : FuncId} {args : Array Value} {R : Ending → Prop} (h : WI w p v L w1) (k : ∀ v1, Wr w1 p v1 L → Calls Try.prog f args w1 fun e w2 => R e ∧ WI w1 p v1 L' w2) :
    Calls Try.prog f args w1 fun e w2 => R e ∧ WI w p v L' w2 := by
  obtain ⟨v1, h1, hm, hk⟩ := h
  refine (k v1 h1).mono ?_
  rintro e w2 ⟨he, v2, h2, hm2, hk2⟩
  exact ⟨he, v2, h2, hm.trans hk.size hm2, hk.trans hk2 fun i hi hf => hm.foot hi hf⟩
theorem WI.below {B : Nat} (h : WI w p v L w') (hB : B ≤ w.heap.size) (hf : ∀ k, Foot p v k → B ≤ k) : Below B w w' :=
  h.kept.below hB fun k hk hs => by have := hf k hs; omega
theorem Wst.wr {F : List Nat} {part n : Nat} (h : Wst w p v F part n) : Wr w p v (flat F ++ (bitsOf part 8).take n) := ⟨F, part, n, h, rfl⟩
theorem Wst.len {F : List Nat} {part n : Nat} (h : Wst w p v F part n) : (flat F ++ (bitsOf part 8).take n).length = 8 * F.length + n := by
  have := h.hn
  rw [List.length_append, flat_length, List.length_take, bitsOf_length]
  omega
/-- A new writer. -/
theorem Wr.new (w : World) : Wr (w.alloc (.cells #[.slice none 0 0, .int .u8 0, .int .i64 0] 27)) w.heap.size (.slice none 0 0) [] :=
  ⟨[], 0, 0, ⟨Blk.new w _ _, World.ownsRow_nil _ _ _ _, by omega, by omega, by simp, by simp⟩, rfl⟩
theorem foot_nil {k : Nat} (h : Foot p (.slice none 0 0) k) : k = p := by
  rcases h with h | h
  · exact h
  · simp [Value.ownBlock] at h
end

theorem Wst.bit {w : World} {p : Nat} {v : Value} {F : List Nat} {part n : Nat} {b : Bool} {e : Ending} {w' : World} (h : Wst w p v F part n) (hb : BitPost w p v F part n b e w') :
    e = .returned (.tuple #[]) ∧ WI w p v ((flat F ++ (bitsOf part 8).take n) ++ [b]) w' := by
  obtain ⟨he, hk, ⟨h7, hw⟩ | ⟨rfl, v', hw, hm⟩⟩ := hb
  · refine ⟨he, v, ?_, .refl _ _, hk⟩
    have := hw.wr
    rw [bits_take h.hp h.hn h.low, ← List.append_assoc] at this
    exact this
  · refine ⟨he, v', ?_, hm, hk⟩
    have e := bits_take (b := b) h.hp h.hn h.low
    rw [List.take_of_length_le (by rw [bitsOf_length]; omega)] at e
    have := hw.wr
    rw [flat_append, flat_one, e] at this
    simpa using this

theorem bit_wr (w : World) (p : Nat) (v : Value) (L : List Bool) (b : Bool) (h : Wr w p v L) (hL : L.length ≤ 68719476736) :
    Calls Try.prog 126 #[.pointer (some ⟨p, 0, none⟩), .bool b] w fun e w' => e = .returned (.tuple #[]) ∧ WI w p v (L ++ [b]) w' := by
  obtain ⟨F, part, n, h, rfl⟩ := h
  have := h.len
  exact (bit_any w p v F part n b h (by omega)).mono fun _ _ hb => h.bit hb
end Go.Proofs.Ytjboboaccjbebaa
