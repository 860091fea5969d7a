/- Lists of uints: slices that read as them, fresh ones, and their comparison (ref06.Uints). -/
import Derived.Test.YtjboboaccjbebaaInts
import Derived.Test.YtjboboaccjbebaaArgs2
namespace Go.Proofs.Ytjboboaccjbebaa
open Go.RowKit

theorem Try.info_uint : (Try.prog.info? 42).map (fun i => (i.zero, i.size, i.bytes)) = some (some (.int .u64 0), 1, 8) := by kernel_rfl

theorem u64s_app (F G : List Nat) : u64s (F ++ G) = u64s F ++ u64s G := by simp [u64s]
theorem u64s_one {F : List Nat} : ∀ u ∈ u64s F, u.oneCell' = true := by
  intro u hu
  simp [u64s] at hu
  obtain ⟨_, _, rfl⟩ := hu
  rfl
theorem u64s_take (xs : List Nat) (n : Nat) : u64s (xs.take n) = (u64s xs).take n := by simp [u64s]
theorem u64s_at {w : World} {xs : List Nat} {A : Option Addr} {n c k : Nat} (h : Sl w (.slice A n c) (u64s xs)) (hk : k < xs.length) : ∃ ad, A = some ad ∧ w.cell? (ad.add k) = some (.int .u64 (xs[k] : Nat)) := by
  obtain ⟨ad, e, hc⟩ := h.at_ (show k < (u64s xs).length by rw [u64s_length]; exact hk)
  refine ⟨ad, e, ?_⟩
  rw [hc]
  simp [u64s]
theorem u64s_form {w : World} {v : Value} {xs : List Nat} (h : Sl w v (u64s xs)) : ∃ A c, v = .slice A xs.length c ∧ xs.length ≤ 9223372036854775807 := by
  obtain ⟨A, c, e, _⟩ := h.form
  rw [u64s_length] at e
  have := h.max
  rw [u64s_length] at this
  exact ⟨A, c, e, this⟩

/-- A fresh slice of uints: it owns F in new memory; nothing old has turned. -/
def FreshU (w : World) (F : List Nat) (v : Value) (w' : World) : Prop :=
  w'.ownsRow 0 42 1 v F.length (u64s F) ∧ Below w.heap.size w w' ∧ (∀ g, v.ownBlock = some g → w.heap.size ≤ g)
theorem FreshU.sl {w w' : World} {F : List Nat} {v : Value} (h : FreshU w F v w') : Sl w' v (u64s F) := Sl.of_own h.1
theorem FreshU.form {w w' : World} {F : List Nat} {v : Value} (h : FreshU w F v w') : ∃ A c, v = .slice A F.length c := by
  obtain ⟨A, c, e, _⟩ := h.sl.form
  rw [u64s_length] at e
  exact ⟨A, c, e⟩
theorem FreshU.nil_ {w w' : World} (h : Below w.heap.size w w') : FreshU w [] (.slice none 0 0) w' := ⟨World.ownsRow_nil _ _ _ _, h, by simp [Value.ownBlock]⟩
theorem FreshU.later {w w1 w2 : World} {F : List Nat} {v : Value} (h : FreshU w F v w1) (hb : Below w1.heap.size w1 w2) : FreshU w F v w2 :=
  ⟨own_of_heap h.1 fun g hg => hb.block g (h.1.lt g hg).2, h.2.1.trans (hb.mono h.2.1.size), h.2.2⟩
theorem u64s_append_one (F : List Nat) (x : Nat) : u64s F ++ [Value.int .u64 (x : Int)] = u64s (F ++ [x]) := by simp [u64s]
theorem FreshU.app1 {w w1 w2 : World} {F : List Nat} {v : Value} {x : Nat} {g cap : Nat} {o : Obj} (h : FreshU w F v w1) (hown : w2.ownsRow 0 42 1 (.slice (some ⟨g, 0, none⟩) (F.length + 1) cap) (F.length + 1) (u64s F ++ [.int .u64 (x : Int)])) (hg : (w1.alloc o).grownBy w2 v.ownBlock) (hm : v.ownBlock = some g ∨ g = w1.heap.size + 1) :
    FreshU w (F ++ [x]) (.slice (some ⟨g, 0, none⟩) (F.length + 1) cap) w2 := by
  rw [u64s_append_one] at hown
  refine ⟨by rw [List.length_append]; exact hown, (h.2.1.alloc h.2.1.size o).grown hg (by simp; have := h.2.1.size; omega) h.2.2, fun k hk => ?_⟩
  simp [Value.ownBlock] at hk
  subst hk
  rcases hm with e | e
  · exact h.2.2 g e
  · have := h.2.1.size; omega
end Go.Proofs.Ytjboboaccjbebaa
