/- Slices of acts that came in, opened. -/
import Derived.Test.YtfbccmogiafgfaaFew
namespace Go.Proofs.Ytfbccmogiafgfaa
open Go.RowKit

open Go.ChangeShapes Go.WideShapes in
/-- Acts that came in. -/
theorem arg_acts {H : Type} {enc : TypeId × Value → H} {w : World} {base : Nat} {spare : Nat → Bool} {held : Bool} {v : Value} {d : DataW H} {p : List MemPlace} {r : Reach} {b0 : Nat} (hv : Value.okWide Try.prog w r b0 33 v) (h : DataW.Trod enc Try.prog w base spare held 33 v d p) :
    ∃ (A : Option Addr) (n c : Nat) (K : Nat → Int) (V : Nat → Nat) (N : Nat → Int), v = .slice A n c ∧ n ≤ 9223372036854775807 ∧ Acts w A n K V N := by
  obtain ⟨A, n, c, rfl, hn, hrec⟩ := open_recs Try.underlying33 Try.underlying42 (by kernel_rfl) (by kernel_rfl) hv h
  have hall : ∀ i, i < n → ∃ x : Int × Nat × Int, ∃ ad, A = some ad ∧ ad.block < w.heap.size ∧ w.cell? (ad.add (i * 3)) = some (.int .i64 x.1) ∧ w.cell? ⟨(ad.add (i * 3)).block, (ad.add (i * 3)).off + 1, none⟩ = some (.int .u64 (x.2.1 : Int)) ∧
      w.cell? ⟨(ad.add (i * 3)).block, (ad.add (i * 3)).off + 2, none⟩ = some (.int .i64 x.2.2) ∧ x.2.1 < 18446744073709551616 := by
    intro i hi
    obtain ⟨ad, hB, hf⟩ := hrec i hi
    obtain ⟨u0, y0, m0, hc0, ht0⟩ := hf 0 _ rfl
    obtain ⟨u1, y1, m1, hc1, ht1⟩ := hf 1 _ rfl
    obtain ⟨u2, y2, m2, hc2, ht2⟩ := hf 2 _ rfl
    obtain ⟨n0, e0, _⟩ := DataW.trod_int Try.underlying3 ht0
    obtain ⟨n1, e1, _, hw1⟩ := DataW.trod_int Try.underlying40 ht1
    obtain ⟨n2, e2, _⟩ := DataW.trod_int Try.underlying3 ht2
    simp only [List.cons.injEq, and_true] at e0 e1 e2
    subst e0 e1 e2
    have hb : 0 ≤ n1 ∧ n1 < 18446744073709551616 := by
      simp [Lit.wf, IntKind.min, IntKind.max, IntKind.signed, IntKind.bits] at hw1
      omega
    refine ⟨(n0, n1.toNat, n2), ad, hB, ?_, hc0, ?_, ?_, by simp; omega⟩
    · have := World.block_lt_of_cell? w _ hc0
      rwa [block_of_add] at this
    · rw [← add_field ad i 3 1 (by omega)]
      have e : ((n1.toNat : Nat) : Int) = n1 := by omega
      show _ = some (Value.int .u64 ((n1.toNat : Nat) : Int))
      rw [e]
      exact hc1
    · rw [← add_field ad i 3 2 (by omega)]
      exact hc2
  have hch : ∃ x : Nat → Int × Nat × Int, ∀ i, i < n → ∃ ad, A = some ad ∧ ad.block < w.heap.size ∧ w.cell? (ad.add (i * 3)) = some (.int .i64 (x i).1) ∧ w.cell? ⟨(ad.add (i * 3)).block, (ad.add (i * 3)).off + 1, none⟩ = some (.int .u64 ((x i).2.1 : Int)) ∧
      w.cell? ⟨(ad.add (i * 3)).block, (ad.add (i * 3)).off + 2, none⟩ = some (.int .i64 (x i).2.2) ∧ (x i).2.1 < 18446744073709551616 :=
    ⟨fun i => if h : i < n then Classical.choose (hall i h) else (0, 0, 0), fun i hi => by simp only [dif_pos hi]; exact Classical.choose_spec (hall i hi)⟩
  obtain ⟨x, hx⟩ := hch
  exact ⟨A, n, c, fun i => (x i).1, fun i => (x i).2.1, fun i => (x i).2.2, rfl, hn, hx⟩

end Go.Proofs.Ytfbccmogiafgfaa
