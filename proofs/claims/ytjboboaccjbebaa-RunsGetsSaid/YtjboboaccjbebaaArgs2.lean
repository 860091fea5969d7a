/- More arguments of statements, opened: ints, uints, numbers. -/
import Derived.Test.YtjboboaccjbebaaArgs
namespace Go.Proofs.Ytjboboaccjbebaa
open Go.ChangeShapes Go.WideShapes Go.ChangeAt Go.RowKit Go.Deep

def u64s (F : List Nat) : List Value := F.map fun (x : Nat) => Value.int .u64 (x : Int)
theorem u64s_length (F : List Nat) : (u64s F).length = F.length := by simp [u64s]

theorem wf_i64 {a : Int} (h : (Lit.int .i64 a).wf = true) : -9223372036854775808 ≤ a ∧ a ≤ 9223372036854775807 := by
  simpa [Lit.wf, IntKind.min, IntKind.max, IntKind.signed, IntKind.bits] using h
theorem wf_u64 {a : Int} (h : (Lit.int .u64 a).wf = true) : ∃ n : Nat, a = (n : Int) ∧ n < 18446744073709551616 := by
  simp [Lit.wf, IntKind.min, IntKind.max, IntKind.signed, IntKind.bits] at h
  exact ⟨a.toNat, by omega, by omega⟩

section
variable {H : Type} {enc : TypeId × Value → H} {w : World} {base : Nat} {spare : Nat → Bool} {held : Bool} {v : Value} {d : DataW H} {p : List MemPlace} {r : Reach} {b0 : Nat}
set_option maxRecDepth 100000 in
/-- Ints that came in. -/
theorem arg_ilist (hv : Value.okWide Try.prog w r b0 22 v) (h : DataW.Trod enc Try.prog w base spare held 22 v d p) :
    ∃ F : List Int, Sl w v (i64s F) ∧ ∀ x ∈ F, -9223372036854775808 ≤ x ∧ x ≤ 9223372036854775807 := by
  obtain ⟨zs, hs, hw⟩ := arg_ints Try.underlying22 Try.underlying3 (by kernel_rfl) hv h
  exact ⟨zs, hs, fun x hx => wf_i64 (hw x hx)⟩

set_option maxRecDepth 100000 in
/-- A cell that is a slice of ints. -/
theorem arg_icell {fuel : Nat} {c : Value} {x : DataW H × List MemPlace} (hf : DataW.trod enc Try.prog w base spare held fuel 22 [c] = some x) :
    ∃ F : List Int, Sl w c (i64s F) ∧ ∀ x ∈ F, -9223372036854775808 ≤ x ∧ x ≤ 9223372036854775807 := by
  rcases open_ints Try.underlying22 Try.underlying3 (by kernel_rfl) hf with ⟨hcs, _⟩ | ⟨x, l, cp, zs, hcs, _, hl, hm, hz, _, hcell, hwz⟩
  · injection hcs with hcs
    subst hcs
    exact ⟨[], .inl ⟨rfl, rfl⟩, by simp⟩
  · injection hcs with hcs
    subst hcs
    have hle : l ≤ zs.length := by rw [hz]; split <;> omega
    have hlen : (i64s (zs.take l)).length = l := by rw [i64s_length, List.length_take, Nat.min_eq_left hle]
    refine ⟨zs.take l, .inr ⟨x, cp, by rw [hlen], by rw [hlen]; exact hl, hm, fun j u hu => ?_⟩, fun n hn => wf_i64 (hwz n (List.mem_of_mem_take hn))⟩
    have hj : j < l := by
      have := (List.getElem?_eq_some_iff.1 hu).1
      omega
    rw [hcell j (by omega), ← hu]
    simp [i64s, hj, List.getD, List.getElem?_eq_getElem (show j < zs.length by omega)]
set_option maxRecDepth 100000 in
/-- Uints that came in. -/
theorem arg_ulist (hv : Value.okWide Try.prog w r b0 95 v) (h : DataW.Trod enc Try.prog w base spare held 95 v d p) :
    ∃ F : List Nat, Sl w v (u64s F) ∧ ∀ x ∈ F, x < 18446744073709551616 := by
  obtain ⟨zs, hs, hw⟩ := arg_ints Try.underlying95 Try.underlying42 (by kernel_rfl) hv h
  refine ⟨zs.map Int.toNat, ?_, ?_⟩
  · have e : zs.map (Value.int .u64) = u64s (zs.map Int.toNat) := by
      unfold u64s
      rw [List.map_map]
      apply List.map_congr_left
      intro n hn
      obtain ⟨k, e, _⟩ := wf_u64 (hw n hn)
      simp [e]
    rwa [e] at hs
  · intro x hx
    simp at hx
    obtain ⟨n, hn, rfl⟩ := hx
    obtain ⟨k, e, hk⟩ := wf_u64 (hw n hn)
    rw [e, Int.toNat_natCast]
    exact hk
end
end Go.Proofs.Ytjboboaccjbebaa
