/- A bit among bits that are read as a list; few bytes. -/
import Derived.Test.YtgjiffpiffphfaaBitsL
import Derived.Test.YtgjiffpiffphfaaWBytes
import Derived.Test.YtgjiffpiffphfaaInts
namespace Go.Proofs.Ytgjiffpiffphfaa
open Go.RowKit

/-- A bit among bits. -/
theorem bit_at {w : World} {L : List Bool} {A : Option Addr} {n c i : Nat} {b : Bool} (h : Sl w (.slice A n c) (i64s (bis L))) (hb : L[i]? = some b) : ∃ ad, A = some ad ∧ w.cell? (ad.add i) = some (.int .i64 (bi b)) := by
  obtain ⟨hi, e⟩ := List.getElem?_eq_some_iff.1 hb
  obtain ⟨ad, e1, hc⟩ := i64s_at h (k := i) (by rw [bis_length]; exact hi)
  refine ⟨ad, e1, hc.trans ?_⟩
  rw [← e]
  simp [bis]
theorem bytes_few {F : List Nat} {B : List Bool} (h : flat F = padded B) (hB : B.length ≤ 1000000) : F.length ≤ 1073741824 := by
  have h := congrArg List.length h
  rw [flat_length] at h
  unfold padded at h
  rw [List.length_append, List.length_replicate] at h
  omega
theorem len_in {F : List Nat} {B : List Bool} {m : Nat} (h : flat F = padded B) (hm : m < B.length) : (m : Int) < ((bis (flat F)).length : Int) := by
  have h := congrArg List.length h
  unfold padded at h
  rw [List.length_append, List.length_replicate] at h
  rw [bis_length]
  omega
end Go.Proofs.Ytgjiffpiffphfaa
