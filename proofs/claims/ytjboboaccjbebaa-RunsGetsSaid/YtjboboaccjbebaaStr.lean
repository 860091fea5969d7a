/- string(b) of bytes; bytes are known by their bits. -/
import Derived.Test.YtjboboaccjbebaaWBytes
import Derived.Lib.BufferRead
namespace Go.Proofs.Ytjboboaccjbebaa
open Go.RowKit

theorem flat_inj : ∀ {F G : List Nat}, (∀ x ∈ F, x < 256) → (∀ x ∈ G, x < 256) → flat F = flat G → F = G
  | [], [], _, _, _ => rfl
  | [], y :: G, _, _, h => by have := congrArg List.length h; simp [flat_length] at this
  | x :: F, [], _, _, h => by have := congrArg List.length h; simp [flat_length] at this
  | x :: F, y :: G, hF, hG, h => by
    have h' : bitsOf x 8 ++ flat F = bitsOf y 8 ++ flat G := h
    obtain ⟨h1, h2⟩ := List.append_inj h' (by rw [bitsOf_length, bitsOf_length])
    have e1 := bitsOf_inj x y 8 (hF x (by simp)) (hG y (by simp)) h1
    have e2 := flat_inj (fun z hz => hF z (by simp [hz])) (fun z hz => hG z (by simp [hz])) h2
    rw [e1, e2]

/-- The string of bytes. -/
def strOf (F : List Nat) : ByteArray := ⟨(F.map UInt8.ofNat).toArray⟩

theorem strOf_list (F : List Nat) : (strOf F).toList = F.map UInt8.ofNat := by simp [strOf]

theorem str_of (w : World) (v : Value) (F : List Nat) (h : Sl w v (u8s F)) (hb : ∀ x ∈ F, x < 256) : (convert 25 9 v).run Try.prog w = .ok (.string (strOf F)) w := by
  rcases h with ⟨rfl, hx⟩ | ⟨ad, c, rfl, _, _, hc⟩
  · have e : F = [] := by simpa [u8s] using hx
    subst e
    exact Lib.run_convert_nil_bytes w _ _ 5 0 Try.underlying25 Try.underlying5 Try.underlying9
  · have h := run_convert_bytes_back (P := Try.prog) w 25 9 5 ad c (F.map UInt8.ofNat) Try.underlying25 Try.underlying5 Try.underlying9 (by
      intro j hj
      have hj' : j < F.length := by simpa using hj
      have hx := hb F[j] (List.getElem_mem _)
      rw [hc j (.int .u8 (F[j] : Nat)) (by simp [u8s, hj'])]
      congr 2
      simp
      omega)
    rw [u8s_length]
    rw [List.length_map] at h
    exact h
end Go.Proofs.Ytjboboaccjbebaa
