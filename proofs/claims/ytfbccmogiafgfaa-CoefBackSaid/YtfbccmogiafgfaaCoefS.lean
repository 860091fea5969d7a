/- Layer 12: shiftOf: by how much coefficients can be shifted. -/
import Derived.Test.YtfbccmogiafgfaaCoef
import Derived.Deep.LoopGhost
namespace Go.Proofs.Ytfbccmogiafgfaa
open Go.RowKit

/-- From s down, the first that is let. -/
def downTo (ok : Nat → Bool) : Nat → Nat
  | 0 => 0
  | s + 1 => if ok (s + 1) then s + 1 else downTo ok s
theorem downTo_le (ok : Nat → Bool) (s : Nat) : downTo ok s ≤ s := by
  induction s with
  | zero => simp [downTo]
  | succ s ih => simp only [downTo]; split <;> omega
/-- Do all coefficients fit, shifted by s? -/
def fitB (xs : List Int) (most : Int) (s : Nat) : Bool := decide (topI (offI s) 0 xs ≤ most)
def shiftN (xs : List Int) (most : Int) : Nat := downTo (fitB xs most) 15

/-- The loop's variable lies in block b of new memory, and is s. -/
def SBox (w : World) (b s : Nat) (wr : World) : Prop := wr.cell? ⟨b, 0, none⟩ = some (.int .i64 (s : Int)) ∧ wr.frozen? ⟨b, 0, none⟩ = false ∧ w.heap.size ≤ b ∧ Below w.heap.size w wr

set_option maxRecDepth 100000 in
theorem shiftOf_any (l : Value) (xs : List Int) (most : Int) (w : World) (hl : Sl w l (i64s xs)) :
    Calls Try.prog 50 #[l, .int .i64 most] w fun e w' => e = .returned (.int .i64 (shiftN xs most : Nat)) ∧ Below w.heap.size w w' := by
  have H := hid hl
  clear hl
  have hmf : ∀ (fn : Fn) (first cap : Array Value) (w : World), (Instr.makeFunc fn first cap).run Try.prog w = .ok (.func fn first cap) w := fun _ _ _ _ => rfl
  go_enter Try.func50, Try.ntmps50
  go_wp2_with fail
  go_loopg [5] 15 (fun s t wr => ∃ b, s ≤ 15 ∧ t = .pointer (some ⟨b, 0, none⟩) ∧ SBox w b s wr ∧ Hid (shiftN xs most = downTo (fitB xs most) s))
  case atStart => exact ⟨w.heap.size, by omega, rfl, ⟨by simp [World.cell?_alloc_at], by simp, Nat.le_refl _, by first | exact ((Below.refl _ _).alloc (Nat.le_refl _) _) | exact ((Below.refl _ _).alloc (Nat.le_refl _) _).setCell (by simp) _⟩, rfl⟩
  case round =>
    obtain ⟨b, hs, rfl, ⟨hc, hf, hb, hbel⟩, hd⟩ := hrel
    have HB := hid (And.intro hb hbel)
    have hblt : b < wr.heap.size := World.block_lt_of_cell? wr _ hc
    clear hb hbel
    rcases gk with _ | s
    · go_wp2_with fail
      go_ret
      exact ⟨by rw [hd.out]; rfl, HB.out.2⟩
    · have hs0 : (0 : Int) < ((s + 1 : Nat) : Int) := by omega
      have hcc := hid hc
      go_wp2_with fail
      have HC := top_any 76 #[.pointer (some ⟨b, 0, none⟩)] enters_lit (offI (s + 1)) (fun _ => True) l xs 0 wr (H.out.below HB.out.2) (fun _ _ => trivial) (fun x n _ => lit_any b (s + 1) x (wr.drewN n) (by omega) (by omega) (by simpa using hcc.out))
      with_reducible refine HC.mono ?_
      clear HC
      rintro e w1 ⟨rfl, n, hw1⟩
      have hc1 : w1.cell? ⟨b, 0, none⟩ = some (.int .i64 ((s + 1 : Nat) : Int)) := by rw [hw1]; simpa using hcc.out
      have hb1 := hid (show Below w.heap.size w w1 by rw [hw1]; exact below_drewN' HB.out.2 n)
      clear hw1
      by_cases hok : topI (offI (s + 1)) 0 xs ≤ most
      · have HF := hid (show shiftN xs most = s + 1 by rw [hd.out, downTo, if_pos (by simpa [fitB] using hok)])
        go_wp2_with fail
        go_ret
        exact ⟨by rw [HF.out]; rfl, hb1.out⟩
      · have HF := hid (show shiftN xs most = downTo (fitB xs most) s by rw [hd.out, downTo, if_neg (by simpa [fitB] using hok)])
        go_wp2_with fail
        go_roundg s
        case rel =>
          trace_state
          exact ⟨w1.heap.size, by omega, rfl, ⟨by simp [World.cell?_alloc_at], by simp, hb1.out.size, hb1.out.alloc hb1.out.size _⟩, HF⟩
        case measure => omega
end Go.Proofs.Ytfbccmogiafgfaa
