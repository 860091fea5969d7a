/- A reader of bits in memory ('Rd'): Read, Left, At, peek. -/
import Derived.Test.YtjboboaccjbebaaWBytes
import Derived.Deep.LoopGhost
namespace Go.Proofs.Ytjboboaccjbebaa
open Go.RowKit

theorem bitsOf_get (v n i : Nat) (h : i < n) : (bitsOf v n)[i]? = some (v.testBit (n - 1 - i)) := by
  induction n generalizing i with
  | zero => omega
  | succ n ih =>
    rcases i with _ | i
    · simp [bitsOf]
    · rw [bitsOf, List.getElem?_cons_succ, ih i (by omega)]
      congr 2
      omega
theorem flat_get (F : List Nat) (i : Nat) (h : i / 8 < F.length) : (flat F)[i]? = some (F[i / 8].testBit (7 - i % 8)) := by
  induction F generalizing i with
  | nil => simp at h
  | cons x F ih =>
    have e : flat (x :: F) = bitsOf x 8 ++ flat F := by simp [flat]
    rw [e]
    by_cases h8 : i < 8
    · rw [List.getElem?_append_left (by rw [bitsOf_length]; exact h8), bitsOf_get x 8 i h8]
      have e0 : i / 8 = 0 := by omega
      have e1 : 8 - 1 - i = 7 - i % 8 := by omega
      simp [e0, e1]
    · obtain ⟨j, rfl⟩ : ∃ j, i = j + 8 := ⟨i - 8, by omega⟩
      have hd : (j + 8) / 8 = j / 8 + 1 := by omega
      have hlt : j / 8 < F.length := by simp [hd] at h; omega
      rw [List.getElem?_append_right (by rw [bitsOf_length]; omega), bitsOf_length, show j + 8 - 8 = j from by omega, ih j hlt]
      simp [hd]

/-- A bit as a number. -/
def bN (b : Bool) : Int := if b then 1 else 0

/-- Block p is a reader that stands at bit i of the bytes F, which the slice v holds. -/
structure Rd (w : World) (p : Nat) (v : Value) (F : List Nat) (i : Nat) : Prop where
  blk : Blk w p 87 #[v, .int .i64 (i : Int)]
  sl : Sl w v (u8s F)
  ne : v.ownBlock ≠ some p
  at_ : i ≤ 8 * F.length
  len : F.length ≤ 17179869184
  by_ : ∀ x ∈ F, x < 256

section
variable {w w' : World} {p : Nat} {v : Value} {F : List Nat} {i : Nat}
theorem Rd.keep (h : Rd w p v F i) {S : Nat → Prop} (hk : Kept S w w') (hp : ¬ S p) (hv : ∀ g, v.ownBlock = some g → ¬ S g) : Rd w' p v F i :=
  ⟨h.blk.kept hk hp, h.sl.kept hk hv, h.ne, h.at_, h.len, h.by_⟩
theorem Rd.below (h : Rd w p v F i) (hk : Below w.heap.size w w') : Rd w' p v F i := h.keep (Kept.of_below' (S := fun _ => False) hk) id fun _ _ => id
theorem Rd.drew (h : Rd w p v F i) : Rd w.drew p v F i := ⟨h.blk, h.sl.drew, h.ne, h.at_, h.len, h.by_⟩
theorem Rd.drewN (h : Rd w p v F i) (n : Nat) : Rd (w.drewN n) p v F i := ⟨h.blk, h.sl.drewN n, h.ne, h.at_, h.len, h.by_⟩
theorem Rd.move (h : Rd w p v F i) (j : Nat) (hj : j ≤ 8 * F.length) : Rd (w.setCell ⟨p, 1, none⟩ (.int .i64 (j : Int))) p v F j :=
  ⟨by simpa using h.blk.upd 1 (.int .i64 (j : Int)), h.sl.setCell h.ne _, h.ne, hj, h.len, h.by_⟩
theorem Rd.slice (h : Rd w p v F i) : ∃ A c, v = .slice A F.length c := by
  obtain ⟨A, c, e, _⟩ := h.sl.form
  rw [u8s_length] at e
  exact ⟨A, c, e⟩
end

/-- The reader stands at j now; nothing but its own block was touched. -/
def RI (w : World) (p : Nat) (v : Value) (F : List Nat) (j : Nat) (w' : World) : Prop := Rd w' p v F j ∧ Kept (fun k => k = p) w w'
theorem RI.refl {w : World} {p : Nat} {v : Value} {F : List Nat} {i : Nat} (h : Rd w p v F i) : RI w p v F i w := ⟨h, .refl _ _⟩
theorem RI.trans {w w1 w2 : World} {p : Nat} {v : Value} {F : List Nat} {i j : Nat} (h : RI w p v F i w1) (k : RI w1 p v F j w2) : RI w p v F j w2 := ⟨k.1, h.2.trans k.2 fun _ _ => id⟩

theorem and_bit (x i : Nat) (hx : x < 18446744073709551616) : bits BinOp.and IntKind.u64 ((x / 2 ^ i : Nat) : Int) 1 = bN (x.testBit i) := by
  have h := u64_and_nat (x / 2 ^ i) 1 (Nat.lt_of_le_of_lt (Nat.div_le_self _ _) hx) (by omega)
  rw [show ((1 : Int)) = ((1 : Nat) : Int) from rfl, h, Nat.and_one_is_mod, Nat.testBit_eq_decide_div_mod_eq]
  unfold bN
  have := Nat.mod_two_eq_zero_or_one (x / 2 ^ i)
  rcases this with e | e <;> simp [e]

theorem at_nil (w : World) : Calls Try.prog 41 #[.pointer none] w fun e w' => e = .returned (.int .i64 0) ∧ w = w' := by
  go_enter Try.func41, Try.ntmps41
  go_wp2_with fail
  go_ret
  exact ⟨rfl, rfl⟩
theorem at_any (w : World) (p : Nat) (v : Value) (F : List Nat) (i : Nat) (h : Rd w p v F i) : Calls Try.prog 41 #[.pointer (some ⟨p, 0, none⟩)] w fun e w' => e = .returned (.int .i64 (i : Int)) ∧ w = w' := by
  have c1 := h.blk.cell 1
  simp at c1
  clear h
  go_enter Try.func41, Try.ntmps41
  go_wp2_with fail
  go_ret
  exact ⟨rfl, rfl⟩
theorem left_nil (w : World) : Calls Try.prog 127 #[.pointer none] w fun e w' => e = .returned (.int .i64 0) ∧ w = w' := by
  go_enter Try.func127, Try.ntmps127
  go_wp2_with fail
  go_ret
  exact ⟨rfl, rfl⟩
theorem left_any (w : World) (p : Nat) (v : Value) (F : List Nat) (i : Nat) (h : Rd w p v F i) : Calls Try.prog 127 #[.pointer (some ⟨p, 0, none⟩)] w fun e w' => e = .returned (.int .i64 (8 * (F.length : Int) - (i : Int))) ∧ ∃ n, w' = w.drewN n := by
  obtain ⟨A, c, rfl⟩ := h.slice
  have c0 := h.blk.cell 0
  have c1 := h.blk.cell 1
  simp at c0 c1
  have hi := h.at_
  have hl := h.len
  have hw8 : IntKind.i64.wrap (8 * (F.length : Int)) = 8 * (F.length : Int) := IntWalk.i64_in _ (by omega)
  have hw9 : IntKind.i64.wrap (8 * (F.length : Int) - (i : Int)) = 8 * (F.length : Int) - (i : Int) := IntWalk.i64_in _ (by omega)
  clear h
  go_enter Try.func127, Try.ntmps127
  go_wp2_with fail
  go_quiet (fail)
  go_wp2_with fail
  go_ret
  exact ⟨rfl, _, rfl⟩

theorem peek_any (w : World) (p : Nat) (v : Value) (F : List Nat) (i0 i : Nat) (h : Rd w p v F i0) (b : Bool) (hi : (flat F)[i]? = some b) :
    Calls Try.prog 128 #[.pointer (some ⟨p, 0, none⟩), .int .i64 (i : Int)] w fun e w' => e = .returned (.int .u64 (bN b)) ∧ w = w' := by
  obtain ⟨A, c, rfl⟩ := h.slice
  have hlt : i < 8 * F.length := by
    have := (List.getElem?_eq_some_iff.1 hi).1
    rwa [flat_length] at this
  have hd : i / 8 < F.length := by omega
  rw [flat_get F i hd] at hi
  injection hi with hb
  have hx := h.by_ F[i / 8] (List.getElem_mem _)
  have hl := h.len
  have c0 := h.blk.cell 0
  simp at c0
  obtain ⟨ad, rfl, hc⟩ := h.sl.at_ (show i / 8 < (u8s F).length by rw [u8s_length]; exact hd)
  have e : (u8s F)[i / 8]'(by rw [u8s_length]; exact hd) = .int .u8 (F[i / 8] : Int) := by simp [u8s]
  rw [e] at hc
  generalize F[i / 8] = x at *
  have ha := hid (and_bit x (7 - i % 8) (by omega))
  have HB := hid hb
  have hx0 : (x : Int) < 256 := by omega
  clear h hb e hx
  go_enter Try.func128, Try.ntmps128
  go_wp2_with fail
  go_ret
  have e1 : ((x : Int) / 2 ^ (7 - i % 8)) = ((x / 2 ^ (7 - i % 8) : Nat) : Int) := by simp
  have e2 : IntKind.u64.wrap ((x / 2 ^ (7 - i % 8) : Nat) : Int) = ((x / 2 ^ (7 - i % 8) : Nat) : Int) := by
    have := Nat.div_le_self x (2 ^ (7 - i % 8))
    generalize x / 2 ^ (7 - i % 8) = y at *
    exact IntWalk.u64_in _ (by omega)
  rw [e1, e2, ha.out, HB.out]
  exact ⟨rfl, rfl⟩

theorem peek_at (w : World) (p : Nat) (v : Value) (F : List Nat) (i0 : Nat) (x : Int) (i : Nat) (hx : x = (i : Int)) (h : Rd w p v F i0) (b : Bool) (hi : (flat F)[i]? = some b) :
    Calls Try.prog 128 #[.pointer (some ⟨p, 0, none⟩), .int .i64 x] w fun e w' => e = .returned (.int .u64 (bN b)) ∧ w = w' := by
  subst hx
  exact peek_any w p v F i0 i h b hi

/-- What Read hands back: a reader in new memory, at the first bit. -/
def ReadPost (w : World) (F : List Nat) (e : Ending) (w' : World) : Prop :=
  ∃ q v, e = .returned (.pointer (some ⟨q, 0, none⟩)) ∧ Rd w' q v F 0 ∧ Below w.heap.size w w' ∧ w.heap.size ≤ q ∧ ∀ g, v.ownBlock = some g → w.heap.size ≤ g ∧ g < q

theorem read_any (w : World) (v : Value) (F : List Nat) (h : Sl w v (u8s F)) (hF : F.length ≤ 17179869184) (hb : ∀ x ∈ F, x < 256) : Calls Try.prog 37 #[v] w (ReadPost w F) := by
  have H := hid (And.intro h hb)
  clear h hb
  go_enter Try.func37, Try.ntmps37
  go_wp2_with fail
  have HC := clone8_sl w v F H.out.1 hF
  with_reducible refine HC.mono ?_
  clear HC
  rintro e w1 ⟨A, c, rfl, hf⟩
  replace hf := hid hf
  go_wp2_with fail
  go_ret
  have hlt : ∀ g, (Value.slice A F.length c).ownBlock = some g → g < w1.heap.size := fun g hg => (hf.out.1.lt g hg).2
  refine ⟨w1.heap.size, _, rfl, ⟨Blk.new w1 _ _, (Sl.of_own hf.out.1).alloc _, fun h => by have := hlt _ h; omega, by omega, hF, H.out.2⟩, hf.out.2.1.alloc hf.out.2.1.size _, hf.out.2.1.size, fun g hg => ⟨hf.out.2.2 g hg, hlt g hg⟩⟩
end Go.Proofs.Ytjboboaccjbebaa
