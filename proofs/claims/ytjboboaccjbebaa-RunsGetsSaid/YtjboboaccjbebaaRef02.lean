/- The references of layer 2 (descantref02) that write: Bits, Below, Put, Many, Align, Bytes, Of. Bits are lists of ints 0 and 1 ('bis'). -/
import Derived.Test.YtjboboaccjbebaaWBytes
import Derived.Test.YtjboboaccjbebaaRd
namespace Go.Proofs.Ytjboboaccjbebaa
open Go.RowKit

def bi (b : Bool) : Int := if b then 1 else 0
def bis (L : List Bool) : List Int := L.map bi
theorem bis_length (L : List Bool) : (bis L).length = L.length := by simp [bis]
theorem bis_app (L M : List Bool) : bis (L ++ M) = bis L ++ bis M := by simp [bis]

/-- A fresh slice of ints: it owns F in new memory; nothing old has turned. -/
def FreshI (w : World) (F : List Int) (v : Value) (w' : World) : Prop :=
  w'.ownsRow 0 3 1 v F.length (i64s F) ∧ Below w.heap.size w w' ∧ (∀ g, v.ownBlock = some g → w.heap.size ≤ g)
/-- A call hands back such a slice. -/
def FreshIS (w : World) (F : List Int) (e : Ending) (w' : World) : Prop := ∃ A c, e = .returned (.slice A F.length c) ∧ FreshI w F (.slice A F.length c) w'
theorem FreshI.undrew {w w1 : World} {F : List Int} {v : Value} (h : FreshI w.drew F v w1) : FreshI w F v w1 := ⟨h.1, below_undrew h.2.1, h.2.2⟩
theorem FreshI.sl {w w' : World} {F : List Int} {v : Value} (h : FreshI w F v w') : Sl w' v (i64s F) := Sl.of_own h.1
theorem FreshI.form {w w' : World} {F : List Int} {v : Value} (h : FreshI w F v w') : ∃ A c, v = .slice A F.length c := by
  obtain ⟨A, c, e, _⟩ := h.sl.form
  rw [i64s_length] at e
  exact ⟨A, c, e⟩
/-- A step from a world that has only grown since. -/
theorem FreshI.after {w0 w w' : World} {F : List Int} {v : Value} (hb : Below w0.heap.size w0 w) (h : FreshI w F v w') : FreshI w0 F v w' :=
  ⟨h.1, hb.trans (h.2.1.mono hb.size), fun g hg => Nat.le_trans hb.size (h.2.2 g hg)⟩

theorem make_int (n : Nat) (hn : n ≤ 17179869184) (w : World) :
    (Instr.makeSlice 22 (.int .i64 (n : Int)) (.int .i64 (n : Int))).run Try.prog w = .ok (.slice (some ⟨w.heap.size, 0, none⟩) n n) (w.alloc (.cells (madeCells #[.int .i64 0] n) 3)) := by
  obtain ⟨i0, hi, hz0, hz1, hz2⟩ := info_parts Try.info_int
  have h := run_make (P := Try.prog) w 22 3 i0 (.int .i64 0) Try.underlying22 hi hz0 .i64 .i64 n n (by omega) (by omega) (by rw [hz2]; omega) (by omega)
  rw [hz1, Nat.mul_one, Int.toNat_natCast] at h
  exact h
theorem made_zero (n : Nat) : madeCells #[.int .i64 0] n = (i64s (List.replicate n 0)).toArray := by
  apply Array.ext
  · simp [size_madeCells, i64s]
  · intro i h1 h2
    simp [madeCells, i64s, Nat.mod_one]

theorem bits_store (x j k : Nat) : (i64s (List.replicate (j + 1) 0 ++ bis (bitsOf x k))).toArray.setIfInBounds j (.int .i64 (((x / 2 ^ k % 2 : Nat)) : Int)) = (i64s (List.replicate j 0 ++ bis (bitsOf x (k + 1)))).toArray := by
  have e : bis (bitsOf x (k + 1)) = (((x / 2 ^ k % 2 : Nat)) : Int) :: bis (bitsOf x k) := by
    rw [bitsOf, bis, List.map_cons]
    congr 1
    rw [Nat.testBit_eq_decide_div_mod_eq]
    unfold bi
    have := Nat.mod_two_eq_zero_or_one (x / 2 ^ k)
    rcases this with h | h <;> simp [h]
  rw [e, List.replicate_succ']
  simp only [i64s, List.setIfInBounds_toArray, List.map_append, List.map_cons, List.map_nil, List.append_assoc]
  congr 1
  rw [List.set_append, if_neg (by simp)]
  simp

set_option maxRecDepth 100000 in
set_option maxHeartbeats 800000 in
theorem bits_any (x n : Nat) (w : World) (hx : x < 18446744073709551616) (hn : n ≤ 1073741824) : Calls Try.prog 80 #[.int .u64 (x : Int), .int .i64 (n : Int)] w (FreshIS w (bis (bitsOf x n))) := by
  have hmk := fun W => make_int n (by omega) W
  have HX := hid hx
  clear hx
  go_enter Try.func80, Try.ntmps80
  go_wp2_with fail
  clear hmk
  go_loopw [0, 6] (fun y i wr => ∃ (j k : Nat) (i0 y0 : Int), j + k = n ∧ i0 = (j : Int) - 1 ∧ i = .int .i64 i0 ∧ y0 = ((x / 2 ^ k : Nat) : Int) ∧ y = .int .u64 y0 ∧ Blk wr w.heap.size 3 (i64s (List.replicate j 0 ++ bis (bitsOf x k))).toArray ∧ Below w.heap.size w wr) (fun _ i _ => (intOf i + 1).toNat)
  case atStart => exact ⟨n, 0, _, _, by omega, rfl, rfl, by simp, rfl, by rw [made_zero]; simpa [bitsOf, bis] using Blk.new w _ _, (Below.refl _ _).alloc (Nat.le_refl _) _⟩
  case round =>
    obtain ⟨j, k, i0, y0, hjk, hi0, rfl, hy0, rfl, hblk, hbel⟩ := hrel
    rcases j with _ | j
    · have hi : ¬ (0 : Int) ≤ i0 := by omega
      have HH := hid (And.intro hjk (And.intro hblk hbel))
      clear hjk hi0 hy0 hblk hbel
      go_wp2_with fail
      go_ret
      obtain ⟨hjk, hblk, hbel⟩ := HH.out
      obtain rfl : k = n := by omega
      simp only [List.replicate_zero, List.nil_append] at hblk
      have e : (bis (bitsOf x k)).length = k := by rw [bis_length, bitsOf_length]
      unfold FreshIS FreshI
      rw [e]
      refine ⟨_, _, rfl, own_of_blk hblk (Nat.le_refl _) (by unfold maxLen; omega) (by simp [i64s, e]) (List.take_of_length_le (by simp [i64s, e])) (by simp [i64s, e]), hbel, ?_⟩
      intro g hg
      simp [Value.ownBlock] at hg
      omega
    · obtain rfl : i0 = (j : Int) := by omega
      have hc := hblk.cell j
      have hf := hblk.frozen j
      have e0 : (i64s (List.replicate (j + 1) 0 ++ bis (bitsOf x k))).toArray[j]? = some (.int .i64 0) := by
        simp only [i64s, List.getElem?_toArray, List.map_append]
        rw [List.getElem?_append_left (by simp)]
        simp
      rw [e0] at hc
      have hjn : (j : Int) < n := by omega
      have HH := hid (And.intro hjk (And.intro hblk (And.intro hbel hy0)))
      have hq := Nat.div_le_self x (2 ^ k)
      have hx := HX.out
      obtain ⟨q, hqe⟩ : ∃ q, x / 2 ^ k = q := ⟨_, rfl⟩
      rw [hqe] at hy0 hq
      have hy1 : 0 ≤ y0 := by omega
      have hy2 : y0 < 18446744073709551616 := by omega
      clear hx hq hqe
      clear hjk hi0 hblk hbel hy0 e0
      go_wp2_with fail
      go_roundw
      case rel =>
        obtain ⟨hjk, hblk, hbel, hy0⟩ := HH.out
        have e2 : y0 % 2 = ((x / 2 ^ k % 2 : Nat) : Int) := by rw [hy0]; simp
        have e3 : y0 / 2 = ((x / 2 ^ (k + 1) : Nat) : Int) := by rw [hy0, Nat.pow_succ, ← Nat.div_div_eq_div_mul]; omega
        refine ⟨j, k + 1, _, _, by omega, rfl, rfl, e3, rfl, ?_, hbel.setCell (by simp) _⟩
        have h := hblk.upd j (.int .i64 (y0 % 2))
        rw [e2, bits_store] at h
        rw [e2]
        exact h
      case measure => simp [intOf]

/-- The same, the numbers as they stand at the call. -/
theorem bits_at (xi ni : Int) (x n : Nat) (hxi : xi = (x : Int)) (hni : ni = (n : Int)) (w : World) (hx : x < 18446744073709551616) (hn : n ≤ 1073741824) : Calls Try.prog 80 #[.int .u64 xi, .int .i64 ni] w (FreshIS w (bis (bitsOf x n))) := by
  subst hxi hni
  exact bits_any x n w hx hn

theorem below_eq {x k : Nat} {n y0 : Int} (hx : x < 18446744073709551616) (hkn : k = 0 ∨ (k : Int) ≤ n) (hk : k ≤ 64) (hy : y0 = ((x / 2 ^ k : Nat) : Int)) (h : ¬ ((k : Int) < n) ∨ k = 64) : (y0 == 0) = decide (x < 2 ^ n.toNat) := by
  rw [Bool.eq_iff_iff]
  simp only [beq_iff_eq, decide_eq_true_eq]
  have hd : x / 2 ^ k = 0 ↔ x < 2 ^ k := by
    constructor
    · intro h0
      rcases Nat.lt_or_ge x (2 ^ k) with h | h
      · exact h
      · have := Nat.div_pos h (Nat.two_pow_pos k)
        omega
    · exact Nat.div_eq_of_lt
  have e : y0 = 0 ↔ x < 2 ^ k := by rw [← hd, hy]; omega
  rw [e]
  by_cases hlt : (k : Int) < n
  · obtain rfl : k = 64 := by omega
    have h2 : 2 ^ 64 ≤ 2 ^ n.toNat := Nat.pow_le_pow_right (by omega) (by omega)
    constructor
    · intro; omega
    · intro; omega
  · obtain rfl : k = n.toNat := by omega
    exact Iff.rfl

theorem i64s_append_one (F : List Int) (x : Int) : i64s F ++ [Value.int .i64 x] = i64s (F ++ [x]) := by simp [i64s]

/-- What is owned in memory that a call made. -/
def OwnI (w : World) (F : List Int) (v : Value) (w' : World) : Prop := w'.ownsRow 0 3 1 v F.length (i64s F) ∧ Below w.heap.size w w' ∧ (∀ g, v.ownBlock = some g → w.heap.size ≤ g)
/-- An empty slice that was just made. -/
theorem FreshI.empty (w : World) : FreshI w [] (.slice (some ⟨w.heap.size, 0, none⟩) 0 0) (w.alloc (.cells #[] 3)) :=
  ⟨own_of_blk (Blk.new w _ _) (Nat.le_refl _) (by decide) rfl rfl rfl, (Below.refl _ _).alloc (Nat.le_refl _) _, fun g hg => by simp [Value.ownBlock] at hg; omega⟩
/-- append of a whole list onto a fresh one. -/
theorem FreshI.app {w w1 w2 : World} {F G : List Int} {v v' : Value} (h : FreshI w F v w1) (hown : w2.ownsRow 0 3 1 v' (F.length + (i64s G).length) (i64s F ++ i64s G)) (hg : w1.grownBy w2 v.ownBlock) (hm : Moved w1 v v') : FreshI w (F ++ G) v' w2 := by
  rw [i64s_length, ← i64s_app] at hown
  refine ⟨by rw [List.length_append]; exact hown, h.2.1.grown hg h.2.1.size h.2.2, fun g hg' => ?_⟩
  rcases hm with e | ⟨g', e, hs⟩
  · exact h.2.2 g (e ▸ hg')
  · rw [e] at hg'; injection hg' with e; have := h.2.1.size; omega
/-- It stays while nothing old is touched. -/
theorem FreshI.later {w w1 w2 : World} {F : List Int} {v : Value} (h : FreshI w F v w1) (hb : Below w1.heap.size w1 w2) : FreshI w F v w2 :=
  ⟨own_of_heap h.1 fun g hg => hb.block g (h.1.lt g hg).2, h.2.1.trans (hb.mono h.2.1.size), h.2.2⟩
/-- append of one number onto a fresh list. -/
theorem FreshI.app1 {w w1 w2 : World} {F : List Int} {v : Value} {x : Int} {g cap : Nat} {o : Obj} (h : FreshI w F v w1) (hown : w2.ownsRow 0 3 1 (.slice (some ⟨g, 0, none⟩) (F.length + 1) cap) (F.length + 1) (i64s F ++ [.int .i64 x])) (hg : (w1.alloc o).grownBy w2 v.ownBlock) (hm : v.ownBlock = some g ∨ g = w1.heap.size + 1) :
    FreshI w (F ++ [x]) (.slice (some ⟨g, 0, none⟩) (F.length + 1) cap) w2 := by
  rw [i64s_append_one] at hown
  refine ⟨by rw [List.length_append]; exact hown, (h.2.1.alloc h.2.1.size o).grown hg (by simp; have := h.2.1.size; omega) h.2.2, fun k hk => ?_⟩
  simp [Value.ownBlock] at hk
  subst hk
  rcases hm with e | e
  · exact h.2.2 g e
  · have := h.2.1.size; omega

/-- The error of Put. -/
def putE (x : Nat) (n : Int) : Int := if n < 0 ∨ 64 < n then 1 else if 2 ^ n.toNat ≤ x then 3 else 0

/-- What the reference's Put hands back: the list and the error. -/
def RefPutPost (w : World) (L : List Bool) (x n : Nat) (e : Ending) (w' : World) : Prop :=
  ∃ A c, e = .returned (.tuple #[.slice A (bis (L ++ bitsOf x n)).length c, .int .i64 0]) ∧ FreshI w (bis (L ++ bitsOf x n)) (.slice A (bis (L ++ bitsOf x n)).length c) w'

end Go.Proofs.Ytjboboaccjbebaa
