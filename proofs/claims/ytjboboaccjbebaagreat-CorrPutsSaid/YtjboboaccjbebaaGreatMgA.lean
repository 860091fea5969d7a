/- math/bits.Len: the shelf's contract, laid at this translation in plain words. -/
import Derived.Shelf.Small.Bits
import Derived.Test.YtjboboaccjbebaaGreatRows
import Derived.Below
import Derived.Calls
import Derived.Laws.OwnMore
import Derived.Laws.Rows
import Derived.Deep.AppendLies
import Derived.Deep.Draws
import Derived.OwnWalk
import Derived.WalkKit
import Derived.WalkSpells
import Derived.WalkLawsBesides
import Derived.Outline
import Derived.BigQuiet
import Derived.Deep.QuietTactic
import Derived.Laws.BitsAllLaws
import Derived.IntWalk
import Derived.RegionTactic
import Derived.Laws.CopyOwn
import Derived.Laws.MakeOwn
import Derived.Maps.AppendAt
import Derived.BigRegion
import Derived.Deep.RegionLaw
import Derived.Deep.DeepMust
import Derived.Deep.LoopGhost
import Derived.ProofKit
import Derived.Deep.Slices
import Derived.Deep.Fields
import Derived.Shelf.Abstract

namespace Go.Proofs.YtjboboaccjbebaaGreat
open Go.Shelf

def lenRen : Go.Shelf.Ren := ⟨fun | 125 => 119 | 128 => 134 | 129 => 135 | n => n, fun | 46 => 51 | 3 => 3 | 51 => 122 | 53 => 124 | 4 => 4 | 5 => 5 | 9 => 9 | n => n, fun | n => n⟩
theorem lenLays : Go.Proofs.Lays.n125 Tryz.prog lenRen := {
  mixed := by kernel_rfl
  f125 := Tryz.func119.trans (congrArg some (by kernel_rfl))
  f128 := Tryz.func134.trans (congrArg some (by kernel_rfl))
  f129 := Tryz.func135.trans (congrArg some (by kernel_rfl))
  t3 := Tryz.underlying3
  a3 := Tryz.isAgg3
  z3 := Tryz.sizeOf3
  v3 := Tryz.zeroValue3
  t4 := Tryz.underlying4
  a4 := Tryz.isAgg4
  z4 := Tryz.sizeOf4
  v4 := Tryz.zeroValue4
  t5 := Tryz.underlying5
  a5 := Tryz.isAgg5
  z5 := Tryz.sizeOf5
  v5 := Tryz.zeroValue5
  t9 := Tryz.underlying9
  a9 := Tryz.isAgg9
  z9 := Tryz.sizeOf9
  v9 := Tryz.zeroValue9
  t46 := Tryz.underlying51
  a46 := Tryz.isAgg51
  z46 := Tryz.sizeOf51
  v46 := Tryz.zeroValue51
  t51 := Tryz.underlying122
  a51 := Tryz.isAgg122
  z51 := Tryz.sizeOf122
  v51 := Tryz.zeroValue122
  t53 := Tryz.underlying124
  a53 := Tryz.isAgg124
  z53 := Tryz.sizeOf124
  v53 := Tryz.zeroValue124 }

/-- The bits of a number. -/
def wid (x : Nat) : Nat := Lib.bitLen x

theorem len_bits (x : Nat) (w : World) (h : x < 18446744073709551616) : Calls Tryz.prog 119 #[.int .u64 (x : Int)] w fun e w' => e = .returned (.int .i64 (wid x : Nat)) ∧ w = w' :=
  (Any.bits_Len lenLays (x : Int) w (by omega) (by omega)).mono fun _ _ ⟨he, hw⟩ => ⟨by rw [he, Int.toNat_natCast]; rfl, hw.symm⟩

theorem wid_zero : wid 0 = 0 := by decide
theorem wid_half (x : Nat) (h0 : x ≠ 0) (h : x < 18446744073709551616) : wid x = 1 + wid (x / 2) := Lib.bitLen_half x h0 h
theorem wid_le (x k : Nat) (hk : k ≤ 64) (h : x < 2 ^ k) : wid x ≤ k := Lib.bitLen_le x k hk h
/-- It lies just below that power of two. -/
theorem wid_spec : ∀ (k x : Nat), k ≤ 64 → x < 2 ^ k → x < 2 ^ wid x ∧ (0 < x → 2 ^ (wid x - 1) ≤ x ∧ 1 ≤ wid x) := by
  intro k
  induction k with
  | zero => intro x _ h; obtain rfl : x = 0 := by omega
            exact ⟨by rw [wid_zero]; omega, by omega⟩
  | succ k ih =>
    intro x hk h
    by_cases h0 : x = 0
    · subst h0
      exact ⟨by rw [wid_zero]; omega, by omega⟩
    · have hx : x < 18446744073709551616 := by
        have := Nat.pow_le_pow_right (n := 2) (by omega) hk
        omega
      have e := wid_half x h0 hx
      obtain ⟨h1, h2⟩ := ih (x / 2) (by omega) (by rw [Nat.pow_succ] at h; omega)
      rw [e]
      refine ⟨by rw [Nat.pow_add]; omega, fun _ => ⟨?_, by omega⟩⟩
      by_cases h3 : x / 2 = 0
      · rw [h3, wid_zero]; simp; omega
      · obtain ⟨h4, h5⟩ := h2 (by omega)
        obtain ⟨t, ht⟩ : ∃ t, wid (x / 2) = t + 1 := ⟨wid (x / 2) - 1, by omega⟩
        rw [ht] at h4 ⊢
        rw [show 1 + (t + 1) - 1 = (t + 1 - 1) + 1 from by omega, Nat.pow_succ]
        omega
theorem wid_lt (x : Nat) (h : x < 18446744073709551616) : x < 2 ^ wid x := (wid_spec 64 x (by omega) h).1
theorem wid_ge (x : Nat) (h : x < 18446744073709551616) (h0 : 0 < x) : 2 ^ (wid x - 1) ≤ x ∧ 1 ≤ wid x := (wid_spec 64 x (by omega) h).2 h0
theorem wid_max (x : Nat) (h : x < 18446744073709551616) : wid x ≤ 64 := wid_le x 64 (by omega) h
end Go.Proofs.YtjboboaccjbebaaGreat
/- Words on memory that the walks of this seat share: what a call may have touched ('Kept'), a block known whole ('Blk'), a slice that reads as a list ('IsL'). No program in sight but the numbers of a few types. -/
namespace Go.Proofs.YtjboboaccjbebaaGreat
open Go.RowKit

theorem hid {p : Prop} (h : p) : Hid p := h

/-- w' is w but for new blocks and for what stands in the blocks of S. -/
structure Kept (S : Nat → Prop) (w w' : World) : Prop where
  os : w'.os = w.os
  tape : w'.tape = w.tape
  output : w'.output = w.output
  size : w.heap.size ≤ w'.heap.size
  block : ∀ k, k < w.heap.size → ¬ S k → w'.heap[k]? = w.heap[k]?

section
variable {S T : Nat → Prop} {a b c w w' : World}
theorem Kept.refl (S : Nat → Prop) (w : World) : Kept S w w := ⟨rfl, rfl, rfl, Nat.le_refl _, fun _ _ _ => rfl⟩
theorem Kept.mono (h : Kept S a b) (hST : ∀ k, k < a.heap.size → S k → T k) : Kept T a b :=
  ⟨h.os, h.tape, h.output, h.size, fun k hk hn => h.block k hk fun hs => hn (hST k hk hs)⟩
theorem Kept.trans (h : Kept S a b) (k : Kept T b c) (hT : ∀ i, i < a.heap.size → T i → S i) : Kept S a c :=
  ⟨k.os.trans h.os, k.tape.trans h.tape, k.output.trans h.output, Nat.le_trans h.size k.size,
    fun i hi hn => (k.block i (Nat.lt_of_lt_of_le hi h.size) fun ht => hn (hT i hi ht)).trans (h.block i hi hn)⟩
theorem Kept.drew (h : Kept S a b) : Kept S a b.drew := ⟨h.os, h.tape, h.output, h.size, h.block⟩
theorem Kept.drewN (h : Kept S a b) (n : Nat) : Kept S a (b.drewN n) := ⟨h.os, h.tape, h.output, h.size, h.block⟩
theorem Kept.alloc (h : Kept S a b) (o : Obj) : Kept S a (b.alloc o) :=
  ⟨h.os, h.tape, h.output, Nat.le_trans h.size (by simp), fun i hi hn => (Below.heap_alloc b o i (Nat.lt_of_lt_of_le hi h.size)).trans (h.block i hi hn)⟩
theorem Kept.setCell (h : Kept S a b) {p : Addr} (hp : p.block < a.heap.size → S p.block) (u : Value) : Kept S a (b.setCell p u) :=
  ⟨h.os, h.tape, h.output, by simpa [World.setCell] using h.size, fun i hi hn => (Below.heap_setCell b p u i (by rintro rfl; exact hn (hp hi))).trans (h.block i hi hn)⟩
theorem Kept.grown {row : Option Nat} (h : Kept S a b) (hg : b.grownBy c row) (hr : ∀ k, row = some k → k < a.heap.size → S k) : Kept S a c :=
  ⟨hg.os.trans h.os, hg.tape.trans h.tape, hg.output.trans h.output, Nat.le_trans h.size hg.size,
    fun i hi hn => (hg.block i (Nat.lt_of_lt_of_le hi h.size) (fun e => hn (hr i e.symm hi))).trans (h.block i hi hn)⟩
theorem Kept.of_below {B : Nat} (h : Below B w w') (hS : ∀ k, k < w.heap.size → B ≤ k → S k) : Kept S w w' :=
  ⟨h.os, h.tape, h.output, h.size, fun k hk hn => h.block k (by
    rcases Nat.lt_or_ge k B with hlt | hge
    · exact hlt
    · exact absurd (hS k hk hge) hn)⟩
theorem Kept.of_below' (h : Below w.heap.size w w') : Kept S w w' := Kept.of_below h fun k h1 h2 => by omega
theorem Kept.below {B : Nat} (h : Kept S w w') (hB : B ≤ w.heap.size) (hS : ∀ k, k < B → ¬ S k) : Below B w w' :=
  ⟨h.os, h.tape, h.output, h.size, fun k hk => h.block k (by omega) (hS k hk)⟩
theorem Kept.then_below (h : Kept S a b) (k : Below b.heap.size b c) : Kept S a c := h.trans (Kept.of_below' (S := fun _ => False) k) fun _ _ h => h.elim
theorem Kept.after {B : Nat} (h : Below B a b) (hB : B ≤ a.heap.size) (k : Kept S b c) (hS : ∀ i, S i → B ≤ i) : Below B a c :=
  h.trans (k.below (Nat.le_trans hB h.size) fun i hi hs => by have := hS i hs; omega)
theorem Kept.cell (h : Kept S w w') {p : Addr} (hp : p.block < w.heap.size) (hn : ¬ S p.block) : w'.cell? p = w.cell? p := World.cell?_of_block (w := w) (h.block p.block hp hn)
theorem Kept.frozen (h : Kept S w w') {p : Addr} (hp : p.block < w.heap.size) (hn : ¬ S p.block) : w'.frozen? p = w.frozen? p := World.frozen?_of_block (w := w) (h.block p.block hp hn)
end

/-- Block g is just the cells cs, of element type t, none of them frozen. -/
def Blk (w : World) (g : Nat) (t : TypeId) (cs : Array Value) : Prop := w.heap[g]? = some (.cells cs t (0, 0))

section
variable {w w' : World} {g : Nat} {t : TypeId} {cs : Array Value}
theorem Blk.lt (h : Blk w g t cs) : g < w.heap.size := by
  rcases Nat.lt_or_ge g w.heap.size with hlt | hge
  · exact hlt
  · unfold Blk at h; rw [Array.getElem?_eq_none hge] at h; cases h
theorem Blk.cell (h : Blk w g t cs) (i : Nat) : w.cell? ⟨g, i, none⟩ = cs[i]? := cell_of_row w g i cs t (0, 0) h
theorem Blk.frozen (h : Blk w g t cs) (i : Nat) : w.frozen? ⟨g, i, none⟩ = false := by
  unfold Blk at h
  simp [World.frozen?, h]
theorem Blk.new (w : World) (t : TypeId) (cs : Array Value) : Blk (w.alloc (.cells cs t)) w.heap.size t cs := heap_alloc_new w _
theorem Blk.drew (h : Blk w g t cs) : Blk w.drew g t cs := h
theorem Blk.drewN (h : Blk w g t cs) (n : Nat) : Blk (w.drewN n) g t cs := h
theorem Blk.alloc (h : Blk w g t cs) (o : Obj) : Blk (w.alloc o) g t cs := (Below.heap_alloc w o g h.lt).trans h
theorem Blk.upd (h : Blk w g t cs) (i : Nat) (u : Value) : Blk (w.setCell ⟨g, i, none⟩ u) g t (cs.setIfInBounds i u) := by
  unfold Blk at h ⊢
  simp [World.setCell, Array.getElem?_modify, h]
theorem Blk.far (h : Blk w g t cs) {p : Addr} (hp : g ≠ p.block) (u : Value) : Blk (w.setCell p u) g t cs := (Below.heap_setCell w p u g hp).trans h
theorem Blk.kept {S : Nat → Prop} (h : Blk w g t cs) (hk : Kept S w w') (hg : ¬ S g) : Blk w' g t cs := (hk.block g h.lt hg).trans h
theorem Blk.grown {row : Option Nat} (h : Blk w g t cs) (hb : w.grownBy w' row) (hg : row ≠ some g) : Blk w' g t cs := (hb.block g h.lt (fun e => hg e.symm)).trans h
theorem Blk.ne_ {g' : Nat} {t' : TypeId} {cs' : Array Value} (h : Blk w g t cs) (h' : Blk w g' t' cs') (hne : t ≠ t') : g ≠ g' := by
  rintro rfl
  unfold Blk at h h'
  rw [h] at h'
  injection h' with h'
  injection h' with _ ht
  exact hne ht
theorem own_ne {base : Nat} {e : TypeId} {size n : Nat} {v : Value} {xs : List Value} (h : w.ownsRow base e size v n xs) (hg : Blk w g t cs) (hne : e ≠ t) : v.ownBlock ≠ some g := by
  rcases h.2 with ⟨rfl, _⟩ | ⟨g', cap, cur, rfl, _, hh, _⟩
  · simp [Value.ownBlock]
  · intro he
    have : g' = g := by simpa [Value.ownBlock] using he
    subst this
    exact Blk.ne_ (t := e) hh hg hne rfl
end

section
variable {w w' : World} {base : Nat} {e : TypeId} {size n : Nat} {v : Value} {xs : List Value}
theorem own_of_heap (h : w.ownsRow base e size v n xs) (hk : ∀ g, v.ownBlock = some g → w'.heap[g]? = w.heap[g]?) : w'.ownsRow base e size v n xs := by
  refine ⟨h.1, ?_⟩
  rcases h.2 with h2 | ⟨g, cap, cur, rfl, hg, hh, r⟩
  · exact .inl h2
  · exact .inr ⟨g, cap, cur, rfl, hg, (hk g rfl).trans hh, r⟩
theorem own_setCell (h : w.ownsRow base e size v n xs) {p : Addr} (hp : v.ownBlock ≠ some p.block) (u : Value) : (w.setCell p u).ownsRow base e size v n xs :=
  own_of_heap h fun g hg => Below.heap_setCell w p u g (by rintro rfl; exact hp hg)
theorem own_drew (h : w.ownsRow base e size v n xs) : w.drew.ownsRow base e size v n xs := own_of_heap h fun _ _ => rfl
theorem own_kept {S : Nat → Prop} (h : w.ownsRow base e size v n xs) (hk : Kept S w w') (hS : ∀ g, v.ownBlock = some g → ¬ S g) : w'.ownsRow base e size v n xs :=
  own_of_heap h fun g hg => hk.block g (h.lt g hg).2 (hS g hg)
end

theorem block_of_add (a : Addr) (n : Nat) : (a.add n).block = a.block := by unfold Addr.add; split <;> rfl
theorem add_zero (a : Addr) : a.add 0 = a := by unfold Addr.add; simp
theorem add_of_add (a : Addr) (i j : Nat) : (a.add i).add j = a.add (i + j) := by
  unfold Addr.add
  by_cases hi : i = 0 <;> by_cases hj : j = 0 <;> simp [hi, hj, Nat.add_assoc]

/-- The slice v reads as the list xs: nil, or a row of cells. -/
def Sl (w : World) (v : Value) (xs : List Value) : Prop :=
  (v = .slice none 0 0 ∧ xs = []) ∨ ∃ ad c, v = .slice (some ad) xs.length c ∧ xs.length ≤ c ∧ c ≤ maxLen ∧ ∀ j u, xs[j]? = some u → w.cell? (ad.add j) = some u

section
variable {w w' : World} {v : Value} {xs : List Value}
theorem Sl.nil_ (w : World) : Sl w (.slice none 0 0) [] := .inl ⟨rfl, rfl⟩
theorem Sl.form (h : Sl w v xs) : ∃ A c, v = .slice A xs.length c ∧ xs.length ≤ c := by
  rcases h with ⟨rfl, rfl⟩ | ⟨ad, c, rfl, hc, _⟩
  · exact ⟨none, 0, rfl, Nat.le_refl _⟩
  · exact ⟨some ad, c, rfl, hc⟩
theorem Sl.max (h : Sl w v xs) : xs.length ≤ 9223372036854775807 := by
  rcases h with ⟨rfl, rfl⟩ | ⟨ad, c, rfl, hc, hm, _⟩
  · simp
  · unfold maxLen at hm; omega
theorem Sl.at_ {A : Option Addr} {n c k : Nat} (h : Sl w (.slice A n c) xs) (hk : k < xs.length) : ∃ ad, A = some ad ∧ w.cell? (ad.add k) = some xs[k] := by
  rcases h with ⟨_, rfl⟩ | ⟨ad, c', e, _, _, hc⟩
  · simp at hk
  · injection e with e1 e2 e3
    exact ⟨ad, e1, hc k _ (List.getElem?_eq_getElem hk)⟩
theorem Sl.block_lt (h : Sl w v xs) (h0 : xs ≠ []) : ∃ g, v.ownBlock = some g ∧ g < w.heap.size := by
  rcases h with ⟨_, rfl⟩ | ⟨ad, c', rfl, _, _, hc⟩
  · exact absurd rfl h0
  · refine ⟨ad.block, rfl, ?_⟩
    have hl : 0 < xs.length := List.length_pos_iff.2 h0
    have := World.block_lt_of_cell? w _ (hc 0 _ (List.getElem?_eq_getElem hl))
    rwa [block_of_add] at this
theorem Sl.of_cells (h : Sl w v xs) (hk : ∀ q : Addr, v.ownBlock = some q.block → q.block < w.heap.size → w'.cell? q = w.cell? q) : Sl w' v xs := by
  rcases h with h | ⟨ad, c, rfl, hc, hm, hcell⟩
  · exact .inl h
  · refine .inr ⟨ad, c, rfl, hc, hm, fun j u hu => ?_⟩
    have h0 := hcell j u hu
    rw [hk _ (by rw [block_of_add]; rfl) (World.block_lt_of_cell? w _ h0)]
    exact h0
theorem Sl.kept {S : Nat → Prop} (h : Sl w v xs) (hk : Kept S w w') (hS : ∀ g, v.ownBlock = some g → ¬ S g) : Sl w' v xs :=
  h.of_cells fun _ hp hl => hk.cell hl (hS _ hp)
theorem Sl.below (h : Sl w v xs) (hk : Below w.heap.size w w') : Sl w' v xs := h.kept (Kept.of_below' (S := fun _ => False) hk) fun _ _ => id
/-- Old memory: what stood below B when the world was w0 stands there. -/
theorem Sl.old {w0 : World} (h : Sl w0 v xs) (hk : Below w0.heap.size w0 w') : Sl w' v xs := h.below hk
theorem Sl.drew (h : Sl w v xs) : Sl w.drew v xs := h.of_cells fun _ _ _ => rfl
theorem Sl.drewN (h : Sl w v xs) (n : Nat) : Sl (w.drewN n) v xs := h.of_cells fun _ _ _ => rfl
theorem Sl.alloc (h : Sl w v xs) (o : Obj) : Sl (w.alloc o) v xs := h.of_cells fun p _ hl => World.cell?_alloc_lt w o p hl
theorem Sl.setCell (h : Sl w v xs) {p : Addr} (hp : v.ownBlock ≠ some p.block) (u : Value) : Sl (w.setCell p u) v xs :=
  h.of_cells fun q hq _ => World.cell?_setCell_other w p q u (fun e => by subst e; exact hp hq)
theorem Sl.grown {row : Option Nat} (h : Sl w v xs) (hg : w.grownBy w' row) (hr : v.ownBlock = none ∨ v.ownBlock ≠ row) : Sl w' v xs :=
  h.of_cells fun p hp hl => World.cell?_of_block (hg.block p.block hl (fun e => by
    rcases hr with hr | hr
    · rw [hr] at hp; cases hp
    · exact hr (hp.trans e)))
theorem Sl.of_own {base : Nat} {e : TypeId} {n : Nat} (h : w.ownsRow base e 1 v n xs) : Sl w v xs := by
  have hl : xs.length = n := by have := h.1; omega
  rcases h.2 with ⟨rfl, h2⟩ | ⟨g, cap, cur, rfl, _, _, h1, h3, _⟩
  · exact .inl ⟨rfl, List.eq_nil_of_length_eq_zero (by omega)⟩
  · subst hl
    exact .inr ⟨⟨g, 0, none⟩, cap, rfl, h1, h3, h.cells (g := g) rfl⟩
end
/-- A row that was just made, filled: the call owns it. -/
theorem own_of_blk {w : World} {g : Nat} {e : TypeId} {cs : Array Value} {n c : Nat} {xs : List Value} (h : Blk w g e cs) (hn : n ≤ c) (hm : c ≤ maxLen) (hc : cs.size = c) (hx : cs.toList.take n = xs) (hl : xs.length = n) :
    w.ownsRow 0 e 1 (.slice (some ⟨g, 0, none⟩) n c) n xs :=
  ⟨by omega, .inr ⟨g, c, cs, rfl, Nat.zero_le _, h, hn, hm, by omega, by simpa using hx⟩⟩
theorem below_undrew {B : Nat} {w w' : World} (h : Below B w.drew w') : Below B w w' := ⟨h.os, h.tape, h.output, h.size, h.block⟩
theorem below_undrewN {B n : Nat} {w w' : World} (h : Below B (w.drewN n) w') : Below B w w' := ⟨h.os, h.tape, h.output, h.size, h.block⟩
theorem below_drewN' {B : Nat} {a w : World} (h : Below B a w) (n : Nat) : Below B a (w.drewN n) := ⟨h.os, h.tape, h.output, h.size, h.block⟩
theorem Kept.undrew {S : Nat → Prop} {w w' : World} (h : Kept S w.drew w') : Kept S w w' := ⟨h.os, h.tape, h.output, h.size, h.block⟩
theorem Kept.undrewN {S : Nat → Prop} {n : Nat} {w w' : World} (h : Kept S (w.drewN n) w') : Kept S w w' := ⟨h.os, h.tape, h.output, h.size, h.block⟩
end Go.Proofs.YtjboboaccjbebaaGreat
/- Layer 1 and its reference: numbers that are held, clamped, rounded; powers of two. -/
namespace Go.Proofs.YtjboboaccjbebaaGreat
open Go.RowKit

theorem i64_and1 (n : Int) : bits .and .i64 n 1 = n % 2 := by
  have h1 : (BitVec.ofInt 64 1).toNat = 2 ^ 1 - 1 := by decide
  have key : (BitVec.ofInt 64 n &&& BitVec.ofInt 64 1).toNat = (n % ((2 ^ 64 : Nat) : Int)).toNat % 2 ^ 1 := by
    rw [BitVec.toNat_and, BitVec.toNat_ofInt, h1, Nat.and_two_pow_sub_one_eq_mod]
  show IntKind.i64.wrap ((BitVec.ofInt 64 n &&& BitVec.ofInt 64 1).toNat : Nat) = n % 2
  rw [key, IntKind.wrap_i64]
  omega

/-- A number held. -/
def holdI (x : Int) : Int := min (max x (-4611686018427387904)) 4611686018427387904
theorem holdI_bd (x : Int) : -4611686018427387904 ≤ holdI x ∧ holdI x ≤ 4611686018427387904 := by unfold holdI; omega
theorem holdI_id (x : Int) (h : -4611686018427387904 ≤ x) (h' : x ≤ 4611686018427387904) : holdI x = x := by unfold holdI; omega
/-- A number between two others. -/
def clampI (x lo hi : Int) : Int := if x < lo ∨ hi < lo then lo else if hi < x then hi else x
theorem clampI_bd (x lo hi : Int) (h : lo ≤ hi) : lo ≤ clampI x lo hi ∧ clampI x lo hi ≤ hi := by
  unfold clampI
  split
  · omega
  · split <;> omega
theorem clampI_id (x lo hi : Int) (h : lo ≤ x) (h' : x ≤ hi) : clampI x lo hi = x := by
  unfold clampI
  rw [if_neg (by omega), if_neg (by omega)]

theorem hold_any (x : Int) (w : World) : Calls Tryz.prog 35 #[.int .i64 x] w fun e w' => e = .returned (.int .i64 (holdI x)) ∧ w = w' := by
  go_enter Tryz.func35, Tryz.ntmps35
  go_wp2_with fail
  go_ret
  exact ⟨rfl, rfl⟩

theorem clamp_any (x lo hi : Int) (w : World) : Calls Tryz.prog 132 #[.int .i64 x, .int .i64 lo, .int .i64 hi] w fun e w' => e = .returned (.int .i64 (clampI x lo hi)) ∧ w = w' := by
  by_cases h1 : x < lo
  · have e : clampI x lo hi = lo := by unfold clampI; rw [if_pos (.inl h1)]
    rw [e]
    clear e
    go_enter Tryz.func132, Tryz.ntmps132
    go_wp2_with fail
    go_ret
    exact ⟨rfl, rfl⟩
  by_cases h2 : hi < lo
  · have e : clampI x lo hi = lo := by unfold clampI; rw [if_pos (.inr h2)]
    rw [e]
    clear e
    go_enter Tryz.func132, Tryz.ntmps132
    go_wp2_with fail
    go_ret
    exact ⟨rfl, rfl⟩
  by_cases h3 : hi < x
  · have e : clampI x lo hi = hi := by unfold clampI; rw [if_neg (by omega), if_pos h3]
    rw [e]
    clear e
    go_enter Tryz.func132, Tryz.ntmps132
    go_wp2_with fail
    go_ret
    exact ⟨rfl, rfl⟩
  · have e : clampI x lo hi = x := by unfold clampI; rw [if_neg (by omega), if_neg h3]
    rw [e]
    clear e
    go_enter Tryz.func132, Tryz.ntmps132
    go_wp2_with fail
    go_ret
    exact ⟨rfl, rfl⟩

/-- A number without its lowest n bits, to the next one; 1 ≤ n. -/
def rnd (a : Int) (n : Nat) : Int := a / 2 ^ (n - 1) / 2 + a / 2 ^ (n - 1) % 2

theorem pow_pos_int (n : Nat) : (0 : Int) < 2 ^ n := Int.pow_pos (by decide)
theorem rnd_bd (a b : Int) (n : Nat) (h : -b ≤ a) (h' : a ≤ b) (hb : 0 ≤ b) : -b ≤ rnd a n ∧ rnd a n ≤ b := by
  unfold rnd
  have hp := pow_pos_int (n - 1)
  have e1 : -b ≤ a / 2 ^ (n - 1) := by
    refine (Int.le_ediv_iff_mul_le hp).2 ?_
    have : b * 1 ≤ b * 2 ^ (n - 1) := Int.mul_le_mul_of_nonneg_left (by omega) hb
    rw [Int.neg_mul]
    omega
  have e2 : a / 2 ^ (n - 1) ≤ b := by
    by_cases h0 : a < 0
    · have : a / 2 ^ (n - 1) < 0 := Int.ediv_neg_of_neg_of_pos h0 hp
      omega
    · exact Int.le_trans (Int.ediv_le_self _ (by omega)) h'
  omega

theorem tdiv_bd (a b : Int) (hb : 1 ≤ b) (ha : a < 0) : a ≤ a.tdiv b ∧ a.tdiv b ≤ 0 ∧ a.tmod b ≤ 0 ∧ -b < a.tmod b := by
  obtain ⟨c, rfl⟩ : ∃ c, a = -c := ⟨-a, by omega⟩
  rw [Int.neg_tdiv, Int.neg_tmod, Int.tdiv_eq_ediv_of_nonneg (by omega), Int.tmod_eq_emod_of_nonneg (by omega)]
  have h1 := Int.emod_nonneg c (show b ≠ 0 by omega)
  have h2 := Int.emod_lt_of_pos c (show 0 < b by omega)
  have h3 := Int.ediv_le_self b (show 0 ≤ c by omega)
  have h4 := Int.ediv_nonneg (show 0 ≤ c by omega) (show 0 ≤ b by omega)
  omega

theorem pow_le_int {k n : Nat} (h : k ≤ n) : (2 : Int) ^ k ≤ 2 ^ n := by
  have := Nat.pow_le_pow_right (n := 2) (by omega) h
  have e1 : ((2 ^ k : Nat) : Int) = 2 ^ k := by simp
  have e2 : ((2 ^ n : Nat) : Int) = 2 ^ n := by simp
  omega
theorem pow_succ_int (k : Nat) : (2 : Int) ^ (k + 1) = 2 * 2 ^ k := by rw [Int.pow_succ]; omega

theorem power_any (n : Nat) (w : World) (hn : n ≤ 62) : Calls Tryz.prog 60 #[.int .i64 (n : Int)] w fun e w' => e = .returned (.int .i64 (2 ^ n)) ∧ w = w' := by
  go_enter Tryz.func60, Tryz.ntmps60
  go_wp2_with fail
  go_loop [3, 4] (fun p i => ∃ (k : Nat) (q : Int), k ≤ n ∧ i = .int .i64 k ∧ p = .int .i64 q ∧ q = 2 ^ k) (fun _ i => n - (intOf i).toNat)
  case atStart => exact ⟨0, 1, by omega, rfl, rfl, by simp⟩
  case round =>
    obtain ⟨k, q, hk, rfl, rfl, hq⟩ := hrel
    by_cases hkn : k < n
    · have h1 : (k : Int) < n := by omega
      have h2 : (k : Int) < 62 := by omega
      have h3 : q ≤ 2 ^ 61 := by rw [hq]; exact pow_le_int (by omega)
      have h3' : q ≤ 2305843009213693952 := h3
      have h4 : 0 ≤ q := by rw [hq]; exact Int.le_of_lt (pow_pos_int k)
      have HQ := hid hq
      clear hq h3
      go_wp2_with fail
      go_round
      case rel => exact ⟨k + 1, _, by omega, by go_num, rfl, by rw [HQ.out, pow_succ_int]⟩
      case measure => simp [intOf]; omega
    · have h1 : ¬ (k : Int) < n := by omega
      obtain rfl : k = n := by omega
      have HQ := hid hq
      clear hq
      go_wp2_with fail
      go_ret
      exact ⟨by rw [← HQ.out]; rfl, rfl⟩

theorem power_at (xi : Int) (n : Nat) (hx : xi = (n : Int)) (w : World) (hn : n ≤ 62) : Calls Tryz.prog 60 #[.int .i64 xi] w fun e w' => e = .returned (.int .i64 (2 ^ n)) ∧ w = w' := by
  subst hx
  exact power_any n w hn

theorem floor_neg (a b : Int) (hb : 1 ≤ b) (ha : a < 0) : a / b = if a.tmod b = 0 then a.tdiv b else a.tdiv b - 1 := by
  have h1 := Int.mul_tdiv_add_tmod a b
  have h2 : a.tmod b ≤ 0 := (tdiv_bd a b hb ha).2.2.1
  have h3 : -b < a.tmod b := (tdiv_bd a b hb ha).2.2.2
  split
  · next h0 =>
    rw [h0] at h1
    have e : a = b * a.tdiv b := by omega
    conv => lhs; rw [e]
    exact Int.mul_ediv_cancel_left _ (by omega)
  · next h0 =>
    have e : a = (a.tmod b + b) + b * (a.tdiv b - 1) := by rw [Int.mul_sub]; omega
    conv => lhs; rw [e]
    rw [Int.add_mul_ediv_left _ _ (by omega), Int.ediv_eq_zero_of_lt (by omega) (by omega)]
    omega

theorem mod_neg (a b : Int) (hb : 1 ≤ b) (ha : a < 0) : a % b = if a.tmod b < 0 then a.tmod b + b else a.tmod b := by
  have h1 := Int.mul_tdiv_add_tmod a b
  obtain ⟨_, _, h2, h3⟩ := tdiv_bd a b hb ha
  have e : a % b = a.tmod b % b := by
    conv => lhs; rw [← h1]
    rw [Int.add_comm, Int.add_mul_emod_self_left]
  rw [e]
  split
  · rw [← Int.add_emod_right, Int.emod_eq_of_lt (by omega) (by omega)]
  · have e0 : a.tmod b = 0 := by omega
    rw [e0]; rfl

/-- Rounding, the two ways. -/
theorem rnd_ref (a : Int) (m : Nat) : rnd a (m + 1) = if 2 ^ m ≤ a % 2 ^ (m + 1) then a / 2 ^ (m + 1) + 1 else a / 2 ^ (m + 1) := by
  unfold rnd
  simp only [Nat.add_sub_cancel]
  have hp := pow_pos_int m
  have e1 : a / 2 ^ (m + 1) = a / 2 ^ m / 2 := by rw [Int.pow_succ, Int.ediv_ediv_of_nonneg (by omega)]
  have h1 := Int.mul_ediv_add_emod a (2 ^ m)
  have h2 := Int.emod_nonneg a (show (2 : Int) ^ m ≠ 0 by omega)
  have h3 := Int.emod_lt_of_pos a hp
  have h4 := Int.mul_ediv_add_emod a (2 ^ (m + 1))
  rw [pow_succ_int] at h4
  rw [pow_succ_int] at e1 ⊢
  rw [e1] at h4 ⊢
  generalize a / 2 ^ m = h at *
  generalize (2 : Int) ^ m = p at *
  generalize a % (2 * p) = r at *
  generalize a % p = t at *
  have e2 : h = 2 * (h / 2) + h % 2 := by omega
  have e3 : p * (2 * (h / 2) + h % 2) = 2 * p * (h / 2) + p * (h % 2) := by rw [Int.mul_add, ← Int.mul_assoc, Int.mul_comm p 2]
  rw [← e2] at e3
  rcases (show h % 2 = 0 ∨ h % 2 = 1 by omega) with e | e
  · rw [e] at e3 ⊢
    rw [if_neg (by omega)]
    omega
  · rw [e] at e3 ⊢
    rw [if_pos (by omega)]

end Go.Proofs.YtjboboaccjbebaaGreat
/- append of one number onto a slice of the call's own, at a plain operation and at a step of a region that draws: bytes, ints, uints. -/
namespace Go.Proofs.YtjboboaccjbebaaGreat
open Go.RowKit

theorem Tryz.info_u8 : (Tryz.prog.info? 5).map (fun i => (i.zero, i.size, i.bytes)) = some (some (.int .u8 0), 1, 1) := by kernel_rfl
theorem Tryz.info_int : (Tryz.prog.info? 3).map (fun i => (i.zero, i.size, i.bytes)) = some (some (.int .i64 0), 1, 8) := by kernel_rfl

def u8s (F : List Nat) : List Value := F.map fun (x : Nat) => Value.int .u8 (x : Int)
def i64s (F : List Int) : List Value := F.map (Value.int .i64)
theorem u8s_length (F : List Nat) : (u8s F).length = F.length := by simp [u8s]
theorem i64s_length (F : List Int) : (i64s F).length = F.length := by simp [i64s]
theorem u8s_app (F G : List Nat) : u8s (F ++ G) = u8s F ++ u8s G := by simp [u8s]
theorem i64s_app (F G : List Int) : i64s (F ++ G) = i64s F ++ i64s G := by simp [i64s]

section
variable {P : Program} (w : World)
theorem one_news {a : Addr} {u : Value} (hc : w.cell? a = some u) : ∀ j x, [u][j]? = some x → w.cell? (a.add j) = some x := by
  intro j x hj
  match j, hj with
  | 0, hj =>
    simp at hj
    subst hj
    simpa [Addr.add] using hc

theorem step_app1 {ops : Array Oper} {o : Oper} {a : Act} {K : Act → World → Prop} {Q : Exit → Act → World → Prop} {E : Prop} (hgd : o.guard = none) (s x : Operand) (t : TypeId)
    (ho : o.op = .call { callee := .builtin .append, args := #[s, x], argTypes := #[t, t] })
    (e : TypeId) (k : IntKind) (bytes : Nat) (ht : P.underlying t = some (.slice e)) (hinfo : (P.info? e).map (fun i => (i.zero, i.size, i.bytes)) = some (some (.int k 0), 1, bytes))
    (v : Value) (xs : List Value) (n : Nat) (hs : a.eval s = v) (hown : w.ownsRow 0 e 1 v n xs)
    (ad : Addr) (X : Int) (hx : a.eval x = .slice (some ad) 1 1) (hc : w.cell? ad = some (.int k X)) (hb : bytes ≤ 8) (hn : n ≤ 17179869184) (H : Nat) (hH : w.heap.size = H)
    (h : ∀ g cap w', w'.ownsRow 0 e 1 (.slice (some ⟨g, 0, none⟩) (n + 1) cap) (n + 1) (xs ++ [.int k X]) → w.grownBy w' v.ownBlock → (v.ownBlock = some g ∨ g = H) → g < w'.heap.size → K (a.put o.dst (.slice (some ⟨g, 0, none⟩) (n + 1) cap)) w') :
    if Region.wanted o (yielded ops a.tmps) = true then Oper.wp P o a w K Q else E := by
  obtain ⟨i0, hi, hz0, hz1, hz2⟩ := info_parts hinfo
  have h1 : n + 1 ≤ maxLen := by unfold maxLen; omega
  have h2 : (n + 1) * bytes ≤ 140737488355328 := by
    have : (n + 1) * bytes ≤ (n + 1) * 8 := Nat.mul_le_mul_left _ hb
    omega
  exact step_append_lies w hgd s x t ho 0 e i0 (.int k 0) 1 bytes ht hi hz0 hz1 hz2 rfl (by decide) v n xs hs hown ad 1 1 [.int k X] hx rfl (one_news w hc) (by intro u hu; simp at hu; subst hu; rfl) (by decide) h1 h2 (Nat.zero_le _) H hH h

theorem wpList_app1 {ops : Array Oper} {rest : List Oper} {o : Oper} {a : Act} {Q : Exit → Act → World → Prop} (hgd : o.guard = none) (s x : Operand) (t : TypeId)
    (ho : o.op = .call { callee := .builtin .append, args := #[s, x], argTypes := #[t, t] })
    (e : TypeId) (k : IntKind) (bytes : Nat) (ht : P.underlying t = some (.slice e)) (hinfo : (P.info? e).map (fun i => (i.zero, i.size, i.bytes)) = some (some (.int k 0), 1, bytes))
    (v : Value) (xs : List Value) (n : Nat) (hs : a.eval s = v) (hown : w.ownsRow 0 e 1 v n xs)
    (ad : Addr) (X : Int) (hx : a.eval x = .slice (some ad) 1 1) (hc : w.cell? ad = some (.int k X)) (hb : bytes ≤ 8) (hn : n ≤ 17179869184) (H : Nat) (hH : w.heap.size = H)
    (h : ∀ g cap w', w'.ownsRow 0 e 1 (.slice (some ⟨g, 0, none⟩) (n + 1) cap) (n + 1) (xs ++ [.int k X]) → w.grownBy w' v.ownBlock → (v.ownBlock = some g ∨ g = H) → g < w'.heap.size → wpList P ops Q rest (a.put o.dst (.slice (some ⟨g, 0, none⟩) (n + 1) cap)) w') :
    wpList P ops Q (o :: rest) a w := by
  obtain ⟨i0, hi, hz0, hz1, hz2⟩ := info_parts hinfo
  have h1 : n + 1 ≤ maxLen := by unfold maxLen; omega
  have h2 : (n + 1) * bytes ≤ 140737488355328 := by
    have : (n + 1) * bytes ≤ (n + 1) * 8 := Nat.mul_le_mul_left _ hb
    omega
  exact wpList_append_lies w hgd s x t ho 0 e i0 (.int k 0) 1 bytes ht hi hz0 hz1 hz2 rfl (by decide) v n xs hs hown ad 1 1 [.int k X] hx rfl (one_news w hc) (by intro u hu; simp at hu; subst hu; rfl) (by decide) h1 h2 (Nat.zero_le _) H hH h

/-- The slice v' lies where v lay, or in new memory. -/
def Moved (w : World) (v v' : Value) : Prop := v'.ownBlock = v.ownBlock ∨ ∃ g, v'.ownBlock = some g ∧ w.heap.size ≤ g

theorem run_app_nil (t ty e : TypeId) (i : TypeInfo) (size : Nat) (ht : P.underlying t = some (.slice e)) (hi : P.info? e = some i)
    (v : Value) (n : Nat) (xs : List Value) (hown : w.ownsRow 0 e size v n xs) : (Builtin.append_ #[t, t] ty #[v, .slice none 0 0]).run P w = .ok v w := by
  rcases hown.2 with ⟨rfl, rfl⟩ | ⟨g, cap, cur, rfl, _, _, hnc, _⟩
  · simp [Builtin.append_, run_underlying ht, sizeOf, typeInfo, hi, Builtin.lenOf, Builtin.firstCells]
  · simp [Builtin.append_, run_underlying ht, sizeOf, typeInfo, hi, Builtin.lenOf, Builtin.firstCells, hnc, storeCells]

theorem run_app (t ty e : TypeId) (ht : P.underlying t = some (.slice e)) (k : IntKind) (bytes : Nat) (hinfo : (P.info? e).map (fun i => (i.zero, i.size, i.bytes)) = some (some (.int k 0), 1, bytes))
    (v : Value) (n : Nat) (xs : List Value) (hown : w.ownsRow 0 e 1 v n xs) (s : Value) (ys : List Value) (hy : Sl w s ys) (h1 : ∀ u ∈ ys, u.oneCell' = true) (hb : bytes ≤ 8) (hn : n + ys.length ≤ 17179869184) :
    ∃ v' w', (Builtin.append_ #[t, t] ty #[v, s]).run P w = .ok v' w' ∧ w'.ownsRow 0 e 1 v' (n + ys.length) (xs ++ ys) ∧ w.grownBy w' v.ownBlock ∧ Moved w v v' := by
  obtain ⟨i0, hi, hz0, hz1, hz2⟩ := info_parts hinfo
  have g1 : n + ys.length ≤ maxLen := by unfold maxLen; omega
  have g2 : (n + ys.length) * bytes ≤ 140737488355328 := by
    have : (n + ys.length) * bytes ≤ (n + ys.length) * 8 := Nat.mul_le_mul_left _ hb
    omega
  rcases hy with ⟨rfl, rfl⟩ | ⟨ad, c, rfl, hc, _, hcell⟩
  · exact ⟨v, w, run_app_nil w t ty e i0 1 ht hi v n xs hown, by simpa using hown, ⟨rfl, rfl, rfl, Nat.le_refl _, fun _ _ _ => rfl⟩, .inl rfl⟩
  · obtain ⟨v', w', hr, h2, h3, _, h5⟩ := run_append_own_at (P := P) w 0 t ty e i0 (.int k 0) 1 bytes ht hi hz0 hz1 hz2 rfl (by decide) v n xs hown ad ys.length c ys (by simp) hcell h1 g1 g2 (Nat.zero_le _)
    refine ⟨v', w', hr, h2, h3, ?_⟩
    rcases h5 with h5 | h5
    · exact .inl h5
    · exact .inr ⟨_, h5, Nat.le_refl _⟩

theorem wp_app {o : Oper} {a : Act} {K : Act → World → Prop} {Q : Exit → Act → World → Prop} (s x : Operand) (t : TypeId)
    (ho : o.op = .call { callee := .builtin .append, args := #[s, x], argTypes := #[t, t] })
    (e : TypeId) (k : IntKind) (bytes : Nat) (ht : P.underlying t = some (.slice e)) (hinfo : (P.info? e).map (fun i => (i.zero, i.size, i.bytes)) = some (some (.int k 0), 1, bytes))
    (v : Value) (n : Nat) (xs : List Value) (hs : a.eval s = v) (hown : w.ownsRow 0 e 1 v n xs) (y : Value) (ys : List Value) (hx : a.eval x = y) (hy : Sl w y ys) (h1 : ∀ u ∈ ys, u.oneCell' = true) (hb : bytes ≤ 8) (hn : n + ys.length ≤ 17179869184)
    (h : ∀ v' w', w'.ownsRow 0 e 1 v' (n + ys.length) (xs ++ ys) → w.grownBy w' v.ownBlock → Moved w v v' → K (a.put o.dst v') w') : o.wp P a w K Q := by
  obtain ⟨v', w', hr, h2, h3, h4⟩ := run_app (P := P) w t o.type e ht k bytes hinfo v n xs hown y ys hy h1 hb hn
  unfold Oper.wp execOp
  simp only [ho, resolve, invoke, builtin, Sem.run_bind, Sem.run_pure, Result.andThen_ok, List.map_toArray, List.map_cons, List.map_nil, hs, hx, hr]
  exact h v' w' h2 h3 h4

/-- append of a whole slice onto one of the call's own, at a plain operation. -/
theorem wpList_app {ops : Array Oper} {rest : List Oper} {o : Oper} {a : Act} {Q : Exit → Act → World → Prop} (hgd : o.guard = none) (s x : Operand) (t : TypeId)
    (ho : o.op = .call { callee := .builtin .append, args := #[s, x], argTypes := #[t, t] })
    (e : TypeId) (k : IntKind) (bytes : Nat) (ht : P.underlying t = some (.slice e)) (hinfo : (P.info? e).map (fun i => (i.zero, i.size, i.bytes)) = some (some (.int k 0), 1, bytes))
    (v : Value) (n : Nat) (xs : List Value) (hs : a.eval s = v) (hown : w.ownsRow 0 e 1 v n xs) (y : Value) (ys : List Value) (hx : a.eval x = y) (hy : Sl w y ys) (h1 : ∀ u ∈ ys, u.oneCell' = true) (hb : bytes ≤ 8) (hn : n + ys.length ≤ 17179869184)
    (h : ∀ v' w', w'.ownsRow 0 e 1 v' (n + ys.length) (xs ++ ys) → w.grownBy w' v.ownBlock → Moved w v v' → wpList P ops Q rest (a.put o.dst v') w') : wpList P ops Q (o :: rest) a w :=
  wpList_plain hgd fun _ hK => wp_app w s x t ho e k bytes ht hinfo v n xs hs hown y ys hx hy h1 hb hn fun v' w' h2 h3 h4 => hK _ _ (h v' w' h2 h3 h4)

/-- The same, at a step of a region that draws. -/
theorem step_app {ops : Array Oper} {o : Oper} {a : Act} {K : Act → World → Prop} {Q : Exit → Act → World → Prop} {E : Prop} (hgd : o.guard = none) (s x : Operand) (t : TypeId)
    (ho : o.op = .call { callee := .builtin .append, args := #[s, x], argTypes := #[t, t] })
    (e : TypeId) (k : IntKind) (bytes : Nat) (ht : P.underlying t = some (.slice e)) (hinfo : (P.info? e).map (fun i => (i.zero, i.size, i.bytes)) = some (some (.int k 0), 1, bytes))
    (v : Value) (n : Nat) (xs : List Value) (hs : a.eval s = v) (hown : w.ownsRow 0 e 1 v n xs) (y : Value) (ys : List Value) (hx : a.eval x = y) (hy : Sl w y ys) (h1 : ∀ u ∈ ys, u.oneCell' = true) (hb : bytes ≤ 8) (hn : n + ys.length ≤ 17179869184)
    (h : ∀ v' w', w'.ownsRow 0 e 1 v' (n + ys.length) (xs ++ ys) → w.grownBy w' v.ownBlock → Moved w v v' → K (a.put o.dst v') w') :
    if Region.wanted o (yielded ops a.tmps) = true then Oper.wp P o a w K Q else E := by
  have hw : Region.wanted o (yielded ops a.tmps) = true := by simp [Region.wanted, hgd]
  rw [if_pos hw]
  exact wp_app w s x t ho e k bytes ht hinfo v n xs hs hown y ys hx hy h1 hb hn h

/-- copy over the head of a row that was just made. -/
theorem wpList_copy {ops : Array Oper} {rest : List Oper} {o : Oper} {a : Act} {Q : Exit → Act → World → Prop} (hgd : o.guard = none) (d s : Operand) (t : TypeId)
    (ho : o.op = .call { callee := .builtin .copy, args := #[d, s], argTypes := #[t, t] }) (e : TypeId) (ht : P.underlying t = some (.slice e)) (hsz : (P.info? e).map (·.size) = some 1)
    (g n c : Nat) (hd : a.eval d = .slice (some ⟨g, 0, none⟩) n c) (v : Value) (hs : a.eval s = v) (xs : List Value) (hx : Sl w v xs) (hn : xs.length = n) (cur : Array Value) (hg : Blk w g e cur) (hc : cur.size = c) (hnc : n ≤ c) (hmax : c ≤ maxLen) (h1 : ∀ u ∈ xs, u.oneCell' = true)
    (h : ∀ w', w'.ownsRow 0 e 1 (.slice (some ⟨g, 0, none⟩) n c) n xs → w.grownBy w' (some g) → wpList P ops Q rest (a.put o.dst (goInt n)) w') : wpList P ops Q (o :: rest) a w := by
  subst hn
  rcases hx with ⟨rfl, rfl⟩ | ⟨ad, c', rfl, hc', _, hcell⟩
  · refine wpList_copy_nothing hgd d s t t ho e ht hsz _ _ _ _ _ _ hd hs (by simp) ?_
    exact h w (own_of_blk hg hnc hmax hc (by simp) rfl) ⟨rfl, rfl, rfl, Nat.le_refl _, fun _ _ _ => rfl⟩
  · refine wpList_copy_own hgd d s t t ho e ht hsz g 0 _ _ ad _ _ hd hs cur e hg xs (by simp) hcell (by omega) h1 ?_
    refine h _ (own_of_blk (cs := (cur.toList.take 0 ++ (xs ++ cur.toList.drop (0 + xs.length))).toArray) ?_ hnc hmax ?_ (by simp) rfl) ⟨rfl, rfl, rfl, by simp [World.setRow], fun k _ hk => setRow_other w g k _ (fun e => hk (by rw [e]))⟩
    · exact setRow_heap w g cur _ e _ hg
    · simp; omega
end

/-- make of bytes with a length and a room that were reckoned. -/
theorem make_u8 (l c : Int) (h0 : 0 ≤ l) (hlc : l ≤ c) (hc : c ≤ 281474976710656) (w : World) :
    (Instr.makeSlice 25 (.int .i64 l) (.int .i64 c)).run Tryz.prog w = .ok (.slice (some ⟨w.heap.size, 0, none⟩) l.toNat c.toNat) (w.alloc (.cells (madeCells #[.int .u8 0] c.toNat) 5)) := by
  obtain ⟨i0, hi, hz0, hz1, hz2⟩ := info_parts Tryz.info_u8
  have h := run_make (P := Tryz.prog) w 25 5 i0 (.int .u8 0) Tryz.underlying25 hi hz0 .i64 .i64 l c h0 hlc (by rw [hz2]; omega) (by omega)
  rw [hz1, Nat.mul_one] at h
  exact h
end Go.Proofs.YtjboboaccjbebaaGreat
/- Plain facts on bits: the n bits of a number, the highest first ('bitsOf'), the number that bits are ('valOf'), the bits of bytes ('flat'), the bytes of bits ('pack'). No program in sight. -/
namespace Go.Proofs.YtjboboaccjbebaaGreat

def bitsOf (v : Nat) : Nat → List Bool
  | 0 => []
  | n + 1 => v.testBit n :: bitsOf v n

def valOf (l : List Bool) : Nat := l.foldl (fun a b => 2 * a + b.toNat) 0

def flat (F : List Nat) : List Bool := F.flatMap fun x => bitsOf x 8

theorem bitsOf_length (v n : Nat) : (bitsOf v n).length = n := by
  induction n with
  | zero => rfl
  | succ n ih => simp [bitsOf, ih]
theorem flat_nil : flat [] = [] := rfl
theorem flat_append (F G : List Nat) : flat (F ++ G) = flat F ++ flat G := by simp [flat]
theorem flat_one (x : Nat) : flat [x] = bitsOf x 8 := by simp [flat]
theorem flat_length (F : List Nat) : (flat F).length = 8 * F.length := by
  induction F with
  | nil => rfl
  | cons x F ih =>
    rw [show flat (x :: F) = bitsOf x 8 ++ flat F from by simp [flat], List.length_append, bitsOf_length, ih]
    simp; omega

theorem valOf_append (l : List Bool) (b : Bool) : valOf (l ++ [b]) = 2 * valOf l + b.toNat := by simp [valOf]
theorem foldl_val (l : List Bool) (a : Nat) : l.foldl (fun a b => 2 * a + b.toNat) a = a * 2 ^ l.length + valOf l := by
  induction l generalizing a with
  | nil => simp [valOf]
  | cons b l ih =>
    have e : valOf (b :: l) = b.toNat * 2 ^ l.length + valOf l := by
      show l.foldl _ (2 * 0 + b.toNat) = _
      rw [ih]; simp
    rw [List.foldl_cons, ih, e, List.length_cons, Nat.pow_succ, Nat.add_mul, Nat.mul_comm 2 a, Nat.mul_assoc, Nat.mul_comm 2, Nat.add_assoc]
theorem valOf_cons (b : Bool) (l : List Bool) : valOf (b :: l) = b.toNat * 2 ^ l.length + valOf l := by
  show l.foldl _ (2 * 0 + b.toNat) = _
  rw [foldl_val]; simp
theorem valOf_app (l m : List Bool) : valOf (l ++ m) = valOf l * 2 ^ m.length + valOf m := by
  unfold valOf
  rw [List.foldl_append]
  exact foldl_val m _
theorem valOf_lt (l : List Bool) : valOf l < 2 ^ l.length := by
  induction l with
  | nil => simp [valOf]
  | cons b l ih =>
    rw [valOf_cons, List.length_cons, Nat.pow_succ]
    cases b <;> simp <;> omega
theorem valOf_bitsOf (v n : Nat) : valOf (bitsOf v n) = v % 2 ^ n := by
  induction n with
  | zero => simp [bitsOf, valOf, Nat.mod_one]
  | succ n ih =>
    rw [bitsOf, valOf_cons, bitsOf_length, ih, Nat.toNat_testBit, Nat.pow_succ, Nat.mod_mul, Nat.add_comm, Nat.mul_comm]
theorem bitsOf_mod (v n k : Nat) (h : n ≤ k) : bitsOf (v % 2 ^ k) n = bitsOf v n := by
  induction n with
  | zero => rfl
  | succ n ih =>
    simp only [bitsOf]
    rw [ih (by omega), Nat.testBit_mod_two_pow]
    simp; omega
theorem bitsOf_add (v m n : Nat) : bitsOf v (m + n) = bitsOf (v / 2 ^ n) m ++ bitsOf v n := by
  induction m with
  | zero => simp [bitsOf]
  | succ m ih =>
    rw [Nat.add_right_comm, bitsOf, ih, bitsOf, List.cons_append, ← Nat.shiftRight_eq_div_pow, Nat.testBit_shiftRight, Nat.add_comm n m]
theorem bitsOf_valOf (l : List Bool) : bitsOf (valOf l) l.length = l := by
  induction l with
  | nil => rfl
  | cons b l ih =>
    have hl := valOf_lt l
    rw [List.length_cons, bitsOf]
    congr 1
    · rw [valOf_cons, Nat.mul_comm, Nat.testBit_two_pow_mul_add _ hl]
      cases b <;> simp
    · rw [← bitsOf_mod _ _ _ (Nat.le_refl l.length), valOf_cons, Nat.mul_comm, Nat.mul_add_mod, Nat.mod_eq_of_lt hl, ih]
theorem bitsOf_byte (v n : Nat) (h : 8 ≤ n) : bitsOf v n = bitsOf (v / 2 ^ (n - 8) % 256) 8 ++ bitsOf v (n - 8) := by
  have e : n = 8 + (n - 8) := by omega
  rw [show bitsOf v n = bitsOf v (8 + (n - 8)) from by rw [← e], bitsOf_add, show (256 : Nat) = 2 ^ 8 from rfl, bitsOf_mod _ _ _ (Nat.le_refl _)]
theorem bitsOf_bit (v n : Nat) (h : 1 ≤ n) : bitsOf v n = v.testBit (n - 1) :: bitsOf v (n - 1) := by
  obtain ⟨k, rfl⟩ : ∃ k, n = k + 1 := ⟨n - 1, by omega⟩
  rfl
theorem bitsOf_inj (a b n : Nat) (ha : a < 2 ^ n) (hb : b < 2 ^ n) (h : bitsOf a n = bitsOf b n) : a = b := by
  have := congrArg valOf h
  rwa [valOf_bitsOf, valOf_bitsOf, Nat.mod_eq_of_lt ha, Nat.mod_eq_of_lt hb] at this

/-- One bit more in what there is of a byte. -/
def setBit (part n : Nat) (b : Bool) : Nat := if b then part + 2 ^ (7 - n) else part
theorem part_bit : ∀ part : Fin 256, ∀ n : Fin 8, ∀ b : Bool, part.val % 2 ^ (8 - n.val) = 0 →
    (bitsOf (setBit part.val n.val b) 8).take (n.val + 1) = (bitsOf part.val 8).take n.val ++ [b] ∧ setBit part.val n.val b % 2 ^ (7 - n.val) = 0 ∧ setBit part.val n.val b < 256 ∧
      (part.val ||| (2 ^ (7 - n.val) % 256)) = part.val + 2 ^ (7 - n.val) := by decide +kernel
theorem bits_take {part n : Nat} {b : Bool} (hp : part < 256) (hn : n < 8) (h0 : part % 2 ^ (8 - n) = 0) : (bitsOf (setBit part n b) 8).take (n + 1) = (bitsOf part 8).take n ++ [b] := (part_bit ⟨part, hp⟩ ⟨n, hn⟩ b h0).1
theorem bits_low {part n : Nat} {b : Bool} (hp : part < 256) (hn : n < 8) (h0 : part % 2 ^ (8 - n) = 0) : setBit part n b % 2 ^ (8 - (n + 1)) = 0 := by
  rw [show 8 - (n + 1) = 7 - n from by omega]
  exact (part_bit ⟨part, hp⟩ ⟨n, hn⟩ b h0).2.1
theorem bits_lt {part n : Nat} {b : Bool} (hp : part < 256) (hn : n < 8) (h0 : part % 2 ^ (8 - n) = 0) : setBit part n b < 256 := (part_bit ⟨part, hp⟩ ⟨n, hn⟩ b h0).2.2.1
theorem bits_or {part n : Nat} (hp : part < 256) (hn : n < 8) (h0 : part % 2 ^ (8 - n) = 0) : (part ||| (2 ^ (7 - n) % 256)) = setBit part n true := (part_bit ⟨part, hp⟩ ⟨n, hn⟩ true h0).2.2.2
end Go.Proofs.YtjboboaccjbebaaGreat
/- A writer of bits in memory ('Wst', 'Wr'), and the contracts of its methods: each adds the bits that it should, and touches the writer's own blocks alone. -/
namespace Go.Proofs.YtjboboaccjbebaaGreat
open Go.RowKit

/-- Block p is a writer whose fields are v, part and n; v owns the bytes F. -/
structure Wst (w : World) (p : Nat) (v : Value) (F : List Nat) (part n : Nat) : Prop where
  blk : Blk w p 27 #[v, .int .u8 (part : Int), .int .i64 (n : Int)]
  own : w.ownsRow 0 5 1 v F.length (u8s F)
  hn : n < 8
  hp : part < 256
  low : part % 2 ^ (8 - n) = 0
  by_ : ∀ x ∈ F, x < 256

section
variable {w w' : World} {p : Nat} {v : Value} {F : List Nat} {part n : Nat}
theorem Wst.ne (h : Wst w p v F part n) : v.ownBlock ≠ some p := own_ne h.own h.blk (by decide)
theorem Wst.keep (h : Wst w p v F part n) {S : Nat → Prop} (hk : Kept S w w') (hp : ¬ S p) (hv : ∀ g, v.ownBlock = some g → ¬ S g) : Wst w' p v F part n :=
  ⟨h.blk.kept hk hp, own_kept h.own hk hv, h.hn, h.hp, h.low, h.by_⟩
theorem Wst.slice (h : Wst w p v F part n) : ∃ A c, v = .slice A F.length c := by
  rcases h.own.2 with ⟨rfl, h2⟩ | ⟨g, cap, _, rfl, _⟩
  · exact ⟨none, 0, by rw [h2]⟩
  · exact ⟨_, _, rfl⟩
end

/-- What a bit more does. -/
def BitPost (w : World) (p : Nat) (v : Value) (F : List Nat) (part n : Nat) (b : Bool) (e : Ending) (w' : World) : Prop :=
  e = .returned (.tuple #[]) ∧ Kept (fun k => k = p ∨ v.ownBlock = some k) w w' ∧
    ((n < 7 ∧ Wst w' p v F (setBit part n b) (n + 1)) ∨
     (n = 7 ∧ ∃ v', Wst w' p v' (F ++ [setBit part 7 b]) 0 0 ∧ Moved w v v'))

theorem bit_or (part n : Nat) (hp : part < 256) (hn : n < 8) (h0 : part % 2 ^ (8 - n) = 0) : bits BinOp.or IntKind.u8 (part : Int) (2 ^ (7 - n) % 256) = ((setBit part n true : Nat) : Int) := by
  rw [← bits_or hp hn h0]
  have e : ((2 : Int) ^ (7 - n) % 256) = ((2 ^ (7 - n) % 256 : Nat) : Int) := by simp
  rw [e]
  exact u8_or_nat _ _ hp (by omega)

section
variable {w : World} {p : Nat} {v : Value} {F : List Nat} {part n : Nat}
theorem Wst.more (h : Wst w p v F part n) (h7 : n < 7) (b : Bool) (w' : World) (hb : Blk w' p 27 #[v, .int .u8 ((setBit part n b : Nat) : Int), .int .i64 ((n : Int) + 1)])
    (hk : Kept (fun k => k = p) w w') : BitPost w p v F part n b (.returned (.tuple #[])) w' :=
  ⟨rfl, hk.mono fun _ _ h => .inl h, .inl ⟨h7, ⟨hb, own_kept h.own hk (fun g hg e => h.ne (by rw [hg, e])), by omega, bits_lt h.hp h.hn h.low, bits_low h.hp h.hn h.low, h.by_⟩⟩⟩
end

theorem Wst.last {w w1 w2 : World} {p : Nat} {v : Value} {F : List Nat} {part : Nat} (h : Wst w p v F part 7) (b : Bool) (X : Int) (hX : X = ((setBit part 7 b : Nat) : Int)) (hk : Kept (fun k => k = p) w w1)
    {g cap : Nat} {y : Value} (hb2 : Blk w2 p 27 #[v, y, .int .i64 8])
    (hown : w2.ownsRow 0 5 1 (.slice (some ⟨g, 0, none⟩) (F.length + 1) cap) (F.length + 1) (u8s F ++ [.int .u8 X])) (hgrow : w1.grownBy w2 v.ownBlock) (hat : v.ownBlock = some g ∨ w.heap.size ≤ g) :
    BitPost w p v F part 7 b (.returned (.tuple #[])) (((w2.setCell ⟨p, 0, none⟩ (.slice (some ⟨g, 0, none⟩) (F.length + 1) cap)).setCell ⟨p, 1, none⟩ (.int .u8 0)).setCell ⟨p, 2, none⟩ (.int .i64 0)) := by
  have hne := own_ne hown hb2 (by decide)
  refine ⟨rfl, ?_, .inr ⟨rfl, .slice (some ⟨g, 0, none⟩) (F.length + 1) cap, ⟨?_, ?_, by omega, by omega, by simp, ?_⟩, ?_⟩⟩
  · exact ((((hk.mono fun _ _ h => .inl h).grown hgrow (fun k hk _ => .inr hk)).setCell (by simp) _).setCell (by simp) _).setCell (by simp) _
  · simpa using ((hb2.upd 0 (.slice (some ⟨g, 0, none⟩) (F.length + 1) cap)).upd 1 (.int .u8 0)).upd 2 (.int .i64 0)
  · subst hX
    have e : (F ++ [setBit part 7 b]).length = F.length + 1 := by simp
    rw [e, u8s_app]
    exact own_setCell (own_setCell (own_setCell hown hne _) hne _) hne _
  · intro x hx
    rcases List.mem_append.1 hx with hx | hx
    · exact h.by_ x hx
    · simp at hx
      rw [hx]
      exact bits_lt h.hp h.hn h.low
  · rcases hat with e | e
    · exact .inl e.symm
    · exact .inr ⟨g, rfl, e⟩

set_option maxHeartbeats 800000 in
theorem bit_true_more (w : World) (p : Nat) (v : Value) (F : List Nat) (part n : Nat) (h : Wst w p v F part n) (h7 : n < 7) :
    Calls Tryz.prog 72 #[.pointer (some ⟨p, 0, none⟩), .bool true] w (BitPost w p v F part n true) := by
  have c1 := h.blk.cell 1
  have c2 := h.blk.cell 2
  have f1 := h.blk.frozen 1
  have f2 := h.blk.frozen 2
  simp at c1 c2
  have hne : ((n : Int) + 1 == 8) = false := by simp; omega
  have hn0 : (0 : Int) ≤ n := by omega
  have hp0 : (part : Int) ≤ 255 := by have := h.hp; omega
  have hor := hid (bit_or part n h.hp (by omega) h.low)
  have H := hid h
  clear h
  go_enter Tryz.func72, Tryz.ntmps72
  go_wp2_with fail
  go_region
  go_wp2_with fail
  go_end0
  rw [hor.out]
  exact H.out.more h7 true _ (by simpa using ((H.out.blk.upd 1 _).upd 2 _).drew) ((((Kept.refl _ _).setCell (by simp) _).setCell (by simp) _).drew)

set_option maxHeartbeats 800000 in
theorem bit_false_more (w : World) (p : Nat) (v : Value) (F : List Nat) (part n : Nat) (h : Wst w p v F part n) (h7 : n < 7) :
    Calls Tryz.prog 72 #[.pointer (some ⟨p, 0, none⟩), .bool false] w (BitPost w p v F part n false) := by
  have c1 := h.blk.cell 1
  have c2 := h.blk.cell 2
  have f1 := h.blk.frozen 1
  have f2 := h.blk.frozen 2
  simp at c1 c2
  have hne : ((n : Int) + 1 == 8) = false := by simp; omega
  have hn0 : (0 : Int) ≤ n := by omega
  have H := hid h
  clear h
  go_enter Tryz.func72, Tryz.ntmps72
  go_wp2_with fail
  go_end0
  exact H.out.more h7 false _ (by simpa [setBit] using (H.out.blk.upd 2 _)) (((Kept.refl _ _).setCell (by simp) _))

set_option maxHeartbeats 1600000 in
theorem bit_true_last (w : World) (p : Nat) (v : Value) (F : List Nat) (part : Nat) (h : Wst w p v F part 7) (hF : F.length ≤ 17179869184) :
    Calls Tryz.prog 72 #[.pointer (some ⟨p, 0, none⟩), .bool true] w (BitPost w p v F part 7 true) := by
  have c0 := h.blk.cell 0
  have c1 := h.blk.cell 1
  have c2 := h.blk.cell 2
  have f0 := h.blk.frozen 0
  have f1 := h.blk.frozen 1
  have f2 := h.blk.frozen 2
  simp at c0 c1 c2
  have hp0 : (part : Int) ≤ 255 := by have := h.hp; omega
  have hz := h.blk.lt
  have hor := hid (bit_or part 7 h.hp (by omega) h.low)
  have H := hid h
  clear h
  go_enter Tryz.func72, Tryz.ntmps72
  go_wp2_with fail
  go_region
  go_wp2_with fail
  have HB : Blk ((w.setCell ⟨p, 1, none⟩ (.int .u8 (bits BinOp.or IntKind.u8 (part : Int) 1))).setCell ⟨p, 2, none⟩ (.int .i64 8)) p 27 #[v, .int .u8 (bits BinOp.or IntKind.u8 (part : Int) 1), .int .i64 8] := by
    simpa using (H.out.blk.upd 1 (.int .u8 (bits BinOp.or IntKind.u8 (part : Int) 1))).upd 2 (.int .i64 8)
  replace HB := hid HB
  go_region_law (go_must (refine step_app1 _ rfl (.tmp 34) (.tmp 39) 25 rfl 5 .u8 1 Tryz.underlying25 Tryz.info_u8 v (u8s F) F.length ?_ ?_ ⟨w.heap.size, 0, none⟩ (bits BinOp.or IntKind.u8 (part : Int) 1) ?_ ?_ (by decide) hF (w.heap.size + 1) ?_ ?_; (simp [Act.eval]); (repeat first | exact H.out.own | refine own_drew ?_ | refine World.ownsRow.alloc ?_ _ | refine own_setCell ?_ H.out.ne _); (simp [Act.eval]); (simp only [World.cell?_drew]; rw [World.cell?_alloc_at _ _ _ _ (by simp)]; rfl); (simp); (intro g cap w2 hown hgrow hat hlt; have hb2 : Blk w2 p 27 #[v, .int .u8 (bits BinOp.or IntKind.u8 (part : Int) 1), .int .i64 8] := Blk.grown (Blk.drew (Blk.drew (Blk.alloc HB.out _))) hgrow H.out.ne; have c0 := hb2.cell 0; have c1 := hb2.cell 1; have c2 := hb2.cell 2; have f0 := hb2.frozen 0; have f1 := hb2.frozen 1; have f2 := hb2.frozen 2; simp at c0 c1 c2; replace hb2 := hid hb2; replace hown := hid hown; replace hgrow := hid hgrow)))
  all_goals (go_wp2_with fail)
  all_goals (go_end0)
  all_goals exact H.out.last true _ hor.out ((((((Kept.refl _ _).setCell (by simp) _).setCell (by simp) _).alloc _).drew).drew) hb2.out hown.out hgrow.out (hat.imp id (by omega))

set_option maxHeartbeats 1600000 in
theorem bit_false_last (w : World) (p : Nat) (v : Value) (F : List Nat) (part : Nat) (h : Wst w p v F part 7) (hF : F.length ≤ 17179869184) :
    Calls Tryz.prog 72 #[.pointer (some ⟨p, 0, none⟩), .bool false] w (BitPost w p v F part 7 false) := by
  have c0 := h.blk.cell 0
  have c1 := h.blk.cell 1
  have c2 := h.blk.cell 2
  have f0 := h.blk.frozen 0
  have f1 := h.blk.frozen 1
  have f2 := h.blk.frozen 2
  simp at c0 c1 c2
  have hz := h.blk.lt
  have H := hid h
  clear h
  have HB : Blk (w.setCell ⟨p, 2, none⟩ (.int .i64 8)) p 27 #[v, .int .u8 (part : Int), .int .i64 8] := by
    simpa using H.out.blk.upd 2 (.int .i64 8)
  replace HB := hid HB
  go_enter Tryz.func72, Tryz.ntmps72
  go_wp2_with fail
  go_region_law (go_must (refine step_app1 _ rfl (.tmp 34) (.tmp 39) 25 rfl 5 .u8 1 Tryz.underlying25 Tryz.info_u8 v (u8s F) F.length ?_ ?_ ⟨w.heap.size, 0, none⟩ (part : Int) ?_ ?_ (by decide) hF (w.heap.size + 1) ?_ ?_; (simp [Act.eval]); (repeat first | exact H.out.own | refine own_drew ?_ | refine World.ownsRow.alloc ?_ _ | refine own_setCell ?_ H.out.ne _); (simp [Act.eval]); (simp only [World.cell?_drew]; rw [World.cell?_alloc_at _ _ _ _ (by simp)]; rfl); (simp); (intro g cap w2 hown hgrow hat hlt; have hb2 : Blk w2 p 27 #[v, .int .u8 (part : Int), .int .i64 8] := Blk.grown (Blk.drew (Blk.alloc HB.out _)) hgrow H.out.ne; have c0 := hb2.cell 0; have c1 := hb2.cell 1; have c2 := hb2.cell 2; have f0 := hb2.frozen 0; have f1 := hb2.frozen 1; have f2 := hb2.frozen 2; simp at c0 c1 c2; replace hb2 := hid hb2; replace hown := hid hown; replace hgrow := hid hgrow)))
  all_goals (go_wp2_with fail)
  all_goals (go_end0)
  all_goals exact H.out.last false _ (by simp [setBit]) (((((Kept.refl _ _).setCell (by simp) _).alloc _).drew)) hb2.out hown.out hgrow.out (hat.imp id (by omega))

/-- One bit more, whichever. -/
theorem bit_any (w : World) (p : Nat) (v : Value) (F : List Nat) (part n : Nat) (b : Bool) (h : Wst w p v F part n) (hF : F.length ≤ 17179869184) :
    Calls Tryz.prog 72 #[.pointer (some ⟨p, 0, none⟩), .bool b] w (BitPost w p v F part n b) := by
  have hn := h.hn
  by_cases h7 : n < 7
  · cases b
    · exact bit_false_more w p v F part n h h7
    · exact bit_true_more w p v F part n h h7
  · obtain rfl : n = 7 := by omega
    cases b
    · exact bit_false_last w p v F part h hF
    · exact bit_true_last w p v F part h hF
end Go.Proofs.YtjboboaccjbebaaGreat
/- A writer by the bits that it has ('Wr'), and 'bit' at that level. -/
namespace Go.Proofs.YtjboboaccjbebaaGreat
open Go.RowKit

/-- Block p is a writer that has the bits L; v is its slice of whole bytes. -/
def Wr (w : World) (p : Nat) (v : Value) (L : List Bool) : Prop := ∃ F part n, Wst w p v F part n ∧ L = flat F ++ (bitsOf part 8).take n

/-- The blocks of a writer. -/
def Foot (p : Nat) (v : Value) (k : Nat) : Prop := k = p ∨ v.ownBlock = some k

/-- From w on, in which p was a writer with slice v, only its blocks were touched: it has the bits L now. -/
def WI (w : World) (p : Nat) (v : Value) (L : List Bool) (w' : World) : Prop := ∃ v', Wr w' p v' L ∧ Moved w v v' ∧ Kept (Foot p v) w w'

section
variable {w w' w1 : World} {p : Nat} {v v1 : Value} {L : List Bool}
theorem Moved.refl (w : World) (v : Value) : Moved w v v := .inl rfl
theorem Moved.trans {v2 : Value} (h : Moved w v v1) (hs : w.heap.size ≤ w1.heap.size) (k : Moved w1 v1 v2) : Moved w v v2 := by
  rcases k with k | ⟨g, k, hg⟩
  · rcases h with h | ⟨g, h, hg⟩
    · exact .inl (k.trans h)
    · exact .inr ⟨g, k.trans h, hg⟩
  · exact .inr ⟨g, k, by omega⟩
theorem Moved.foot (h : Moved w v v1) {k : Nat} (hk : k < w.heap.size) (hf : Foot p v1 k) : Foot p v k := by
  rcases hf with hf | hf
  · exact .inl hf
  · rcases h with h | ⟨g, h, hg⟩
    · exact .inr (h ▸ hf)
    · rw [h] at hf
      injection hf with hf
      omega
theorem Wr.lt (h : Wr w p v L) : p < w.heap.size := by obtain ⟨F, part, n, h, _⟩ := h; exact h.blk.lt
theorem Wr.footlt (h : Wr w p v L) {k : Nat} (hk : Foot p v k) : k < w.heap.size := by
  rcases hk with rfl | hk
  · exact h.lt
  · obtain ⟨F, part, n, h, _⟩ := h
    exact (h.own.lt k hk).2
theorem Wr.keep (h : Wr w p v L) {S : Nat → Prop} (hk : Kept S w w') (hS : ∀ k, Foot p v k → ¬ S k) : Wr w' p v L := by
  obtain ⟨F, part, n, h, e⟩ := h
  exact ⟨F, part, n, h.keep hk (hS p (.inl rfl)) (fun g hg => hS g (.inr hg)), e⟩
theorem Wr.drew (h : Wr w p v L) : Wr w.drew p v L := h.keep ((Kept.refl (fun _ => False) w).drew) fun _ _ => id
theorem Wr.drewN (h : Wr w p v L) (n : Nat) : Wr (w.drewN n) p v L := h.keep ((Kept.refl (fun _ => False) w).drewN n) fun _ _ => id
theorem Wr.below (h : Wr w p v L) (hk : Below w.heap.size w w') : Wr w' p v L := h.keep (Kept.of_below' (S := fun _ => False) hk) fun _ _ => id
theorem Wr.refl (h : Wr w p v L) : WI w p v L w := ⟨v, h, .refl _ _, .refl _ _⟩
theorem WI.size (h : WI w p v L w') : w.heap.size ≤ w'.heap.size := by obtain ⟨_, _, _, hk⟩ := h; exact hk.size
theorem WI.kept (h : WI w p v L w') : Kept (Foot p v) w w' := by obtain ⟨_, _, _, hk⟩ := h; exact hk
theorem WI.trans {L' : List Bool} {w2 : World} (h : WI w p v L w1) (k : ∀ v1, Wr w1 p v1 L → WI w1 p v1 L' w2) : WI w p v L' w2 := by
  obtain ⟨v1, h1, hm, hk⟩ := h
  obtain ⟨v2, h2, hm2, hk2⟩ := k v1 h1
  exact ⟨v2, h2, hm.trans hk.size hm2, hk.trans hk2 fun i hi hf => hm.foot hi hf⟩
theorem WI.calls {L' : List Bool} {f : FuncId} {args : Array Value} {R : Ending → Prop} (h : WI w p v L w1) (k : ∀ v1, Wr w1 p v1 L → Calls Tryz.prog f args w1 fun e w2 => R e ∧ WI w1 p v1 L' w2) :
    Calls Tryz.prog f args w1 fun e w2 => R e ∧ WI w p v L' w2 := by
  obtain ⟨v1, h1, hm, hk⟩ := h
  refine (k v1 h1).mono ?_
  rintro e w2 ⟨he, v2, h2, hm2, hk2⟩
  exact ⟨he, v2, h2, hm.trans hk.size hm2, hk.trans hk2 fun i hi hf => hm.foot hi hf⟩
theorem WI.below {B : Nat} (h : WI w p v L w') (hB : B ≤ w.heap.size) (hf : ∀ k, Foot p v k → B ≤ k) : Below B w w' :=
  h.kept.below hB fun k hk hs => by have := hf k hs; omega
theorem Wst.wr {F : List Nat} {part n : Nat} (h : Wst w p v F part n) : Wr w p v (flat F ++ (bitsOf part 8).take n) := ⟨F, part, n, h, rfl⟩
theorem Wst.len {F : List Nat} {part n : Nat} (h : Wst w p v F part n) : (flat F ++ (bitsOf part 8).take n).length = 8 * F.length + n := by
  have := h.hn
  rw [List.length_append, flat_length, List.length_take, bitsOf_length]
  omega
/-- A new writer. -/
theorem Wr.new (w : World) : Wr (w.alloc (.cells #[.slice none 0 0, .int .u8 0, .int .i64 0] 27)) w.heap.size (.slice none 0 0) [] :=
  ⟨[], 0, 0, ⟨Blk.new w _ _, World.ownsRow_nil _ _ _ _, by omega, by omega, by simp, by simp⟩, rfl⟩
theorem foot_nil {k : Nat} (h : Foot p (.slice none 0 0) k) : k = p := by
  rcases h with h | h
  · exact h
  · simp [Value.ownBlock] at h
end

theorem Wst.bit {w : World} {p : Nat} {v : Value} {F : List Nat} {part n : Nat} {b : Bool} {e : Ending} {w' : World} (h : Wst w p v F part n) (hb : BitPost w p v F part n b e w') :
    e = .returned (.tuple #[]) ∧ WI w p v ((flat F ++ (bitsOf part 8).take n) ++ [b]) w' := by
  obtain ⟨he, hk, ⟨h7, hw⟩ | ⟨rfl, v', hw, hm⟩⟩ := hb
  · refine ⟨he, v, ?_, .refl _ _, hk⟩
    have := hw.wr
    rw [bits_take h.hp h.hn h.low, ← List.append_assoc] at this
    exact this
  · refine ⟨he, v', ?_, hm, hk⟩
    have e := bits_take (b := b) h.hp h.hn h.low
    rw [List.take_of_length_le (by rw [bitsOf_length]; omega)] at e
    have := hw.wr
    rw [flat_append, flat_one, e] at this
    simpa using this

theorem bit_wr (w : World) (p : Nat) (v : Value) (L : List Bool) (b : Bool) (h : Wr w p v L) (hL : L.length ≤ 68719476736) :
    Calls Tryz.prog 72 #[.pointer (some ⟨p, 0, none⟩), .bool b] w fun e w' => e = .returned (.tuple #[]) ∧ WI w p v (L ++ [b]) w' := by
  obtain ⟨F, part, n, h, rfl⟩ := h
  have := h.len
  exact (bit_any w p v F part n b h (by omega)).mono fun _ _ hb => h.bit hb
end Go.Proofs.YtjboboaccjbebaaGreat
/- (*Writer).Bytes; slices.Clone of bytes. -/
namespace Go.Proofs.YtjboboaccjbebaaGreat
open Go.RowKit

theorem u8s_one {F : List Nat} : ∀ u ∈ u8s F, u.oneCell' = true := by
  intro u hu
  simp [u8s] at hu
  obtain ⟨_, _, rfl⟩ := hu
  rfl
theorem i64s_one {F : List Int} : ∀ u ∈ i64s F, u.oneCell' = true := by
  intro u hu
  simp [i64s] at hu
  obtain ⟨_, _, rfl⟩ := hu
  rfl
theorem size_u8 : (Tryz.prog.info? 5).map (·.size) = some 1 := by kernel_rfl
theorem size_int : (Tryz.prog.info? 3).map (·.size) = some 1 := by kernel_rfl

/-- A fresh slice of bytes: it owns F in new memory; nothing old has turned. -/
def Fresh8 (w : World) (F : List Nat) (v : Value) (w' : World) : Prop :=
  w'.ownsRow 0 5 1 v F.length (u8s F) ∧ Below w.heap.size w w' ∧ (∀ g, v.ownBlock = some g → w.heap.size ≤ g)

set_option maxRecDepth 100000 in
theorem clone8_nil (w : World) : Calls Tryz.prog 30 #[.slice none 0 0] w fun e w' => e = .returned (.slice none 0 0) ∧ w = w' := by
  have qn := fun w a n c n' c' => Lib.run_eql_slice_nil (P := Tryz.prog) w 25 5 a n c n' c' Tryz.underlying25
  go_enter Tryz.func30, Tryz.ntmps30
  go_wp2_with fail
  go_ret
  exact ⟨rfl, rfl⟩

def Clone8 (w : World) (F : List Nat) (e : Ending) (w' : World) : Prop := ∃ v, e = .returned v ∧ Fresh8 w F v w'

set_option maxRecDepth 100000 in
theorem clone8_any (w : World) (v : Value) (F : List Nat) (h : Sl w v (u8s F)) (hF : F.length ≤ 17179869184) : Calls Tryz.prog 30 #[v] w (Clone8 w F) := by
  rcases h with ⟨rfl, hx⟩ | ⟨ad, c, rfl, hx⟩
  · refine (clone8_nil w).mono ?_
    rintro e w' ⟨rfl, rfl⟩
    have e : F = [] := by simpa [u8s] using hx
    subst e
    exact ⟨_, rfl, World.ownsRow_nil _ _ _ _, .refl _ _, by simp [Value.ownBlock]⟩
  · have hS : Sl w (.slice (some ad) (u8s F).length c) (u8s F) := .inr ⟨ad, c, rfl, hx⟩
    rw [u8s_length] at hS ⊢
    have HS := hid hS
    clear hS hx
    have qn := fun w a n c n' c' => Lib.run_eql_slice_nil (P := Tryz.prog) w 25 5 a n c n' c' Tryz.underlying25
    go_enter Tryz.func30, Tryz.ntmps30
    go_wp2_with (at_builtin; go_must (refine wpList_app _ rfl (.tmp 5) (.tmp 6) 25 rfl 5 .u8 1 Tryz.underlying25 Tryz.info_u8 (.slice (some ⟨w.heap.size, 0, none⟩) 0 0) 0 [] rfl ?c1 _ (u8s F) rfl ?c2 u8s_one (by decide) ?c3 ?_); rotate_right; intro v' w1 hown hg hm; replace hown := hid hown; replace hg := hid hg; replace hm := hid hm)
    case c1 => exact own_of_blk (Blk.new w _ _) (Nat.le_refl _) (by decide) rfl rfl rfl
    case c2 => exact HS.out.alloc _
    case c3 => rw [u8s_length]; omega
    go_ret
    have hown := hown.out
    rw [u8s_length, Nat.zero_add, List.nil_append] at hown
    refine ⟨v', rfl, hown, ((Below.refl _ _).alloc (Nat.le_refl _) _).grown hg.out (by simp) (by intro k hk; simp [Value.ownBlock] at hk; omega), ?_⟩
    intro g hg'
    rcases hm.out with h | ⟨g', h, hs⟩
    · rw [h] at hg'; simp [Value.ownBlock] at hg'; omega
    · rw [h] at hg'; simp at hs; injection hg' with e; omega

theorem bytes_nil (w : World) : Calls Tryz.prog 11 #[.pointer none] w fun e w' => e = .returned (.slice none 0 0) ∧ w = w' := by
  go_enter Tryz.func11, Tryz.ntmps11
  go_wp2_with fail
  go_ret
  exact ⟨rfl, rfl⟩

/-- The bytes of a writer's bits. -/
def byts (F : List Nat) (part n : Nat) : List Nat := if n = 0 then F else F ++ [part]

set_option maxRecDepth 100000 in
set_option maxHeartbeats 1600000 in
theorem bytes_even (w : World) (p : Nat) (v : Value) (F : List Nat) (part : Nat) (h : Wst w p v F part 0) (hF : F.length + 1 ≤ 17179869184) :
    Calls Tryz.prog 11 #[.pointer (some ⟨p, 0, none⟩)] w (Clone8 w F) := by
  obtain ⟨A, c, rfl⟩ := h.slice
  have c0 := h.blk.cell 0
  have c1 := h.blk.cell 1
  have c2 := h.blk.cell 2
  simp at c0 c1 c2
  have hz := h.blk.lt
  have H := hid h
  clear h
  have hw1 : IntKind.i64.wrap ((F.length : Int) + 1) = (F.length : Int) + 1 := IntWalk.i64_in _ (by omega)
  have hmk := fun W => make_u8 (F.length : Int) ((F.length : Int) + 1) (by omega) (by omega) (by omega) W
  have e1 : ((F.length : Int)).toNat = F.length := by omega
  have e2 : ((F.length : Int) + 1).toNat = F.length + 1 := by omega
  rw [e1, e2] at hmk
  clear e1 e2
  go_enter Tryz.func11, Tryz.ntmps11
  go_wp2_with fail
  go_region
  go_wp2_with (first | ((with_reducible refine wpList_copy (o := ⟨some 23, _, _, _, _, _⟩) _ ?c0 (.tmp 18) (.tmp 22) 25 ?c7 5 Tryz.underlying25 size_u8 w.heap.size F.length (F.length + 1) ?c8 (.slice A F.length c) ?c9 (u8s F) ?c1 ?c2 (madeCells #[.int .u8 0] (F.length + 1)) ?c3 ?c4 ?c5 ?c6 u8s_one ?_); rotate_right; intro w1 hown hg; have hb1 : Blk w1 p 27 #[.slice A F.length c, .int .u8 (part : Int), .int .i64 0] := Blk.grown (Blk.drew (Blk.alloc H.out.blk _)) hg (by simp; omega); have c0 := hb1.cell 0; have c1 := hb1.cell 1; have c2 := hb1.cell 2; simp at c0 c1 c2; have hz1 := hb1.lt; replace hb1 := hid hb1; replace hown := hid hown; replace hg := hid hg))
  case c0 => rfl
  case c7 => rfl
  case c8 => rfl
  case c9 => rfl
  case c1 => exact ((Sl.of_own H.out.own).alloc _).drew
  case c2 => exact u8s_length F
  case c3 => exact (Blk.new w _ _).drew
  case c4 => exact size_madeCells _ _
  case c5 => omega
  case c6 => unfold maxLen; omega
  go_ret
  refine ⟨_, rfl, hown.out, (((Below.refl _ _).alloc (Nat.le_refl _) _).drew).grown hg.out (by simp) (by intro k hk; injection hk with hk; omega), ?_⟩
  intro g hg'
  simp [Value.ownBlock] at hg'
  omega

set_option maxRecDepth 100000 in
set_option maxHeartbeats 1600000 in
theorem bytes_odd (w : World) (p : Nat) (v : Value) (F : List Nat) (part n : Nat) (h : Wst w p v F part n) (hF : F.length + 1 ≤ 17179869184) (hn0 : 0 < n) :
    Calls Tryz.prog 11 #[.pointer (some ⟨p, 0, none⟩)] w (Clone8 w (F ++ [part])) := by
  have hn1 : (0 : Int) < n := by omega
  obtain ⟨A, c, rfl⟩ := h.slice
  have c0 := h.blk.cell 0
  have c1 := h.blk.cell 1
  have c2 := h.blk.cell 2
  simp at c0 c1 c2
  have hz := h.blk.lt
  have H := hid h
  clear h
  have hw1 : IntKind.i64.wrap ((F.length : Int) + 1) = (F.length : Int) + 1 := IntWalk.i64_in _ (by omega)
  have hmk := fun W => make_u8 (F.length : Int) ((F.length : Int) + 1) (by omega) (by omega) (by omega) W
  have e1 : ((F.length : Int)).toNat = F.length := by omega
  have e2 : ((F.length : Int) + 1).toNat = F.length + 1 := by omega
  rw [e1, e2] at hmk
  clear e1 e2
  go_enter Tryz.func11, Tryz.ntmps11
  go_wp2_with fail
  go_region
  go_wp2_with (first
    | ((with_reducible refine wpList_copy (o := ⟨some 23, _, _, _, _, _⟩) _ ?c0 (.tmp 18) (.tmp 22) 25 ?c7 5 Tryz.underlying25 size_u8 w.heap.size F.length (F.length + 1) ?c8 (.slice A F.length c) ?c9 (u8s F) ?c1 ?c2 (madeCells #[.int .u8 0] (F.length + 1)) ?c3 ?c4 ?c5 ?c6 u8s_one ?_); rotate_right; intro w1 hown hg; have hb1 : Blk w1 p 27 #[.slice A F.length c, .int .u8 (part : Int), .int .i64 (n : Int)] := Blk.grown (Blk.drew (Blk.alloc H.out.blk _)) hg (by simp; omega); have c0 := hb1.cell 0; have c1 := hb1.cell 1; have c2 := hb1.cell 2; simp at c0 c1 c2; have hz1 := hb1.lt; replace hb1 := hid hb1; replace hown := hid hown; replace hg := hid hg)
    | (at_builtin; go_must (refine wpList_app1 _ rfl (.tmp 29) (.tmp 34) 25 rfl 5 .u8 1 Tryz.underlying25 Tryz.info_u8 (.slice (some ⟨w.heap.size, 0, none⟩) F.length (F.length + 1)) (u8s F) F.length rfl ?d1 ⟨w1.heap.size, 0, none⟩ (part : Int) rfl ?d3 (by decide) ?d4 (w1.heap.size + 1) ?d5 ?_); rotate_right; intro g cap w2 hown2 hg2 hat hlt; replace hown2 := hid hown2; replace hg2 := hid hg2; replace hat := hid hat))
  case d1 => exact hown.out.alloc _
  case d3 => exact World.cell?_alloc_at _ _ _ _ rfl
  case d4 => omega
  case d5 => simp
  case c0 => rfl
  case c7 => rfl
  case c8 => rfl
  case c9 => rfl
  case c1 => exact ((Sl.of_own H.out.own).alloc _).drew
  case c2 => exact u8s_length F
  case c3 => exact (Blk.new w _ _).drew
  case c4 => exact size_madeCells _ _
  case c5 => omega
  case c6 => unfold maxLen; omega
  go_ret
  have hs1 : w.heap.size < w1.heap.size := by have := hg.out.size; simp at this; omega
  refine ⟨_, rfl, ⟨by simpa [u8s] using hown2.out, ?_, ?_⟩⟩
  · refine Below.grown (Below.alloc ((((Below.refl _ _).alloc (Nat.le_refl _) _).drew).grown hg.out (by simp) (by intro k hk; injection hk with hk; omega)) (by omega) _) hg2.out (by simp; omega) ?_
    intro k hk
    simp [Value.ownBlock] at hk
    omega
  · intro k hk
    rcases hat.out with h | h
    · simp [Value.ownBlock] at h hk; omega
    · simp [Value.ownBlock] at hk; omega

theorem bytes_st (w : World) (p : Nat) (v : Value) (F : List Nat) (part n : Nat) (h : Wst w p v F part n) (hF : F.length + 1 ≤ 17179869184) :
    Calls Tryz.prog 11 #[.pointer (some ⟨p, 0, none⟩)] w (Clone8 w (byts F part n)) := by
  by_cases h0 : n = 0
  · subst h0
    exact bytes_even w p v F part h hF
  · have e : byts F part n = F ++ [part] := by simp [byts, h0]
    rw [e]
    exact bytes_odd w p v F part n h hF (by omega)

theorem low_zero : ∀ part : Fin 256, ∀ n : Fin 8, part.val % 2 ^ (8 - n.val) = 0 → bitsOf part.val 8 = (bitsOf part.val 8).take n.val ++ List.replicate (8 - n.val) false := by decide +kernel

/-- The bits 0 up to a byte's end. -/
def padded (L : List Bool) : List Bool := L ++ List.replicate ((8 - L.length % 8) % 8) false

theorem flat_byts {w : World} {p : Nat} {v : Value} {F : List Nat} {part n : Nat} (h : Wst w p v F part n) : flat (byts F part n) = padded (flat F ++ (bitsOf part 8).take n) ∧ ∀ x ∈ byts F part n, x < 256 := by
  have hl := h.len
  have hn := h.hn
  refine ⟨?_, ?_⟩
  · unfold padded byts
    rw [hl]
    split
    · next h0 => subst h0; simp
    · have e : (8 - (8 * F.length + n) % 8) % 8 = 8 - n := by omega
      rw [e, flat_append, flat_one, List.append_assoc]
      congr 1
      exact low_zero ⟨part, h.hp⟩ ⟨n, h.hn⟩ h.low
  · intro x hx
    unfold byts at hx
    split at hx
    · exact h.by_ x hx
    · rcases List.mem_append.1 hx with hx | hx
      · exact h.by_ x hx
      · simp at hx; rw [hx]; exact h.hp

/-- The same, the slice written out. -/
def Clone8S (w : World) (F : List Nat) (e : Ending) (w' : World) : Prop := ∃ A c, e = .returned (.slice A F.length c) ∧ Fresh8 w F (.slice A F.length c) w'
theorem Clone8.form {w w' : World} {F : List Nat} {e : Ending} (h : Clone8 w F e w') : Clone8S w F e w' := by
  obtain ⟨v, rfl, hf⟩ := h
  obtain ⟨A, c, e, _⟩ := (Sl.of_own hf.1).form
  rw [u8s_length] at e
  subst e
  exact ⟨A, c, rfl, hf⟩
theorem clone8_sl (w : World) (v : Value) (F : List Nat) (h : Sl w v (u8s F)) (hF : F.length ≤ 17179869184) : Calls Tryz.prog 30 #[v] w (Clone8S w F) :=
  (clone8_any w v F h hF).mono fun _ _ h => h.form

/-- What Bytes hands back: bytes, in new memory, whose bits are the writer's, up to a byte's end. -/
def BytesPost (w : World) (L : List Bool) (e : Ending) (w' : World) : Prop := ∃ F A c, e = .returned (.slice A F.length c) ∧ Fresh8 w F (.slice A F.length c) w' ∧ flat F = padded L ∧ ∀ x ∈ F, x < 256

theorem bytes_any (w : World) (p : Nat) (v : Value) (L : List Bool) (h : Wr w p v L) (hL : L.length ≤ 68719476736) :
    Calls Tryz.prog 11 #[.pointer (some ⟨p, 0, none⟩)] w (BytesPost w L) := by
  obtain ⟨F, part, n, h, rfl⟩ := h
  have hl := h.len
  refine (bytes_st w p v F part n h (by omega)).mono ?_
  rintro e w' hc
  obtain ⟨A, c, rfl, hf⟩ := hc.form
  exact ⟨_, A, c, rfl, hf, flat_byts h⟩
end Go.Proofs.YtjboboaccjbebaaGreat
/- A reader of bits in memory ('Rd'): Read, Left, At, peek. -/
namespace Go.Proofs.YtjboboaccjbebaaGreat
open Go.RowKit

theorem bitsOf_get (v n i : Nat) (h : i < n) : (bitsOf v n)[i]? = some (v.testBit (n - 1 - i)) := by
  induction n generalizing i with
  | zero => omega
  | succ n ih =>
    rcases i with _ | i
    · simp [bitsOf]
    · rw [bitsOf, List.getElem?_cons_succ, ih i (by omega)]
      congr 2
      omega
theorem flat_get (F : List Nat) (i : Nat) (h : i / 8 < F.length) : (flat F)[i]? = some (F[i / 8].testBit (7 - i % 8)) := by
  induction F generalizing i with
  | nil => simp at h
  | cons x F ih =>
    have e : flat (x :: F) = bitsOf x 8 ++ flat F := by simp [flat]
    rw [e]
    by_cases h8 : i < 8
    · rw [List.getElem?_append_left (by rw [bitsOf_length]; exact h8), bitsOf_get x 8 i h8]
      have e0 : i / 8 = 0 := by omega
      have e1 : 8 - 1 - i = 7 - i % 8 := by omega
      simp [e0, e1]
    · obtain ⟨j, rfl⟩ : ∃ j, i = j + 8 := ⟨i - 8, by omega⟩
      have hd : (j + 8) / 8 = j / 8 + 1 := by omega
      have hlt : j / 8 < F.length := by simp [hd] at h; omega
      rw [List.getElem?_append_right (by rw [bitsOf_length]; omega), bitsOf_length, show j + 8 - 8 = j from by omega, ih j hlt]
      simp [hd]

/-- A bit as a number. -/
def bN (b : Bool) : Int := if b then 1 else 0

/-- Block p is a reader that stands at bit i of the bytes F, which the slice v holds. -/
structure Rd (w : World) (p : Nat) (v : Value) (F : List Nat) (i : Nat) : Prop where
  blk : Blk w p 59 #[v, .int .i64 (i : Int)]
  sl : Sl w v (u8s F)
  ne : v.ownBlock ≠ some p
  at_ : i ≤ 8 * F.length
  len : F.length ≤ 17179869184
  by_ : ∀ x ∈ F, x < 256

section
variable {w w' : World} {p : Nat} {v : Value} {F : List Nat} {i : Nat}
theorem Rd.keep (h : Rd w p v F i) {S : Nat → Prop} (hk : Kept S w w') (hp : ¬ S p) (hv : ∀ g, v.ownBlock = some g → ¬ S g) : Rd w' p v F i :=
  ⟨h.blk.kept hk hp, h.sl.kept hk hv, h.ne, h.at_, h.len, h.by_⟩
theorem Rd.below (h : Rd w p v F i) (hk : Below w.heap.size w w') : Rd w' p v F i := h.keep (Kept.of_below' (S := fun _ => False) hk) id fun _ _ => id
theorem Rd.drew (h : Rd w p v F i) : Rd w.drew p v F i := ⟨h.blk, h.sl.drew, h.ne, h.at_, h.len, h.by_⟩
theorem Rd.drewN (h : Rd w p v F i) (n : Nat) : Rd (w.drewN n) p v F i := ⟨h.blk, h.sl.drewN n, h.ne, h.at_, h.len, h.by_⟩
theorem Rd.move (h : Rd w p v F i) (j : Nat) (hj : j ≤ 8 * F.length) : Rd (w.setCell ⟨p, 1, none⟩ (.int .i64 (j : Int))) p v F j :=
  ⟨by simpa using h.blk.upd 1 (.int .i64 (j : Int)), h.sl.setCell h.ne _, h.ne, hj, h.len, h.by_⟩
theorem Rd.slice (h : Rd w p v F i) : ∃ A c, v = .slice A F.length c := by
  obtain ⟨A, c, e, _⟩ := h.sl.form
  rw [u8s_length] at e
  exact ⟨A, c, e⟩
end

/-- The reader stands at j now; nothing but its own block was touched. -/
def RI (w : World) (p : Nat) (v : Value) (F : List Nat) (j : Nat) (w' : World) : Prop := Rd w' p v F j ∧ Kept (fun k => k = p) w w'
theorem RI.refl {w : World} {p : Nat} {v : Value} {F : List Nat} {i : Nat} (h : Rd w p v F i) : RI w p v F i w := ⟨h, .refl _ _⟩
theorem RI.trans {w w1 w2 : World} {p : Nat} {v : Value} {F : List Nat} {i j : Nat} (h : RI w p v F i w1) (k : RI w1 p v F j w2) : RI w p v F j w2 := ⟨k.1, h.2.trans k.2 fun _ _ => id⟩

theorem and_bit (x i : Nat) (hx : x < 18446744073709551616) : bits BinOp.and IntKind.u64 ((x / 2 ^ i : Nat) : Int) 1 = bN (x.testBit i) := by
  have h := u64_and_nat (x / 2 ^ i) 1 (Nat.lt_of_le_of_lt (Nat.div_le_self _ _) hx) (by omega)
  rw [show ((1 : Int)) = ((1 : Nat) : Int) from rfl, h, Nat.and_one_is_mod, Nat.testBit_eq_decide_div_mod_eq]
  unfold bN
  have := Nat.mod_two_eq_zero_or_one (x / 2 ^ i)
  rcases this with e | e <;> simp [e]

theorem at_nil (w : World) : Calls Tryz.prog 16 #[.pointer none] w fun e w' => e = .returned (.int .i64 0) ∧ w = w' := by
  go_enter Tryz.func16, Tryz.ntmps16
  go_wp2_with fail
  go_ret
  exact ⟨rfl, rfl⟩
theorem at_any (w : World) (p : Nat) (v : Value) (F : List Nat) (i : Nat) (h : Rd w p v F i) : Calls Tryz.prog 16 #[.pointer (some ⟨p, 0, none⟩)] w fun e w' => e = .returned (.int .i64 (i : Int)) ∧ w = w' := by
  have c1 := h.blk.cell 1
  simp at c1
  clear h
  go_enter Tryz.func16, Tryz.ntmps16
  go_wp2_with fail
  go_ret
  exact ⟨rfl, rfl⟩
theorem left_nil (w : World) : Calls Tryz.prog 63 #[.pointer none] w fun e w' => e = .returned (.int .i64 0) ∧ w = w' := by
  go_enter Tryz.func63, Tryz.ntmps63
  go_wp2_with fail
  go_ret
  exact ⟨rfl, rfl⟩
theorem left_any (w : World) (p : Nat) (v : Value) (F : List Nat) (i : Nat) (h : Rd w p v F i) : Calls Tryz.prog 63 #[.pointer (some ⟨p, 0, none⟩)] w fun e w' => e = .returned (.int .i64 (8 * (F.length : Int) - (i : Int))) ∧ ∃ n, w' = w.drewN n := by
  obtain ⟨A, c, rfl⟩ := h.slice
  have c0 := h.blk.cell 0
  have c1 := h.blk.cell 1
  simp at c0 c1
  have hi := h.at_
  have hl := h.len
  have hw8 : IntKind.i64.wrap (8 * (F.length : Int)) = 8 * (F.length : Int) := IntWalk.i64_in _ (by omega)
  have hw9 : IntKind.i64.wrap (8 * (F.length : Int) - (i : Int)) = 8 * (F.length : Int) - (i : Int) := IntWalk.i64_in _ (by omega)
  clear h
  go_enter Tryz.func63, Tryz.ntmps63
  go_wp2_with fail
  go_quiet (fail)
  go_wp2_with fail
  go_ret
  exact ⟨rfl, _, rfl⟩

theorem peek_any (w : World) (p : Nat) (v : Value) (F : List Nat) (i0 i : Nat) (h : Rd w p v F i0) (b : Bool) (hi : (flat F)[i]? = some b) :
    Calls Tryz.prog 64 #[.pointer (some ⟨p, 0, none⟩), .int .i64 (i : Int)] w fun e w' => e = .returned (.int .u64 (bN b)) ∧ w = w' := by
  obtain ⟨A, c, rfl⟩ := h.slice
  have hlt : i < 8 * F.length := by
    have := (List.getElem?_eq_some_iff.1 hi).1
    rwa [flat_length] at this
  have hd : i / 8 < F.length := by omega
  rw [flat_get F i hd] at hi
  injection hi with hb
  have hx := h.by_ F[i / 8] (List.getElem_mem _)
  have hl := h.len
  have c0 := h.blk.cell 0
  simp at c0
  obtain ⟨ad, rfl, hc⟩ := h.sl.at_ (show i / 8 < (u8s F).length by rw [u8s_length]; exact hd)
  have e : (u8s F)[i / 8]'(by rw [u8s_length]; exact hd) = .int .u8 (F[i / 8] : Int) := by simp [u8s]
  rw [e] at hc
  generalize F[i / 8] = x at *
  have ha := hid (and_bit x (7 - i % 8) (by omega))
  have HB := hid hb
  have hx0 : (x : Int) < 256 := by omega
  clear h hb e hx
  go_enter Tryz.func64, Tryz.ntmps64
  go_wp2_with fail
  go_ret
  have e1 : ((x : Int) / 2 ^ (7 - i % 8)) = ((x / 2 ^ (7 - i % 8) : Nat) : Int) := by simp
  have e2 : IntKind.u64.wrap ((x / 2 ^ (7 - i % 8) : Nat) : Int) = ((x / 2 ^ (7 - i % 8) : Nat) : Int) := by
    have := Nat.div_le_self x (2 ^ (7 - i % 8))
    generalize x / 2 ^ (7 - i % 8) = y at *
    exact IntWalk.u64_in _ (by omega)
  rw [e1, e2, ha.out, HB.out]
  exact ⟨rfl, rfl⟩

theorem peek_at (w : World) (p : Nat) (v : Value) (F : List Nat) (i0 : Nat) (x : Int) (i : Nat) (hx : x = (i : Int)) (h : Rd w p v F i0) (b : Bool) (hi : (flat F)[i]? = some b) :
    Calls Tryz.prog 64 #[.pointer (some ⟨p, 0, none⟩), .int .i64 x] w fun e w' => e = .returned (.int .u64 (bN b)) ∧ w = w' := by
  subst hx
  exact peek_any w p v F i0 i h b hi

/-- What Read hands back: a reader in new memory, at the first bit. -/
def ReadPost (w : World) (F : List Nat) (e : Ending) (w' : World) : Prop :=
  ∃ q v, e = .returned (.pointer (some ⟨q, 0, none⟩)) ∧ Rd w' q v F 0 ∧ Below w.heap.size w w' ∧ w.heap.size ≤ q ∧ ∀ g, v.ownBlock = some g → w.heap.size ≤ g ∧ g < q

theorem read_any (w : World) (v : Value) (F : List Nat) (h : Sl w v (u8s F)) (hF : F.length ≤ 17179869184) (hb : ∀ x ∈ F, x < 256) : Calls Tryz.prog 13 #[v] w (ReadPost w F) := by
  have H := hid (And.intro h hb)
  clear h hb
  go_enter Tryz.func13, Tryz.ntmps13
  go_wp2_with fail
  have HC := clone8_sl w v F H.out.1 hF
  with_reducible refine HC.mono ?_
  clear HC
  rintro e w1 ⟨A, c, rfl, hf⟩
  replace hf := hid hf
  go_wp2_with fail
  go_ret
  have hlt : ∀ g, (Value.slice A F.length c).ownBlock = some g → g < w1.heap.size := fun g hg => (hf.out.1.lt g hg).2
  refine ⟨w1.heap.size, _, rfl, ⟨Blk.new w1 _ _, (Sl.of_own hf.out.1).alloc _, fun h => by have := hlt _ h; omega, by omega, hF, H.out.2⟩, hf.out.2.1.alloc hf.out.2.1.size _, hf.out.2.1.size, fun g hg => ⟨hf.out.2.2 g hg, hlt g hg⟩⟩
end Go.Proofs.YtjboboaccjbebaaGreat
/- The references of layer 2 (descantref02) that write: Bits, Below, Put, Many, Align, Bytes, Of. Bits are lists of ints 0 and 1 ('bis'). -/
namespace Go.Proofs.YtjboboaccjbebaaGreat
open Go.RowKit

def bi (b : Bool) : Int := if b then 1 else 0
def bis (L : List Bool) : List Int := L.map bi
theorem bis_length (L : List Bool) : (bis L).length = L.length := by simp [bis]
theorem bis_app (L M : List Bool) : bis (L ++ M) = bis L ++ bis M := by simp [bis]

/-- A fresh slice of ints: it owns F in new memory; nothing old has turned. -/
def FreshI (w : World) (F : List Int) (v : Value) (w' : World) : Prop :=
  w'.ownsRow 0 3 1 v F.length (i64s F) ∧ Below w.heap.size w w' ∧ (∀ g, v.ownBlock = some g → w.heap.size ≤ g)
/-- A call hands back such a slice. -/
def FreshIS (w : World) (F : List Int) (e : Ending) (w' : World) : Prop := ∃ A c, e = .returned (.slice A F.length c) ∧ FreshI w F (.slice A F.length c) w'
theorem FreshI.undrew {w w1 : World} {F : List Int} {v : Value} (h : FreshI w.drew F v w1) : FreshI w F v w1 := ⟨h.1, below_undrew h.2.1, h.2.2⟩
theorem FreshI.sl {w w' : World} {F : List Int} {v : Value} (h : FreshI w F v w') : Sl w' v (i64s F) := Sl.of_own h.1
theorem FreshI.form {w w' : World} {F : List Int} {v : Value} (h : FreshI w F v w') : ∃ A c, v = .slice A F.length c := by
  obtain ⟨A, c, e, _⟩ := h.sl.form
  rw [i64s_length] at e
  exact ⟨A, c, e⟩
/-- A step from a world that has only grown since. -/
theorem FreshI.after {w0 w w' : World} {F : List Int} {v : Value} (hb : Below w0.heap.size w0 w) (h : FreshI w F v w') : FreshI w0 F v w' :=
  ⟨h.1, hb.trans (h.2.1.mono hb.size), fun g hg => Nat.le_trans hb.size (h.2.2 g hg)⟩

theorem make_int (n : Nat) (hn : n ≤ 17179869184) (w : World) :
    (Instr.makeSlice 22 (.int .i64 (n : Int)) (.int .i64 (n : Int))).run Tryz.prog w = .ok (.slice (some ⟨w.heap.size, 0, none⟩) n n) (w.alloc (.cells (madeCells #[.int .i64 0] n) 3)) := by
  obtain ⟨i0, hi, hz0, hz1, hz2⟩ := info_parts Tryz.info_int
  have h := run_make (P := Tryz.prog) w 22 3 i0 (.int .i64 0) Tryz.underlying22 hi hz0 .i64 .i64 n n (by omega) (by omega) (by rw [hz2]; omega) (by omega)
  rw [hz1, Nat.mul_one, Int.toNat_natCast] at h
  exact h
theorem made_zero (n : Nat) : madeCells #[.int .i64 0] n = (i64s (List.replicate n 0)).toArray := by
  apply Array.ext
  · simp [size_madeCells, i64s]
  · intro i h1 h2
    simp [madeCells, i64s, Nat.mod_one]

theorem bits_store (x j k : Nat) : (i64s (List.replicate (j + 1) 0 ++ bis (bitsOf x k))).toArray.setIfInBounds j (.int .i64 (((x / 2 ^ k % 2 : Nat)) : Int)) = (i64s (List.replicate j 0 ++ bis (bitsOf x (k + 1)))).toArray := by
  have e : bis (bitsOf x (k + 1)) = (((x / 2 ^ k % 2 : Nat)) : Int) :: bis (bitsOf x k) := by
    rw [bitsOf, bis, List.map_cons]
    congr 1
    rw [Nat.testBit_eq_decide_div_mod_eq]
    unfold bi
    have := Nat.mod_two_eq_zero_or_one (x / 2 ^ k)
    rcases this with h | h <;> simp [h]
  rw [e, List.replicate_succ']
  simp only [i64s, List.setIfInBounds_toArray, List.map_append, List.map_cons, List.map_nil, List.append_assoc]
  congr 1
  rw [List.set_append, if_neg (by simp)]
  simp

set_option maxRecDepth 100000 in
set_option maxHeartbeats 800000 in
theorem bits_any (x n : Nat) (w : World) (hx : x < 18446744073709551616) (hn : n ≤ 1073741824) : Calls Tryz.prog 56 #[.int .u64 (x : Int), .int .i64 (n : Int)] w (FreshIS w (bis (bitsOf x n))) := by
  have hmk := fun W => make_int n (by omega) W
  have HX := hid hx
  clear hx
  go_enter Tryz.func56, Tryz.ntmps56
  go_wp2_with fail
  clear hmk
  go_loopw [0, 6] (fun y i wr => ∃ (j k : Nat) (i0 y0 : Int), j + k = n ∧ i0 = (j : Int) - 1 ∧ i = .int .i64 i0 ∧ y0 = ((x / 2 ^ k : Nat) : Int) ∧ y = .int .u64 y0 ∧ Blk wr w.heap.size 3 (i64s (List.replicate j 0 ++ bis (bitsOf x k))).toArray ∧ Below w.heap.size w wr) (fun _ i _ => (intOf i + 1).toNat)
  case atStart => exact ⟨n, 0, _, _, by omega, rfl, rfl, by simp, rfl, by rw [made_zero]; simpa [bitsOf, bis] using Blk.new w _ _, (Below.refl _ _).alloc (Nat.le_refl _) _⟩
  case round =>
    obtain ⟨j, k, i0, y0, hjk, hi0, rfl, hy0, rfl, hblk, hbel⟩ := hrel
    rcases j with _ | j
    · have hi : ¬ (0 : Int) ≤ i0 := by omega
      have HH := hid (And.intro hjk (And.intro hblk hbel))
      clear hjk hi0 hy0 hblk hbel
      go_wp2_with fail
      go_ret
      obtain ⟨hjk, hblk, hbel⟩ := HH.out
      obtain rfl : k = n := by omega
      simp only [List.replicate_zero, List.nil_append] at hblk
      have e : (bis (bitsOf x k)).length = k := by rw [bis_length, bitsOf_length]
      unfold FreshIS FreshI
      rw [e]
      refine ⟨_, _, rfl, own_of_blk hblk (Nat.le_refl _) (by unfold maxLen; omega) (by simp [i64s, e]) (List.take_of_length_le (by simp [i64s, e])) (by simp [i64s, e]), hbel, ?_⟩
      intro g hg
      simp [Value.ownBlock] at hg
      omega
    · obtain rfl : i0 = (j : Int) := by omega
      have hc := hblk.cell j
      have hf := hblk.frozen j
      have e0 : (i64s (List.replicate (j + 1) 0 ++ bis (bitsOf x k))).toArray[j]? = some (.int .i64 0) := by
        simp only [i64s, List.getElem?_toArray, List.map_append]
        rw [List.getElem?_append_left (by simp)]
        simp
      rw [e0] at hc
      have hjn : (j : Int) < n := by omega
      have HH := hid (And.intro hjk (And.intro hblk (And.intro hbel hy0)))
      have hq := Nat.div_le_self x (2 ^ k)
      have hx := HX.out
      obtain ⟨q, hqe⟩ : ∃ q, x / 2 ^ k = q := ⟨_, rfl⟩
      rw [hqe] at hy0 hq
      have hy1 : 0 ≤ y0 := by omega
      have hy2 : y0 < 18446744073709551616 := by omega
      clear hx hq hqe
      clear hjk hi0 hblk hbel hy0 e0
      go_wp2_with fail
      go_roundw
      case rel =>
        obtain ⟨hjk, hblk, hbel, hy0⟩ := HH.out
        have e2 : y0 % 2 = ((x / 2 ^ k % 2 : Nat) : Int) := by rw [hy0]; simp
        have e3 : y0 / 2 = ((x / 2 ^ (k + 1) : Nat) : Int) := by rw [hy0, Nat.pow_succ, ← Nat.div_div_eq_div_mul]; omega
        refine ⟨j, k + 1, _, _, by omega, rfl, rfl, e3, rfl, ?_, hbel.setCell (by simp) _⟩
        have h := hblk.upd j (.int .i64 (y0 % 2))
        rw [e2, bits_store] at h
        rw [e2]
        exact h
      case measure => simp [intOf]

/-- The same, the numbers as they stand at the call. -/
theorem bits_at (xi ni : Int) (x n : Nat) (hxi : xi = (x : Int)) (hni : ni = (n : Int)) (w : World) (hx : x < 18446744073709551616) (hn : n ≤ 1073741824) : Calls Tryz.prog 56 #[.int .u64 xi, .int .i64 ni] w (FreshIS w (bis (bitsOf x n))) := by
  subst hxi hni
  exact bits_any x n w hx hn

theorem below_eq {x k : Nat} {n y0 : Int} (hx : x < 18446744073709551616) (hkn : k = 0 ∨ (k : Int) ≤ n) (hk : k ≤ 64) (hy : y0 = ((x / 2 ^ k : Nat) : Int)) (h : ¬ ((k : Int) < n) ∨ k = 64) : (y0 == 0) = decide (x < 2 ^ n.toNat) := by
  rw [Bool.eq_iff_iff]
  simp only [beq_iff_eq, decide_eq_true_eq]
  have hd : x / 2 ^ k = 0 ↔ x < 2 ^ k := by
    constructor
    · intro h0
      rcases Nat.lt_or_ge x (2 ^ k) with h | h
      · exact h
      · have := Nat.div_pos h (Nat.two_pow_pos k)
        omega
    · exact Nat.div_eq_of_lt
  have e : y0 = 0 ↔ x < 2 ^ k := by rw [← hd, hy]; omega
  rw [e]
  by_cases hlt : (k : Int) < n
  · obtain rfl : k = 64 := by omega
    have h2 : 2 ^ 64 ≤ 2 ^ n.toNat := Nat.pow_le_pow_right (by omega) (by omega)
    constructor
    · intro; omega
    · intro; omega
  · obtain rfl : k = n.toNat := by omega
    exact Iff.rfl

theorem i64s_append_one (F : List Int) (x : Int) : i64s F ++ [Value.int .i64 x] = i64s (F ++ [x]) := by simp [i64s]

/-- What is owned in memory that a call made. -/
def OwnI (w : World) (F : List Int) (v : Value) (w' : World) : Prop := w'.ownsRow 0 3 1 v F.length (i64s F) ∧ Below w.heap.size w w' ∧ (∀ g, v.ownBlock = some g → w.heap.size ≤ g)
/-- An empty slice that was just made. -/
theorem FreshI.empty (w : World) : FreshI w [] (.slice (some ⟨w.heap.size, 0, none⟩) 0 0) (w.alloc (.cells #[] 3)) :=
  ⟨own_of_blk (Blk.new w _ _) (Nat.le_refl _) (by decide) rfl rfl rfl, (Below.refl _ _).alloc (Nat.le_refl _) _, fun g hg => by simp [Value.ownBlock] at hg; omega⟩
/-- append of a whole list onto a fresh one. -/
theorem FreshI.app {w w1 w2 : World} {F G : List Int} {v v' : Value} (h : FreshI w F v w1) (hown : w2.ownsRow 0 3 1 v' (F.length + (i64s G).length) (i64s F ++ i64s G)) (hg : w1.grownBy w2 v.ownBlock) (hm : Moved w1 v v') : FreshI w (F ++ G) v' w2 := by
  rw [i64s_length, ← i64s_app] at hown
  refine ⟨by rw [List.length_append]; exact hown, h.2.1.grown hg h.2.1.size h.2.2, fun g hg' => ?_⟩
  rcases hm with e | ⟨g', e, hs⟩
  · exact h.2.2 g (e ▸ hg')
  · rw [e] at hg'; injection hg' with e; have := h.2.1.size; omega
/-- It stays while nothing old is touched. -/
theorem FreshI.later {w w1 w2 : World} {F : List Int} {v : Value} (h : FreshI w F v w1) (hb : Below w1.heap.size w1 w2) : FreshI w F v w2 :=
  ⟨own_of_heap h.1 fun g hg => hb.block g (h.1.lt g hg).2, h.2.1.trans (hb.mono h.2.1.size), h.2.2⟩
/-- append of one number onto a fresh list. -/
theorem FreshI.app1 {w w1 w2 : World} {F : List Int} {v : Value} {x : Int} {g cap : Nat} {o : Obj} (h : FreshI w F v w1) (hown : w2.ownsRow 0 3 1 (.slice (some ⟨g, 0, none⟩) (F.length + 1) cap) (F.length + 1) (i64s F ++ [.int .i64 x])) (hg : (w1.alloc o).grownBy w2 v.ownBlock) (hm : v.ownBlock = some g ∨ g = w1.heap.size + 1) :
    FreshI w (F ++ [x]) (.slice (some ⟨g, 0, none⟩) (F.length + 1) cap) w2 := by
  rw [i64s_append_one] at hown
  refine ⟨by rw [List.length_append]; exact hown, (h.2.1.alloc h.2.1.size o).grown hg (by simp; have := h.2.1.size; omega) h.2.2, fun k hk => ?_⟩
  simp [Value.ownBlock] at hk
  subst hk
  rcases hm with e | e
  · exact h.2.2 g e
  · have := h.2.1.size; omega

/-- The error of Put. -/
def putE (x : Nat) (n : Int) : Int := if n < 0 ∨ 64 < n then 1 else if 2 ^ n.toNat ≤ x then 3 else 0

/-- What the reference's Put hands back: the list and the error. -/
def RefPutPost (w : World) (L : List Bool) (x n : Nat) (e : Ending) (w' : World) : Prop :=
  ∃ A c, e = .returned (.tuple #[.slice A (bis (L ++ bitsOf x n)).length c, .int .i64 0]) ∧ FreshI w (bis (L ++ bitsOf x n)) (.slice A (bis (L ++ bitsOf x n)).length c) w'

end Go.Proofs.YtjboboaccjbebaaGreat
/- The reference's comparison of two lists of ints. -/
namespace Go.Proofs.YtjboboaccjbebaaGreat
open Go.RowKit

/-- It hands back v and only draws. -/
def DrawnI (w : World) (v : Value) (e : Ending) (w' : World) : Prop := e = .returned v ∧ ∃ n, w' = w.drewN n

theorem take_snocI {α : Type} (xs : List α) (k : Nat) (h : k < xs.length) : xs.take (k + 1) = xs.take k ++ [xs[k]] := List.take_succ_eq_append_getElem h

theorem i64s_at {w : World} {xs : List Int} {A : Option Addr} {n c k : Nat} (h : Sl w (.slice A n c) (i64s xs)) (hk : k < xs.length) : ∃ ad, A = some ad ∧ w.cell? (ad.add k) = some (.int .i64 xs[k]) := by
  obtain ⟨ad, e, hc⟩ := h.at_ (show k < (i64s xs).length by rw [i64s_length]; exact hk)
  refine ⟨ad, e, ?_⟩
  rw [hc]
  simp [i64s]
theorem i64s_form {w : World} {v : Value} {xs : List Int} (h : Sl w v (i64s xs)) : ∃ A c, v = .slice A xs.length c ∧ xs.length ≤ 9223372036854775807 := by
  obtain ⟨A, c, e, _⟩ := h.form
  rw [i64s_length] at e
  have := h.max
  rw [i64s_length] at this
  exact ⟨A, c, e, this⟩

set_option maxRecDepth 100000 in
theorem ints_any (a b : Value) (xs ys : List Int) (w : World) (ha : Sl w a (i64s xs)) (hb : Sl w b (i64s ys)) :
    Calls Tryz.prog 15 #[a, b] w (DrawnI w (.bool (decide (xs = ys)))) := by
  obtain ⟨A, c, rfl, hm⟩ := i64s_form ha
  obtain ⟨B, d, rfl, hm2⟩ := i64s_form hb
  have H := hid (And.intro ha hb)
  clear ha hb
  by_cases hl : xs.length = ys.length
  · have hlb : ((xs.length : Int) != (ys.length : Int)) = false := by rw [hl]; simp
    have HL := hid hl
    clear hl
    go_enter Tryz.func15, Tryz.ntmps15
    go_wp2_with fail
    go_loopw [5] (fun i wr => ∃ (k n : Nat), k ≤ xs.length ∧ i = .int .i64 k ∧ wr = w.drewN n ∧ Hid (xs.take k = ys.take k)) (fun i _ => xs.length - (intOf i).toNat)
    case atStart => exact ⟨0, 0, by omega, rfl, rfl, by simp [Hid]⟩
    case round =>
      obtain ⟨k, n, hk, rfl, rfl, ht⟩ := hrel
      by_cases hkm : k < xs.length
      · have hin : (k : Int) < xs.length := by omega
        have hkn : k < ys.length := by rw [← HL.out]; exact hkm
        have hin2 : (k : Int) < ys.length := by omega
        obtain ⟨ad, rfl, hc⟩ := i64s_at H.out.1 hkm
        obtain ⟨bd, rfl, hc2⟩ := i64s_at H.out.2 hkn
        obtain ⟨x, hx⟩ : ∃ x, xs[k] = x := ⟨_, rfl⟩
        obtain ⟨y, hy⟩ : ∃ y, ys[k] = y := ⟨_, rfl⟩
        rw [hx] at hc
        rw [hy] at hc2
        have HXY := hid (And.intro hx hy)
        clear hx hy
        by_cases he : x = y
        · subst he
          have hne : (x != x) = false := by simp
          go_wp2_with fail
          go_quiet (fail)
          go_wp2_with fail
          go_roundw
          case rel => exact ⟨k + 1, _, by omega, by go_num, rfl, by show _ = _; rw [take_snocI xs k hkm, take_snocI ys k hkn, ht.out, HXY.out.1, HXY.out.2]⟩
          case measure => simp [intOf]; omega
        · have hne : (x != y) = true := by simpa using he
          have HE := hid he
          clear he
          go_wp2_with fail
          go_quiet (fail)
          go_wp2_with fail
          go_ret
          refine ⟨?_, _, World.drewN_drewN _ _ _⟩
          have e : decide (xs = ys) = false := by
            simp only [decide_eq_false_iff_not]
            intro e
            subst e
            exact HE.out (HXY.out.1.symm.trans HXY.out.2)
          rw [e]
          rfl
      · have hin : ¬ (k : Int) < xs.length := by omega
        obtain rfl : k = xs.length := by omega
        go_wp2_with fail
        go_ret
        refine ⟨?_, _, rfl⟩
        have h := ht.out
        rw [List.take_length, HL.out, List.take_length] at h
        rw [h]
        simp
  · have hlb : ((xs.length : Int) != (ys.length : Int)) = true := by simp; omega
    have e : decide (xs = ys) = false := by
      simp only [decide_eq_false_iff_not]
      intro e
      exact hl (by rw [e])
    rw [e]
    clear e hl
    go_enter Tryz.func15, Tryz.ntmps15
    go_wp2_with fail
    go_ret
    exact ⟨rfl, 0, rfl⟩
end Go.Proofs.YtjboboaccjbebaaGreat
/- The arguments of the statements, opened: bytes, ints, slices of structs of numbers. -/
namespace Go.Proofs.YtjboboaccjbebaaGreat
open Go.ChangeShapes Go.WideShapes Go.ChangeAt Go.RowKit Go.Deep

section
variable {H : Type} {enc : TypeId × Value → H} {P : Program} {w : World} {base : Nat} {spare : Nat → Bool} {held : Bool}
/-- A slice of integers that came in reads as a list. -/
theorem arg_ints {t e : TypeId} {k : IntKind} {v : Value} {d : DataW H} {p : List MemPlace} (ht : P.underlying t = some (.slice e)) (he : P.underlying e = some (.int k)) (hc : P.cellsOf e = 1) {r : Reach} {b0 : Nat} (hv : Value.okWide P w r b0 t v)
    (h : DataW.Trod enc P w base spare held t v d p) : ∃ zs : List Int, Sl w v (zs.map (Value.int k)) ∧ ∀ n ∈ zs, (Lit.int k n).wf = true := by
  obtain ⟨a, len, cap, rfl⟩ := okWide_slice ht hv
  obtain ⟨fuel, hf⟩ := h
  rcases open_ints ht he hc hf with ⟨hcs, _⟩ | ⟨x, l, c, zs, hcs, _, hl, hm, hz, _, hcell, hwz⟩
  · simp [Value.cells] at hcs
    obtain ⟨rfl, rfl, rfl⟩ := hcs
    exact ⟨[], .inl ⟨rfl, rfl⟩, by simp⟩
  · simp [Value.cells] at hcs
    obtain ⟨rfl, rfl, rfl⟩ := hcs
    have hle : len ≤ zs.length := by rw [hz]; split <;> omega
    refine ⟨zs.take len, .inr ⟨x, cap, by simp [List.length_take, Nat.min_eq_left hle], by simp [List.length_take, Nat.min_eq_left hle]; exact hl, hm, fun j u hu => ?_⟩, fun n hn => hwz n (List.mem_of_mem_take hn)⟩
    have hj : j < len := by
      have := (List.getElem?_eq_some_iff.1 hu).1
      simp at this
      omega
    rw [hcell j (by omega)]
    rw [← hu]
    simp [hj, List.getD, List.getElem?_eq_getElem (show j < zs.length by omega)]

/-- A slice of structs of one-cell fields that came in: each field's cell, and its reading. -/
theorem open_recs {t e : TypeId} {fs : Array Field} {v : Value} {d : DataW H} {p : List MemPlace} (ht : P.underlying t = some (.slice e)) (he : P.underlying e = some (.struct fs)) (hone : oneCellFields P fs = true) (hC : P.cellsOf e = fs.size)
    {r : Reach} {b0 : Nat} (hv : Value.okWide P w r b0 t v) (h : DataW.Trod enc P w base spare held t v d p) :
    ∃ (A : Option Addr) (n c : Nat), v = .slice A n c ∧ n ≤ 9223372036854775807 ∧ ∀ i, i < n → ∃ ad, A = some ad ∧ ∀ (j : Nat) (f : Field), fs[j]? = some f → ∃ u y m, w.cell? (ad.add (i * fs.size + j)) = some u ∧ DataW.trod enc P w base spare held m f.type [u] = some y := by
  obtain ⟨a, len, cap, rfl⟩ := okWide_slice ht hv
  obtain ⟨fuel, hf⟩ := h
  rcases open_slice ht hf with ⟨hcs, _⟩ | ⟨x, l, c, m, n, D, Pl, hcs, _, hl, hm, hmm, _, hi⟩
  · simp [Value.cells] at hcs
    obtain ⟨rfl, rfl, rfl⟩ := hcs
    exact ⟨none, 0, 0, rfl, by omega, by omega⟩
  · simp [Value.cells] at hcs
    obtain ⟨rfl, rfl, rfl⟩ := hcs
    refine ⟨some x, len, cap, rfl, by unfold maxLen at hm; omega, fun i hil => ⟨x, rfl, fun j f hj => ?_⟩⟩
    have him : i < m := by rw [hmm]; split <;> omega
    obtain ⟨cs', hc, ht'⟩ := hi i him
    rw [hC] at hc
    obtain ⟨ys, n', _, _, _, hyl, hfd⟩ := DataW.trod_struct he ht'
    obtain ⟨_, hcl, hat⟩ := World.cells?_some hc
    obtain ⟨ho, hk⟩ := hone_of hone j f hj
    have hjl : j < fs.size := (Array.getElem?_eq_some_iff.1 hj).1
    have hcell := hat j hjl
    have hv' : cs'[j]? = some (cs'[j]'(by omega)) := List.getElem?_eq_getElem (by omega)
    have h1 := hfd j f hj
    rw [ho, hk] at h1
    have hone' : (cs'.drop j).take 1 = [cs'[j]'(by omega)] := by
      rw [List.drop_eq_getElem_cons (by omega)]
      rfl
    rw [hone'] at h1
    have hys : ys[j]? = some (ys[j]'(by omega)) := List.getElem?_eq_getElem (by omega)
    refine ⟨_, _, n', ?_, h1.trans hys⟩
    rw [← Go.Deep.add_add, hcell, hv']
end

theorem add_field (a : Addr) (i s j : Nat) (hj : 0 < j) : a.add (i * s + j) = ⟨(a.add (i * s)).block, (a.add (i * s)).off + j, none⟩ := by
  unfold Addr.add
  rw [if_neg (by omega)]
  split <;> simp_all [Nat.add_assoc]

set_option maxRecDepth 100000 in
/-- Bytes that came in. -/
theorem arg_bytes {H : Type} {enc : TypeId × Value → H} {w : World} {base : Nat} {spare : Nat → Bool} {held : Bool} {v : Value} {d : DataW H} {p : List MemPlace} {r : Reach} {b0 : Nat} (hv : Value.okWide Tryz.prog w r b0 25 v) (h : DataW.Trod enc Tryz.prog w base spare held 25 v d p) :
    ∃ (A : Option Addr) (F : List Nat) (c : Nat), v = .slice A F.length c ∧ Sl w (.slice A F.length c) (u8s F) ∧ (∀ x ∈ F, x < 256) ∧ F.length ≤ 9223372036854775807 := by
  obtain ⟨zs, hs, hw⟩ := arg_ints Tryz.underlying25 Tryz.underlying5 (by kernel_rfl) hv h
  have hb : ∀ n ∈ zs, 0 ≤ n ∧ n < 256 := fun n hn => by
    have := hw n hn
    simp [Lit.wf, IntKind.min, IntKind.max, IntKind.signed, IntKind.bits] at this
    omega
  have e : zs.map (Value.int .u8) = u8s (zs.map Int.toNat) := by
    unfold u8s
    rw [List.map_map]
    apply List.map_congr_left
    intro n hn
    have := hb n hn
    simp
    omega
  rw [e] at hs
  obtain ⟨A, c, ev, _⟩ := hs.form
  rw [u8s_length] at ev
  subst ev
  refine ⟨A, zs.map Int.toNat, c, rfl, hs, ?_, by have := hs.max; rwa [u8s_length] at this⟩
  intro x hx
  simp at hx
  obtain ⟨n, hn, rfl⟩ := hx
  have := hb n hn
  omega
end Go.Proofs.YtjboboaccjbebaaGreat
/- More arguments of statements, opened: ints, uints, numbers. -/
namespace Go.Proofs.YtjboboaccjbebaaGreat
open Go.ChangeShapes Go.WideShapes Go.ChangeAt Go.RowKit Go.Deep

def u64s (F : List Nat) : List Value := F.map fun (x : Nat) => Value.int .u64 (x : Int)
theorem u64s_length (F : List Nat) : (u64s F).length = F.length := by simp [u64s]

theorem wf_i64 {a : Int} (h : (Lit.int .i64 a).wf = true) : -9223372036854775808 ≤ a ∧ a ≤ 9223372036854775807 := by
  simpa [Lit.wf, IntKind.min, IntKind.max, IntKind.signed, IntKind.bits] using h
theorem wf_u64 {a : Int} (h : (Lit.int .u64 a).wf = true) : ∃ n : Nat, a = (n : Int) ∧ n < 18446744073709551616 := by
  simp [Lit.wf, IntKind.min, IntKind.max, IntKind.signed, IntKind.bits] at h
  exact ⟨a.toNat, by omega, by omega⟩

section
variable {H : Type} {enc : TypeId × Value → H} {w : World} {base : Nat} {spare : Nat → Bool} {held : Bool} {v : Value} {d : DataW H} {p : List MemPlace} {r : Reach} {b0 : Nat}
set_option maxRecDepth 100000 in
/-- Ints that came in. -/
theorem arg_ilist (hv : Value.okWide Tryz.prog w r b0 22 v) (h : DataW.Trod enc Tryz.prog w base spare held 22 v d p) :
    ∃ F : List Int, Sl w v (i64s F) ∧ ∀ x ∈ F, -9223372036854775808 ≤ x ∧ x ≤ 9223372036854775807 := by
  obtain ⟨zs, hs, hw⟩ := arg_ints Tryz.underlying22 Tryz.underlying3 (by kernel_rfl) hv h
  exact ⟨zs, hs, fun x hx => wf_i64 (hw x hx)⟩

set_option maxRecDepth 100000 in
/-- A cell that is a slice of ints. -/
theorem arg_icell {fuel : Nat} {c : Value} {x : DataW H × List MemPlace} (hf : DataW.trod enc Tryz.prog w base spare held fuel 22 [c] = some x) :
    ∃ F : List Int, Sl w c (i64s F) ∧ ∀ x ∈ F, -9223372036854775808 ≤ x ∧ x ≤ 9223372036854775807 := by
  rcases open_ints Tryz.underlying22 Tryz.underlying3 (by kernel_rfl) hf with ⟨hcs, _⟩ | ⟨x, l, cp, zs, hcs, _, hl, hm, hz, _, hcell, hwz⟩
  · injection hcs with hcs
    subst hcs
    exact ⟨[], .inl ⟨rfl, rfl⟩, by simp⟩
  · injection hcs with hcs
    subst hcs
    have hle : l ≤ zs.length := by rw [hz]; split <;> omega
    have hlen : (i64s (zs.take l)).length = l := by rw [i64s_length, List.length_take, Nat.min_eq_left hle]
    refine ⟨zs.take l, .inr ⟨x, cp, by rw [hlen], by rw [hlen]; exact hl, hm, fun j u hu => ?_⟩, fun n hn => wf_i64 (hwz n (List.mem_of_mem_take hn))⟩
    have hj : j < l := by
      have := (List.getElem?_eq_some_iff.1 hu).1
      omega
    rw [hcell j (by omega), ← hu]
    simp [i64s, hj, List.getD, List.getElem?_eq_getElem (show j < zs.length by omega)]
set_option maxRecDepth 100000 in
/-- Uints that came in. -/
theorem arg_ulist (hv : Value.okWide Tryz.prog w r b0 49 v) (h : DataW.Trod enc Tryz.prog w base spare held 49 v d p) :
    ∃ F : List Nat, Sl w v (u64s F) ∧ ∀ x ∈ F, x < 18446744073709551616 := by
  obtain ⟨zs, hs, hw⟩ := arg_ints Tryz.underlying49 Tryz.underlying51 (by kernel_rfl) hv h
  refine ⟨zs.map Int.toNat, ?_, ?_⟩
  · have e : zs.map (Value.int .u64) = u64s (zs.map Int.toNat) := by
      unfold u64s
      rw [List.map_map]
      apply List.map_congr_left
      intro n hn
      obtain ⟨k, e, _⟩ := wf_u64 (hw n hn)
      simp [e]
    rwa [e] at hs
  · intro x hx
    simp at hx
    obtain ⟨n, hn, rfl⟩ := hx
    obtain ⟨k, e, hk⟩ := wf_u64 (hw n hn)
    rw [e, Int.toNat_natCast]
    exact hk
end
end Go.Proofs.YtjboboaccjbebaaGreat
/- Lists of uints: slices that read as them, fresh ones, and their comparison (ref06.Uints). -/
namespace Go.Proofs.YtjboboaccjbebaaGreat
open Go.RowKit

theorem Tryz.info_uint : (Tryz.prog.info? 51).map (fun i => (i.zero, i.size, i.bytes)) = some (some (.int .u64 0), 1, 8) := by kernel_rfl

theorem u64s_app (F G : List Nat) : u64s (F ++ G) = u64s F ++ u64s G := by simp [u64s]
theorem u64s_one {F : List Nat} : ∀ u ∈ u64s F, u.oneCell' = true := by
  intro u hu
  simp [u64s] at hu
  obtain ⟨_, _, rfl⟩ := hu
  rfl
theorem u64s_take (xs : List Nat) (n : Nat) : u64s (xs.take n) = (u64s xs).take n := by simp [u64s]
theorem u64s_at {w : World} {xs : List Nat} {A : Option Addr} {n c k : Nat} (h : Sl w (.slice A n c) (u64s xs)) (hk : k < xs.length) : ∃ ad, A = some ad ∧ w.cell? (ad.add k) = some (.int .u64 (xs[k] : Nat)) := by
  obtain ⟨ad, e, hc⟩ := h.at_ (show k < (u64s xs).length by rw [u64s_length]; exact hk)
  refine ⟨ad, e, ?_⟩
  rw [hc]
  simp [u64s]
theorem u64s_form {w : World} {v : Value} {xs : List Nat} (h : Sl w v (u64s xs)) : ∃ A c, v = .slice A xs.length c ∧ xs.length ≤ 9223372036854775807 := by
  obtain ⟨A, c, e, _⟩ := h.form
  rw [u64s_length] at e
  have := h.max
  rw [u64s_length] at this
  exact ⟨A, c, e, this⟩

/-- A fresh slice of uints: it owns F in new memory; nothing old has turned. -/
def FreshU (w : World) (F : List Nat) (v : Value) (w' : World) : Prop :=
  w'.ownsRow 0 51 1 v F.length (u64s F) ∧ Below w.heap.size w w' ∧ (∀ g, v.ownBlock = some g → w.heap.size ≤ g)
theorem FreshU.sl {w w' : World} {F : List Nat} {v : Value} (h : FreshU w F v w') : Sl w' v (u64s F) := Sl.of_own h.1
theorem FreshU.form {w w' : World} {F : List Nat} {v : Value} (h : FreshU w F v w') : ∃ A c, v = .slice A F.length c := by
  obtain ⟨A, c, e, _⟩ := h.sl.form
  rw [u64s_length] at e
  exact ⟨A, c, e⟩
theorem FreshU.nil_ {w w' : World} (h : Below w.heap.size w w') : FreshU w [] (.slice none 0 0) w' := ⟨World.ownsRow_nil _ _ _ _, h, by simp [Value.ownBlock]⟩
theorem FreshU.later {w w1 w2 : World} {F : List Nat} {v : Value} (h : FreshU w F v w1) (hb : Below w1.heap.size w1 w2) : FreshU w F v w2 :=
  ⟨own_of_heap h.1 fun g hg => hb.block g (h.1.lt g hg).2, h.2.1.trans (hb.mono h.2.1.size), h.2.2⟩
theorem u64s_append_one (F : List Nat) (x : Nat) : u64s F ++ [Value.int .u64 (x : Int)] = u64s (F ++ [x]) := by simp [u64s]
theorem FreshU.app1 {w w1 w2 : World} {F : List Nat} {v : Value} {x : Nat} {g cap : Nat} {o : Obj} (h : FreshU w F v w1) (hown : w2.ownsRow 0 51 1 (.slice (some ⟨g, 0, none⟩) (F.length + 1) cap) (F.length + 1) (u64s F ++ [.int .u64 (x : Int)])) (hg : (w1.alloc o).grownBy w2 v.ownBlock) (hm : v.ownBlock = some g ∨ g = w1.heap.size + 1) :
    FreshU w (F ++ [x]) (.slice (some ⟨g, 0, none⟩) (F.length + 1) cap) w2 := by
  rw [u64s_append_one] at hown
  refine ⟨by rw [List.length_append]; exact hown, (h.2.1.alloc h.2.1.size o).grown hg (by simp; have := h.2.1.size; omega) h.2.2, fun k hk => ?_⟩
  simp [Value.ownBlock] at hk
  subst hk
  rcases hm with e | e
  · exact h.2.2 g e
  · have := h.2.1.size; omega
end Go.Proofs.YtjboboaccjbebaaGreat
/- slices.IndexFunc and ContainsFunc of uints, whatever the function value: it may read, and draw. -/
namespace Go.Proofs.YtjboboaccjbebaaGreat
open Go.RowKit

/-- A function value that answers p x at each x of which P holds; it only reads. -/
def QuietU (g : Nat) (cap : Array Value) (p : Nat → Bool) (P : Nat → Prop) (w : World) : Prop :=
  ∀ (x n : Nat), P x → Calls Tryz.prog g (#[.int .u64 (x : Int)] ++ cap) (w.drewN n) fun e w' => e = .returned (.bool (p x)) ∧ ∃ m, w' = (w.drewN n).drewN m

/-- The first place where p holds. -/
def firstU (p : Nat → Bool) : List Nat → Nat → Int
  | [], _ => -1
  | x :: xs, i => if p x then (i : Int) else firstU p xs (i + 1)
theorem firstU_skip (p : Nat → Bool) (xs ys : List Nat) (i : Nat) (h : ∀ x ∈ xs, p x = false) : firstU p (xs ++ ys) i = firstU p ys (i + xs.length) := by
  induction xs generalizing i with
  | nil => simp
  | cons x xs ih =>
    rw [List.cons_append, firstU, h x (by simp)]
    simp only [Bool.false_eq_true, if_false]
    rw [ih _ fun y hy => h y (by simp [hy])]
    congr 1
    simp; omega
theorem firstU_any (p : Nat → Bool) (xs : List Nat) (i : Nat) : decide (0 ≤ firstU p xs i) = xs.any p := by
  induction xs generalizing i with
  | nil => simp [firstU]
  | cons x xs ih =>
    rw [firstU, List.any_cons]
    cases h : p x
    · simp only [Bool.false_eq_true, if_false, Bool.false_or]
      exact ih _
    · simp

set_option maxRecDepth 100000 in
theorem indexU_any (g : Nat) (cap : Array Value) (eg : ∀ args w, (callFunc g args).run Tryz.prog w = .ok (.enter g args) w) (p : Nat → Bool) (P : Nat → Prop) (l : Value) (xs : List Nat) (w : World) (hl : Sl w l (u64s xs)) (hP : ∀ x ∈ xs, P x) (hf : QuietU g cap p P w) :
    Calls Tryz.prog 80 #[l, .func (.func g) #[] cap] w (DrawnI w (.int .i64 (firstU p xs 0))) := by
  obtain ⟨A, c, rfl, hm⟩ := u64s_form hl
  have H := hid (And.intro hl (And.intro hP hf))
  clear hl hP hf
  go_enter Tryz.func80, Tryz.ntmps80
  go_wp2_with fail
  go_loopw [5, 8] (fun _ i wr => ∃ k n : Nat, k ≤ xs.length ∧ i = .int .i64 k ∧ wr = w.drewN n ∧ Hid (∀ x ∈ xs.take k, p x = false)) (fun _ i _ => xs.length - (intOf i).toNat)
  case atStart => exact ⟨0, 0, by omega, rfl, rfl, by simp [Hid]⟩
  case round =>
    obtain ⟨k, n, hk, rfl, rfl, hall⟩ := hrel
    by_cases hkm : k < xs.length
    · have hin : (k : Int) < xs.length := by omega
      obtain ⟨ad, rfl, hc⟩ := u64s_at H.out.1 hkm
      have hcall := H.out.2.2 xs[k] n (H.out.2.1 _ (List.getElem_mem _))
      obtain ⟨x, hx⟩ : ∃ x, xs[k] = x := ⟨_, rfl⟩
      rw [hx] at hc hcall
      obtain ⟨b, hb⟩ : ∃ b, p x = b := ⟨_, rfl⟩
      rw [hb] at hcall
      have HX := hid (And.intro hx (And.intro hb hcall))
      clear hx hcall hb
      cases b
      · go_wp2_with (go_at_fn g; refine HX.out.2.2.mono ?_; rintro e w' ⟨rfl, m1, rfl⟩)
        go_roundw
        case rel =>
          refine ⟨k + 1, n + m1, by omega, by go_num, rfl, ?_⟩
          intro y hy
          rw [take_snocI xs k hkm] at hy
          rcases List.mem_append.1 hy with hy | hy
          · exact hall.out y hy
          · simp at hy
            rw [hy, HX.out.1, HX.out.2.1]
        case measure => simp [intOf]; omega
      · go_wp2_with (go_at_fn g; refine HX.out.2.2.mono ?_; rintro e w' ⟨rfl, m1, rfl⟩)
        go_ret
        refine ⟨?_, _, rfl⟩
        have h := firstU_skip p (xs.take k) (xs.drop k) 0 hall.out
        rw [List.take_append_drop, List.length_take, Nat.min_eq_left hk, Nat.zero_add, List.drop_eq_getElem_cons hkm, firstU, HX.out.1, HX.out.2.1] at h
        rw [h]
        rfl
    · have hin : ¬ (k : Int) < xs.length := by omega
      obtain rfl : k = xs.length := by omega
      go_wp2_with fail
      go_ret
      refine ⟨?_, _, rfl⟩
      have h := firstU_skip p xs [] 0 (by have := hall.out; rwa [List.take_length] at this)
      rw [List.append_nil] at h
      rw [h]
      rfl

theorem containsU_any (g : Nat) (cap : Array Value) (eg : ∀ args w, (callFunc g args).run Tryz.prog w = .ok (.enter g args) w) (p : Nat → Bool) (P : Nat → Prop) (l : Value) (xs : List Nat) (w : World) (hl : Sl w l (u64s xs)) (hP : ∀ x ∈ xs, P x) (hf : QuietU g cap p P w) :
    Calls Tryz.prog 49 #[l, .func (.func g) #[] cap] w (DrawnI w (.bool (xs.any p))) := by
  have hF := hid (firstU_any p xs 0)
  have HI := hid (indexU_any g cap eg p P l xs w hl hP hf)
  clear hl hf
  go_enter Tryz.func49, Tryz.ntmps49
  go_wp2_with fail
  with_reducible refine HI.out.mono ?_
  rintro e w1 ⟨rfl, n, rfl⟩
  go_wp2_with fail
  go_ret
  exact ⟨by rw [← hF.out]; rfl, n, rfl⟩
end Go.Proofs.YtjboboaccjbebaaGreat
