/- A writer of bits in memory ('Wst', 'Wr'), and the contracts of its methods: each adds the bits that it should, and touches the writer's own blocks alone. -/
import Derived.Test.YtjboboaccjbebaaApp
import Derived.Test.YtjboboaccjbebaaBits
import Derived.WalkKit
import Derived.WalkSpells
import Derived.WalkLawsBesides
import Derived.Outline
import Derived.BigRegion
import Derived.BigQuiet
import Derived.Deep.QuietTactic
import Derived.Deep.RegionLaw
import Derived.Deep.DeepMust
import Derived.Laws.BitsAllLaws
namespace Go.Proofs.Ytjboboaccjbebaa
open Go.RowKit

/-- Block p is a writer whose fields are v, part and n; v owns the bytes F. -/
structure Wst (w : World) (p : Nat) (v : Value) (F : List Nat) (part n : Nat) : Prop where
  blk : Blk w p 27 #[v, .int .u8 (part : Int), .int .i64 (n : Int)]
  own : w.ownsRow 0 5 1 v F.length (u8s F)
  hn : n < 8
  hp : part < 256
  low : part % 2 ^ (8 - n) = 0
  by_ : ∀ x ∈ F, x < 256

section
variable {w w' : World} {p : Nat} {v : Value} {F : List Nat} {part n : Nat}
theorem Wst.ne (h : Wst w p v F part n) : v.ownBlock ≠ some p := own_ne h.own h.blk (by decide)
theorem Wst.keep (h : Wst w p v F part n) {S : Nat → Prop} (hk : Kept S w w') (hp : ¬ S p) (hv : ∀ g, v.ownBlock = some g → ¬ S g) : Wst w' p v F part n :=
  ⟨h.blk.kept hk hp, own_kept h.own hk hv, h.hn, h.hp, h.low, h.by_⟩
theorem Wst.slice (h : Wst w p v F part n) : ∃ A c, v = .slice A F.length c := by
  rcases h.own.2 with ⟨rfl, h2⟩ | ⟨g, cap, _, rfl, _⟩
  · exact ⟨none, 0, by rw [h2]⟩
  · exact ⟨_, _, rfl⟩
end

/-- What a bit more does. -/
def BitPost (w : World) (p : Nat) (v : Value) (F : List Nat) (part n : Nat) (b : Bool) (e : Ending) (w' : World) : Prop :=
  e = .returned (.tuple #[]) ∧ Kept (fun k => k = p ∨ v.ownBlock = some k) w w' ∧
    ((n < 7 ∧ Wst w' p v F (setBit part n b) (n + 1)) ∨
     (n = 7 ∧ ∃ v', Wst w' p v' (F ++ [setBit part 7 b]) 0 0 ∧ Moved w v v'))

theorem bit_or (part n : Nat) (hp : part < 256) (hn : n < 8) (h0 : part % 2 ^ (8 - n) = 0) : bits BinOp.or IntKind.u8 (part : Int) (2 ^ (7 - n) % 256) = ((setBit part n true : Nat) : Int) := by
  rw [← bits_or hp hn h0]
  have e : ((2 : Int) ^ (7 - n) % 256) = ((2 ^ (7 - n) % 256 : Nat) : Int) := by simp
  rw [e]
  exact u8_or_nat _ _ hp (by omega)

section
variable {w : World} {p : Nat} {v : Value} {F : List Nat} {part n : Nat}
theorem Wst.more (h : Wst w p v F part n) (h7 : n < 7) (b : Bool) (w' : World) (hb : Blk w' p 27 #[v, .int .u8 ((setBit part n b : Nat) : Int), .int .i64 ((n : Int) + 1)])
    (hk : Kept (fun k => k = p) w w') : BitPost w p v F part n b (.returned (.tuple #[])) w' :=
  ⟨rfl, hk.mono fun _ _ h => .inl h, .inl ⟨h7, ⟨hb, own_kept h.own hk (fun g hg e => h.ne (by rw [hg, e])), by omega, bits_lt h.hp h.hn h.low, bits_low h.hp h.hn h.low, h.by_⟩⟩⟩
end

theorem Wst.last {w w1 w2 : World} {p : Nat} {v : Value} {F : List Nat} {part : Nat} (h : Wst w p v F part 7) (b : Bool) (X : Int) (hX : X = ((setBit part 7 b : Nat) : Int)) (hk : Kept (fun k => k = p) w w1)
    {g cap : Nat} {y : Value} (hb2 : Blk w2 p 27 #[v, y, .int .i64 8])
    (hown : w2.ownsRow 0 5 1 (.slice (some ⟨g, 0, none⟩) (F.length + 1) cap) (F.length + 1) (u8s F ++ [.int .u8 X])) (hgrow : w1.grownBy w2 v.ownBlock) (hat : v.ownBlock = some g ∨ w.heap.size ≤ g) :
    BitPost w p v F part 7 b (.returned (.tuple #[])) (((w2.setCell ⟨p, 0, none⟩ (.slice (some ⟨g, 0, none⟩) (F.length + 1) cap)).setCell ⟨p, 1, none⟩ (.int .u8 0)).setCell ⟨p, 2, none⟩ (.int .i64 0)) := by
  have hne := own_ne hown hb2 (by decide)
  refine ⟨rfl, ?_, .inr ⟨rfl, .slice (some ⟨g, 0, none⟩) (F.length + 1) cap, ⟨?_, ?_, by omega, by omega, by simp, ?_⟩, ?_⟩⟩
  · exact ((((hk.mono fun _ _ h => .inl h).grown hgrow (fun k hk _ => .inr hk)).setCell (by simp) _).setCell (by simp) _).setCell (by simp) _
  · simpa using ((hb2.upd 0 (.slice (some ⟨g, 0, none⟩) (F.length + 1) cap)).upd 1 (.int .u8 0)).upd 2 (.int .i64 0)
  · subst hX
    have e : (F ++ [setBit part 7 b]).length = F.length + 1 := by simp
    rw [e, u8s_app]
    exact own_setCell (own_setCell (own_setCell hown hne _) hne _) hne _
  · intro x hx
    rcases List.mem_append.1 hx with hx | hx
    · exact h.by_ x hx
    · simp at hx
      rw [hx]
      exact bits_lt h.hp h.hn h.low
  · rcases hat with e | e
    · exact .inl e.symm
    · exact .inr ⟨g, rfl, e⟩

set_option maxHeartbeats 800000 in
theorem bit_true_more (w : World) (p : Nat) (v : Value) (F : List Nat) (part n : Nat) (h : Wst w p v F part n) (h7 : n < 7) :
    Calls Try.prog 126 #[.pointer (some ⟨p, 0, none⟩), .bool true] w (BitPost w p v F part n true) := by
  have c1 := h.blk.cell 1
  have c2 := h.blk.cell 2
  have f1 := h.blk.frozen 1
  have f2 := h.blk.frozen 2
  simp at c1 c2
  have hne : ((n : Int) + 1 == 8) = false := by simp; omega
  have hn0 : (0 : Int) ≤ n := by omega
  have hp0 : (part : Int) ≤ 255 := by have := h.hp; omega
  have hor := hid (bit_or part n h.hp (by omega) h.low)
  have H := hid h
  clear h
  go_enter Try.func126, Try.ntmps126
  go_wp2_with fail
  go_region
  go_wp2_with fail
  go_end0
  rw [hor.out]
  exact H.out.more h7 true _ (by simpa using ((H.out.blk.upd 1 _).upd 2 _).drew) ((((Kept.refl _ _).setCell (by simp) _).setCell (by simp) _).drew)

set_option maxHeartbeats 800000 in
theorem bit_false_more (w : World) (p : Nat) (v : Value) (F : List Nat) (part n : Nat) (h : Wst w p v F part n) (h7 : n < 7) :
    Calls Try.prog 126 #[.pointer (some ⟨p, 0, none⟩), .bool false] w (BitPost w p v F part n false) := by
  have c1 := h.blk.cell 1
  have c2 := h.blk.cell 2
  have f1 := h.blk.frozen 1
  have f2 := h.blk.frozen 2
  simp at c1 c2
  have hne : ((n : Int) + 1 == 8) = false := by simp; omega
  have hn0 : (0 : Int) ≤ n := by omega
  have H := hid h
  clear h
  go_enter Try.func126, Try.ntmps126
  go_wp2_with fail
  go_end0
  exact H.out.more h7 false _ (by simpa [setBit] using (H.out.blk.upd 2 _)) (((Kept.refl _ _).setCell (by simp) _))

set_option maxHeartbeats 1600000 in
theorem bit_true_last (w : World) (p : Nat) (v : Value) (F : List Nat) (part : Nat) (h : Wst w p v F part 7) (hF : F.length ≤ 17179869184) :
    Calls Try.prog 126 #[.pointer (some ⟨p, 0, none⟩), .bool true] w (BitPost w p v F part 7 true) := by
  have c0 := h.blk.cell 0
  have c1 := h.blk.cell 1
  have c2 := h.blk.cell 2
  have f0 := h.blk.frozen 0
  have f1 := h.blk.frozen 1
  have f2 := h.blk.frozen 2
  simp at c0 c1 c2
  have hp0 : (part : Int) ≤ 255 := by have := h.hp; omega
  have hz := h.blk.lt
  have hor := hid (bit_or part 7 h.hp (by omega) h.low)
  have H := hid h
  clear h
  go_enter Try.func126, Try.ntmps126
  go_wp2_with fail
  go_region
  go_wp2_with fail
  have HB : Blk ((w.setCell ⟨p, 1, none⟩ (.int .u8 (bits BinOp.or IntKind.u8 (part : Int) 1))).setCell ⟨p, 2, none⟩ (.int .i64 8)) p 27 #[v, .int .u8 (bits BinOp.or IntKind.u8 (part : Int) 1), .int .i64 8] := by
    simpa using (H.out.blk.upd 1 (.int .u8 (bits BinOp.or IntKind.u8 (part : Int) 1))).upd 2 (.int .i64 8)
  replace HB := hid HB
  go_region_law (go_must (refine step_app1 _ rfl (.tmp 34) (.tmp 39) 25 rfl 5 .u8 1 Try.underlying25 Try.info_u8 v (u8s F) F.length ?_ ?_ ⟨w.heap.size, 0, none⟩ (bits BinOp.or IntKind.u8 (part : Int) 1) ?_ ?_ (by decide) hF (w.heap.size + 1) ?_ ?_; (simp [Act.eval]); (repeat first | exact H.out.own | refine own_drew ?_ | refine World.ownsRow.alloc ?_ _ | refine own_setCell ?_ H.out.ne _); (simp [Act.eval]); (simp only [World.cell?_drew]; rw [World.cell?_alloc_at _ _ _ _ (by simp)]; rfl); (simp); (intro g cap w2 hown hgrow hat hlt; have hb2 : Blk w2 p 27 #[v, .int .u8 (bits BinOp.or IntKind.u8 (part : Int) 1), .int .i64 8] := Blk.grown (Blk.drew (Blk.drew (Blk.alloc HB.out _))) hgrow H.out.ne; have c0 := hb2.cell 0; have c1 := hb2.cell 1; have c2 := hb2.cell 2; have f0 := hb2.frozen 0; have f1 := hb2.frozen 1; have f2 := hb2.frozen 2; simp at c0 c1 c2; replace hb2 := hid hb2; replace hown := hid hown; replace hgrow := hid hgrow)))
  all_goals (go_wp2_with fail)
  all_goals (go_end0)
  all_goals exact H.out.last true _ hor.out ((((((Kept.refl _ _).setCell (by simp) _).setCell (by simp) _).alloc _).drew).drew) hb2.out hown.out hgrow.out (hat.imp id (by omega))

set_option maxHeartbeats 1600000 in
theorem bit_false_last (w : World) (p : Nat) (v : Value) (F : List Nat) (part : Nat) (h : Wst w p v F part 7) (hF : F.length ≤ 17179869184) :
    Calls Try.prog 126 #[.pointer (some ⟨p, 0, none⟩), .bool false] w (BitPost w p v F part 7 false) := by
  have c0 := h.blk.cell 0
  have c1 := h.blk.cell 1
  have c2 := h.blk.cell 2
  have f0 := h.blk.frozen 0
  have f1 := h.blk.frozen 1
  have f2 := h.blk.frozen 2
  simp at c0 c1 c2
  have hz := h.blk.lt
  have H := hid h
  clear h
  have HB : Blk (w.setCell ⟨p, 2, none⟩ (.int .i64 8)) p 27 #[v, .int .u8 (part : Int), .int .i64 8] := by
    simpa using H.out.blk.upd 2 (.int .i64 8)
  replace HB := hid HB
  go_enter Try.func126, Try.ntmps126
  go_wp2_with fail
  go_region_law (go_must (refine step_app1 _ rfl (.tmp 34) (.tmp 39) 25 rfl 5 .u8 1 Try.underlying25 Try.info_u8 v (u8s F) F.length ?_ ?_ ⟨w.heap.size, 0, none⟩ (part : Int) ?_ ?_ (by decide) hF (w.heap.size + 1) ?_ ?_; (simp [Act.eval]); (repeat first | exact H.out.own | refine own_drew ?_ | refine World.ownsRow.alloc ?_ _ | refine own_setCell ?_ H.out.ne _); (simp [Act.eval]); (simp only [World.cell?_drew]; rw [World.cell?_alloc_at _ _ _ _ (by simp)]; rfl); (simp); (intro g cap w2 hown hgrow hat hlt; have hb2 : Blk w2 p 27 #[v, .int .u8 (part : Int), .int .i64 8] := Blk.grown (Blk.drew (Blk.alloc HB.out _)) hgrow H.out.ne; have c0 := hb2.cell 0; have c1 := hb2.cell 1; have c2 := hb2.cell 2; have f0 := hb2.frozen 0; have f1 := hb2.frozen 1; have f2 := hb2.frozen 2; simp at c0 c1 c2; replace hb2 := hid hb2; replace hown := hid hown; replace hgrow := hid hgrow)))
  all_goals (go_wp2_with fail)
  all_goals (go_end0)
  all_goals exact H.out.last false _ (by simp [setBit]) (((((Kept.refl _ _).setCell (by simp) _).alloc _).drew)) hb2.out hown.out hgrow.out (hat.imp id (by omega))

/-- One bit more, whichever. -/
theorem bit_any (w : World) (p : Nat) (v : Value) (F : List Nat) (part n : Nat) (b : Bool) (h : Wst w p v F part n) (hF : F.length ≤ 17179869184) :
    Calls Try.prog 126 #[.pointer (some ⟨p, 0, none⟩), .bool b] w (BitPost w p v F part n b) := by
  have hn := h.hn
  by_cases h7 : n < 7
  · cases b
    · exact bit_false_more w p v F part n h h7
    · exact bit_true_more w p v F part n h h7
  · obtain rfl : n = 7 := by omega
    cases b
    · exact bit_false_last w p v F part h hF
    · exact bit_true_last w p v F part h hF
end Go.Proofs.Ytjboboaccjbebaa
