/- (*Writer).Bytes; slices.Clone of bytes. -/
import Derived.Test.YtjboboaccjbebaaWr
namespace Go.Proofs.Ytjboboaccjbebaa
open Go.RowKit

theorem u8s_one {F : List Nat} : ∀ u ∈ u8s F, u.oneCell' = true := by
  intro u hu
  simp [u8s] at hu
  obtain ⟨_, _, rfl⟩ := hu
  rfl
theorem i64s_one {F : List Int} : ∀ u ∈ i64s F, u.oneCell' = true := by
  intro u hu
  simp [i64s] at hu
  obtain ⟨_, _, rfl⟩ := hu
  rfl
theorem size_u8 : (Try.prog.info? 5).map (·.size) = some 1 := by kernel_rfl
theorem size_int : (Try.prog.info? 3).map (·.size) = some 1 := by kernel_rfl

/-- A fresh slice of bytes: it owns F in new memory; nothing old has turned. -/
def Fresh8 (w : World) (F : List Nat) (v : Value) (w' : World) : Prop :=
  w'.ownsRow 0 5 1 v F.length (u8s F) ∧ Below w.heap.size w w' ∧ (∀ g, v.ownBlock = some g → w.heap.size ≤ g)

set_option maxRecDepth 100000 in
theorem clone8_nil (w : World) : Calls Try.prog 82 #[.slice none 0 0] w fun e w' => e = .returned (.slice none 0 0) ∧ w = w' := by
  have qn := fun w a n c n' c' => Lib.run_eql_slice_nil (P := Try.prog) w 25 5 a n c n' c' Try.underlying25
  go_enter Try.func82, Try.ntmps82
  go_wp2_with fail
  go_ret
  exact ⟨rfl, rfl⟩

def Clone8 (w : World) (F : List Nat) (e : Ending) (w' : World) : Prop := ∃ v, e = .returned v ∧ Fresh8 w F v w'

set_option maxRecDepth 100000 in
theorem clone8_any (w : World) (v : Value) (F : List Nat) (h : Sl w v (u8s F)) (hF : F.length ≤ 17179869184) : Calls Try.prog 82 #[v] w (Clone8 w F) := by
  rcases h with ⟨rfl, hx⟩ | ⟨ad, c, rfl, hx⟩
  · refine (clone8_nil w).mono ?_
    rintro e w' ⟨rfl, rfl⟩
    have e : F = [] := by simpa [u8s] using hx
    subst e
    exact ⟨_, rfl, World.ownsRow_nil _ _ _ _, .refl _ _, by simp [Value.ownBlock]⟩
  · have hS : Sl w (.slice (some ad) (u8s F).length c) (u8s F) := .inr ⟨ad, c, rfl, hx⟩
    rw [u8s_length] at hS ⊢
    have HS := hid hS
    clear hS hx
    have qn := fun w a n c n' c' => Lib.run_eql_slice_nil (P := Try.prog) w 25 5 a n c n' c' Try.underlying25
    go_enter Try.func82, Try.ntmps82
    go_wp2_with (at_builtin; go_must (refine wpList_app _ rfl (.tmp 5) (.tmp 6) 25 rfl 5 .u8 1 Try.underlying25 Try.info_u8 (.slice (some ⟨w.heap.size, 0, none⟩) 0 0) 0 [] rfl ?c1 _ (u8s F) rfl ?c2 u8s_one (by decide) ?c3 ?_); rotate_right; intro v' w1 hown hg hm; replace hown := hid hown; replace hg := hid hg; replace hm := hid hm)
    case c1 => exact own_of_blk (Blk.new w _ _) (Nat.le_refl _) (by decide) rfl rfl rfl
    case c2 => exact HS.out.alloc _
    case c3 => rw [u8s_length]; omega
    go_ret
    have hown := hown.out
    rw [u8s_length, Nat.zero_add, List.nil_append] at hown
    refine ⟨v', rfl, hown, ((Below.refl _ _).alloc (Nat.le_refl _) _).grown hg.out (by simp) (by intro k hk; simp [Value.ownBlock] at hk; omega), ?_⟩
    intro g hg'
    rcases hm.out with h | ⟨g', h, hs⟩
    · rw [h] at hg'; simp [Value.ownBlock] at hg'; omega
    · rw [h] at hg'; simp at hs; injection hg' with e; omega

theorem bytes_nil (w : World) : Calls Try.prog 24 #[.pointer none] w fun e w' => e = .returned (.slice none 0 0) ∧ w = w' := by
  go_enter Try.func24, Try.ntmps24
  go_wp2_with fail
  go_ret
  exact ⟨rfl, rfl⟩

/-- The bytes of a writer's bits. -/
def byts (F : List Nat) (part n : Nat) : List Nat := if n = 0 then F else F ++ [part]

set_option maxRecDepth 100000 in
set_option maxHeartbeats 1600000 in
theorem bytes_even (w : World) (p : Nat) (v : Value) (F : List Nat) (part : Nat) (h : Wst w p v F part 0) (hF : F.length + 1 ≤ 17179869184) :
    Calls Try.prog 24 #[.pointer (some ⟨p, 0, none⟩)] w (Clone8 w F) := by
  obtain ⟨A, c, rfl⟩ := h.slice
  have c0 := h.blk.cell 0
  have c1 := h.blk.cell 1
  have c2 := h.blk.cell 2
  simp at c0 c1 c2
  have hz := h.blk.lt
  have H := hid h
  clear h
  have hw1 : IntKind.i64.wrap ((F.length : Int) + 1) = (F.length : Int) + 1 := IntWalk.i64_in _ (by omega)
  have hmk := fun W => make_u8 (F.length : Int) ((F.length : Int) + 1) (by omega) (by omega) (by omega) W
  have e1 : ((F.length : Int)).toNat = F.length := by omega
  have e2 : ((F.length : Int) + 1).toNat = F.length + 1 := by omega
  rw [e1, e2] at hmk
  clear e1 e2
  go_enter Try.func24, Try.ntmps24
  go_wp2_with fail
  go_region
  go_wp2_with (first | ((with_reducible refine wpList_copy (o := ⟨some 23, _, _, _, _, _⟩) _ ?c0 (.tmp 18) (.tmp 22) 25 ?c7 5 Try.underlying25 size_u8 w.heap.size F.length (F.length + 1) ?c8 (.slice A F.length c) ?c9 (u8s F) ?c1 ?c2 (madeCells #[.int .u8 0] (F.length + 1)) ?c3 ?c4 ?c5 ?c6 u8s_one ?_); rotate_right; intro w1 hown hg; have hb1 : Blk w1 p 27 #[.slice A F.length c, .int .u8 (part : Int), .int .i64 0] := Blk.grown (Blk.drew (Blk.alloc H.out.blk _)) hg (by simp; omega); have c0 := hb1.cell 0; have c1 := hb1.cell 1; have c2 := hb1.cell 2; simp at c0 c1 c2; have hz1 := hb1.lt; replace hb1 := hid hb1; replace hown := hid hown; replace hg := hid hg))
  case c0 => rfl
  case c7 => rfl
  case c8 => rfl
  case c9 => rfl
  case c1 => exact ((Sl.of_own H.out.own).alloc _).drew
  case c2 => exact u8s_length F
  case c3 => exact (Blk.new w _ _).drew
  case c4 => exact size_madeCells _ _
  case c5 => omega
  case c6 => unfold maxLen; omega
  go_ret
  refine ⟨_, rfl, hown.out, (((Below.refl _ _).alloc (Nat.le_refl _) _).drew).grown hg.out (by simp) (by intro k hk; injection hk with hk; omega), ?_⟩
  intro g hg'
  simp [Value.ownBlock] at hg'
  omega

set_option maxRecDepth 100000 in
set_option maxHeartbeats 1600000 in
theorem bytes_odd (w : World) (p : Nat) (v : Value) (F : List Nat) (part n : Nat) (h : Wst w p v F part n) (hF : F.length + 1 ≤ 17179869184) (hn0 : 0 < n) :
    Calls Try.prog 24 #[.pointer (some ⟨p, 0, none⟩)] w (Clone8 w (F ++ [part])) := by
  have hn1 : (0 : Int) < n := by omega
  obtain ⟨A, c, rfl⟩ := h.slice
  have c0 := h.blk.cell 0
  have c1 := h.blk.cell 1
  have c2 := h.blk.cell 2
  simp at c0 c1 c2
  have hz := h.blk.lt
  have H := hid h
  clear h
  have hw1 : IntKind.i64.wrap ((F.length : Int) + 1) = (F.length : Int) + 1 := IntWalk.i64_in _ (by omega)
  have hmk := fun W => make_u8 (F.length : Int) ((F.length : Int) + 1) (by omega) (by omega) (by omega) W
  have e1 : ((F.length : Int)).toNat = F.length := by omega
  have e2 : ((F.length : Int) + 1).toNat = F.length + 1 := by omega
  rw [e1, e2] at hmk
  clear e1 e2
  go_enter Try.func24, Try.ntmps24
  go_wp2_with fail
  go_region
  go_wp2_with (first
    | ((with_reducible refine wpList_copy (o := ⟨some 23, _, _, _, _, _⟩) _ ?c0 (.tmp 18) (.tmp 22) 25 ?c7 5 Try.underlying25 size_u8 w.heap.size F.length (F.length + 1) ?c8 (.slice A F.length c) ?c9 (u8s F) ?c1 ?c2 (madeCells #[.int .u8 0] (F.length + 1)) ?c3 ?c4 ?c5 ?c6 u8s_one ?_); rotate_right; intro w1 hown hg; have hb1 : Blk w1 p 27 #[.slice A F.length c, .int .u8 (part : Int), .int .i64 (n : Int)] := Blk.grown (Blk.drew (Blk.alloc H.out.blk _)) hg (by simp; omega); have c0 := hb1.cell 0; have c1 := hb1.cell 1; have c2 := hb1.cell 2; simp at c0 c1 c2; have hz1 := hb1.lt; replace hb1 := hid hb1; replace hown := hid hown; replace hg := hid hg)
    | (at_builtin; go_must (refine wpList_app1 _ rfl (.tmp 29) (.tmp 34) 25 rfl 5 .u8 1 Try.underlying25 Try.info_u8 (.slice (some ⟨w.heap.size, 0, none⟩) F.length (F.length + 1)) (u8s F) F.length rfl ?d1 ⟨w1.heap.size, 0, none⟩ (part : Int) rfl ?d3 (by decide) ?d4 (w1.heap.size + 1) ?d5 ?_); rotate_right; intro g cap w2 hown2 hg2 hat hlt; replace hown2 := hid hown2; replace hg2 := hid hg2; replace hat := hid hat))
  case d1 => exact hown.out.alloc _
  case d3 => exact World.cell?_alloc_at _ _ _ _ rfl
  case d4 => omega
  case d5 => simp
  case c0 => rfl
  case c7 => rfl
  case c8 => rfl
  case c9 => rfl
  case c1 => exact ((Sl.of_own H.out.own).alloc _).drew
  case c2 => exact u8s_length F
  case c3 => exact (Blk.new w _ _).drew
  case c4 => exact size_madeCells _ _
  case c5 => omega
  case c6 => unfold maxLen; omega
  go_ret
  have hs1 : w.heap.size < w1.heap.size := by have := hg.out.size; simp at this; omega
  refine ⟨_, rfl, ⟨by simpa [u8s] using hown2.out, ?_, ?_⟩⟩
  · refine Below.grown (Below.alloc ((((Below.refl _ _).alloc (Nat.le_refl _) _).drew).grown hg.out (by simp) (by intro k hk; injection hk with hk; omega)) (by omega) _) hg2.out (by simp; omega) ?_
    intro k hk
    simp [Value.ownBlock] at hk
    omega
  · intro k hk
    rcases hat.out with h | h
    · simp [Value.ownBlock] at h hk; omega
    · simp [Value.ownBlock] at hk; omega

theorem bytes_st (w : World) (p : Nat) (v : Value) (F : List Nat) (part n : Nat) (h : Wst w p v F part n) (hF : F.length + 1 ≤ 17179869184) :
    Calls Try.prog 24 #[.pointer (some ⟨p, 0, none⟩)] w (Clone8 w (byts F part n)) := by
  by_cases h0 : n = 0
  · subst h0
    exact bytes_even w p v F part h hF
  · have e : byts F part n = F ++ [part] := by simp [byts, h0]
    rw [e]
    exact bytes_odd w p v F part n h hF (by omega)

theorem low_zero : ∀ part : Fin 256, ∀ n : Fin 8, part.val % 2 ^ (8 - n.val) = 0 → bitsOf part.val 8 = (bitsOf part.val 8).take n.val ++ List.replicate (8 - n.val) false := by decide +kernel

/-- The bits 0 up to a byte's end. -/
def padded (L : List Bool) : List Bool := L ++ List.replicate ((8 - L.length % 8) % 8) false

theorem flat_byts {w : World} {p : Nat} {v : Value} {F : List Nat} {part n : Nat} (h : Wst w p v F part n) : flat (byts F part n) = padded (flat F ++ (bitsOf part 8).take n) ∧ ∀ x ∈ byts F part n, x < 256 := by
  have hl := h.len
  have hn := h.hn
  refine ⟨?_, ?_⟩
  · unfold padded byts
    rw [hl]
    split
    · next h0 => subst h0; simp
    · have e : (8 - (8 * F.length + n) % 8) % 8 = 8 - n := by omega
      rw [e, flat_append, flat_one, List.append_assoc]
      congr 1
      exact low_zero ⟨part, h.hp⟩ ⟨n, h.hn⟩ h.low
  · intro x hx
    unfold byts at hx
    split at hx
    · exact h.by_ x hx
    · rcases List.mem_append.1 hx with hx | hx
      · exact h.by_ x hx
      · simp at hx; rw [hx]; exact h.hp

/-- The same, the slice written out. -/
def Clone8S (w : World) (F : List Nat) (e : Ending) (w' : World) : Prop := ∃ A c, e = .returned (.slice A F.length c) ∧ Fresh8 w F (.slice A F.length c) w'
theorem Clone8.form {w w' : World} {F : List Nat} {e : Ending} (h : Clone8 w F e w') : Clone8S w F e w' := by
  obtain ⟨v, rfl, hf⟩ := h
  obtain ⟨A, c, e, _⟩ := (Sl.of_own hf.1).form
  rw [u8s_length] at e
  subst e
  exact ⟨A, c, rfl, hf⟩
theorem clone8_sl (w : World) (v : Value) (F : List Nat) (h : Sl w v (u8s F)) (hF : F.length ≤ 17179869184) : Calls Try.prog 82 #[v] w (Clone8S w F) :=
  (clone8_any w v F h hF).mono fun _ _ h => h.form

/-- What Bytes hands back: bytes, in new memory, whose bits are the writer's, up to a byte's end. -/
def BytesPost (w : World) (L : List Bool) (e : Ending) (w' : World) : Prop := ∃ F A c, e = .returned (.slice A F.length c) ∧ Fresh8 w F (.slice A F.length c) w' ∧ flat F = padded L ∧ ∀ x ∈ F, x < 256

theorem bytes_any (w : World) (p : Nat) (v : Value) (L : List Bool) (h : Wr w p v L) (hL : L.length ≤ 68719476736) :
    Calls Try.prog 24 #[.pointer (some ⟨p, 0, none⟩)] w (BytesPost w L) := by
  obtain ⟨F, part, n, h, rfl⟩ := h
  have hl := h.len
  refine (bytes_st w p v F part n h (by omega)).mono ?_
  rintro e w' hc
  obtain ⟨A, c, rfl, hf⟩ := hc.form
  exact ⟨_, A, c, rfl, hf, flat_byts h⟩
end Go.Proofs.Ytjboboaccjbebaa
