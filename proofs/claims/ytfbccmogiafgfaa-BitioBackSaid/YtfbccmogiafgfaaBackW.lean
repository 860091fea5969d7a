/- The walk of BitioBack: pieces that are put are got. -/
import Derived.Test.YtfbccmogiafgfaaFew
import Derived.Test.YtfbccmogiafgfaaKnown02
import Derived.Deep.RegionHeld3
import Derived.Deep.DeepCutAuto
namespace Go.Proofs.Ytfbccmogiafgfaa
open Go.RowKit

/-- An act's three cells. -/
def act3 (a : Int × Nat × Int) : List Value := [.int .i64 a.1, .int .u64 (a.2.1 : Int), .int .i64 a.2.2]
def acts (P : List (Int × Nat × Int)) : List Value := P.flatMap act3
theorem acts_length (P : List (Int × Nat × Int)) : (acts P).length = P.length * 3 := by
  induction P with
  | nil => rfl
  | cons a P ih =>
    have e : acts (a :: P) = act3 a ++ acts P := rfl
    rw [e, List.length_append, ih]
    simp [act3]; omega
theorem acts_app (P : List (Int × Nat × Int)) (a : Int × Nat × Int) : acts (P ++ [a]) = acts P ++ act3 a := by simp [acts]
theorem acts_get (P : List (Int × Nat × Int)) (i : Nat) (h : i < P.length) : (acts P)[i * 3]? = some (.int .i64 P[i].1) ∧ (acts P)[i * 3 + 1]? = some (.int .u64 (P[i].2.1 : Int)) ∧ (acts P)[i * 3 + 2]? = some (.int .i64 P[i].2.2) := by
  induction P generalizing i with
  | nil => simp at h
  | cons a P ih =>
    have e : acts (a :: P) = .int .i64 a.1 :: .int .u64 (a.2.1 : Int) :: .int .i64 a.2.2 :: acts P := rfl
    rw [e]
    rcases i with _ | i
    · simp
    · have h' := ih i (by simpa using h)
      rw [show (i + 1) * 3 = i * 3 + 3 from by omega]
      simpa using h'

/-- The bits of acts. -/
def pbits (P : List (Int × Nat × Int)) : List Bool := P.flatMap fun a => bitsOf a.2.1 a.2.2.toNat
def Good (P : List (Int × Nat × Int)) : Prop := ∀ a ∈ P, 0 ≤ a.2.2 ∧ a.2.2 ≤ 64 ∧ a.2.1 < 2 ^ a.2.2.toNat

theorem info_act : (Try.prog.info? 42).map (fun i => (i.zero, i.size, i.bytes)) = some (some (.agg #[.int .i64 0, .int .u64 0, .int .i64 0]), 3, 24) := by kernel_rfl

theorem wpList_app3 {ops : Array Oper} {rest : List Oper} {o : Oper} {a : Act} {Q : Exit → Act → World → Prop} (w : World) (hgd : o.guard = none) (s x : Operand)
    (ho : o.op = .call { callee := .builtin .append, args := #[s, x], argTypes := #[33, 33] })
    (v : Value) (P : List (Int × Nat × Int)) (hs : a.eval s = v) (hown : w.ownsRow 0 42 3 v P.length (acts P))
    (ad : Addr) (A : Int × Nat × Int) (hx : a.eval x = .slice (some ad) 1 1) (hc : ∀ j u, (act3 A)[j]? = some u → w.cell? (ad.add j) = some u) (hn : P.length ≤ 1000) (H : Nat) (hH : w.heap.size = H)
    (h : ∀ g cap w', w'.ownsRow 0 42 3 (.slice (some ⟨g, 0, none⟩) (P.length + 1) cap) (P ++ [A]).length (acts (P ++ [A])) → w.grownBy w' v.ownBlock → (v.ownBlock = some g ∨ g = H) → wpList Try.prog ops Q rest (a.put o.dst (.slice (some ⟨g, 0, none⟩) (P.length + 1) cap)) w') :
    wpList Try.prog ops Q (o :: rest) a w := by
  obtain ⟨i0, hi, hz0, hz1, hz2⟩ := info_parts info_act
  refine wpList_append_lies w hgd s x 33 ho 0 42 i0 _ 3 24 Try.underlying33 hi hz0 hz1 hz2 rfl (by decide) v P.length (acts P) hs hown ad 1 1 (act3 A) hx rfl hc (by intro u hu; simp [act3] at hu; rcases hu with rfl | rfl | rfl <;> rfl) (by decide) (by unfold maxLen; omega) (by omega) (Nat.zero_le _) H hH ?_
  intro g cap w' h1 h2 h3 _
  refine h g cap w' ?_ h2 h3
  rw [acts_app, List.length_append]
  exact h1

theorem wr_type {w : World} {p : Nat} {u : Value} {L : List Bool} (hw : Wr w p u L) {g : Nat} {cs : Array Value} {t : TypeId} (hg : w.heap[g]? = some (.cells cs t (0, 0))) (ht : t ≠ 38) (ht8 : t ≠ 5) : ¬ Foot p u g := by
  obtain ⟨F, part, n, h, _⟩ := hw
  rintro (rfl | hf)
  · have := h.blk
    unfold Blk at this
    rw [this] at hg
    injection hg with hg
    injection hg with _ e
    exact ht e.symm
  · rcases h.own.2 with ⟨rfl, _⟩ | ⟨g', cap, cur, rfl, _, hh, _⟩
    · simp [Value.ownBlock] at hf
    · simp [Value.ownBlock] at hf
      subst hf
      rw [hh] at hg
      injection hg with hg
      injection hg with _ e
      exact ht8 e.symm

theorem own_foot {w : World} {p : Nat} {u v : Value} {L : List Bool} {n : Nat} {xs : List Value} (hw : Wr w p u L) (h : w.ownsRow 0 42 3 v n xs) : ∀ g, v.ownBlock = some g → ¬ Foot p u g := by
  intro g hg
  rcases h.2 with ⟨rfl, _⟩ | ⟨g', cap, cur, rfl, _, hh, _⟩
  · simp [Value.ownBlock] at hg
  · simp [Value.ownBlock] at hg
    subst hg
    exact wr_type hw hh (by decide) (by decide)

/-- A writer and the acts that were put, in memory that is new since w. -/
structure Both (w : World) (p : Nat) (u v : Value) (P : List (Int × Nat × Int)) (wr : World) : Prop where
  wr_ : Wr wr p u (pbits P)
  own : wr.ownsRow 0 42 3 v P.length (acts P)
  good : Good P
  lw : ∀ k, Foot p u k → w.heap.size ≤ k
  lv : ∀ g, v.ownBlock = some g → w.heap.size ≤ g
  bel : Below w.heap.size w wr

theorem pbits_le {P : List (Int × Nat × Int)} (h : Good P) : (pbits P).length ≤ 64 * P.length := by
  induction P with
  | nil => simp [pbits]
  | cons a P ih =>
    have e : pbits (a :: P) = bitsOf a.2.1 a.2.2.toNat ++ pbits P := rfl
    have h1 := ih fun b hb => h b (by simp [hb])
    have h2 := h a (by simp)
    rw [e, List.length_append, bitsOf_length]
    simp; omega

theorem put_good {x : Nat} {n : Int} (h : putErr x n = 0) : 0 ≤ n ∧ n ≤ 64 ∧ x < 2 ^ n.toNat := by
  unfold putErr at h
  split at h
  · cases h
  · split at h
    · cases h
    · omega

theorem pbits_app (P : List (Int × Nat × Int)) (a : Int × Nat × Int) : pbits (P ++ [a]) = pbits P ++ bitsOf a.2.1 a.2.2.toNat := by simp [pbits]

/-- Behind a Put that adds nothing. -/
theorem Both.same {w wr w1 : World} {p : Nat} {u v : Value} {P : List (Int × Nat × Int)} {B : List Bool} (h : Both w p u v P wr) (hw : WI wr.drew p u (pbits P ++ B) w1) (hB : B = []) : ∃ u1, Both w p u1 v P w1 := by
  subst hB
  rw [List.append_nil] at hw
  have hbel := Kept.after h.bel (Nat.le_refl _) hw.kept.undrew h.lw
  obtain ⟨u1, h1, hm, hk⟩ := hw
  exact ⟨u1, h1, own_kept h.own hk.undrew (own_foot h.wr_ h.own), h.good, fun k hf => by
    rcases Nat.lt_or_ge k wr.drew.heap.size with hlt | hge
    · exact h.lw k (hm.foot hlt hf)
    · have := h.bel.size; simp at hge; omega, h.lv, hbel⟩

/-- Behind a Put that adds an act's bits, and the act itself appended. -/
theorem Both.more {w wr w1 w2 : World} {p : Nat} {u v : Value} {P : List (Int × Nat × Int)} {a : Int × Nat × Int} {o : Obj} {g cap : Nat} (h : Both w p u v P wr) (hw : WI wr.drew p u (pbits P ++ putBits a.2.1 a.2.2) w1) (he : putErr a.2.1 a.2.2 = 0)
    (hown : w2.ownsRow 0 42 3 (.slice (some ⟨g, 0, none⟩) (P.length + 1) cap) (P ++ [a]).length (acts (P ++ [a]))) (hg : (w1.alloc o).grownBy w2 v.ownBlock) (hat : v.ownBlock = some g ∨ g = w1.heap.size + 1) :
    ∃ u1, Both w p u1 (.slice (some ⟨g, 0, none⟩) (P ++ [a]).length cap) (P ++ [a]) w2 := by
  have hbel := Kept.after h.bel (Nat.le_refl _) hw.kept.undrew h.lw
  have hv1 : w1.ownsRow 0 42 3 v P.length (acts P) := by
    obtain ⟨_, _, _, hk⟩ := hw
    exact own_kept h.own hk.undrew (own_foot h.wr_ h.own)
  obtain ⟨u1, h1, hm, hk⟩ := hw
  have hpb : putBits a.2.1 a.2.2 = bitsOf a.2.1 a.2.2.toNat := by simp [putBits, he]
  rw [hpb, ← pbits_app] at h1
  have hu2 : Wr w2 p u1 (pbits (P ++ [a])) := by
    refine (h1.below ((Below.refl _ _).alloc (Nat.le_refl _) o)).keep (S := fun k => v.ownBlock = some k) ((Kept.refl _ _).grown hg fun k hk _ => hk) fun k hf hv => ?_
    exact own_foot h1 hv1 k hv hf
  refine ⟨u1, hu2, by rw [List.length_append] at hown ⊢; exact hown, ?_, fun k hf => ?_, fun k hk => ?_, ?_⟩
  · intro b hb
    rcases List.mem_append.1 hb with hb | hb
    · exact h.good b hb
    · simp at hb
      rw [hb]
      exact put_good he
  · rcases Nat.lt_or_ge k wr.drew.heap.size with hlt | hge
    · exact h.lw k (hm.foot hlt hf)
    · have := h.bel.size; simp at hge; omega
  · simp [Value.ownBlock] at hk
    subst hk
    rcases hat with e | e
    · exact h.lv g e
    · have := hbel.size; omega
  · exact (hbel.alloc hbel.size o).grown hg (by simp; have := hbel.size; omega) h.lv

theorem pbits_split (P : List (Int × Nat × Int)) (j : Nat) (h : j < P.length) : pbits P = pbits (P.take j) ++ (bitsOf P[j].2.1 P[j].2.2.toNat ++ pbits (P.drop (j + 1))) := by
  have e : P = P.take j ++ P[j] :: P.drop (j + 1) := by rw [← List.drop_eq_getElem_cons h, List.take_append_drop]
  have h2 : pbits (P.take j ++ P[j] :: P.drop (j + 1)) = pbits (P.take j) ++ (bitsOf P[j].2.1 P[j].2.2.toNat ++ pbits (P.drop (j + 1))) := by
    simp only [pbits, List.flatMap_append, List.flatMap_cons]
  rw [← h2, ← e]
theorem pbits_take (P : List (Int × Nat × Int)) (j : Nat) (h : j < P.length) : pbits (P.take (j + 1)) = pbits (P.take j) ++ bitsOf P[j].2.1 P[j].2.2.toNat := by
  rw [List.take_succ_eq_append_getElem h, pbits_app]

/-- The piece that stands at i is got. -/
theorem get_piece (X R : List Bool) (x : Nat) (n : Int) (h0 : 0 ≤ n) (h64 : n ≤ 64) (hx : x < 2 ^ n.toNat) :
    getVal (X ++ (bitsOf x n.toNat ++ R)) X.length n = x ∧ getErr (X ++ (bitsOf x n.toNat ++ R)) X.length n = 0 ∧ getAt (X ++ (bitsOf x n.toNat ++ R)) X.length n = X.length + n.toNat := by
  have hl : ¬ (((X ++ (bitsOf x n.toNat ++ R)).length : Int) < X.length + n) := by
    simp only [List.length_append, bitsOf_length]
    omega
  refine ⟨?_, ?_, ?_⟩
  · unfold getVal
    rw [if_neg (by omega), List.drop_left, List.take_left' (bitsOf_length _ _), valOf_bitsOf, Nat.mod_eq_of_lt hx]
  · unfold getErr
    rw [if_neg (by omega), if_neg hl]
  · unfold getAt
    rw [if_neg (by omega)]

/-- Behind all pieces only bits 0 are left, fewer than eight. -/
theorem pad_end (L : List Bool) (F : List Nat) (h : flat F = padded L) : L.length ≤ 8 * F.length ∧ 8 * F.length < L.length + 8 ∧ alignErr (flat F) L.length = 0 ∧ alignAt (flat F) L.length = 8 * F.length := by
  have hl := congrArg List.length h
  rw [flat_length] at hl
  unfold padded at hl
  simp at hl
  have hu : up8 L.length = 8 * F.length := by unfold up8; omega
  have hok : alignOk (flat F) L.length = true := by
    apply alignOk_yes
    intro j h1 h2
    rw [h]
    unfold padded
    rw [List.getElem?_append_right h1, List.getElem?_replicate, if_pos (by omega)]
  refine ⟨by omega, by omega, ?_, ?_⟩
  · unfold alignErr; rw [hok]; rfl
  · unfold alignAt; rw [hok]; exact hu

/-- The acts that were put, as cells. -/
theorem acts_of_own {w : World} {A : Option Addr} {c : Nat} {P : List (Int × Nat × Int)} (h : w.ownsRow 0 42 3 (.slice A P.length c) P.length (acts P)) (j : Nat) (hj : j < P.length) :
    ∃ ad, A = some ad ∧ (Value.slice A P.length c).ownBlock = some ad.block ∧ w.cell? ⟨(ad.add (j * 3)).block, (ad.add (j * 3)).off + 1, none⟩ = some (.int .u64 (P[j].2.1 : Int)) ∧ w.cell? ⟨(ad.add (j * 3)).block, (ad.add (j * 3)).off + 2, none⟩ = some (.int .i64 P[j].2.2) := by
  have h2 := h.2
  rcases h2 with ⟨_, h0⟩ | ⟨g, cap, cur, hv, _, _, _⟩
  · omega
  · injection hv with e1 e2 e3
    subst e1
    obtain ⟨_, hc1, hc2⟩ := acts_get P j hj
    have hcell := h.cells (g := g) rfl
    refine ⟨⟨g, 0, none⟩, rfl, rfl, ?_, ?_⟩
    · rw [← add_field _ j 3 1 (by omega)]; exact hcell _ _ hc1
    · rw [← add_field _ j 3 2 (by omega)]; exact hcell _ _ hc2

namespace bitioBack
set_option maxRecDepth 100000 in
set_option maxHeartbeats 4000000 in
theorem walk (A : Option Addr) (m c : Nat) (K : Nat → Int) (V : Nat → Nat) (N : Nat → Int) (w : World) (h : Acts w A m K V N) (hm : m ≤ 9223372036854775807) :
    Calls Try.prog 8 #[.slice A m c] w fun e w' => e = .returned (.bool true) ∧ Below w.heap.size w w' := by
  by_cases h1 : 100 < m
  · have h1' : (100 : Int) < m := by omega
    clear h
    go_enter Try.func8, Try.ntmps8
    go_wp2_with fail
    with_reducible refine (known02 _).mono ?_
    rintro e w1 ⟨rfl, hb⟩
    replace hb := hid hb
    go_wp2_with fail
    go_ret
    exact ⟨rfl, hb.out⟩
  have h1' : ¬ (100 : Int) < m := by omega
  have H := hid h
  clear h
  have hst := hid (show Both w w.heap.size (.slice none 0 0) (.slice none 0 0) [] (w.alloc (.cells #[.slice none 0 0, .int .u8 0, .int .i64 0] 38)) from
    ⟨Wr.new w, World.ownsRow_nil _ _ _ _, by simp [Good], fun k hk => by rw [foot_nil hk]; exact Nat.le_refl _, by simp [Value.ownBlock], (Below.refl _ _).alloc (Nat.le_refl _) _⟩)
  go_enter Try.func8, Try.ntmps8
  go_wp2_with fail
  go_loopw [4, 5] (fun s i wr => ∃ (k : Nat) (P : List (Int × Nat × Int)) (A4 : Option Addr) (c4 : Nat), k ≤ m ∧ i = .int .i64 k ∧ P.length ≤ k ∧ s = .slice A4 P.length c4 ∧ ∃ u, Both w w.heap.size u (.slice A4 P.length c4) P wr) (fun _ i _ => m - (intOf i).toNat)
  case atStart => exact ⟨0, [], none, 0, Nat.zero_le _, rfl, Nat.le_refl _, rfl, _, hst.out⟩
  case round =>
    obtain ⟨k, P, A4, c4, hk, rfl, hPk, rfl, u, hb⟩ := hrel
    have HB := hid hb
    by_cases hkm : k < m
    · have hin : (k : Int) < m := by omega
      obtain ⟨ad, rfl, hlt0, hKw, hVw, hNw, hVlt⟩ := H.out k hkm
      have hlt : (ad.add (k * 3)).block < w.heap.size := by rw [block_of_add]; exact hlt0
      obtain ⟨K0, hK0⟩ : ∃ x, K k = x := ⟨_, rfl⟩
      obtain ⟨V0, hV0⟩ : ∃ x, V k = x := ⟨_, rfl⟩
      obtain ⟨N0, hN0⟩ : ∃ x, N k = x := ⟨_, rfl⟩
      rw [hK0] at hKw
      rw [hV0] at hVw hVlt
      rw [hN0] at hNw
      have hV := (hb.bel.cell (p := ⟨(ad.add (k * 3)).block, (ad.add (k * 3)).off + 1, none⟩) hlt).trans hVw
      have hN := (hb.bel.cell (p := ⟨(ad.add (k * 3)).block, (ad.add (k * 3)).off + 2, none⟩) hlt).trans hNw
      have hL : (pbits P).length + 64 ≤ 68719476736 := by have := pbits_le hb.good; omega
      clear hb hK0 hV0 hN0
      by_cases hp : putErr V0 N0 = 0
      · have hp' : (putErr V0 N0 == 0) = true := by simpa using hp
        have HP := hid hp
        clear hp
        go_wp2_with fail
        go_region_held3 (fun w' => w'.cell? ⟨(ad.add (k * 3)).block, (ad.add (k * 3)).off + 1, none⟩ = some (.int .u64 (V0 : Int)) ∧ w'.cell? ⟨(ad.add (k * 3)).block, (ad.add (k * 3)).off + 2, none⟩ = some (.int .i64 N0)) (first | exact ⟨k1, k2⟩ | go_keep)
          (first | (go_at_call 22; go_must (refine (put_any _ w.heap.size u _ V0 N0 ?_ hL hVlt).mono ?_); (exact HB.out.wr_.drew); rintro e w1 ⟨rfl, hw⟩; have hbel := Kept.after HB.out.bel (Nat.le_refl _) hw.kept.undrew HB.out.lw; have k0 := (hbel.cell (p := ad.add (k * 3)) hlt).trans hKw; have k1 := (hbel.cell (p := ⟨(ad.add (k * 3)).block, (ad.add (k * 3)).off + 1, none⟩) hlt).trans hVw; have k2 := (hbel.cell (p := ⟨(ad.add (k * 3)).block, (ad.add (k * 3)).off + 2, none⟩) hlt).trans hNw; replace hw := hid hw; replace hbel := hid hbel))
        go_wp2_with (at_builtin; go_must (refine wpList_app3 _ rfl (.tmp 35) (.tmp 40) rfl (.slice A4 P.length c4) P rfl ?d1 ⟨w1.heap.size, 0, none⟩ (K0, V0, N0) rfl ?d2 ?d3 (w1.heap.size + 1) ?d4 ?_); rotate_right; intro g cap w2 hown2 hg2 hat; replace hown2 := hid hown2; replace hg2 := hid hg2; replace hat := hid hat)
        case d1 =>
          have hown1 := HB.out.own
          exact (own_kept hown1 hw.out.kept.undrew (own_foot HB.out.wr_ hown1)).alloc _
        case d2 =>
          intro j x hj
          have h := World.news_of_block (w := w1.alloc (.cells #[.int .i64 K0, .int .u64 (V0 : Int), .int .i64 N0] 42)) (B := w1.heap.size) (heap_alloc_new w1 _) j x
          exact h (by simpa [act3] using hj)
        case d3 => omega
        case d4 => simp
        go_roundw
        case rel =>
          obtain ⟨u1, hb1⟩ := HB.out.more (a := (K0, V0, N0)) hw.out HP.out hown2.out hg2.out hat.out
          exact ⟨k + 1, P ++ [(K0, V0, N0)], some ⟨g, 0, none⟩, cap, by omega, by go_num, by simp; omega, by simp, u1, hb1⟩
        case measure => simp [intOf]; omega
      · have hp' : (putErr V0 N0 == 0) = false := by simpa using hp
        have HP := hid hp
        clear hp
        go_wp2_with fail
        go_region_held3 (fun w' => w'.cell? ⟨(ad.add (k * 3)).block, (ad.add (k * 3)).off + 1, none⟩ = some (.int .u64 (V0 : Int)) ∧ w'.cell? ⟨(ad.add (k * 3)).block, (ad.add (k * 3)).off + 2, none⟩ = some (.int .i64 N0)) (first | exact ⟨k1, k2⟩ | go_keep)
          (first | (go_at_call 22; go_must (refine (put_any _ w.heap.size u _ V0 N0 ?_ hL hVlt).mono ?_); (exact HB.out.wr_.drew); rintro e w1 ⟨rfl, hw⟩; have hbel := Kept.after HB.out.bel (Nat.le_refl _) hw.kept.undrew HB.out.lw; have k1 := (hbel.cell (p := ⟨(ad.add (k * 3)).block, (ad.add (k * 3)).off + 1, none⟩) hlt).trans hVw; have k2 := (hbel.cell (p := ⟨(ad.add (k * 3)).block, (ad.add (k * 3)).off + 2, none⟩) hlt).trans hNw; replace hw := hid hw; replace hbel := hid hbel))
        go_wp2_with fail
        go_roundw
        case rel =>
          obtain ⟨u1, hb1⟩ := HB.out.same hw.out (by simp [putBits, HP.out])
          exact ⟨k + 1, P, A4, c4, by omega, by go_num, by omega, rfl, u1, hb1⟩
        case measure => simp [intOf]; omega
    · have hin : ¬ (k : Int) < m := by omega
      have hL : (pbits P).length ≤ 6400 := by have := pbits_le hb.good; omega
      clear hb
      go_wp2_with fail
      have HC := bytes_any wr w.heap.size u _ HB.out.wr_ (by omega)
      with_reducible refine HC.mono ?_
      clear HC
      rintro e w1 ⟨F, A5, c5, rfl, hf, hfl, hby⟩
      have hF := hid (And.intro hf (And.intro hfl hby))
      have hFl : F.length ≤ 17179869184 := by
        have := congrArg List.length hfl
        rw [flat_length] at this
        unfold padded at this
        simp at this
        omega
      clear hf hfl hby
      go_wp2_with fail
      have HC := read_any w1 _ F (Sl.of_own hF.out.1.1) hFl hF.out.2.2
      with_reducible refine HC.mono ?_
      clear HC
      rintro e w2 ⟨q, vq, rfl, hrd, hbel2, hq, hvq⟩
      have hR := hid (And.intro hrd (And.intro hbel2 (And.intro hq hvq)))
      clear hrd hbel2 hq hvq
      go_wp2_with fail
      have hS := hid (show w2.ownsRow 0 42 3 (.slice A4 P.length c4) P.length (acts P) ∧ Wr w2 w.heap.size u (pbits P) ∧ Below w.heap.size w w2 ∧ (∀ g, (Value.slice A4 P.length c4).ownBlock = some g → g < q) ∧ ¬ Foot w.heap.size u q from by
        have hb1 := hF.out.1.2.1
        have hb2 := hR.out.2.1
        have hs1 := hb1.size
        have ho1 : w1.ownsRow 0 42 3 (.slice A4 P.length c4) P.length (acts P) := own_kept HB.out.own (Kept.of_below' (S := fun _ => False) hb1) fun _ _ => id
        refine ⟨own_kept ho1 (Kept.of_below' (S := fun _ => False) hb2) fun _ _ => id, (HB.out.wr_.below hb1).below hb2, HB.out.bel.trans ((hb1.mono HB.out.bel.size).trans (hb2.mono (Nat.le_trans HB.out.bel.size hs1))), fun g hg => ?_, fun hf => ?_⟩
        · have := (HB.out.own.lt g hg).2
          have := hR.out.2.2.1
          omega
        · have := HB.out.wr_.footlt hf
          have := hR.out.2.2.1
          omega)
      have hgood := hid HB.out.good
      go_loopw [7] (fun i wr => ∃ j : Nat, j ≤ P.length ∧ i = .int .i64 j ∧ RI w2 q vq F (pbits (P.take j)).length wr) (fun i _ => P.length - (intOf i).toNat)
      case atStart => exact ⟨0, Nat.zero_le _, rfl, by simpa [pbits] using RI.refl hR.out.1⟩
      case round =>
        obtain ⟨j, hj, rfl, hri⟩ := hrel
        have HI := hid hri
        by_cases hjn : j < P.length
        · have hin2 : (j : Int) < P.length := by omega
          obtain ⟨ad, rfl, hob, hVw, hNw⟩ := acts_of_own hS.out.1 j hjn
          have hadq : (ad.add (j * 3)).block ≠ q := by rw [block_of_add]; have := hS.out.2.2.2.1 _ hob; omega
          have hadlt : (ad.add (j * 3)).block < w2.heap.size := by rw [block_of_add]; exact (hS.out.1.lt _ hob).2
          have hgd := hgood.out P[j] (List.getElem_mem _)
          have hsp := get_piece (pbits (P.take j)) (pbits (P.drop (j + 1)) ++ List.replicate ((8 - (pbits P).length % 8) % 8) false) P[j].2.1 P[j].2.2 hgd.1 hgd.2.1 hgd.2.2
          have hfl : flat F = pbits (P.take j) ++ (bitsOf P[j].2.1 P[j].2.2.toNat ++ (pbits (P.drop (j + 1)) ++ List.replicate ((8 - (pbits P).length % 8) % 8) false)) := by
            rw [hF.out.2.1]
            unfold padded
            conv => lhs; lhs; rw [pbits_split P j hjn]
            simp
          rw [← hfl] at hsp
          have hnext : (pbits (P.take j)).length + P[j].2.2.toNat = (pbits (P.take (j + 1))).length := by rw [pbits_take P j hjn, List.length_append, bitsOf_length]
          rw [hnext] at hsp
          obtain ⟨x, hx⟩ : ∃ x, P[j].2.1 = x := ⟨_, rfl⟩
          obtain ⟨n0, hn0⟩ : ∃ x, P[j].2.2 = x := ⟨_, rfl⟩
          rw [hx] at hVw hsp
          rw [hn0] at hNw hsp
          have hV := (hri.2.cell (p := ⟨(ad.add (j * 3)).block, (ad.add (j * 3)).off + 1, none⟩) hadlt hadq).trans hVw
          have hN := (hri.2.cell (p := ⟨(ad.add (j * 3)).block, (ad.add (j * 3)).off + 2, none⟩) hadlt hadq).trans hNw
          have hSP := hid hsp
          clear hri hgd hsp hfl hnext hx hn0 hob
          go_wp2_with fail
          have HC := get_any wr q vq F _ n0 HI.out.1
          rw [hSP.out.1, hSP.out.2.1, hSP.out.2.2] at HC
          with_reducible refine HC.mono ?_
          clear HC
          rintro e w3 ⟨rfl, hw3⟩
          have HI3 := hid (HI.out.trans hw3)
          have hV3 := (HI3.out.2.cell (p := ⟨(ad.add (j * 3)).block, (ad.add (j * 3)).off + 1, none⟩) hadlt hadq).trans hVw
          clear hw3
          go_wp2_with fail
          go_roundw
          case rel => exact ⟨j + 1, by omega, by go_num, HI3.out⟩
          case measure => simp [intOf]; omega
        · have hin2 : ¬ (j : Int) < P.length := by omega
          obtain rfl : j = P.length := by omega
          rw [List.take_length] at hri
          have HI2 := hid hri
          have hpe := pad_end _ _ hF.out.2.1
          obtain ⟨l, hl⟩ : ∃ l, (pbits P).length = l := ⟨_, rfl⟩
          rw [hl] at hpe hL hri
          have HE := hid (And.intro hpe (And.intro hri hl))
          have hl0 : (l : Int) ≤ 8 * (F.length : Int) := by omega
          have hl8 : 8 * (F.length : Int) - (l : Int) < 8 := by omega
          have hl9 : 0 ≤ 8 * (F.length : Int) - (l : Int) := by omega
          clear hri hpe hl HI
          go_wp2_with fail
          obtain ⟨⟨_, _, hae, haa⟩, ⟨hrd9, hkp9⟩, hl9'⟩ := HE.out
          have HRD := hid hrd9
          have HKP := hid hkp9
          have HAL := hid (And.intro hae haa)
          have HW := hid (show Wr wr w.heap.size u (pbits P) from hS.out.2.1.keep hkp9 fun i hf e => hS.out.2.2.2.2 (e ▸ hf))
          have HLL := hid hl9'
          clear hae haa hrd9 hkp9 hl9' HE HI2
          with_reducible refine (at_any wr q vq F l HRD.out).mono ?_
          rintro e w3 ⟨rfl, rfl⟩
          go_wp2_with fail
          have HC := len_any wr w.heap.size u _ HW.out (by rw [HLL.out]; omega)
          rw [HLL.out] at HC
          with_reducible refine HC.mono ?_
          clear HC
          rintro e w3 ⟨rfl, n3, rfl⟩
          go_wp2_with fail
          with_reducible refine (left_any _ q vq F l (HRD.out.drewN n3)).mono ?_
          rintro e w3 ⟨rfl, n4, rfl⟩
          go_wp2_with fail
          have HC := ralign_any _ q vq F l (HRD.out.drewN (n3 + n4))
          unfold RAlignPost at HC
          rw [HAL.out.1, HAL.out.2] at HC
          with_reducible refine HC.mono ?_
          clear HC
          rintro e w5 ⟨rfl, hri5⟩
          obtain ⟨hr5, hk5⟩ := hri5
          have H5 := hid hr5
          have HK5 := hid hk5
          clear hr5 hk5
          go_wp2_with fail
          with_reducible refine (left_any _ q vq F _ H5.out).mono ?_
          rintro e w6 ⟨rfl, n6, rfl⟩
          go_wp2_with fail
          with_reducible refine (known02 _).mono ?_
          rintro e w7 ⟨rfl, hb7⟩
          have H7 := hid hb7
          clear hb7
          go_wp2_with fail
          go_ret
          have hb2 := hS.out.2.2.1
          have hb9 : Below w.heap.size w wr := Kept.after hb2 (Nat.le_refl _) HKP.out fun i hi => by
            have := hR.out.2.2.1
            have := hF.out.1.2.1.size
            have := HB.out.bel.size
            omega
          have hb5 : Below w.heap.size w w5 := Kept.after hb9 (Nat.le_refl _) HK5.out.undrewN fun i hi => by
            have := hR.out.2.2.1
            have := hF.out.1.2.1.size
            have := HB.out.bel.size
            omega
          exact ⟨rfl, (below_drewN' hb5 n6).trans (H7.out.mono (Nat.le_trans hb5.size (Nat.le_refl _)))⟩
end bitioBack
end Go.Proofs.Ytfbccmogiafgfaa
