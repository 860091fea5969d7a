/- The walk of BitioAdds: three writers side by side. -/
import Derived.Test.YtfbccmogiafgfaaFew
import Derived.Test.YtfbccmogiafgfaaKnown02
import Derived.Deep.RegionHeld3
import Derived.Deep.DeepCutAuto
import Derived.Deep.RegionWith
namespace Go.Proofs.Ytfbccmogiafgfaa
open Go.RowKit

/-- Two writers share no block. -/
def Sep (p : Nat) (v : Value) (q : Nat) (u : Value) : Prop := ∀ k, Foot p v k → ¬ Foot q u k
theorem Sep.symm {p q : Nat} {v u : Value} (h : Sep p v q u) : Sep q u p v := fun k h1 h2 => h k h2 h1
/-- All of a writer lies from B on. -/
def Low (B p : Nat) (v : Value) : Prop := ∀ k, Foot p v k → B ≤ k

theorem Moved.sep {wr : World} {p q : Nat} {v v' u : Value} {M : List Bool} (hm : Moved wr v v') (hq : Wr wr q u M) (hs : Sep p v q u) : Sep p v' q u := fun k hk hk2 => hs k (hm.foot (hq.footlt hk2) hk) hk2
theorem Moved.low {wr : World} {B p : Nat} {v v' : Value} (hm : Moved wr v v') (hB : B ≤ wr.heap.size) (hl : Low B p v) : Low B p v' := fun k hk => by
  rcases Nat.lt_or_ge k wr.heap.size with h | h
  · exact hl k (hm.foot h hk)
  · omega

/-- Three writers, in memory that is new since w. -/
structure Three (w : World) (px py pz : Nat) (vx vy vz : Value) (X Y Z : List Bool) (wr : World) : Prop where
  x : Wr wr px vx X
  y : Wr wr py vy Y
  z : Wr wr pz vz Z
  xy : Sep px vx py vy
  xz : Sep px vx pz vz
  yz : Sep py vy pz vz
  lx : Low w.heap.size px vx
  ly : Low w.heap.size py vy
  lz : Low w.heap.size pz vz
  bel : Below w.heap.size w wr

section
variable {w wr w1 : World} {px py pz : Nat} {vx vy vz : Value} {X Y Z L : List Bool}
theorem Three.stepx (h : Three w px py pz vx vy vz X Y Z wr) (k : WI wr px vx L w1) : ∃ v, Three w px py pz v vy vz L Y Z w1 := by
  have hbel := Kept.after h.bel (Nat.le_refl _) k.kept h.lx
  obtain ⟨v, hv, hm, hk⟩ := k
  exact ⟨v, hv, h.y.keep hk fun i h1 h2 => h.xy i h2 h1, h.z.keep hk fun i h1 h2 => h.xz i h2 h1, hm.sep h.y h.xy, hm.sep h.z h.xz, h.yz, hm.low h.bel.size h.lx, h.ly, h.lz, hbel⟩
theorem Three.rot (h : Three w px py pz vx vy vz X Y Z wr) : Three w py pz px vy vz vx Y Z X wr := ⟨h.y, h.z, h.x, h.yz, h.xy.symm, h.xz.symm, h.ly, h.lz, h.lx, h.bel⟩
theorem Three.stepy (h : Three w px py pz vx vy vz X Y Z wr) (k : WI wr py vy L w1) : ∃ v, Three w px py pz vx v vz X L Z w1 := by
  obtain ⟨v, h⟩ := h.rot.stepx k
  exact ⟨v, h.rot.rot⟩
theorem Three.stepz (h : Three w px py pz vx vy vz X Y Z wr) (k : WI wr pz vz L w1) : ∃ v, Three w px py pz vx vy v X Y L w1 := by
  obtain ⟨v, h⟩ := h.rot.rot.stepx k
  exact ⟨v, h.rot⟩
theorem Three.later (h : Three w px py pz vx vy vz X Y Z wr) (hb : Below wr.heap.size wr w1) : Three w px py pz vx vy vz X Y Z w1 :=
  ⟨h.x.below hb, h.y.below hb, h.z.below hb, h.xy, h.xz, h.yz, h.lx, h.ly, h.lz, h.bel.trans (hb.mono h.bel.size)⟩
theorem Three.drew (h : Three w px py pz vx vy vz X Y Z wr) : Three w px py pz vx vy vz X Y Z wr.drew := h.later ((Below.refl _ _).drew)
theorem Three.drewN (h : Three w px py pz vx vy vz X Y Z wr) (n : Nat) : Three w px py pz vx vy vz X Y Z (wr.drewN n) := h.later (below_drewN' (.refl _ _) n)
end

section
variable {w wr : World} {px py pz : Nat} {vx vy vz : Value} {X Y Z : List Bool}
theorem Three.len (h : Three w px py pz vx vy vz X Y Z wr) (hX : X.length ≤ 68719476736) : Calls Try.prog 23 #[.pointer (some ⟨px, 0, none⟩)] wr fun e w' => e = .returned (.int .i64 (X.length : Int)) ∧ Three w px py pz vx vy vz X Y Z w' :=
  (len_any wr px vx X h.x hX).mono fun _ _ ⟨he, n, hw⟩ => ⟨he, hw ▸ h.drewN n⟩
def ThreeB (w wr : World) (px py pz : Nat) (vx vy vz : Value) (X Y Z : List Bool) (e : Ending) (w' : World) : Prop :=
  ∃ F A c, e = .returned (.slice A F.length c) ∧ flat F = padded X ∧ (∀ x ∈ F, x < 256) ∧ Sl w' (.slice A F.length c) (u8s F) ∧ Three w px py pz vx vy vz X Y Z w' ∧ Below wr.heap.size wr w'
theorem Three.bytes (h : Three w px py pz vx vy vz X Y Z wr) (hX : X.length ≤ 68719476736) : Calls Try.prog 25 #[.pointer (some ⟨px, 0, none⟩)] wr (ThreeB w wr px py pz vx vy vz X Y Z) :=
  (bytes_any wr px vx X h.x hX).mono fun _ _ ⟨F, A, c, he, hf, h1, h2⟩ => ⟨F, A, c, he, h1, h2, Sl.of_own hf.1, h.later hf.2.1, hf.2.1⟩
end

/-- The bits that the first n acts put. -/
def puts (V : Nat → Nat) (N : Nat → Int) : Nat → List Bool
  | 0 => []
  | n + 1 => puts V N n ++ putBits (V n) (N n)
theorem putBits_le (x : Nat) (n : Int) : (putBits x n).length ≤ 64 := by
  by_cases e : putErr x n = 0
  · have hn : ¬ (n < 0 ∨ 64 < n) := fun h => by simp [putErr, h] at e
    simp only [putBits, e, if_true, bitsOf_length]
    omega
  · simp [putBits, e]
theorem puts_le (V : Nat → Nat) (N : Nat → Int) (n : Nat) : (puts V N n).length ≤ 64 * n := by
  induction n with
  | zero => simp [puts]
  | succ n ih =>
    have := putBits_le (V n) (N n)
    simp only [puts, List.length_append]
    omega

namespace bitioAdds
set_option maxRecDepth 100000 in
set_option maxHeartbeats 4000000 in
theorem walk (A B : Option Addr) (m n c d : Nat) (K1 : Nat → Int) (V1 : Nat → Nat) (N1 : Nat → Int) (K2 : Nat → Int) (V2 : Nat → Nat) (N2 : Nat → Int) (w : World) (h1 : Acts w A m K1 V1 N1) (h2 : Acts w B n K2 V2 N2) (hm : m ≤ 9223372036854775807) (hn : n ≤ 9223372036854775807) :
    Calls Try.prog 5 #[.slice A m c, .slice B n d] w fun e w' => e = .returned (.bool true) ∧ Below w.heap.size w w' := by
  have H := hid (And.intro h1 h2)
  clear h1 h2
  go_enter Try.func5, Try.ntmps5
  go_wp2_with fail
  with_reducible refine (few_any A m c K1 V1 N1 w H.out.1 hm).mono ?_
  rintro e w1 ⟨rfl, b1, rfl, hb1⟩
  cases b1
  · clear hb1
    go_wp2_with fail
    with_reducible refine (known02 _).mono ?_
    rintro e w1 ⟨rfl, hb⟩
    replace hb := hid hb
    go_wp2_with fail
    go_ret
    exact ⟨rfl, hb.out⟩
  have hF1 := (hb1 rfl).1
  clear hb1
  go_wp2_with fail
  with_reducible refine (few_any B n d K2 V2 N2 w H.out.2 hn).mono ?_
  rintro e w1 ⟨rfl, b2, rfl, hb2⟩
  cases b2
  · clear hb2
    go_wp2_with fail
    with_reducible refine (known02 _).mono ?_
    rintro e w1 ⟨rfl, hb⟩
    replace hb := hid hb
    go_wp2_with fail
    go_ret
    exact ⟨rfl, hb.out⟩
  have hF2 := (hb2 rfl).1
  clear hb2
  have hst := hid (show Three w w.heap.size (w.heap.size + 1) (w.heap.size + 1 + 1) (.slice none 0 0) (.slice none 0 0) (.slice none 0 0) [] [] [] (((w.alloc (.cells #[.slice none 0 0, .int .u8 0, .int .i64 0] 38)).alloc (.cells #[.slice none 0 0, .int .u8 0, .int .i64 0] 38)).alloc (.cells #[.slice none 0 0, .int .u8 0, .int .i64 0] 38)) from by
    have b1 : Below w.heap.size w (w.alloc (.cells #[.slice none 0 0, .int .u8 0, .int .i64 0] 38)) := (Below.refl _ _).alloc (Nat.le_refl _) _
    refine ⟨?_, ?_, ?_, ?_, ?_, ?_, ?_, ?_, ?_, ((b1.alloc (by simp) _).alloc (by simp; omega) _)⟩
    · exact ((Wr.new w).below ((Below.refl _ _).alloc (Nat.le_refl _) _)).below ((Below.refl _ _).alloc (Nat.le_refl _) _)
    · have h := (Wr.new (w.alloc (.cells #[.slice none 0 0, .int .u8 0, .int .i64 0] 38))).below ((Below.refl _ _).alloc (Nat.le_refl _) (.cells #[.slice none 0 0, .int .u8 0, .int .i64 0] 38))
      simpa using h
    · have h := Wr.new ((w.alloc (.cells #[.slice none 0 0, .int .u8 0, .int .i64 0] 38)).alloc (.cells #[.slice none 0 0, .int .u8 0, .int .i64 0] 38))
      simpa using h
    · intro k hk hk2; rw [foot_nil hk] at hk2; have := foot_nil hk2; omega
    · intro k hk hk2; rw [foot_nil hk] at hk2; have := foot_nil hk2; omega
    · intro k hk hk2; rw [foot_nil hk] at hk2; have := foot_nil hk2; omega
    · intro k hk; rw [foot_nil hk]; omega
    · intro k hk; rw [foot_nil hk]; omega
    · intro k hk; rw [foot_nil hk]; omega)
  go_wp2_with fail
  go_loopw [8] (fun i wr => ∃ k : Nat, k ≤ m ∧ i = .int .i64 k ∧ ∃ vx vz, Three w w.heap.size (w.heap.size + 1) (w.heap.size + 1 + 1) vx (.slice none 0 0) vz (puts V1 N1 k) [] (puts V1 N1 k) wr) (fun i _ => m - (intOf i).toNat)
  case atStart => exact ⟨0, Nat.zero_le _, rfl, _, _, hst.out⟩
  case round =>
    obtain ⟨k, hk, rfl, vx, vz, h3⟩ := hrel
    have H3 := hid h3
    by_cases hkm : k < m
    · have hin : (k : Int) < m := by omega
      obtain ⟨ad, rfl, hlt0, _, hVw, hNw, hVlt⟩ := H.out.1 k hkm
      have hlt : (ad.add (k * 3)).block < w.heap.size := by rw [block_of_add]; exact hlt0
      obtain ⟨V0, hV0⟩ : ∃ x, V1 k = x := ⟨_, rfl⟩
      obtain ⟨N0, hN0⟩ : ∃ x, N1 k = x := ⟨_, rfl⟩
      rw [hV0] at hVw hVlt
      rw [hN0] at hNw
      have hV := (h3.bel.cell (p := ⟨(ad.add (k * 3)).block, (ad.add (k * 3)).off + 1, none⟩) hlt).trans hVw
      have hN := (h3.bel.cell (p := ⟨(ad.add (k * 3)).block, (ad.add (k * 3)).off + 2, none⟩) hlt).trans hNw
      have HP := hid (show puts V1 N1 (k + 1) = puts V1 N1 k ++ putBits V0 N0 from by rw [← hV0, ← hN0]; rfl)
      have hL : (puts V1 N1 k).length + 64 ≤ 68719476736 := by have := puts_le V1 N1 k; omega
      clear h3 hV0 hN0
      go_wp2_with fail
      go_region_held3 (fun w' => w'.cell? ⟨(ad.add (k * 3)).block, (ad.add (k * 3)).off + 1, none⟩ = some (.int .u64 (V0 : Int)) ∧ w'.cell? ⟨(ad.add (k * 3)).block, (ad.add (k * 3)).off + 2, none⟩ = some (.int .i64 N0)) (first | exact ⟨k1, k2⟩ | go_keep)
        (first | (go_at_call 22; go_must (refine (put_any _ w.heap.size vx _ V0 N0 ?_ hL hVlt).mono ?_); (exact H3.out.drew.x); rintro e w1 ⟨rfl, hw⟩; obtain ⟨vx1, h31⟩ := H3.out.drew.stepx hw; have k1 := (h31.bel.cell (p := ⟨(ad.add (k * 3)).block, (ad.add (k * 3)).off + 1, none⟩) hlt).trans hVw; have k2 := (h31.bel.cell (p := ⟨(ad.add (k * 3)).block, (ad.add (k * 3)).off + 2, none⟩) hlt).trans hNw; replace h31 := hid h31; clear hw))
      go_wp2_with fail
      go_region_held3 (fun w' => w'.cell? ⟨(ad.add (k * 3)).block, (ad.add (k * 3)).off + 1, none⟩ = some (.int .u64 (V0 : Int)) ∧ w'.cell? ⟨(ad.add (k * 3)).block, (ad.add (k * 3)).off + 2, none⟩ = some (.int .i64 N0)) (first | exact ⟨k3, k4⟩ | exact ⟨k1, k2⟩ | go_keep)
        (first | (go_at_call 22; go_must (refine (put_any _ (w.heap.size + 1 + 1) vz _ V0 N0 ?_ hL hVlt).mono ?_); (exact h31.out.drew.z); rintro e w2 ⟨rfl, hw⟩; obtain ⟨vz1, h32⟩ := h31.out.drew.stepz hw; have k3 := (h32.bel.cell (p := ⟨(ad.add (k * 3)).block, (ad.add (k * 3)).off + 1, none⟩) hlt).trans hVw; have k4 := (h32.bel.cell (p := ⟨(ad.add (k * 3)).block, (ad.add (k * 3)).off + 2, none⟩) hlt).trans hNw; replace h32 := hid h32; clear hw))
      go_wp2_with fail
      go_roundw
      case rel => exact ⟨k + 1, by omega, by go_num, vx1, vz1, by rw [HP.out]; exact h32.out⟩
      case measure => simp [intOf]; omega
    · have hin : ¬ (k : Int) < m := by omega
      obtain rfl : k = m := by omega
      clear h3
      go_wp2_with fail
      go_loopw [9] (fun i wr => ∃ j : Nat, j ≤ n ∧ i = .int .i64 j ∧ ∃ vy vz, Three w w.heap.size (w.heap.size + 1) (w.heap.size + 1 + 1) vx vy vz (puts V1 N1 k) (puts V2 N2 j) (puts V1 N1 k ++ puts V2 N2 j) wr) (fun i _ => n - (intOf i).toNat)
      case atStart => exact ⟨0, Nat.zero_le _, rfl, _, _, by simpa [puts] using H3.out⟩
      case round =>
        obtain ⟨j, hj, rfl, vy, vz', h3⟩ := hrel
        have H4 := hid h3
        clear H3
        by_cases hjn : j < n
        · have hin2 : (j : Int) < n := by omega
          obtain ⟨ad, rfl, hlt0, _, hVw, hNw, hVlt⟩ := H.out.2 j hjn
          have hlt : (ad.add (j * 3)).block < w.heap.size := by rw [block_of_add]; exact hlt0
          obtain ⟨V0, hV0⟩ : ∃ x, V2 j = x := ⟨_, rfl⟩
          obtain ⟨N0, hN0⟩ : ∃ x, N2 j = x := ⟨_, rfl⟩
          rw [hV0] at hVw hVlt
          rw [hN0] at hNw
          have hV := (h3.bel.cell (p := ⟨(ad.add (j * 3)).block, (ad.add (j * 3)).off + 1, none⟩) hlt).trans hVw
          have hN := (h3.bel.cell (p := ⟨(ad.add (j * 3)).block, (ad.add (j * 3)).off + 2, none⟩) hlt).trans hNw
          have HP := hid (show puts V2 N2 (j + 1) = puts V2 N2 j ++ putBits V0 N0 from by rw [← hV0, ← hN0]; rfl)
          have hL : (puts V2 N2 j).length + 64 ≤ 68719476736 := by have := puts_le V2 N2 j; omega
          have hL2 : (puts V1 N1 k ++ puts V2 N2 j).length + 64 ≤ 68719476736 := by have := puts_le V1 N1 k; have := puts_le V2 N2 j; simp; omega
          clear h3 hV0 hN0
          go_wp2_with fail
          go_region_held3 (fun w' => w'.cell? ⟨(ad.add (j * 3)).block, (ad.add (j * 3)).off + 1, none⟩ = some (.int .u64 (V0 : Int)) ∧ w'.cell? ⟨(ad.add (j * 3)).block, (ad.add (j * 3)).off + 2, none⟩ = some (.int .i64 N0)) (first | exact ⟨k1, k2⟩ | go_keep)
            (first | (go_at_call 22; go_must (refine (put_any _ (w.heap.size + 1) vy _ V0 N0 ?_ hL hVlt).mono ?_); (exact H4.out.drew.y); rintro e w1 ⟨rfl, hw⟩; obtain ⟨vy1, h31⟩ := H4.out.drew.stepy hw; have k1 := (h31.bel.cell (p := ⟨(ad.add (j * 3)).block, (ad.add (j * 3)).off + 1, none⟩) hlt).trans hVw; have k2 := (h31.bel.cell (p := ⟨(ad.add (j * 3)).block, (ad.add (j * 3)).off + 2, none⟩) hlt).trans hNw; replace h31 := hid h31; clear hw))
          go_wp2_with fail
          go_region_held3 (fun w' => w'.cell? ⟨(ad.add (j * 3)).block, (ad.add (j * 3)).off + 1, none⟩ = some (.int .u64 (V0 : Int)) ∧ w'.cell? ⟨(ad.add (j * 3)).block, (ad.add (j * 3)).off + 2, none⟩ = some (.int .i64 N0)) (first | exact ⟨k3, k4⟩ | exact ⟨k1, k2⟩ | go_keep)
            (first | (go_at_call 22; go_must (refine (put_any _ (w.heap.size + 1 + 1) vz' _ V0 N0 ?_ hL2 hVlt).mono ?_); (exact h31.out.drew.z); rintro e w2 ⟨rfl, hw⟩; obtain ⟨vz1, h32⟩ := h31.out.drew.stepz hw; have k3 := (h32.bel.cell (p := ⟨(ad.add (j * 3)).block, (ad.add (j * 3)).off + 1, none⟩) hlt).trans hVw; have k4 := (h32.bel.cell (p := ⟨(ad.add (j * 3)).block, (ad.add (j * 3)).off + 2, none⟩) hlt).trans hNw; replace h32 := hid h32; clear hw))
          go_wp2_with fail
          go_roundw
          case rel => exact ⟨j + 1, by omega, by go_num, vy1, vz1, by rw [HP.out, ← List.append_assoc]; exact h32.out⟩
          case measure => simp [intOf]; omega
        · have hin2 : ¬ (j : Int) < n := by omega
          obtain rfl : j = n := by omega
          clear h3
          have hX : (puts V1 N1 k).length ≤ 3200 := by have := puts_le V1 N1 k; omega
          have hY : (puts V2 N2 j).length ≤ 3200 := by have := puts_le V2 N2 j; omega
          go_wp2_with fail
          have HC := len_any _ _ _ _ H4.out.y (by omega)
          with_reducible refine HC.mono ?_
          clear HC
          rintro e w1 ⟨rfl, n1, rfl⟩
          go_wp2_with fail
          have H5 := hid (H4.out.drewN n1)
          have hXY : (puts V1 N1 k ++ puts V2 N2 j).length ≤ 68719476736 := by simp; omega
          have hY2 : (puts V2 N2 j).length ≤ 68719476736 := by omega
          go_region_with (first
            | (go_at_call 24; go_must (refine (add_any _ w.heap.size (w.heap.size + 1) vx vy _ _ H5.out.drew.x H5.out.drew.y (by omega)).mono ?_); rintro e w2 ⟨rfl, hw⟩; obtain ⟨vx2, h6⟩ := H5.out.drew.stepx hw; replace h6 := hid h6; clear hw)
            | (go_at_call 23; (with_reducible refine (h6.out.len hXY).mono ?_); rintro e w3 ⟨rfl, h7⟩; replace h7 := hid h7)
            | (go_at_call 23; (with_reducible refine (h7.out.rot.rot.len hXY).mono ?_); rintro e w4 ⟨rfl, h8⟩; replace h8 := hid h8.rot)
            | (go_at_call 25; (with_reducible refine (h8.out.bytes hXY).mono ?_); rintro e w5 ⟨F1, A1, c1, rfl, hf1, hb1, hs1, h9, _⟩; have hstr1 := str_of w5 _ F1 hs1 hb1; replace h9 := hid h9; replace hf1 := hid (And.intro hf1 (And.intro hb1 hs1)); clear hs1 hb1)
            | (go_at_call 25; (with_reducible refine (h9.out.rot.rot.bytes hXY).mono ?_); rintro e w6 ⟨F2, A2, c2, rfl, hf2, hb2, hs2, h10, hbl⟩; obtain rfl : F2 = F1 := flat_inj hb2 hf1.out.2.1 (hf2.trans hf1.out.1.symm); have hstr2 := str_of w6 _ F2 hs2 hb2; have hstr3 := str_of w6 _ F2 (hf1.out.2.2.below hbl) hb2; replace h10 := hid h10.rot; clear hs2 hb2 hf2 hbl)
            | (go_at_call 23; (with_reducible refine (h10.out.rot.len hY2).mono ?_); rintro e w7 ⟨rfl, h11⟩; replace h11 := hid h11.rot.rot)
            | (go_at_call 21; (with_reducible refine (known02 _).mono ?_); rintro e w8 ⟨rfl, h12⟩; replace h12 := hid (h11.out.bel.trans (h12.mono h11.out.bel.size))))
          all_goals (go_wp2_with fail)
          all_goals (go_ret)
          all_goals exact ⟨rfl, h12.out⟩
end bitioAdds
end Go.Proofs.Ytfbccmogiafgfaa
