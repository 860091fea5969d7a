/- Layer 7: coded, Cost, Best, Put. -/
import Derived.Test.YtjboboaccjbebaaRunE
import Derived.Test.YtjboboaccjbebaaRunW
import Derived.Test.YtjboboaccjbebaaRiceT
import Derived.Test.YtjboboaccjbebaaRicePA
import Derived.Deep.RegionHeld3
import Derived.Deep.RegionWith
import Derived.Deep.CutRange
namespace Go.Proofs.Ytjboboaccjbebaa
open Go.RowKit

def InI (xs : List Int) : Prop := ∀ x ∈ xs, -9223372036854775808 ≤ x ∧ x ≤ 9223372036854775807

theorem coded1_any (x : Int) (w : World) (h1 : -9223372036854775808 ≤ x) (h2 : x ≤ 9223372036854775807) : Calls Try.prog 117 #[.int .i64 x] w fun e w' => e = .returned (.bool (!decide (zigN x < 1099511627776))) ∧ w = w' := by
  have HZ := hid (zig_any x w h1 h2)
  have hb : ∀ z : Nat, ((z : Int) / 1099511627776 != 0) = !decide (z < 1099511627776) := by
    intro z
    rw [Bool.eq_iff_iff, bne_iff_ne]
    simp
    omega
  have HB := hid (hb (zigN x))
  obtain ⟨z, hz⟩ : ∃ z, zigN x = z := ⟨_, rfl⟩
  rw [hz] at HZ HB
  rw [hz]
  clear hb hz h1 h2
  go_enter Try.func117, Try.ntmps117
  go_wp2_with fail
  with_reducible refine HZ.out.mono ?_
  rintro e w1 ⟨rfl, rfl⟩
  go_wp2_with fail
  go_ret
  exact ⟨by rw [← HB.out]; rfl, rfl⟩
theorem enters_coded1 : ∀ args w, (callFunc 117 args).run Try.prog w = .ok (.enter 117 args) w := enters_of Try.func117 (by kernel_rfl) rfl
theorem coded_any (l : Value) (xs : List Int) (w : World) (hl : Sl w l (i64s xs)) (hx : InI xs) : Calls Try.prog 64 #[l] w (DrawnI w (.bool (codedB xs))) := by
  have HC := hid (contains_any 117 #[] enters_coded1 (fun x => !decide (zigN x < 1099511627776)) (fun x => -9223372036854775808 ≤ x ∧ x ≤ 9223372036854775807) l xs w hl hx (fun x n hx => (coded1_any x _ hx.1 hx.2).mono fun _ _ ⟨he, hw⟩ => ⟨he, 0, hw.symm⟩))
  have HB := hid (show (!(xs.any fun x => !decide (zigN x < 1099511627776))) = codedB xs from by unfold codedB; rw [List.not_any_eq_all_not]; congr 1; funext x; simp)
  obtain ⟨b, hb⟩ : ∃ b, (xs.any fun x => !decide (zigN x < 1099511627776)) = b := ⟨_, rfl⟩
  rw [hb] at HC HB
  clear hb hl hx
  go_enter Try.func64, Try.ntmps64
  go_wp2_with fail
  with_reducible refine HC.out.mono ?_
  rintro e w1 ⟨rfl, n, rfl⟩
  go_wp2_with fail
  go_ret
  exact ⟨by rw [← HB.out]; rfl, n, rfl⟩
theorem rest_any (x : Int) (w : World) (h1 : -9223372036854775808 ≤ x) (h2 : x ≤ 9223372036854775807) (h0 : x ≠ 0) : Calls Try.prog 68 #[.int .i64 x] w fun e w' => e = .returned (.int .u64 (zigN x - 1 : Nat)) ∧ w = w' := by
  have HZ := hid (zig_any x w h1 h2)
  have hz1 := zig_zero h0
  have hz2 := zig_lt h1 h2
  obtain ⟨z, hz⟩ : ∃ z, zigN x = z := ⟨_, rfl⟩
  rw [hz] at HZ hz1 hz2
  rw [hz]
  have hw1 : IntKind.u64.wrap ((z : Int) - 1) = ((z - 1 : Nat) : Int) := by rw [IntWalk.u64_in _ (by omega)]; omega
  obtain ⟨y, hy⟩ : ∃ y, z - 1 = y := ⟨_, rfl⟩
  rw [hy] at hw1
  rw [hy]
  clear hz hy h1 h2 h0
  go_enter Try.func68, Try.ntmps68
  go_wp2_with fail
  with_reducible refine HZ.out.mono ?_
  rintro e w1 ⟨rfl, rfl⟩
  go_wp2_with fail
  go_ret
  exact ⟨rfl, rfl⟩

/-- What an item may be. -/
def OkI (a : Nat × Option Int) : Prop := a.1 < 4294967296 ∧ ∀ x, a.2 = some x → -9223372036854775808 ≤ x ∧ x ≤ 9223372036854775807 ∧ x ≠ 0
theorem items_ok (n : Nat) (l : List Int) (h : InI l) (hn : n + l.length < 4294967296) : ∀ a ∈ items n l, OkI a := by
  induction l generalizing n with
  | nil =>
    intro a ha
    rw [items] at ha
    split at ha
    · simp at ha; subst ha; exact ⟨by show n < _; simp at hn; omega, by simp⟩
    · cases ha
  | cons x xs ih =>
    intro a ha
    have hx := h x (by simp)
    have hxs : InI xs := fun y hy => h y (by simp [hy])
    rw [List.length_cons] at hn
    rw [items] at ha
    split at ha
    · exact ih (n + 1) hxs (by omega) a ha
    · rcases List.mem_cons.1 ha with rfl | ha
      · refine ⟨by show n < _; omega, fun y hy => ?_⟩
        simp at hy
        subst hy
        exact ⟨hx.1, hx.2, by assumption⟩
      · exact ih 0 hxs (by omega) a ha

set_option maxRecDepth 100000 in
set_option maxHeartbeats 4000000 in
theorem cost1_any (b1 b2 n s : Nat) (o : Option Int) (k : Int) (w : World) (hs : Blk w b1 3 #[.int .i64 (s : Int)]) (hk : Blk w b2 3 #[.int .i64 k]) (hne : b1 ≠ b2) (hs2 : s ≤ 1099511627776) (ha : OkI (n, o)) :
    Calls Try.prog 72 #[.int .i64 (n : Int), .int .i64 (o.getD 0), .bool o.isSome, .pointer (some ⟨b1, 0, none⟩), .pointer (some ⟨b2, 0, none⟩)] w fun e w' => e = .returned (.tuple #[]) ∧ Blk w' b1 3 #[.int .i64 ((s + costI k (n, o) : Nat) : Int)] ∧ Kept (fun i => i = b1) w w' := by
  have hn1 := ha.1
  simp only at hn1
  have HG := hid (fun W => gamcost_any (n + 1) W (by omega))
  have hg := gamCost_le (n + 1)
  have hw1 : IntKind.u64.wrap (n : Int) = (n : Int) := IntWalk.u64_in _ (by omega)
  have hw2 : IntKind.u64.wrap ((n : Int) + 1) = ((n + 1 : Nat) : Int) := by rw [IntWalk.u64_in _ (by omega)]; omega
  have hc1 := hs.cell 0
  have hf1 := hs.frozen 0
  have hc2 := hk.cell 0
  simp at hc1 hc2
  have HB := hid (And.intro hs (And.intro hk hne))
  obtain ⟨m, hm⟩ : ∃ m, n + 1 = m := ⟨_, rfl⟩
  rw [hm] at HG hg hw2
  obtain ⟨y, hy⟩ : ∃ y, gamCost m = y := ⟨_, rfl⟩
  rw [hy] at HG hg
  obtain ⟨v, hv⟩ : ∃ v, s + y = v := ⟨_, rfl⟩
  have hw3 : IntKind.i64.wrap ((s : Int) + (y : Int)) = (v : Int) := by rw [IntWalk.i64_in _ (by omega)]; omega
  have HM := hid (And.intro hm (And.intro hy hv))
  have HA := hid ha
  have hv2 : v ≤ 1099511627839 := by omega
  clear hs hk hm hy hv ha
  go_enter Try.func72, Try.ntmps72
  go_upto_region 0 with fail
  go_cut [] from 8 (fun wx => Blk wx b1 3 #[.int .i64 (v : Int)] ∧ Blk wx b2 3 #[.int .i64 k] ∧ Kept (fun i => i = b1) w wx)
  case first =>
    go_region_with (first | (go_at_call 35; (with_reducible refine (HG.out _).mono ?_); rintro e w1 ⟨rfl, rfl⟩))
    all_goals (go_wp2_with fail; go_meet)
    all_goals exact ⟨(HB.out.1.upd 0 (.int .i64 (v : Int))).drew, (HB.out.2.1.far (p := ⟨b1, 0, none⟩) (Ne.symm hne) (.int .i64 (v : Int))).drew, ((Kept.refl (fun i => i = b1) w).setCell (p := ⟨b1, 0, none⟩) (fun _ => rfl) (.int .i64 (v : Int))).drew⟩
  case rest =>
    obtain ⟨hB1, hB2, hK⟩ := hcut
    clear hc1 hf1 hc2
    have hc1 := hB1.cell 0
    have hf1 := hB1.frozen 0
    have hc2 := hB2.cell 0
    simp at hc1 hc2
    have HB1 := hid (And.intro hB1 hK)
    clear hB1 hB2 hK
    cases o with
    | none =>
      go_wp2_with fail
      go_end0
      have e : s + costI k (n, none) = v := by unfold costI; rw [← HM.out.2.2, ← HM.out.2.1, ← HM.out.1]; rfl
      rw [e]
      exact ⟨rfl, HB1.out⟩
    | some x =>
      obtain ⟨hx1, hx2, hx0⟩ := HA.out.2 x rfl
      have HR := hid (fun W => rest_any x W hx1 hx2 hx0)
      have hz2 := zig_lt hx1 hx2
      have hcl := costR_le (zigN x - 1) k
      have HC2 := hid (fun W => rcost_any (zigN x - 1) k W (by omega))
      have HC : Hid (s + costI k (n, some x) = v + costR (zigN x - 1) k) := by show _ = _; unfold costI; rw [← HM.out.2.2, ← HM.out.2.1, ← HM.out.1, Nat.add_assoc]
      obtain ⟨z, hz⟩ : ∃ z, zigN x - 1 = z := ⟨_, rfl⟩
      rw [hz] at HR HC2 HC hcl
      obtain ⟨t, ht⟩ : ∃ t, costR z k = t := ⟨_, rfl⟩
      rw [ht] at HC2 HC hcl
      obtain ⟨q, hq⟩ : ∃ q, v + t = q := ⟨_, rfl⟩
      have hw4 : IntKind.i64.wrap ((v : Int) + (t : Int)) = (q : Int) := by rw [IntWalk.i64_in _ (by omega)]; omega
      rw [hq] at HC
      clear hz ht hz2 hx1 hx2 hx0 hq
      go_wp2_with fail
      go_region_with (first
        | (go_at_call 68; (with_reducible refine (HR.out _).mono ?_); rintro e w2 ⟨rfl, rfl⟩)
        | (go_at_call 73; (with_reducible refine (HC2.out _).mono ?_); rintro e w2 ⟨rfl, rfl⟩))
      all_goals (go_wp2_with fail)
      all_goals (go_end0)
      all_goals (rw [HC.out]; exact ⟨rfl, (HB1.out.1.upd 0 (.int .i64 (q : Int))).drew, (HB1.out.2.setCell (p := ⟨b1, 0, none⟩) (fun _ => rfl) _).drew⟩)
end Go.Proofs.Ytjboboaccjbebaa
