/- Layer 7: Cost, Best. -/
import Derived.Test.YtjboboaccjbebaaGreatMgD
import Derived.Test.YtjboboaccjbebaaGreatMgB
import Derived.Laws.ResultCell
import Derived.Deep.RegionWith
import Derived.Deep.CutRange
import Derived.Deep.RegionHeld3
import Derived.Test.YtjboboaccjbebaaGreatMgA
import Derived.Lib.BufferRead

namespace Go.Proofs.YtjboboaccjbebaaGreat
open Go.RowKit

theorem items_mem {P R : List (Nat × Option Int)} {n : Nat} {o : Option Int} {xs : List Int} (h : P ++ (n, o) :: R = items 0 xs) : (n, o) ∈ items 0 xs := by rw [← h]; simp
theorem items_pre {P R : List (Nat × Option Int)} {a : Nat × Option Int} {xs : List Int} (h : P ++ a :: R = items 0 xs) : P.length ≤ xs.length := by
  have h1 := items_length 0 xs
  rw [← h] at h1
  simp at h1
  omega
theorem enters_cost1 : ∀ args w, (callFunc 142 args).run Tryz.prog w = .ok (.enter 142 args) w := enters_of Tryz.func142 (by kernel_rfl) rfl

/-- The state of Cost between the items. -/
def CS (w : World) (b1 b2 : Nat) (k : Int) (P : List (Nat × Option Int)) (W : World) : Prop :=
  Blk W b1 3 #[.int .i64 (sumI k P : Nat)] ∧ Blk W b2 3 #[.int .i64 k] ∧ Below w.heap.size w W

theorem cost1_visit (w : World) (b1 b2 : Nat) (k : Int) (xs : List Int) (hx : InI xs) (hn : xs.length ≤ 1048576) (hne : b1 ≠ b2) (hlow : w.heap.size ≤ b1) :
    Visit 142 #[.pointer (some ⟨b1, 0, none⟩), .pointer (some ⟨b2, 0, none⟩)] xs (CS w b1 b2 k) := by
  rintro P n o R W hP ⟨h1, h2, h3⟩
  have hs := sumI_le k P
  have hl := items_pre hP
  have ho := items_ok 0 xs hx (by omega) _ (items_mem hP)
  refine (cost1_any b1 b2 n (sumI k P) o k W h1 h2 hne (by omega) ho).mono ?_
  rintro e w' ⟨rfl, hb, hk⟩
  refine ⟨rfl, ?_, h2.kept hk (Ne.symm hne), Kept.after h3 (Nat.le_refl _) hk fun i hi => by rw [hi]; exact hlow⟩
  rw [sumI_snoc]
  exact hb
theorem costL_ok {xs : List Int} {k : Int} (h1 : paramB k = true) (h2 : codedB xs = true) : costL xs k = sumI k (items 0 xs) := by
  unfold costL
  rw [if_pos ⟨h1, h2⟩, codeL_length]
theorem costL_le (xs : List Int) (k : Int) : costL xs k ≤ (xs.length + 1) * 127 := by
  unfold costL
  split
  · exact codeL_le xs k
  · omega

set_option maxRecDepth 100000 in
set_option maxHeartbeats 4000000 in
theorem costl_any (l : Value) (xs : List Int) (k : Int) (w : World) (hl : Sl w l (i64s xs)) (hx : InI xs) (hn : xs.length ≤ 1048576) :
    Calls Tryz.prog 133 #[l, .int .i64 k] w fun e w' => e = .returned (.int .i64 (costL xs k : Nat)) ∧ Below w.heap.size w w' := by
  obtain ⟨A, c, rfl, hm⟩ := i64s_form hl
  have hmf : ∀ (fn : Fn) (first cap : Array Value) (w : World), (Instr.makeFunc fn first cap).run Tryz.prog w = .ok (.func fn first cap) w := fun _ _ _ _ => rfl
  have HC := hid (fun W (h : Sl W (.slice A xs.length c) (i64s xs)) => coded_any (.slice A xs.length c) xs W h hx)
  have H := hid (And.intro hl hx)
  obtain ⟨b, hb⟩ : ∃ b, codedB xs = b := ⟨_, rfl⟩
  rw [hb] at HC
  have HB := hid hb
  clear hl hx hb
  have hbel : Below w.heap.size w (w.alloc (.cells #[.int .i64 k] 3)) := (Below.refl _ _).alloc (Nat.le_refl _) _
  have HBE := hid hbel
  have HSL := hid (H.out.1.below hbel)
  clear hbel
  by_cases h0 : k < 0
  · have HE := hid (show costL xs k = 0 by unfold costL; rw [if_neg (by intro h; have := (paramB_iff k).1 h.1; omega)])
    go_enter Tryz.func133, Tryz.ntmps133
    go_wp2_with fail
    go_ret
    exact ⟨by rw [HE.out]; rfl, HBE.out⟩
  by_cases h1 : 30 < k
  · have HE := hid (show costL xs k = 0 by unfold costL; rw [if_neg (by intro h; have := (paramB_iff k).1 h.1; omega)])
    go_enter Tryz.func133, Tryz.ntmps133
    go_wp2_with fail
    go_ret
    exact ⟨by rw [HE.out]; rfl, HBE.out⟩
  cases b
  · have HE := hid (show costL xs k = 0 by unfold costL; rw [if_neg (by intro h; rw [HB.out] at h; cases h.2)])
    go_enter Tryz.func133, Tryz.ntmps133
    go_wp2_with fail
    with_reducible refine (HC.out _ HSL.out).mono ?_
    rintro e w1 ⟨rfl, n, rfl⟩
    go_wp2_with fail
    go_ret
    exact ⟨by rw [HE.out]; rfl, below_drewN' HBE.out n⟩
  · have HE := hid (costL_ok ((paramB_iff k).2 ⟨by omega, by omega⟩) HB.out)
    go_enter Tryz.func133, Tryz.ntmps133
    go_wp2_with fail
    with_reducible refine (HC.out _ HSL.out).mono ?_
    rintro e w1 ⟨rfl, n, rfl⟩
    go_wp2_with fail
    have hb1 : Below w.heap.size w (((w.alloc (.cells #[.int .i64 k] 3)).drewN n).alloc (.cells #[.int .i64 0] 3)) := (below_drewN' HBE.out n).alloc (below_drewN' HBE.out n).size _
    have hI0 : CS w (w.heap.size + 1) w.heap.size k [] (((w.alloc (.cells #[.int .i64 k] 3)).drewN n).alloc (.cells #[.int .i64 0] 3)) := by
      refine ⟨?_, ((Blk.new w 3 #[.int .i64 k]).drewN n).alloc _, hb1⟩
      have := Blk.new ((w.alloc (.cells #[.int .i64 k] 3)).drewN n) 3 #[.int .i64 0]
      rw [show ((w.alloc (.cells #[.int .i64 k] 3)).drewN n).heap.size = w.heap.size + 1 from by simp] at this
      exact this
    have HEA := hid (each_any 142 #[.pointer (some ⟨w.heap.size + 1, 0, none⟩), .pointer (some ⟨w.heap.size, 0, none⟩)] enters_cost1 (.slice A xs.length c) xs _ (CS w (w.heap.size + 1) w.heap.size k) ⟨A, c, rfl⟩ hm (fun P W h => H.out.1.below h.2.2) (cost1_visit w (w.heap.size + 1) w.heap.size k xs H.out.2 hn (by omega) (by omega)) hI0)
    clear hb1 hI0
    with_reducible refine HEA.out.mono ?_
    rintro e w2 ⟨rfl, hcs⟩
    have hc5 := hcs.1.cell 0
    simp at hc5
    rw [← HE.out] at hc5
    have HCS := hid hcs.2.2
    obtain ⟨y, hy⟩ : ∃ y, costL xs k = y := ⟨_, rfl⟩
    rw [hy] at hc5
    have HY := hid hy
    clear hcs hy
    go_wp2_with fail
    go_ret
    rw [HY.out]
    exact ⟨rfl, HCS.out⟩

/-- The parameter that costs least, and the cost. -/
def BestL (w : World) (xs : List Int) (e : Ending) (w' : World) : Prop :=
  e = .returned (.tuple #[.int .i64 (bestTo (fun k => costL xs (k : Int)) 30 : Nat), .int .i64 (costL xs ((bestTo (fun k => costL xs (k : Int)) 30 : Nat) : Int) : Nat)]) ∧ Below w.heap.size w w'

set_option maxHeartbeats 800000 in
theorem bestl_any (l : Value) (xs : List Int) (w : World) (hl : Sl w l (i64s xs)) (hx : InI xs) (hn : xs.length ≤ 1048576) :
    Calls Tryz.prog 115 #[l] w (BestL w xs) := by
  have HT := hid (fun (k : Int) W (h : Sl W l (i64s xs)) => costl_any l xs k W h hx hn)
  have H := hid (And.intro hl hx)
  clear hl hx
  obtain ⟨c, hc⟩ : ∃ c : Nat → Nat, (fun k : Nat => costL xs (k : Int)) = c := ⟨_, rfl⟩
  have hcb : ∀ k : Nat, costL xs (k : Int) = c k := fun k => by rw [← hc]
  have hc64 : ∀ k, c k ≤ 134217728 := fun k => by rw [← hcb]; have := costL_le xs (k : Int); omega
  have HCB := hid (And.intro hcb (And.intro hc64 hc))
  clear hcb hc64 hc
  go_enter Tryz.func115, Tryz.ntmps115
  go_wp2_with fail
  have HCC := HT.out 0 w H.out.1
  rw [show costL xs 0 = c 0 from HCB.out.1 0] at HCC
  with_reducible refine HCC.mono ?_
  clear HCC
  rintro e w1 ⟨rfl, hb1⟩
  have H1 := hid hb1
  clear hb1
  go_wp2_with fail
  go_loopw [4, 5, 6] (fun b t i wr => ∃ (k bb tt : Nat), k ≤ 30 ∧ i = .int .i64 ((k : Int) + 1) ∧ b = .int .i64 bb ∧ t = .int .i64 tt ∧ Below w.heap.size w wr ∧ Hid (bb = bestTo c k ∧ tt = c bb)) (fun _ _ i _ => 31 - (intOf i).toNat)
  case atStart => exact ⟨0, 0, c 0, by omega, rfl, rfl, rfl, H1.out, rfl, rfl⟩
  case round =>
    obtain ⟨k, bb, tt, hk, rfl, rfl, rfl, hbel, hd⟩ := hrel
    have HB := hid hbel
    clear hbel
    by_cases hkm : k < 30
    · have hin : (k : Int) + 1 ≤ 30 := by omega
      go_wp2_with fail
      have HCC := HT.out ((k : Int) + 1) wr (H.out.1.below HB.out)
      rw [show costL xs ((k : Int) + 1) = c (k + 1) from HCB.out.1 (k + 1)] at HCC
      obtain ⟨y, hy⟩ : ∃ y, c (k + 1) = y := ⟨_, rfl⟩
      rw [hy] at HCC
      have HY := hid hy
      clear hy
      with_reducible refine HCC.mono ?_
      clear HCC
      rintro e w3 ⟨rfl, hb3⟩
      have H3 := hid (HB.out.trans (hb3.mono HB.out.size))
      clear hb3
      by_cases hlt : y < tt
      · have hlt' : (y : Int) < tt := by omega
        go_wp2_with fail
        go_roundw
        case rel => exact ⟨k + 1, k + 1, y, by omega, by go_num, by go_num, rfl, H3.out, by rw [bestTo, if_pos (by rw [HY.out, ← hd.out.1, ← hd.out.2]; exact hlt)], HY.out.symm⟩
        case measure => simp [intOf]; omega
      · have hlt' : ¬ (y : Int) < tt := by omega
        go_wp2_with fail
        go_roundw
        case rel => exact ⟨k + 1, bb, tt, by omega, by go_num, rfl, rfl, H3.out, by rw [bestTo, if_neg (by rw [HY.out, ← hd.out.1, ← hd.out.2]; exact hlt)]; exact hd.out.1, hd.out.2⟩
        case measure => simp [intOf]; omega
    · have hin : ¬ (k : Int) + 1 ≤ 30 := by omega
      obtain rfl : k = 30 := by omega
      go_wp2_with fail
      go_ret2
      refine ⟨?_, HB.out⟩
      rw [HCB.out.2.2, HCB.out.1, ← hd.out.1, ← hd.out.2]
      rfl
end Go.Proofs.YtjboboaccjbebaaGreat
/- Layer 9: offers. -/
namespace Go.Proofs.YtjboboaccjbebaaGreat
open Go.RowKit

theorem Tryz.info_offer : (Tryz.prog.info? 93).map (fun i => (i.zero, i.size, i.bytes)) = some (some (.agg #[.int .i64 0, .int .i64 0, .int .i64 0]), 3, 24) := by kernel_rfl

section
variable {P : Program} (w : World)
theorem info_parts3 {e : TypeId} {z : Value} {size bytes : Nat} (h : (P.info? e).map (fun i => (i.zero, i.size, i.bytes)) = some (some z, size, bytes)) : ∃ i, P.info? e = some i ∧ i.zero = some z ∧ i.size = size ∧ i.bytes = bytes := by
  cases hi : P.info? e with
  | none => rw [hi] at h; cases h
  | some i =>
    rw [hi] at h
    simp at h
    exact ⟨i, rfl, h.1, h.2.1, h.2.2⟩
theorem wp_app3 {o : Oper} {a : Act} {K : Act → World → Prop} {Q : Exit → Act → World → Prop} (s x : Operand) (t : TypeId)
    (ho : o.op = .call { callee := .builtin .append, args := #[s, x], argTypes := #[t, t] })
    (e : TypeId) (z : Value) (bytes : Nat) (ht : P.underlying t = some (.slice e)) (hinfo : (P.info? e).map (fun i => (i.zero, i.size, i.bytes)) = some (some z, 3, bytes)) (hzs : z.cells.size = 3)
    (v : Value) (n : Nat) (xs : List Value) (hs : a.eval s = v) (hown : w.ownsRow 0 e 3 v n xs) (ad : Addr) (news : List Value) (hx : a.eval x = .slice (some ad) 1 1) (hl : news.length = 3) (hnews : ∀ j u, news[j]? = some u → w.cell? (ad.add j) = some u) (h1 : ∀ u ∈ news, u.oneCell' = true) (hb : bytes ≤ 64) (hn : n ≤ 1000)
    (h : ∀ v' w', w'.ownsRow 0 e 3 v' (n + 1) (xs ++ news) → w.grownBy w' v.ownBlock → Moved w v v' → K (a.put o.dst v') w') : o.wp P a w K Q := by
  obtain ⟨i0, hi, hz0, hz1, hz2⟩ := info_parts3 hinfo
  have g1 : n + 1 ≤ maxLen := by unfold maxLen; omega
  have g2 : (n + 1) * bytes ≤ 140737488355328 := by
    have : (n + 1) * bytes ≤ (n + 1) * 64 := Nat.mul_le_mul_left _ hb
    omega
  obtain ⟨v', w', hr, h2, h3, _, h5⟩ := run_append_own_at (P := P) w 0 t o.type e i0 z 3 bytes ht hi hz0 hz1 hz2 hzs (by decide) v n xs hown ad 1 1 news (by omega) hnews h1 g1 g2 (Nat.zero_le _)
  unfold Oper.wp execOp
  simp only [ho, resolve, invoke, builtin, Sem.run_bind, Sem.run_pure, Result.andThen_ok, List.map_toArray, List.map_cons, List.map_nil, hs, hx, hr]
  refine h v' w' h2 h3 ?_
  rcases h5 with h5 | h5
  · exact .inl h5
  · exact .inr ⟨_, h5, Nat.le_refl _⟩
theorem wpList_app3 {ops : Array Oper} {rest : List Oper} {o : Oper} {a : Act} {Q : Exit → Act → World → Prop} (hgd : o.guard = none) (s x : Operand) (t : TypeId)
    (ho : o.op = .call { callee := .builtin .append, args := #[s, x], argTypes := #[t, t] })
    (e : TypeId) (z : Value) (bytes : Nat) (ht : P.underlying t = some (.slice e)) (hinfo : (P.info? e).map (fun i => (i.zero, i.size, i.bytes)) = some (some z, 3, bytes)) (hzs : z.cells.size = 3)
    (v : Value) (n : Nat) (xs : List Value) (hs : a.eval s = v) (hown : w.ownsRow 0 e 3 v n xs) (ad : Addr) (news : List Value) (hx : a.eval x = .slice (some ad) 1 1) (hl : news.length = 3) (hnews : ∀ j u, news[j]? = some u → w.cell? (ad.add j) = some u) (h1 : ∀ u ∈ news, u.oneCell' = true) (hb : bytes ≤ 64) (hn : n ≤ 1000)
    (h : ∀ v' w', w'.ownsRow 0 e 3 v' (n + 1) (xs ++ news) → w.grownBy w' v.ownBlock → Moved w v v' → wpList P ops Q rest (a.put o.dst v') w') : wpList P ops Q (o :: rest) a w :=
  wpList_plain hgd fun _ hK => wp_app3 w s x t ho e z bytes ht hinfo hzs v n xs hs hown ad news hx hl hnews h1 hb hn fun v' w' h2 h3 h4 => hK _ _ (h v' w' h2 h3 h4)
end

/-- Offers, as cells. -/
def tri (a : Nat × Nat × Nat) : List Value := [.int .i64 (a.1 : Int), .int .i64 (a.2.1 : Int), .int .i64 (a.2.2 : Int)]
def tris (O : List (Nat × Nat × Nat)) : List Value := O.flatMap tri
theorem tris_length (O : List (Nat × Nat × Nat)) : (tris O).length = O.length * 3 := by
  induction O with
  | nil => rfl
  | cons a O ih => unfold tris at *; rw [List.flatMap_cons, List.length_append, ih]; simp [tri]; omega
theorem tris_snoc (O : List (Nat × Nat × Nat)) (a : Nat × Nat × Nat) : tris (O ++ [a]) = tris O ++ tri a := by simp [tris]
def offN (l : List Int) : List (Nat × Nat × Nat) := if noneN l = l.length then [(0, 0, 6)] else []
def offU (l : List Int) : List (Nat × Nat × Nat) := if l.length ≤ 2 * noneN l then [(2, kU l, cU l)] else []
def offL (l : List Int) : List (Nat × Nat × Nat) := offN l ++ [(1, kR l, cR l)] ++ offU l ++ [(3, needL l, cW l)]

/-- A fresh row of offers. -/
def FreshO (w : World) (O : List (Nat × Nat × Nat)) (v : Value) (w' : World) : Prop :=
  w'.ownsRow 0 93 3 v O.length (tris O) ∧ Below w.heap.size w w' ∧ (∀ g, v.ownBlock = some g → w.heap.size ≤ g)
theorem FreshO.none_ (w : World) : FreshO w [] (.slice none 0 0) w := ⟨World.ownsRow_nil _ _ _ _, .refl _ _, by simp [Value.ownBlock]⟩
theorem FreshO.bel {w w1 : World} {O : List (Nat × Nat × Nat)} {v : Value} (h : FreshO w O v w1) : Below w.heap.size w w1 := h.2.1
theorem FreshO.later {w w1 w2 : World} {O : List (Nat × Nat × Nat)} {v : Value} (h : FreshO w O v w1) (hb : Below w1.heap.size w1 w2) : FreshO w O v w2 :=
  ⟨own_of_heap h.1 fun g hg => hb.block g (h.1.lt g hg).2, h.2.1.trans (hb.mono h.2.1.size), h.2.2⟩
theorem FreshO.app {w w1 w2 : World} {O : List (Nat × Nat × Nat)} {a : Nat × Nat × Nat} {n : Nat} {v v' : Value} (h : FreshO w O v w1) (hn : O.length = n) (hown : w2.ownsRow 0 93 3 v' (n + 1) (tris O ++ tri a)) (hg : w1.grownBy w2 v.ownBlock) (hm : Moved w1 v v') : FreshO w (O ++ [a]) v' w2 := by
  subst hn
  refine ⟨by rw [List.length_append, tris_snoc]; exact hown, h.2.1.grown hg h.2.1.size h.2.2, fun k hk => ?_⟩
  rcases hm with e | ⟨g, e, hge⟩
  · exact h.2.2 k (e ▸ hk)
  · rw [hk] at e
    injection e with e
    have := h.2.1.size
    omega
theorem FreshO.own_n {w w1 : World} {O : List (Nat × Nat × Nat)} {v : Value} {n : Nat} (h : FreshO w O v w1) (hn : O.length = n) : w1.ownsRow 0 93 3 v n (tris O) := hn ▸ h.1

theorem blk_cells {w : World} {b : Nat} {t : TypeId} {cs : List Value} (h : Blk w b t cs.toArray) : ∀ j u, cs[j]? = some u → w.cell? ((⟨b, 0, none⟩ : Addr).add j) = some u := by
  intro j u hu
  have e : (⟨b, 0, none⟩ : Addr).add j = ⟨b, j, none⟩ := by unfold Addr.add; split <;> simp_all
  rw [e, h.cell j]
  simpa using hu
theorem tri_one (a : Nat × Nat × Nat) : ∀ u ∈ tri a, u.oneCell' = true := by
  intro u hu
  simp [tri] at hu
  rcases hu with rfl | rfl | rfl <;> rfl
theorem needL_64 {xs : List Int} (h : InI xs) : needL xs ≤ 64 := by
  refine needL_le 64 (by omega) xs fun x hx => ?_
  have hb := h x hx
  unfold needN
  split
  · have := wid_le (-x - 1).toNat 63 (by omega) (by omega); omega
  · have := wid_le x.toNat 63 (by omega) (by omega); omega

set_option maxRecDepth 100000 in
set_option maxHeartbeats 8000000 in
theorem offers_any (l : Value) (xs : List Int) (w : World) (hl : Sl w l (i64s xs)) (hx : InI xs) (hn : xs.length ≤ 65536) : Calls Tryz.prog 92 #[l] w fun e w' => ∃ v, e = .returned v ∧ FreshO w (offL xs) v w' := by
  obtain ⟨A, c, rfl, hm⟩ := i64s_form hl
  have HW := hid (widths_any (.slice A xs.length c) xs w hl hx)
  have H := hid (And.intro hl hx)
  have HZ := hid (fun W (h : Sl W (.slice A xs.length c) (i64s xs)) => zigs_any (.slice A xs.length c) xs W h hx (by omega))
  have HR := hid (fun W v (h : Sl W v (u64s (zigs xs))) => best_any v (zigs xs) (zigW xs : Int) W h (zigs_lt hx) (by rw [zigs_length]; omega))
  have HU := hid (fun W (h : Sl W (.slice A xs.length c) (i64s xs)) => bestl_any (.slice A xs.length c) xs W h hx (by omega))
  unfold BestPost at HR
  unfold BestL at HU
  have hr30 := kR_le xs
  have hu30 := kU_le xs
  have hrb := totalR_le (zigs xs) (kR xs : Int)
  rw [zigs_length] at hrb
  have hub := costL_le xs (kU xs : Int)
  have hnd := needL_64 hx
  have HO := hid (offL.eq_1 xs)
  have HON := hid (offN.eq_1 xs)
  have HOU := hid (offU.eq_1 xs)
  rw [cU.eq_1, ] at HOU
  rw [cR.eq_1, cW.eq_1] at HO
  have ekr : bestTo (fun k => totalR (zigs xs) (k : Int)) (mostK (zigW xs : Int)) = kR xs := rfl
  have eku : bestTo (fun k => costL xs (k : Int)) 30 = kU xs := rfl
  rw [ekr] at HR
  rw [eku] at HU
  clear ekr eku
  obtain ⟨m, hmm⟩ : ∃ m, noneN xs = m := ⟨_, rfl⟩
  have hml := noneN_le xs
  rw [hmm] at HW hml HON HOU
  obtain ⟨r, hr⟩ : ∃ r, kR xs = r := ⟨_, rfl⟩
  rw [hr] at HR hr30 hrb HO
  obtain ⟨tr, htr⟩ : ∃ tr, totalR (zigs xs) (r : Int) = tr := ⟨_, rfl⟩
  rw [htr] at HR hrb HO
  obtain ⟨u, hu⟩ : ∃ u, kU xs = u := ⟨_, rfl⟩
  rw [hu] at HU hu30 hub HOU
  obtain ⟨tu, htu⟩ : ∃ tu, costL xs (u : Int) = tu := ⟨_, rfl⟩
  rw [htu] at HU hub HOU
  obtain ⟨d, hd⟩ : ∃ d, needL xs = d := ⟨_, rfl⟩
  rw [hd] at HW hnd HO
  obtain ⟨zw, hzw⟩ : ∃ zw, zigW xs = zw := ⟨_, rfl⟩
  rw [hzw] at HW HR
  have hdm : d * xs.length ≤ 64 * 65536 := Nat.mul_le_mul hnd hn
  have hdi : (d : Int) * (xs.length : Int) = ((d * xs.length : Nat) : Int) := (Int.natCast_mul _ _).symm
  obtain ⟨dl, hdl⟩ : ∃ dl, d * xs.length = dl := ⟨_, rfl⟩
  rw [hdl] at hdm hdi HO
  have hwd : IntKind.i64.wrap ((d : Int) * (xs.length : Int)) = (dl : Int) := by rw [hdi]; exact IntWalk.i64_in _ (by omega)
  have hwe : IntKind.i64.wrap (12 + (dl : Int)) = ((12 + dl : Nat) : Int) := by rw [IntWalk.i64_in _ (by omega)]; omega
  obtain ⟨de, hde⟩ : ∃ de, 12 + dl = de := ⟨_, rfl⟩
  rw [hde] at hwe HO
  have hwr : IntKind.i64.wrap (6 + (tr : Int)) = ((6 + tr : Nat) : Int) := by rw [IntWalk.i64_in _ (by omega)]; omega
  obtain ⟨r6, hr6⟩ : ∃ r6, 6 + tr = r6 := ⟨_, rfl⟩
  rw [hr6] at hwr HO
  have hwu : IntKind.i64.wrap (11 + (tu : Int)) = ((11 + tu : Nat) : Int) := by rw [IntWalk.i64_in _ (by omega)]; omega
  obtain ⟨u11, hu11⟩ : ∃ u11, 11 + tu = u11 := ⟨_, rfl⟩
  rw [hu11] at hwu HOU
  have hwm : IntKind.i64.wrap (2 * (m : Int)) = ((2 * m : Nat) : Int) := by rw [IntWalk.i64_in _ (by omega)]; omega
  obtain ⟨m2, hm2⟩ : ∃ m2, 2 * m = m2 := ⟨_, rfl⟩
  rw [hm2] at hwm HOU
  clear hmm hl hx hr htr hu htu hd hzw hdi hdl hdm hde hr6 hu11 hrb hub hnd hr30 hu30
  by_cases hall : m = xs.length
  · have hb : ((m : Int) == (xs.length : Int)) = true := by rw [beq_iff_eq]; omega
    have hge : (xs.length : Int) ≤ (m2 : Int) := by omega
    have HG := hid (And.intro hall (show xs.length ≤ m2 by omega))
    clear hall
    go_enter Tryz.func92, Tryz.ntmps92
    go_wp2_with fail
    with_reducible refine HW.out.mono ?_
    rintro e w1 ⟨rfl, rfl⟩
    go_wp2_with (at_builtin; first
      | (refine wpList_app3 _ rfl (.tmp 21) (.tmp 24) 106 rfl 93 (.agg #[.int .i64 0, .int .i64 0, .int .i64 0]) 24 Tryz.underlying106 Tryz.info_offer rfl (.slice none 0 0) 0 (tris []) rfl ?xa1 ⟨w.heap.size, 0, none⟩ (tri (0, 0, 6)) rfl rfl ?xb1 (tri_one _) (by decide) (by decide) ?_; rotate_right; intro v1 w1 hown hg hmv; have ho := FreshO.app ((FreshO.none_ w).later ((Below.refl _ _).alloc (Nat.le_refl _) (.cells (tri (0, 0, 6)).toArray 93))) (n := 0) rfl hown hg hmv; have HO1 := hid ho; clear ho hown hg hmv))
    case xa1 => exact ((FreshO.none_ w).later ((Below.refl _ _).alloc (Nat.le_refl _) _)).own_n rfl
    case xb1 => exact blk_cells (Blk.new w 93 (tri (0, 0, 6)).toArray)
    with_reducible refine (HZ.out _ (H.out.1.below (FreshO.bel (HO1.out)))).mono ?_
    rintro e wz ⟨Az, cz, rfl, hz⟩
    have HZ1 := hid (And.intro ((HO1.out).later hz.2.1) hz.sl)
    clear hz
    go_wp2_with fail
    with_reducible refine (HR.out _ _ HZ1.out.2).mono ?_
    rintro e wr ⟨rfl, hbr⟩
    have HR1 := hid (HZ1.out.1.later hbr)
    clear hbr
    go_wp2_with (at_builtin; first
      | (refine wpList_app3 _ rfl (.tmp 33) (.tmp 39) 106 rfl 93 (.agg #[.int .i64 0, .int .i64 0, .int .i64 0]) 24 Tryz.underlying106 Tryz.info_offer rfl v1 1 (tris ([] ++ [(0, 0, 6)])) rfl ?xa2 ⟨wr.heap.size, 0, none⟩ (tri (1, r, r6)) rfl rfl ?xb2 (tri_one _) (by decide) (by decide) ?_; rotate_right; intro v2 w2 hown hg hmv; have ho := FreshO.app ((HR1.out).later ((Below.refl _ _).alloc (Nat.le_refl _) (.cells (tri (1, r, r6)).toArray 93))) (n := 1) rfl hown hg hmv; have HO2 := hid ho; clear ho hown hg hmv))
    case xa2 => exact ((HR1.out).later ((Below.refl _ _).alloc (Nat.le_refl _) _)).own_n rfl
    case xb2 => exact blk_cells (Blk.new wr 93 (tri (1, r, r6)).toArray)
    with_reducible refine (HU.out _ (H.out.1.below (FreshO.bel (HO2.out)))).mono ?_
    rintro e wu ⟨rfl, hbu⟩
    have HU1 := hid ((HO2.out).later hbu)
    clear hbu
    go_wp2_with (at_builtin; first
      | (refine wpList_app3 _ rfl (.tmp 51) (.tmp 57) 106 rfl 93 (.agg #[.int .i64 0, .int .i64 0, .int .i64 0]) 24 Tryz.underlying106 Tryz.info_offer rfl v2 2 (tris ([] ++ [(0, 0, 6)] ++ [(1, r, r6)])) rfl ?xa3 ⟨wu.heap.size, 0, none⟩ (tri (2, u, u11)) rfl rfl ?xb3 (tri_one _) (by decide) (by decide) ?_; rotate_right; intro v3 w3 hown hg hmv; have ho := FreshO.app ((HU1.out).later ((Below.refl _ _).alloc (Nat.le_refl _) (.cells (tri (2, u, u11)).toArray 93))) (n := 2) rfl hown hg hmv; have HO3 := hid ho; clear ho hown hg hmv)
      | (refine wpList_app3 _ rfl (.tmp 59) (.tmp 68) 106 rfl 93 (.agg #[.int .i64 0, .int .i64 0, .int .i64 0]) 24 Tryz.underlying106 Tryz.info_offer rfl v3 3 (tris ([] ++ [(0, 0, 6)] ++ [(1, r, r6)] ++ [(2, u, u11)])) rfl ?xa4 ⟨w3.heap.size, 0, none⟩ (tri (3, d, de)) rfl rfl ?xb4 (tri_one _) (by decide) (by decide) ?_; rotate_right; intro v4 w4 hown hg hmv; have ho := FreshO.app ((HO3.out).later ((Below.refl _ _).alloc (Nat.le_refl _) (.cells (tri (3, d, de)).toArray 93))) (n := 3) rfl hown hg hmv; have HO4 := hid ho; clear ho hown hg hmv))
    case xa3 => exact ((HU1.out).later ((Below.refl _ _).alloc (Nat.le_refl _) _)).own_n rfl
    case xb3 => exact blk_cells (Blk.new wu 93 (tri (2, u, u11)).toArray)
    case xa4 => exact ((HO3.out).later ((Below.refl _ _).alloc (Nat.le_refl _) _)).own_n rfl
    case xb4 => exact blk_cells (Blk.new w3 93 (tri (3, d, de)).toArray)
    go_ret
    refine ⟨_, rfl, ?_⟩
    rw [HO.out, HON.out, HOU.out, if_pos HG.out.1, if_pos HG.out.2]
    exact HO4.out
  have hb : ((m : Int) == (xs.length : Int)) = false := by rw [beq_eq_false_iff_ne]; omega
  by_cases hge : xs.length ≤ m2
  · have hge' : (xs.length : Int) ≤ (m2 : Int) := by omega
    have HG := hid (And.intro hall hge)
    clear hall hge
    go_enter Tryz.func92, Tryz.ntmps92
    go_wp2_with fail
    with_reducible refine HW.out.mono ?_
    rintro e w1 ⟨rfl, rfl⟩
    go_wp2_with fail
    with_reducible refine (HZ.out _ (H.out.1.below (FreshO.bel (FreshO.none_ w)))).mono ?_
    rintro e wz ⟨Az, cz, rfl, hz⟩
    have HZ1 := hid (And.intro ((FreshO.none_ w).later hz.2.1) hz.sl)
    clear hz
    go_wp2_with fail
    with_reducible refine (HR.out _ _ HZ1.out.2).mono ?_
    rintro e wr ⟨rfl, hbr⟩
    have HR1 := hid (HZ1.out.1.later hbr)
    clear hbr
    go_wp2_with (at_builtin; first
      | (refine wpList_app3 _ rfl (.tmp 33) (.tmp 39) 106 rfl 93 (.agg #[.int .i64 0, .int .i64 0, .int .i64 0]) 24 Tryz.underlying106 Tryz.info_offer rfl (.slice none 0 0) 0 (tris []) rfl ?xa5 ⟨wr.heap.size, 0, none⟩ (tri (1, r, r6)) rfl rfl ?xb5 (tri_one _) (by decide) (by decide) ?_; rotate_right; intro v2 w2 hown hg hmv; have ho := FreshO.app ((HR1.out).later ((Below.refl _ _).alloc (Nat.le_refl _) (.cells (tri (1, r, r6)).toArray 93))) (n := 0) rfl hown hg hmv; have HO2 := hid ho; clear ho hown hg hmv))
    case xa5 => exact ((HR1.out).later ((Below.refl _ _).alloc (Nat.le_refl _) _)).own_n rfl
    case xb5 => exact blk_cells (Blk.new wr 93 (tri (1, r, r6)).toArray)
    with_reducible refine (HU.out _ (H.out.1.below (FreshO.bel (HO2.out)))).mono ?_
    rintro e wu ⟨rfl, hbu⟩
    have HU1 := hid ((HO2.out).later hbu)
    clear hbu
    go_wp2_with (at_builtin; first
      | (refine wpList_app3 _ rfl (.tmp 51) (.tmp 57) 106 rfl 93 (.agg #[.int .i64 0, .int .i64 0, .int .i64 0]) 24 Tryz.underlying106 Tryz.info_offer rfl v2 1 (tris ([] ++ [(1, r, r6)])) rfl ?xa6 ⟨wu.heap.size, 0, none⟩ (tri (2, u, u11)) rfl rfl ?xb6 (tri_one _) (by decide) (by decide) ?_; rotate_right; intro v3 w3 hown hg hmv; have ho := FreshO.app ((HU1.out).later ((Below.refl _ _).alloc (Nat.le_refl _) (.cells (tri (2, u, u11)).toArray 93))) (n := 1) rfl hown hg hmv; have HO3 := hid ho; clear ho hown hg hmv)
      | (refine wpList_app3 _ rfl (.tmp 59) (.tmp 68) 106 rfl 93 (.agg #[.int .i64 0, .int .i64 0, .int .i64 0]) 24 Tryz.underlying106 Tryz.info_offer rfl v3 2 (tris ([] ++ [(1, r, r6)] ++ [(2, u, u11)])) rfl ?xa7 ⟨w3.heap.size, 0, none⟩ (tri (3, d, de)) rfl rfl ?xb7 (tri_one _) (by decide) (by decide) ?_; rotate_right; intro v4 w4 hown hg hmv; have ho := FreshO.app ((HO3.out).later ((Below.refl _ _).alloc (Nat.le_refl _) (.cells (tri (3, d, de)).toArray 93))) (n := 2) rfl hown hg hmv; have HO4 := hid ho; clear ho hown hg hmv))
    case xa6 => exact ((HU1.out).later ((Below.refl _ _).alloc (Nat.le_refl _) _)).own_n rfl
    case xb6 => exact blk_cells (Blk.new wu 93 (tri (2, u, u11)).toArray)
    case xa7 => exact ((HO3.out).later ((Below.refl _ _).alloc (Nat.le_refl _) _)).own_n rfl
    case xb7 => exact blk_cells (Blk.new w3 93 (tri (3, d, de)).toArray)
    go_ret
    refine ⟨_, rfl, ?_⟩
    rw [HO.out, HON.out, HOU.out, if_neg HG.out.1, if_pos HG.out.2]
    exact HO4.out
  · have hge' : ¬ (xs.length : Int) ≤ (m2 : Int) := by omega
    have HG := hid (And.intro hall hge)
    clear hall hge
    go_enter Tryz.func92, Tryz.ntmps92
    go_wp2_with fail
    with_reducible refine HW.out.mono ?_
    rintro e w1 ⟨rfl, rfl⟩
    go_wp2_with fail
    with_reducible refine (HZ.out _ (H.out.1.below (FreshO.bel (FreshO.none_ w)))).mono ?_
    rintro e wz ⟨Az, cz, rfl, hz⟩
    have HZ1 := hid (And.intro ((FreshO.none_ w).later hz.2.1) hz.sl)
    clear hz
    go_wp2_with fail
    with_reducible refine (HR.out _ _ HZ1.out.2).mono ?_
    rintro e wr ⟨rfl, hbr⟩
    have HR1 := hid (HZ1.out.1.later hbr)
    clear hbr
    go_wp2_with (at_builtin; first
      | (refine wpList_app3 _ rfl (.tmp 33) (.tmp 39) 106 rfl 93 (.agg #[.int .i64 0, .int .i64 0, .int .i64 0]) 24 Tryz.underlying106 Tryz.info_offer rfl (.slice none 0 0) 0 (tris []) rfl ?xa8 ⟨wr.heap.size, 0, none⟩ (tri (1, r, r6)) rfl rfl ?xb8 (tri_one _) (by decide) (by decide) ?_; rotate_right; intro v2 w2 hown hg hmv; have ho := FreshO.app ((HR1.out).later ((Below.refl _ _).alloc (Nat.le_refl _) (.cells (tri (1, r, r6)).toArray 93))) (n := 0) rfl hown hg hmv; have HO2 := hid ho; clear ho hown hg hmv)
      | (refine wpList_app3 _ rfl (.tmp 59) (.tmp 68) 106 rfl 93 (.agg #[.int .i64 0, .int .i64 0, .int .i64 0]) 24 Tryz.underlying106 Tryz.info_offer rfl v2 1 (tris ([] ++ [(1, r, r6)])) rfl ?xa9 ⟨w2.heap.size, 0, none⟩ (tri (3, d, de)) rfl rfl ?xb9 (tri_one _) (by decide) (by decide) ?_; rotate_right; intro v4 w4 hown hg hmv; have ho := FreshO.app ((HO2.out).later ((Below.refl _ _).alloc (Nat.le_refl _) (.cells (tri (3, d, de)).toArray 93))) (n := 1) rfl hown hg hmv; have HO4 := hid ho; clear ho hown hg hmv))
    case xa8 => exact ((HR1.out).later ((Below.refl _ _).alloc (Nat.le_refl _) _)).own_n rfl
    case xb8 => exact blk_cells (Blk.new wr 93 (tri (1, r, r6)).toArray)
    case xa9 => exact ((HO2.out).later ((Below.refl _ _).alloc (Nat.le_refl _) _)).own_n rfl
    case xb9 => exact blk_cells (Blk.new w2 93 (tri (3, d, de)).toArray)
    go_ret
    refine ⟨_, rfl, ?_⟩
    rw [HO.out, HON.out, HOU.out, if_neg HG.out.1, if_neg HG.out.2]
    exact HO4.out
end Go.Proofs.YtjboboaccjbebaaGreat
/- Layer 9: choose. -/
namespace Go.Proofs.YtjboboaccjbebaaGreat
open Go.RowKit

def lessO (b o : Nat × Nat × Nat) : Nat × Nat × Nat := if o.2.2 < b.2.2 then o else b
def pickO : List (Nat × Nat × Nat) → Nat × Nat × Nat
  | [] => (0, 0, 0)
  | a :: O => O.foldl lessO a
theorem pick_snoc (a : Nat × Nat × Nat) (O : List (Nat × Nat × Nat)) (o : Nat × Nat × Nat) : pickO (a :: O ++ [o]) = lessO (pickO (a :: O)) o := by simp [pickO]
theorem pick_offL (l : List Int) : pickO (offL l) = chooseL l := by
  unfold offL offN offU chooseL
  have h6 : 6 ≤ cR l := by unfold cR; omega
  have h11 : 6 ≤ cU l := by unfold cU; omega
  have h12 : 6 ≤ cW l := by unfold cW; omega
  by_cases h0 : noneN l = l.length
  · have h1 : l.length ≤ 2 * noneN l := by omega
    rw [if_pos h0, if_pos h1, if_pos h0]
    simp only [List.cons_append, List.nil_append, pickO, List.foldl_cons, List.foldl_nil, lessO]
    rw [if_neg (show ¬ cR l < 6 by omega), if_neg (show ¬ cU l < 6 by omega), if_neg (show ¬ cW l < 6 by omega)]
  · rw [if_neg h0, if_neg h0]
    by_cases h1 : l.length ≤ 2 * noneN l
    · rw [if_pos h1]
      simp only [List.cons_append, List.nil_append, pickO, List.foldl_cons, List.foldl_nil, lessO]
      by_cases h2 : cU l < cR l
      · rw [if_pos h2, if_pos (c := l.length ≤ 2 * noneN l ∧ cU l < cR l) ⟨h1, h2⟩]
      · rw [if_neg h2, if_neg (c := l.length ≤ 2 * noneN l ∧ cU l < cR l) (fun h => h2 h.2)]
    · rw [if_neg h1, if_neg (c := l.length ≤ 2 * noneN l ∧ cU l < cR l) (fun h => h1 h.1)]
      simp only [List.cons_append, List.nil_append, pickO, List.foldl_cons, List.foldl_nil, lessO]
theorem offL_len (l : List Int) : 2 ≤ (offL l).length ∧ (offL l).length ≤ 4 := by
  unfold offL offN offU
  split <;> split <;> simp
theorem tris_at {O : List (Nat × Nat × Nat)} {i : Nat} (h : i < O.length) : (tris O)[i * 3]? = some (.int .i64 (O[i].1 : Int)) ∧ (tris O)[i * 3 + 1]? = some (.int .i64 (O[i].2.1 : Int)) ∧ (tris O)[i * 3 + 2]? = some (.int .i64 (O[i].2.2 : Int)) := by
  induction O generalizing i with
  | nil => simp at h
  | cons a O ih =>
    have e : tris (a :: O) = tri a ++ tris O := rfl
    rw [e]
    rcases i with _ | i
    · simp [tri]
    · have := ih (i := i) (by simpa using h)
      rw [List.getElem?_append_right (by simp [tri]; omega), List.getElem?_append_right (by simp [tri]; omega), List.getElem?_append_right (by simp [tri]; omega)]
      simp only [show (tri a).length = 3 from rfl, show (i + 1) * 3 - 3 = i * 3 by omega, show (i + 1) * 3 + 1 - 3 = i * 3 + 1 by omega, show (i + 1) * 3 + 2 - 3 = i * 3 + 2 by omega, List.getElem_cons_succ]
      exact this
theorem FreshO.at_ {w wr : World} {O : List (Nat × Nat × Nat)} {v : Value} (h : FreshO w O v wr) (h1 : 1 ≤ O.length) : ∃ g c, v = .slice (some ⟨g, 0, none⟩) O.length c ∧ w.heap.size ≤ g ∧ g < wr.heap.size ∧ O.length ≤ c ∧
    ∀ i (hi : i < O.length), wr.cell? ⟨g, i * 3, none⟩ = some (.int .i64 (O[i].1 : Int)) ∧ wr.cell? ⟨g, i * 3 + 1, none⟩ = some (.int .i64 (O[i].2.1 : Int)) ∧ wr.cell? ⟨g, i * 3 + 2, none⟩ = some (.int .i64 (O[i].2.2 : Int)) := by
  have hw := h.1
  rcases hw.2 with ⟨_, e⟩ | ⟨g, c, cur, rfl, _, hg, hc, _⟩
  · omega
  · have hcl := hw.cells (g := g) rfl
    refine ⟨g, c, rfl, h.2.2 g rfl, (Array.getElem?_eq_some_iff.1 hg).1, hc, fun i hi => ?_⟩
    obtain ⟨t1, t2, t3⟩ := tris_at hi
    have c1 := hcl _ _ t1
    have c2 := hcl _ _ t2
    have c3 := hcl _ _ t3
    have ha : ∀ k : Nat, (⟨g, 0, none⟩ : Addr).add k = ⟨g, k, none⟩ := fun k => by unfold Addr.add; split <;> simp_all
    rw [ha] at c1 c2 c3
    exact ⟨c1, c2, c3⟩
/-- An offer, as a value. -/
def offV (a : Nat × Nat × Nat) : Value := .agg #[.int .i64 (a.1 : Int), .int .i64 (a.2.1 : Int), .int .i64 (a.2.2 : Int)]

theorem results_cell1 {fn : Func} {p : Tmp} {ty : TypeId} (h : fn.results = #[.cell p ty]) {tmps : Array Value} {P : Program} {w : World} {a : Addr} {v : Value} (hp : tmps.getD p undef = .pointer (some a)) (hv : (loadVar ty a).run P w = .ok v w) :
    (results fn tmps).run P w = .ok v w := by
  have hp' : tmps[p]?.getD undef = .pointer (some a) := by simpa using hp
  simp only [results, h]
  simp [asAddr, hp', hv]
theorem results_cell2 {fn : Func} {p u : Tmp} {ty : TypeId} (h : fn.results = #[.cell p ty, .tmp u]) {tmps : Array Value} {P : Program} {w : World} {a : Addr} {v : Value} (hp : tmps.getD p undef = .pointer (some a)) (hv : (loadVar ty a).run P w = .ok v w) :
    (results fn tmps).run P w = .ok (.tuple #[v, tmps.getD u undef]) w := by
  rw [results_cell_tmp h]
  simp [Result.andThen, hp, hv, asAddr]
theorem load_offer {w : World} {b : Nat} {t : TypeId} {a : Nat × Nat × Nat} (h : Blk w b t (tri a).toArray) : (loadVar 93 ⟨b, 0, none⟩).run Tryz.prog w = .ok (offV a) w := by
  obtain ⟨i, hi, _, h2, _⟩ := info_parts3 Tryz.info_offer
  have hl := run_loadCells_list (P := Tryz.prog) w ⟨b, 0, none⟩ (tri a) (blk_cells h)
  simp [loadVar, isAgg, run_underlying Tryz.underlying93, sizeOf, typeInfo, hi, h2]
  rw [show (3 : Nat) = (tri a).length from rfl, hl]
  rfl

set_option maxRecDepth 100000 in
set_option maxHeartbeats 8000000 in
theorem choose_any (l : Value) (xs : List Int) (w : World) (hl : Sl w l (i64s xs)) (hx : InI xs) (hn : xs.length ≤ 65536) : Calls Tryz.prog 76 #[l] w fun e w' => e = .returned (offV (chooseL xs)) ∧ Below w.heap.size w w' := by
  have hb0 : Below w.heap.size w (w.alloc (.cells #[.int .i64 0, .int .i64 0, .int .i64 0] 93)) := (Below.refl _ _).alloc (Nat.le_refl _) _
  have HOF := hid (offers_any l xs (w.alloc (.cells #[.int .i64 0, .int .i64 0, .int .i64 0] 93)) (hl.below hb0) hx hn)
  have HP := hid (pick_offL xs)
  obtain ⟨ol1, ol2⟩ := offL_len xs
  obtain ⟨A, c, rfl, hm⟩ := i64s_form hl
  obtain ⟨O, hO⟩ : ∃ O, offL xs = O := ⟨_, rfl⟩
  rw [hO] at HP ol1 ol2
  simp only [hO] at HOF
  have HB := hid (And.intro hb0 (Blk.new w 93 #[.int .i64 0, .int .i64 0, .int .i64 0]))
  obtain ⟨R, hR⟩ : ∃ R, chooseL xs = R := ⟨_, rfl⟩
  rw [hR] at HP ⊢
  clear hb0 hl hx hO hR
  go_enter Tryz.func76, Tryz.ntmps76
  go_wp2_with fail
  go_step3
  go_wp2_with fail
  with_reducible refine HOF.out.mono ?_
  rintro e w1 ⟨v, rfl, hf⟩
  obtain ⟨g, cc, rfl, hg1, hg2, hcc, hcl⟩ := hf.at_ (by omega)
  have hcc1 : ¬ cc = 1 := by omega
  obtain ⟨c0, c1, c2⟩ := hcl 0 (by omega)
  rw [show 0 * 3 = 0 from rfl, show 0 * 3 + 1 = 1 from rfl, show 0 * 3 + 2 = 2 from rfl] at *
  have H1 := hid (And.intro hf.bel hcl)
  have hgs : w.heap.size < g := by simp at hg1; omega
  clear hf hcl hg1
  go_wp2_with fail
  go_step3
  go_wp2_with fail
  obtain ⟨n1, hn1⟩ : ∃ n1, O.length - 1 = n1 := ⟨_, rfl⟩
  rw [hn1]
  have hn1' : n1 + 1 = O.length := by omega
  clear hn1
  go_loopw [15] (fun i wr => ∃ j : Nat, j ≤ n1 ∧ i = .int .i64 j ∧ Hid (Below w1.heap.size w1 wr ∧ Blk wr w1.heap.size 93 (tri (pickO (O.take (j + 1)))).toArray)) (fun i _ => n1 - (intOf i).toNat)
  case atStart =>
    refine ⟨0, by omega, rfl, (Below.refl _ _).alloc (Nat.le_refl _) _, ?_⟩
    have e : pickO (O.take (0 + 1)) = O[0] := by
      rcases O with _ | ⟨a, O⟩
      · simp at ol1
      · rfl
    rw [e]
    exact Blk.new _ _ _
  case round =>
    obtain ⟨j, hj, rfl, hst⟩ := hrel
    have hbk := hst.out.2
    have b0 := hbk.cell 0
    have b1 := hbk.cell 1
    have b2 := hbk.cell 2
    have bf0 := hbk.frozen 0
    have bf1 := hbk.frozen 1
    have bf2 := hbk.frozen 2
    simp [tri] at b0 b1 b2
    obtain ⟨B, hB⟩ : ∃ B, pickO (O.take (j + 1)) = B := ⟨_, rfl⟩
    rw [hB] at b0 b1 b2 hst
    by_cases hjn : j < n1
    · have hin : (j : Int) < n1 := by omega
      have hjO : j + 1 < O.length := by omega
      obtain ⟨d0, d1, d2⟩ := H1.out.2 (j + 1) hjO
      have hk := fun (k : Nat) => Kept.cell (Kept.of_below' (S := fun _ => False) hst.out.1) (p := ⟨g, k, none⟩) hg2 id
      rw [← hk] at d0 d1 d2
      obtain ⟨a, ha⟩ : ∃ a, O[j + 1] = a := ⟨_, rfl⟩
      rw [ha] at d0 d1 d2
      rw [show (j + 1) * 3 = 3 + j * 3 by omega] at d0 d1 d2
      have HA := hid (And.intro hB (show pickO (O.take (j + 1 + 1)) = lessO B a from by
        rw [take_snocI O (j + 1) hjO, ha, ← hB]
        rcases O with _ | ⟨o, O⟩
        · simp at hjO
        · rw [List.take_succ_cons]
          exact pick_snoc _ _ _))
      clear hk hB ha hbk
      have HST := hid hst.out
      have e0 : ∀ o, (wr.alloc o).cell? ⟨w1.heap.size, 0, none⟩ = some (.int .i64 (B.1 : Int)) := fun o => by have := (HST.out.2.alloc o).cell 0; simpa [tri] using this
      have e1 : ∀ o, (wr.alloc o).cell? ⟨w1.heap.size, 1, none⟩ = some (.int .i64 (B.2.1 : Int)) := fun o => by have := (HST.out.2.alloc o).cell 1; simpa [tri] using this
      have e2 : ∀ o, (wr.alloc o).cell? ⟨w1.heap.size, 2, none⟩ = some (.int .i64 (B.2.2 : Int)) := fun o => by have := (HST.out.2.alloc o).cell 2; simpa [tri] using this
      have f0 : ∀ o, (wr.alloc o).frozen? ⟨w1.heap.size, 0, none⟩ = false := fun o => (HST.out.2.alloc o).frozen 0
      have f1 : ∀ o, (wr.alloc o).frozen? ⟨w1.heap.size, 1, none⟩ = false := fun o => (HST.out.2.alloc o).frozen 1
      have f2 : ∀ o, (wr.alloc o).frozen? ⟨w1.heap.size, 2, none⟩ = false := fun o => (HST.out.2.alloc o).frozen 2
      by_cases hlt : a.2.2 < B.2.2
      · have hb : ¬ ((B.2.2 : Int) ≤ (a.2.2 : Int)) := by omega
        have HLT := hid hlt
        clear hlt hst
        go_wp2_with fail
        go_roundw
        case rel =>
          refine ⟨j + 1, by omega, by go_num, ?_, ?_⟩
          · have := HST.out.1.size
            exact ((((HST.out.1.alloc HST.out.1.size _).setCell (by simp) _).setCell (by simp) _).setCell (by simp) _)
          · rw [HA.out.2, lessO, if_pos HLT.out]
            have h := (((HST.out.2.alloc (.cells #[.int .i64 (a.1 : Int), .int .i64 (a.2.1 : Int), .int .i64 (a.2.2 : Int)] 93)).upd 0 (.int .i64 (a.1 : Int))).upd 1 (.int .i64 (a.2.1 : Int))).upd 2 (.int .i64 (a.2.2 : Int))
            simpa [tri] using h
        case measure => simp [intOf]; omega
      · have hb : (B.2.2 : Int) ≤ (a.2.2 : Int) := by omega
        have HLT := hid hlt
        clear hlt hst
        go_wp2_with fail
        go_roundw
        case rel =>
          refine ⟨j + 1, by omega, by go_num, HST.out.1.alloc HST.out.1.size _, ?_⟩
          rw [HA.out.2, lessO, if_neg HLT.out]
          exact HST.out.2.alloc _
        case measure => simp [intOf]; omega
    · obtain rfl : j = n1 := by omega
      have hin : ¬ (j : Int) < j := by omega
      have hR : B = R := by
        rw [← hB, hn1', List.take_length]
        exact HP.out
      subst hR
      have hlt0 : w.heap.size < w1.heap.size := by omega
      have hres : Blk wr w.heap.size 93 #[.int .i64 0, .int .i64 0, .int .i64 0] := by
        have h1 : w1.heap[w.heap.size]? = _ := (H1.out.1.block w.heap.size (by simp)).trans HB.out.2
        exact (hst.out.1.block w.heap.size hlt0).trans h1
      have rf0 := hres.frozen 0
      have rf1 := hres.frozen 1
      have rf2 := hres.frozen 2
      have rc0 := hres.cell 0
      have rc1 := hres.cell 1
      have rc2 := hres.cell 2
      simp at rc0 rc1 rc2
      have HF := hid (And.intro hres (show Below w.heap.size w wr from (HB.out.1.trans (H1.out.1.mono (by simp))).trans (hst.out.1.mono (by omega))))
      clear hst hbk hres hB
      go_wp2_with fail
      have h := ((HF.out.1.upd 0 (.int .i64 (B.1 : Int))).upd 1 (.int .i64 (B.2.1 : Int))).upd 2 (.int .i64 (B.2.2 : Int))
      exact bodyPost_ret (results_cell1 rfl rfl (load_offer (t := 93) (a := B) (by simpa [tri] using h))) rfl ⟨rfl, ((HF.out.2.setCell (by simp) _).setCell (by simp) _).setCell (by simp) _⟩
end Go.Proofs.YtjboboaccjbebaaGreat
/- Layer 9: Choose, parts. -/
namespace Go.Proofs.YtjboboaccjbebaaGreat
open Go.RowKit

theorem Tryz.info_way : (Tryz.prog.info? 91).map (fun i => (i.zero, i.size, i.bytes)) = some (some (.agg #[.int .i64 0, .int .i64 0]), 2, 16) := by kernel_rfl
theorem load_way {w : World} {b : Nat} {t : TypeId} {x y : Value} (h : Blk w b t #[x, y]) : (loadVar 91 ⟨b, 0, none⟩).run Tryz.prog w = .ok (.agg #[x, y]) w := by
  obtain ⟨i, hi, _, h2, _⟩ := info_parts3 Tryz.info_way
  have hl := run_loadCells_list (P := Tryz.prog) w ⟨b, 0, none⟩ [x, y] (blk_cells h)
  simp [loadVar, isAgg, run_underlying Tryz.underlying91, sizeOf, typeInfo, hi, h2]
  rw [show (2 : Nat) = [x, y].length from rfl, hl]
  rfl
/-- What Choose answers. -/
def chooseX (l : List Int) : Nat × Nat × Nat := if mayL l = true then chooseL l else (0, 0, 0)
def wayV (a : Nat × Nat × Nat) : Value := .tuple #[.agg #[.int .i64 (a.1 : Int), .int .i64 (a.2.1 : Int)], .int .i64 (a.2.2 : Int)]

theorem Sl.sub_ {w : World} {ad : Addr} {n c : Nat} {xs : List Value} (h : Sl w (.slice (some ad) n c) xs) (a b : Nat) (hab : a ≤ b) (hb : b ≤ n) : Sl w (.slice (some (ad.add a)) (b - a) (c - a)) ((xs.take b).drop a) := by
  rcases h with ⟨e, _⟩ | ⟨ad', c', e, hc, hm, hcell⟩
  · cases e
  · injection e with e1 e2 e3
    injection e1 with e1
    subst e1 e2 e3
    have hl : ((xs.take b).drop a).length = b - a := by rw [List.length_drop, List.length_take]; omega
    refine .inr ⟨ad.add a, c - a, by rw [hl], by rw [hl]; omega, by omega, fun j u hj => ?_⟩
    rw [List.getElem?_drop, List.getElem?_take] at hj
    split at hj
    · rw [add_of_add]
      exact hcell _ _ hj
    · cases hj
theorem Sl.sub0 (w : World) (ad : Addr) : Sl w (.slice (some ad) 0 0) [] := .inr ⟨ad, 0, rfl, Nat.le_refl _, by unfold maxLen; omega, fun j u hu => by simp at hu⟩
theorem i64s_sub (xs : List Int) (a b : Nat) : i64s ((xs.take b).drop a) = ((i64s xs).take b).drop a := by simp [i64s, List.map_drop, List.map_take]

/-- What is called with each part, one after another; I holds between. -/
def VisitP (g : Nat) (cap : Array Value) (l : Value) (xs : List Int) (p : Nat) (I : Nat → World → Prop) : Prop :=
  ∀ i W v, i < 2 ^ p → I i W → Sl W v (i64s (partL xs p i)) → (i64s (partL xs p i) ≠ [] → ∀ b, v.ownBlock = some b → l.ownBlock = some b) → Calls Tryz.prog g (#[v] ++ cap) W fun e w' => e = .returned (.tuple #[]) ∧ I (i + 1) w'

set_option maxRecDepth 100000 in
set_option maxHeartbeats 8000000 in
theorem partsv_any (g : Nat) (cap : Array Value) (eg : ∀ args w, (callFunc g args).run Tryz.prog w = .ok (.enter g args) w) (l : Value) (xs : List Int) (p : Nat) (w : World) (I : Nat → World → Prop)
    (hlf : ∃ A c, l = .slice A xs.length c) (hn : xs.length ≤ 65536) (hp : p ≤ 6) (hI : ∀ i W, I i W → Sl W l (i64s xs)) (hd : ∀ i W n, I i W → I i (W.drewN n)) (hv : VisitP g cap l xs p I) (h0 : I 0 w) :
    Calls Tryz.prog 45 #[l, .int .i64 (p : Int), .func (.func g) #[] cap] w fun e w' => e = .returned (.tuple #[]) ∧ I (2 ^ p) w' := by
  obtain ⟨A, c, rfl⟩ := hlf
  have H := hid (And.intro hI (And.intro hv (And.intro h0 hd)))
  have HBD := hid (fun i W (hi : i < 2 ^ p) => bounds_any xs.length p i W hn hp (by have : 2 ^ p ≤ 2 ^ 6 := Nat.pow_le_pow_right (by omega) hp; omega))
  have HBL := hid (fun i (hi : i ≤ 2 ^ p) => bnd_le xs.length p hi)
  have HBM := hid (fun i => bnd_mono xs.length p i)
  have HPL := hid (fun i => partL.eq_1 xs p i)
  have hN64 : 2 ^ p ≤ 64 := by have : 2 ^ p ≤ 2 ^ 6 := Nat.pow_le_pow_right (by omega) hp; omega
  have hpi : (2 : Int) ^ p = ((2 ^ p : Nat) : Int) := (Int.natCast_pow 2 p).symm
  unfold VisitP at H
  obtain ⟨N, hN⟩ : ∃ N, 2 ^ p = N := ⟨_, rfl⟩
  simp only [hN] at H HBD HBL hN64 hpi
  rw [hN]
  have hpN : IntKind.i64.wrap ((2 : Int) ^ p) = (N : Int) := by rw [hpi]; exact IntWalk.i64_in _ (by omega)
  have HN := hid hN
  clear hI hv h0 hd hN hpi
  have hp0 : ¬ (p : Int) < 0 := by omega
  have hp64 : (p : Int) < 64 := by omega
  go_enter Tryz.func45, Tryz.ntmps45
  go_wp2_with fail
  go_loopw [11] (fun i wr => ∃ j : Nat, j ≤ N ∧ i = .int .i64 j ∧ Hid (I j wr)) (fun i _ => N - (intOf i).toNat)
  case atStart => exact ⟨0, by omega, rfl, H.out.2.2.1⟩
  case round =>
    obtain ⟨j, hj, rfl, hI⟩ := hrel
    by_cases hjn : j < N
    · have hin : (j : Int) < N := by omega
      have hb1 := HBL.out (j + 1) (by omega)
      have hb0 := HBM.out j
      have HB := hid (HBD.out j wr hjn)
      have hpl := HPL.out j
      obtain ⟨a, ha⟩ : ∃ a, bndN xs.length p j = a := ⟨_, rfl⟩
      obtain ⟨b, hb⟩ : ∃ b, bndN xs.length p (j + 1) = b := ⟨_, rfl⟩
      rw [ha, hb] at hpl
      rw [ha] at HB hb0
      rw [hb] at HB hb0 hb1
      have ea : ((b : Nat) : Int) ≤ (xs.length : Int) := by omega
      have eb : (a : Int) ≤ (b : Int) := by omega
      have HPX := hid hpl
      clear ha hb hpl
      have hsl := H.out.1 j wr hI.out
      rcases A with _ | ad
      · have hx0 : xs = [] ∧ c = 0 := by
          rcases hsl with ⟨e, e2⟩ | ⟨_, _, e, _⟩
          · injection e with _ _ e3
            exact ⟨by cases xs; rfl; simp [i64s] at e2, e3⟩
          · injection e with e1
            cases e1
        obtain ⟨hx0, rfl⟩ := hx0
        have hxl : xs.length = 0 := by rw [hx0]; rfl
        have hbz : b = 0 := by omega
        have haz : a = 0 := by omega
        subst hbz haz
        have HX := hid hx0
        clear hsl hx0 hxl
        go_wp2_with fail
        with_reducible refine HB.out.mono ?_
        rintro e w1 ⟨rfl, n1, rfl⟩
        go_wp2_with fail
        have HV := hid (H.out.2.1 j (wr.drewN n1) (.slice none 0 0) hjn (H.out.2.2.2 j wr n1 hI.out) (by rw [HPX.out, HX.out]; exact Sl.nil_ _) (fun _ b hb => by simp [Value.ownBlock] at hb))
        refine HV.out.mono ?_
        rintro e w2 ⟨rfl, hI2⟩
        have H2 := hid hI2
        clear hI2
        go_wp2_with fail
        go_roundw
        case rel => exact ⟨j + 1, by omega, by go_num, H2.out⟩
        case measure => simp [intOf]; omega
      · have hmc : xs.length ≤ c := (Sl.drop_len hsl).2
        clear hsl
        by_cases hca : c = a
        · have hba : b - a = 0 := by omega
          subst hca
          go_wp2_with fail
          with_reducible refine HB.out.mono ?_
          rintro e w1 ⟨rfl, n1, rfl⟩
          go_wp2_with fail
          have HV := hid (H.out.2.1 j (wr.drewN n1) (.slice (some ad) 0 0) hjn (H.out.2.2.2 j wr n1 hI.out) (by rw [HPX.out, List.drop_of_length_le (by rw [List.length_take]; omega)]; exact Sl.sub0 _ _) (fun hne _ _ => absurd (show i64s (partL xs p j) = [] by rw [HPX.out, List.drop_of_length_le (by rw [List.length_take]; omega)]; rfl) hne))
          refine HV.out.mono ?_
          rintro e w2 ⟨rfl, hI2⟩
          have H2 := hid hI2
          clear hI2
          go_wp2_with fail
          go_roundw
          case rel => exact ⟨j + 1, by omega, by go_num, H2.out⟩
          case measure => simp [intOf]; omega
        · go_wp2_with fail
          with_reducible refine HB.out.mono ?_
          rintro e w1 ⟨rfl, n1, rfl⟩
          go_wp2_with fail
          have HV := hid (H.out.2.1 j (wr.drewN n1) (.slice (some (ad.add a)) (b - a) (c - a)) hjn (H.out.2.2.2 j wr n1 hI.out) (by have h := ((H.out.1 j wr hI.out).drewN n1).sub_ a b (by omega) (by omega); rwa [HPX.out, i64s_sub]) (fun _ b hb => by simp only [Value.ownBlock] at hb ⊢; rw [← hb, block_of_add]))
          refine HV.out.mono ?_
          rintro e w2 ⟨rfl, hI2⟩
          have H2 := hid hI2
          clear hI2
          go_wp2_with fail
          go_roundw
          case rel => exact ⟨j + 1, by omega, by go_num, H2.out⟩
          case measure => simp [intOf]; omega
    · have hin : ¬ (j : Int) < N := by omega
      obtain rfl : j = N := by omega
      go_wp2_with fail
      go_end0
      exact ⟨rfl, hI.out⟩
end Go.Proofs.YtjboboaccjbebaaGreat
/- Plain law of layer 21: orders that cost least; numbers within a bound, their code, and what it is read as. -/
namespace Go.Proofs.YtjboboaccjbebaaGreat
open Go.RowKit

/-- The greatest order of so many numbers. -/
def ordM (n : Nat) : Nat := min 6 (wid n - 1)
theorem ordM_le (n : Nat) : ordM n ≤ 6 := Nat.min_le_left _ _
theorem ordM_iff {n p : Nat} (hn : n < 18446744073709551616) (h1 : 1 ≤ p) : orderB n (p : Int) = true ↔ p ≤ ordM n := by
  rw [orderB_iff, Int.toNat_natCast]
  have hlt := wid_lt n hn
  unfold ordM
  constructor
  · rintro (h | ⟨_, h6, h2⟩)
    · omega
    · have : p < wid n := by
        rcases Nat.lt_or_ge p (wid n) with h | h
        · exact h
        · have := Nat.pow_le_pow_right (show 0 < 2 by omega) h
          omega
      omega
  · intro h
    right
    have hw : 1 ≤ n := by
      rcases Nat.eq_zero_or_pos n with e | e
      · subst e; rw [wid_zero] at h; omega
      · exact e
    have hg := (wid_ge n hn (by omega)).1
    have := Nat.pow_le_pow_right (show 0 < 2 by omega) (show p ≤ wid n - 1 by omega)
    omega
theorem ordM_at {n p : Nat} (hn : n < 18446744073709551616) (h : p ≤ ordM n) : orderB n (p : Int) = true := by
  rcases Nat.eq_zero_or_pos p with e | e
  · subst e; exact (orderB_iff _ _).2 (.inl rfl)
  · exact (ordM_iff hn e).2 h
/-- The order that costs least, and what it costs. -/
def ordL (l : List Int) : Nat := bestTo (fun p => costW l (p : Int)) (ordM l.length)
def leastW (l : List Int) : Nat := costW l (ordL l : Int)
theorem ordL_le (l : List Int) : ordL l ≤ ordM l.length := bestTo_le _ _
theorem leastW_least {l : List Int} {p : Int} (hl : l.length ≤ 65536) (h : costW l p ≠ 0) : leastW l ≤ costW l p := by
  unfold costW at h
  split at h
  · rename_i hc
    obtain ⟨q, rfl, hq⟩ := orderB_nat hc.2
    have : q ≤ ordM l.length := by
      rcases Nat.eq_zero_or_pos q with e | e
      · omega
      · exact (ordM_iff (by omega) e).1 hc.2
    exact bestTo_least (fun p => costW l (p : Int)) _ q this
  · exact absurd rfl h
theorem leastW_len {l : List Int} (hm : mayL l = true) : leastW l = (wholeC l (ordL l)).length := by
  have hl : l.length ≤ 65536 := by unfold mayL at hm; simp at hm; exact hm.1
  have hc : codedB l = true := by unfold mayL at hm; simp at hm; exact hm.2
  unfold leastW costW
  rw [if_pos ⟨hm, ordM_at (by omega) (ordL_le l)⟩, Int.toNat_natCast, wholeC_length hc]

/-- Numbers within a bound. -/
def withinB (b : Nat) (l : List Int) : Bool := l.all fun x => decide (-(b : Int) ≤ x ∧ x ≤ (b : Int))
def liftN (b : Nat) (l : List Int) : List Nat := l.map fun (x : Int) => (x + (b : Int)).toNat
theorem liftN_length (b : Nat) (l : List Int) : (liftN b l).length = l.length := List.length_map _
theorem within_at {b : Nat} {l : List Int} (h : withinB b l = true) {x : Int} (hx : x ∈ l) : -(b : Int) ≤ x ∧ x ≤ (b : Int) := by
  unfold withinB at h
  rw [List.all_eq_true] at h
  simpa using h x hx
theorem lift_lt {b : Nat} {l : List Int} (h : withinB b l = true) : ∀ u ∈ liftN b l, u < 2 * b + 1 := by
  intro u hu
  obtain ⟨x, hx, rfl⟩ := List.mem_map.1 hu
  have := within_at h hx
  omega
theorem lift_back {b : Nat} {l : List Int} (h : withinB b l = true) : (liftN b l).map (fun (u : Nat) => (u : Int) - (b : Int)) = l := by
  unfold liftN
  rw [List.map_map]
  conv => rhs; rw [← List.map_id l]
  refine List.map_congr_left fun x hx => ?_
  have := within_at h hx
  show ((x + (b : Int)).toNat : Int) - b = x
  omega
theorem within_coded {b : Nat} {l : List Int} (hb : b ≤ 2147483648) (h : withinB b l = true) : codedB l = true := by
  rw [codedB_all, List.all_eq_true]
  intro x hx
  have := within_at h hx
  rw [fitsB_iff]
  unfold zigN
  split <;> omega
def evenC (b : Nat) (l : List Int) : List Bool := codesE (liftN b l) (2 * b + 1)
/-- The code, and what it costs. -/
def codeB (b : Nat) (l : List Int) : List Bool := if leastW l < (evenC b l).length then true :: wholeC l (ordL l) else false :: evenC b l
theorem codeB_length {b : Nat} {l : List Int} (hm : mayL l = true) : (codeB b l).length = min (1 + (evenC b l).length) (1 + leastW l) := by
  unfold codeB
  split
  · rw [List.length_cons, ← leastW_len hm]; omega
  · rw [List.length_cons]; omega
end Go.Proofs.YtjboboaccjbebaaGreat
/- Layer 9: Cost, Order. -/
namespace Go.Proofs.YtjboboaccjbebaaGreat
open Go.RowKit

theorem part_inI {xs : List Int} (h : InI xs) (p i : Nat) : InI (partL xs p i) := by
  intro x hx
  unfold partL at hx
  exact h x (List.mem_of_mem_take (List.mem_of_mem_drop hx))
theorem part_len {xs : List Int} (p i : Nat) (h : xs.length ≤ 65536) : (partL xs p i).length ≤ 65536 := by
  unfold partL
  rw [List.length_drop, List.length_take]
  omega
theorem choose_bd {xs : List Int} (h : InI xs) (hn : xs.length ≤ 65536) : (chooseL xs).2.2 ≤ 4194400 := by
  have h1 := choose_le xs
  have h2 := needL_64 h
  have h3 : needL xs * xs.length ≤ 64 * 65536 := Nat.mul_le_mul h2 hn
  unfold cW at h1
  omega
theorem partsN_bd {xs : List Int} (h : InI xs) (hn : xs.length ≤ 65536) (p m : Nat) : partsN xs p m ≤ m * 4194400 := by
  induction m with
  | zero => simp [partsN]
  | succ m ih =>
    have := choose_bd (part_inI h p m) (part_len p m hn)
    rw [partsN]
    omega

theorem field_cost (x y z : Value) (w : World) : (Instr.field 93 (.agg #[x, y, z]) 1).run Tryz.prog w = .ok z w := by kernel_rfl

set_option maxRecDepth 100000 in
set_option maxHeartbeats 4000000 in
theorem pcost1_any (b1 s : Nat) (v : Value) (xs : List Int) (W : World) (hs : Blk W b1 3 #[.int .i64 (s : Int)]) (hs2 : s ≤ 1000000000) (hl : Sl W v (i64s xs)) (hx : InI xs) (hn : xs.length ≤ 65536) :
    Calls Tryz.prog 89 #[v, .pointer (some ⟨b1, 0, none⟩)] W fun e w' => e = .returned (.tuple #[]) ∧ Blk w' b1 3 #[.int .i64 ((s + (chooseL xs).2.2 : Nat) : Int)] ∧ Kept (fun i => i = b1) W w' := by
  have HC := hid (fun W (h : Sl W v (i64s xs)) => choose_any v xs W h hx hn)
  have hbd := choose_bd hx hn
  obtain ⟨A, c, rfl, hm⟩ := i64s_form hl
  obtain ⟨R, hR⟩ : ∃ R, chooseL xs = R := ⟨_, rfl⟩
  rw [hR] at HC hbd
  rw [hR]
  unfold offV at HC
  have hw1 : IntKind.i64.wrap ((s : Int) + (R.2.2 : Int)) = ((s + R.2.2 : Nat) : Int) := by rw [IntWalk.i64_in _ (by omega)]; omega
  obtain ⟨q, hq⟩ : ∃ q, s + R.2.2 = q := ⟨_, rfl⟩
  rw [hq] at hw1
  have HQ := hid hq
  have hc1 := hs.cell 0
  have hf1 := hs.frozen 0
  simp at hc1
  have HB := hid (And.intro hs hl)
  have hfd := field_cost
  clear hs hl hx hR hq hbd
  go_enter Tryz.func89, Tryz.ntmps89
  go_region_with (first
    | (go_at_call 76; (with_reducible refine (HC.out _ HB.out.2.drew).mono ?_); rintro e w2 ⟨rfl, hb2⟩; have hk : Blk w2 b1 3 #[.int .i64 (s : Int)] := (hb2.block _ HB.out.1.drew.lt).trans HB.out.1.drew; have hc2 := hk.cell 0; have hf2 := hk.frozen 0; simp at hc2; have HK := hid (And.intro hk (show Below W.heap.size W w2 from below_undrew hb2)); clear hb2 hk))
  all_goals (go_wp2_with fail)
  all_goals (go_end0)
  all_goals (rw [HQ.out]; exact ⟨rfl, HK.out.1.upd 0 (.int .i64 (q : Int)), (Kept.of_below' (S := fun i => i = b1) HK.out.2).setCell (p := ⟨b1, 0, none⟩) (fun _ => rfl) _⟩)
theorem enters_pcost1 : ∀ args w, (callFunc 89 args).run Tryz.prog w = .ok (.enter 89 args) w := enters_of Tryz.func89 (by kernel_rfl) rfl

/-- cost's state between the parts. -/
def PCS (w : World) (b1 : Nat) (xs : List Int) (p i : Nat) (W : World) : Prop := Blk W b1 3 #[.int .i64 ((3 + partsN xs p i : Nat) : Int)] ∧ Below w.heap.size w W
theorem pcost1_visit (w : World) (b1 : Nat) (l : Value) (xs : List Int) (p : Nat) (hx : InI xs) (hn : xs.length ≤ 65536) (hp : p ≤ 6) (hlow : w.heap.size ≤ b1) :
    VisitP 89 #[.pointer (some ⟨b1, 0, none⟩)] l xs p (PCS w b1 xs p) := by
  rintro i W v hi ⟨h1, h2⟩ hsl _
  have hb := partsN_bd hx hn p i
  have h64 : 2 ^ p ≤ 2 ^ 6 := Nat.pow_le_pow_right (by omega) hp
  refine (pcost1_any b1 (3 + partsN xs p i) v (partL xs p i) W h1 (by omega) hsl (part_inI hx p i) (part_len p i hn)).mono ?_
  rintro e w' ⟨rfl, hb, hk⟩
  refine ⟨rfl, ?_, Kept.after h2 (Nat.le_refl _) hk fun i hi => by rw [hi]; exact hlow⟩
  rw [partsN, ← Nat.add_assoc]
  exact hb

set_option maxRecDepth 100000 in
set_option maxHeartbeats 4000000 in
theorem pcost_any (l : Value) (xs : List Int) (p : Nat) (w : World) (hl : Sl w l (i64s xs)) (hx : InI xs) (hn : xs.length ≤ 65536) (hp : p ≤ 6) :
    Calls Tryz.prog 70 #[l, .int .i64 (p : Int)] w fun e w' => e = .returned (.int .i64 ((3 + partsN xs p (2 ^ p) : Nat) : Int)) ∧ Below w.heap.size w w' := by
  obtain ⟨A, c, rfl, hm⟩ := i64s_form hl
  have hmf : ∀ (fn : Fn) (first cap : Array Value) (w : World), (Instr.makeFunc fn first cap).run Tryz.prog w = .ok (.func fn first cap) w := fun _ _ _ _ => rfl
  have hb1 : Below w.heap.size w (w.alloc (.cells #[.int .i64 3] 3)) := (Below.refl _ _).alloc (Nat.le_refl _) _
  have HEA := hid (partsv_any 89 #[.pointer (some ⟨w.heap.size, 0, none⟩)] enters_pcost1 (.slice A xs.length c) xs p (w.alloc (.cells #[.int .i64 3] 3)) (PCS w w.heap.size xs p) ⟨A, c, rfl⟩ hn hp (fun i W h => hl.below h.2) (fun i W n h => ⟨h.1.drewN n, below_drewN' h.2 n⟩) (pcost1_visit w w.heap.size _ xs p hx hn hp (Nat.le_refl _)) ⟨Blk.new w 3 #[.int .i64 3], hb1⟩)
  clear hb1 hl hx
  go_enter Tryz.func70, Tryz.ntmps70
  go_wp2_with fail
  with_reducible refine HEA.out.mono ?_
  rintro e w2 ⟨rfl, hcs⟩
  have hc5 := hcs.1.cell 0
  simp only [List.getElem?_toArray] at hc5
  have HCS := hid hcs.2
  obtain ⟨y, hy⟩ : ∃ y, 3 + partsN xs p (2 ^ p) = y := ⟨_, rfl⟩
  rw [hy] at hc5
  have hc6 : w2.cell? ⟨w.heap.size, 0, none⟩ = some (.int .i64 (y : Int)) := hc5
  have HY := hid hy
  clear hcs hy hc5
  go_wp2_with fail
  go_ret
  rw [HY.out]
  exact ⟨rfl, HCS.out⟩

/-- What Order answers. -/
def orderX (l : List Int) : Nat × Nat := if mayL l = true then (ordL l, leastW l) else (0, 0)

set_option maxRecDepth 100000 in
set_option maxHeartbeats 4000000 in
theorem pOrder_any (l : Value) (xs : List Int) (w : World) (hl : Sl w l (i64s xs)) (hx : InI xs) :
    Calls Tryz.prog 39 #[l] w fun e w' => e = .returned (.tuple #[.int .i64 ((orderX xs).1 : Int), .int .i64 ((orderX xs).2 : Int)]) ∧ Below w.heap.size w w' := by
  obtain ⟨A, c, rfl, hm⟩ := i64s_form hl
  have HM := hid (mayl_any (.slice A xs.length c) xs w hl hx)
  have HX := hid (orderX.eq_1 xs)
  have H := hid hl
  by_cases hmay : mayL xs = true
  · have hn : xs.length ≤ 65536 := by unfold mayL at hmay; simp at hmay; exact hmay.1
    rw [if_pos hmay] at HX
    rw [hmay] at HM
    have hM6 := ordM_le xs.length
    have HC := hid (fun (q : Nat) W (h : Sl W (.slice A xs.length c) (i64s xs)) (hq : q ≤ ordM xs.length) => show Calls Tryz.prog 70 #[.slice A xs.length c, .int .i64 (q : Int)] W fun e w' => e = .returned (.int .i64 (costW xs (q : Int) : Nat)) ∧ Below W.heap.size W w' from by
      have h1 := pcost_any (.slice A xs.length c) xs q W h hx hn (by omega)
      have e : costW xs (q : Int) = 3 + partsN xs q (2 ^ q) := by unfold costW; rw [Int.toNat_natCast, if_pos ⟨hmay, ordM_at (by omega) hq⟩]
      rw [e]
      exact h1)
    have HOR := hid (fun (q : Nat) W (h1 : 1 ≤ q) => show Calls Tryz.prog 43 #[.int .i64 (xs.length : Int), .int .i64 (q : Int)] W fun e w' => e = .returned (.bool (decide (q ≤ ordM xs.length))) ∧ W = w' from by
      have h2 := order_any xs.length (q : Int) W
      have e : orderB xs.length (q : Int) = decide (q ≤ ordM xs.length) := by rw [Bool.eq_iff_iff, decide_eq_true_iff]; exact ordM_iff (by omega) h1
      rwa [e] at h2)
    have hc64 : ∀ k : Nat, costW xs (k : Int) ≤ 400000000 := fun k => by
      unfold costW
      split
      · rename_i h
        obtain ⟨q, e, hq⟩ := orderB_nat h.2
        have := partsN_bd hx hn (Int.toNat (k : Int)) (2 ^ Int.toNat (k : Int))
        rw [Int.toNat_natCast] at this ⊢
        have : 2 ^ k ≤ 2 ^ 6 := Nat.pow_le_pow_right (by omega) (by omega)
        omega
      · omega
    have eo : ordL xs = bestTo (fun p => costW xs (p : Int)) (ordM xs.length) := rfl
    have el : leastW xs = costW xs (ordL xs : Int) := rfl
    rw [el, eo] at HX
    clear el eo
    obtain ⟨cf, hcf⟩ : ∃ cf : Nat → Nat, (fun k : Nat => costW xs (k : Int)) = cf := ⟨_, rfl⟩
    have hcb : ∀ k : Nat, costW xs (k : Int) = cf k := fun k => by rw [← hcf]
    have HCB := hid (And.intro hcb (And.intro (fun k => by rw [← hcb]; exact hc64 k : ∀ k, cf k ≤ 400000000) hcf))
    simp only [hcb] at HC
    rw [hcf, hcb] at HX
    obtain ⟨M, hM⟩ : ∃ M, ordM xs.length = M := ⟨_, rfl⟩
    rw [hM] at HX hM6
    simp only [hM] at HC HOR
    clear hl hx hmay hc64 hcf hcb hM
    go_enter Tryz.func39, Tryz.ntmps39
    go_wp2_with fail
    with_reducible refine HM.out.mono ?_
    rintro e w1 ⟨rfl, n, rfl⟩
    go_wp2_with fail
    have HCC := HC.out 0 (w.drewN n) (H.out.drewN n) (by omega)
    refine HCC.mono ?_
    clear HCC
    rintro e w2 ⟨rfl, hb2⟩
    have H2 := hid (below_undrewN hb2)
    clear hb2
    go_wp2_with fail
    go_loopw [4, 5, 6] (fun b t i wr => ∃ (k bb tt : Nat), k ≤ M ∧ i = .int .i64 ((k + 1 : Nat) : Int) ∧ b = .int .i64 bb ∧ t = .int .i64 tt ∧ Below w.heap.size w wr ∧ Hid (bb = bestTo cf k ∧ tt = cf bb)) (fun _ _ i _ => (M + 1) - (intOf i).toNat)
    case atStart => exact ⟨0, 0, cf 0, by omega, rfl, rfl, rfl, H2.out, rfl, rfl⟩
    case round =>
      obtain ⟨k, bb, tt, hk, rfl, rfl, rfl, hbel, hd⟩ := hrel
      have HB := hid hbel
      clear hbel
      obtain ⟨k1, hk1⟩ : ∃ k1, k + 1 = k1 := ⟨_, rfl⟩
      rw [hk1]
      have HOK := hid (HOR.out k1 wr (by omega))
      by_cases hkm : k < M
      · have hdec : decide (k1 ≤ M) = true := by rw [decide_eq_true_iff]; omega
        rw [hdec] at HOK
        have HCC := HC.out k1 wr (H.out.below HB.out) (by omega)
        obtain ⟨y, hy⟩ : ∃ y, cf k1 = y := ⟨_, rfl⟩
        rw [hy] at HCC
        have HY := hid (And.intro hy hk1)
        have HCY := hid HCC
        have hk12 : k1 ≤ M := by omega
        clear hy HCC hdec hk1 hkm
        go_wp2_with fail
        with_reducible refine HOK.out.mono ?_
        rintro e w3 ⟨rfl, rfl⟩
        go_wp2_with fail
        with_reducible refine HCY.out.mono ?_
        rintro e w3 ⟨rfl, hb3⟩
        have H3 := hid (HB.out.trans (hb3.mono HB.out.size))
        clear hb3
        by_cases hlt : y < tt
        · have hlt' : (y : Int) < tt := by omega
          go_wp2_with fail
          go_roundw
          case rel =>
            obtain ⟨hy, rfl⟩ := HY.out
            exact ⟨k + 1, k + 1, y, by omega, by go_num, rfl, rfl, H3.out, by rw [bestTo, if_pos (by rw [hy, ← hd.out.1, ← hd.out.2]; exact hlt)], hy.symm⟩
          case measure => simp [intOf]; omega
        · have hlt' : ¬ (y : Int) < tt := by omega
          go_wp2_with fail
          go_roundw
          case rel =>
            obtain ⟨hy, rfl⟩ := HY.out
            exact ⟨k + 1, bb, tt, by omega, by go_num, rfl, rfl, H3.out, by rw [bestTo, if_neg (by rw [hy, ← hd.out.1, ← hd.out.2]; exact hlt)]; exact hd.out.1, hd.out.2⟩
          case measure => simp [intOf]; omega
      · have hdec : decide (k1 ≤ M) = false := by rw [decide_eq_false_iff_not]; omega
        rw [hdec] at HOK
        obtain rfl : k = M := by omega
        go_wp2_with fail
        with_reducible refine HOK.out.mono ?_
        rintro e w3 ⟨rfl, rfl⟩
        go_wp2_with fail
        go_ret2
        refine ⟨?_, HB.out⟩
        rw [HX.out, ← hd.out.1, ← hd.out.2]
        rfl
  · rw [if_neg hmay] at HX
    rw [show mayL xs = false by simpa using hmay] at HM
    clear hmay hl hx
    go_enter Tryz.func39, Tryz.ntmps39
    go_wp2_with fail
    with_reducible refine HM.out.mono ?_
    rintro e w1 ⟨rfl, n, rfl⟩
    go_wp2_with fail
    go_ret2
    exact ⟨by rw [HX.out]; rfl, below_drewN' (.refl _ _) n⟩
end Go.Proofs.YtjboboaccjbebaaGreat
/- Two writers beside a list, and a growing list of bits: the state of RicePuts. -/
namespace Go.Proofs.YtjboboaccjbebaaGreat
open Go.RowKit

theorem wr_typeI {w : World} {p : Nat} {u : Value} {L : List Bool} (hw : Wr w p u L) {g : Nat} {cs : Array Value} {t : TypeId} (hg : w.heap[g]? = some (.cells cs t (0, 0))) (ht : t ≠ 27) (ht8 : t ≠ 5) : ¬ Foot p u g := by
  obtain ⟨F, part, n, h, _⟩ := hw
  rintro (rfl | hf)
  · have := h.blk
    unfold Blk at this
    rw [this] at hg
    injection hg with hg
    injection hg with _ e
    exact ht e.symm
  · rcases h.own.2 with ⟨rfl, _⟩ | ⟨g', cap, cur, rfl, _, hh, _⟩
    · simp [Value.ownBlock] at hf
    · simp [Value.ownBlock] at hf
      subst hf
      rw [hh] at hg
      injection hg with hg
      injection hg with _ e
      exact ht8 e.symm

/-- A block of a writer is no ints' block. -/
theorem own_footI {w : World} {p : Nat} {u v : Value} {L : List Bool} {n : Nat} {xs : List Value} (hw : Wr w p u L) (h : w.ownsRow 0 3 1 v n xs) : ∀ g, v.ownBlock = some g → ¬ Foot p u g := by
  intro g hg
  rcases h.2 with ⟨rfl, _⟩ | ⟨g', cap, cur, rfl, _, hh, _⟩
  · simp [Value.ownBlock] at hg
  · simp [Value.ownBlock] at hg
    subst hg
    exact wr_typeI hw hh (by decide) (by decide)

structure RW (w : World) (p1 p2 : Nat) (u1 u2 l : Value) (xs : List Nat) (L1 L2 : List Bool) (wr : World) : Prop where
  w1 : Wr wr p1 u1 L1
  w2 : Wr wr p2 u2 L2
  ap : ∀ i, Foot p1 u1 i → ¬ Foot p2 u2 i
  bel : Below w.heap.size w wr
  low1 : ∀ i, Foot p1 u1 i → w.heap.size ≤ i
  low2 : ∀ i, Foot p2 u2 i → w.heap.size ≤ i
  old : Sl w l (u64s xs)
section
variable {w wr wx : World} {p1 p2 : Nat} {u1 u2 l : Value} {xs : List Nat} {L1 L2 L' : List Bool}
theorem RW.sl (h : RW w p1 p2 u1 u2 l xs L1 L2 wr) : Sl wr l (u64s xs) := h.old.below h.bel
theorem RW.later (h : RW w p1 p2 u1 u2 l xs L1 L2 wr) (hb : Below wr.heap.size wr wx) : RW w p1 p2 u1 u2 l xs L1 L2 wx :=
  ⟨h.w1.below hb, h.w2.below hb, h.ap, h.bel.trans (hb.mono h.bel.size), h.low1, h.low2, h.old⟩
theorem RW.step1 (h : RW w p1 p2 u1 u2 l xs L1 L2 wr) (k : WI wr p1 u1 L' wx) : ∃ u', RW w p1 p2 u' u2 l xs L' L2 wx := by
  obtain ⟨u', hw, hm, hk⟩ := k
  refine ⟨u', hw, h.w2.keep hk fun i hi hf => h.ap i hf hi, fun i hi hf => ?_, Kept.after h.bel (Nat.le_refl _) hk h.low1, fun i hi => ?_, h.low2, h.old⟩
  · exact h.ap i (hm.foot (h.w2.footlt hf) hi) hf
  · rcases Nat.lt_or_ge i wr.heap.size with hl | hl
    · exact h.low1 i (hm.foot hl hi)
    · have := h.bel.size; omega
theorem RW.step2 (h : RW w p1 p2 u1 u2 l xs L1 L2 wr) (k : WI wr p2 u2 L' wx) : ∃ u', RW w p1 p2 u1 u' l xs L1 L' wx := by
  obtain ⟨u', hw, hm, hk⟩ := k
  refine ⟨u', h.w1.keep hk fun i hi hf => h.ap i hi hf, hw, fun i hi hf => ?_, Kept.after h.bel (Nat.le_refl _) hk h.low2, h.low1, fun i hi => ?_, h.old⟩
  · exact h.ap i hi (hm.foot (h.w1.footlt hi) hf)
  · rcases Nat.lt_or_ge i wr.heap.size with hl | hl
    · exact h.low2 i (hm.foot hl hi)
    · have := h.bel.size; omega
end
end Go.Proofs.YtjboboaccjbebaaGreat
/- Layer 7: Put. -/
namespace Go.Proofs.YtjboboaccjbebaaGreat
open Go.RowKit

theorem items_le (n : Nat) (l : List Int) : ∀ a ∈ items n l, a.1 ≤ n + l.length := by
  induction l generalizing n with
  | nil =>
    intro a ha
    rw [items] at ha
    split at ha
    · simp at ha; subst ha; show n ≤ n + 0; omega
    · cases ha
  | cons x xs ih =>
    intro a ha
    rw [List.length_cons]
    rw [items] at ha
    split at ha
    · have := ih (n + 1) a ha; omega
    · rcases List.mem_cons.1 ha with rfl | ha
      · show n ≤ _; omega
      · have := ih 0 a ha; omega
theorem items_some (n : Nat) (l : List Int) : ∀ a ∈ items n l, ∀ x, a.2 = some x → x ∈ l := by
  induction l generalizing n with
  | nil =>
    intro a ha x hx
    rw [items] at ha
    split at ha
    · simp at ha; subst ha; cases hx
    · cases ha
  | cons y xs ih =>
    intro a ha x hx
    rw [items] at ha
    split at ha
    · exact List.mem_cons_of_mem _ (ih (n + 1) a ha x hx)
    · rcases List.mem_cons.1 ha with rfl | ha
      · simp at hx; subst hx; exact List.mem_cons_self
      · exact List.mem_cons_of_mem _ (ih 0 a ha x hx)

/-- Put's state: a list beside a writer, and two cells that hold the writer and the parameter. -/
structure PS (w0 : World) (p b1 b2 : Nat) (v l : Value) (xs : List Int) (k : Nat) (L : List Bool) (W : World) : Prop where
  lw : LW w0 p v l (i64s xs) L W
  k1 : Blk W b1 24 #[.pointer (some ⟨p, 0, none⟩)]
  k2 : Blk W b2 3 #[.int .i64 (k : Int)]
section
variable {w0 W : World} {p b1 b2 k : Nat} {v l : Value} {xs : List Int} {L L' : List Bool}
theorem PS.drew (h : PS w0 p b1 b2 v l xs k L W) : PS w0 p b1 b2 v l xs k L W.drew :=
  ⟨⟨h.lw.wi.then_below ((Below.refl _ _).drew), h.lw.sl.drew, h.lw.ap⟩, h.k1.drew, h.k2.drew⟩
theorem PS.calls {f : FuncId} {args : Array Value} {R : Ending → Prop} (h : PS w0 p b1 b2 v l xs k L W)
    (kk : ∀ v1, Wr W p v1 L → Calls Tryz.prog f args W fun e w3 => R e ∧ WI W p v1 L' w3) : Calls Tryz.prog f args W fun e w3 => R e ∧ PS w0 p b1 b2 v l xs k L' w3 := by
  obtain ⟨v1, h1, hm, hk⟩ := h.lw.wi
  refine (kk v1 h1).mono ?_
  rintro e w3 ⟨he, v3, h3, hm3, hk3⟩
  refine ⟨he, ⟨⟨v3, h3, hm.trans hk.size hm3, hk.trans hk3 fun i hi hf => hm.foot hi hf⟩, h.lw.sl.kept' hk3 (fun hne g hg hf => (h.lw.ap hne g hg).1 (hm.foot (h.lw.ap hne g hg).2 hf)), h.lw.ap⟩, ?_, ?_⟩
  · exact h.k1.kept hk3 (wr_typeI h1 h.k1 (by decide) (by decide))
  · exact h.k2.kept hk3 (wr_typeI h1 h.k2 (by decide) (by decide))
theorem PS.cells (h : PS w0 p b1 b2 v l xs k L W) : W.cell? ⟨b1, 0, none⟩ = some (.pointer (some ⟨p, 0, none⟩)) ∧ W.cell? ⟨b2, 0, none⟩ = some (.int .i64 (k : Int)) := by
  have h0 := h.k1.cell 0
  have h1 := h.k2.cell 0
  simp at h0 h1
  exact ⟨h0, h1⟩
end

set_option maxRecDepth 100000 in
set_option maxHeartbeats 4000000 in
theorem put1_any {w0 W : World} {p b1 b2 k : Nat} {v l : Value} {xs : List Int} {L : List Bool} (h : PS w0 p b1 b2 v l xs k L W) (n : Nat) (o : Option Int) (ha : OkI (n, o)) (hn : n ≤ 1048576) (hz : ∀ x, o = some x → zigN x < 1099511627776) (hk : k ≤ 30) (hL : L.length ≤ 60000000000) :
    Calls Tryz.prog 99 #[.int .i64 (n : Int), .int .i64 (o.getD 0), .bool o.isSome, .pointer (some ⟨b1, 0, none⟩), .pointer (some ⟨b2, 0, none⟩)] W fun e w' => e = .returned (.tuple #[]) ∧ PS w0 p b1 b2 v l xs k (L ++ codeI (k : Int) (n, o)) w' := by
  have hg : gamB (n + 1) = true := (gamB_iff _).2 (by omega)
  have hgl := gamC_length (n + 1)
  have hgc := gamCost_le (n + 1)
  have hw1 : IntKind.u64.wrap (n : Int) = (n : Int) := IntWalk.u64_in _ (by omega)
  have hw2 : IntKind.u64.wrap ((n : Int) + 1) = ((n + 1 : Nat) : Int) := by rw [IntWalk.u64_in _ (by omega)]; omega
  have HG := hid (h.calls (L' := L ++ gamC (n + 1)) (R := fun e => e = .returned (.int .i64 0)) fun v1 h1 => putgamma_ok W p (n + 1) v1 L h1 (by omega) hg)
  have hL2 : (L ++ gamC (n + 1)).length ≤ 60000000063 := by rw [List.length_append]; omega
  obtain ⟨hc1, hc2⟩ := h.cells
  have HE := hid (show ∀ t, L ++ codeI (k : Int) (n, t) = (L ++ gamC (n + 1)) ++ (match t with | none => [] | some x => codeR (zigN x - 1) (k : Int)) from fun t => by unfold codeI; rw [List.append_assoc]; cases t <;> rfl)
  have HA := hid (And.intro ha hz)
  obtain ⟨L1, hL1⟩ : ∃ L1, L ++ gamC (n + 1) = L1 := ⟨_, rfl⟩
  simp only [hL1] at HG HE hL2
  obtain ⟨m, hm⟩ : ∃ m, n + 1 = m := ⟨_, rfl⟩
  rw [hm] at HG hw2
  clear hL1 hm hg hgl hgc h ha hz
  cases o with
  | none =>
    go_enter Tryz.func99, Tryz.ntmps99
    go_wp2_with fail
    with_reducible refine HG.out.mono ?_
    rintro e w2 ⟨rfl, h2⟩
    have H2 := hid h2
    clear h2
    go_wp2_with fail
    go_end0
    rw [HE.out, List.append_nil]
    exact ⟨rfl, H2.out⟩
  | some x =>
    obtain ⟨hx1, hx2, hx0⟩ := HA.out.1.2 x rfl
    have hzx := HA.out.2 x rfl
    have HR := hid (fun W => rest_any x W hx1 hx2 hx0)
    have HPT := hid (fun W u (h : Wr W p u L1) => rput_ok W p u L1 (zigN x - 1) k h (by omega) (by omega) hk)
    have HE2 := hid (show L ++ codeI (k : Int) (n, some x) = L1 ++ codeK (zigN x - 1) k by rw [HE.out]; show L1 ++ codeR _ _ = _; unfold codeR; rw [if_pos ⟨(paramB_iff _).2 (by omega), (mayB_iff _).2 (by omega)⟩, Int.toNat_natCast])
    obtain ⟨z, hze⟩ : ∃ z, zigN x - 1 = z := ⟨_, rfl⟩
    rw [hze] at HR HE2
    simp only [hze] at HPT
    clear hze hzx hx1 hx2 hx0 HE HA
    go_enter Tryz.func99, Tryz.ntmps99
    go_wp2_with fail
    with_reducible refine HG.out.mono ?_
    rintro e w2 ⟨rfl, h2⟩
    clear hc1 hc2
    obtain ⟨hc1, hc2⟩ := h2.cells
    have H2 := hid h2
    clear h2
    go_wp2_with fail
    go_region_with (first
      | (go_at_call 101; (with_reducible refine (HR.out _).mono ?_); rintro e w3 ⟨rfl, rfl⟩)
      | (go_at_call 96; (with_reducible refine (H2.out.drew.calls (L' := L1 ++ codeK z k) (R := fun e => e = .returned (.int .i64 0)) fun v1 h1 => HPT.out _ v1 h1).mono ?_); rintro e w4 ⟨rfl, h4⟩; have H4 := hid h4; clear h4))
    all_goals (go_wp2_with fail)
    all_goals (go_end0)
    all_goals (rw [HE2.out]; exact ⟨rfl, H4.out⟩)
theorem enters_put1 : ∀ args w, (callFunc 99 args).run Tryz.prog w = .ok (.enter 99 args) w := enters_of Tryz.func99 (by kernel_rfl) rfl

theorem put1_visit {w0 : World} {p b1 b2 k : Nat} {v l : Value} {xs : List Int} {L : List Bool} (hx : InI xs) (hc : codedB xs = true) (hn : xs.length ≤ 1048576) (hk : k ≤ 30) (hL : L.length ≤ 1000000000) :
    Visit 99 #[.pointer (some ⟨b1, 0, none⟩), .pointer (some ⟨b2, 0, none⟩)] xs (fun P W => PS w0 p b1 b2 v l xs k (L ++ P.flatMap (codeI (k : Int))) W) := by
  intro P n o R W hP h
  have hs := sumI_le (k : Int) P
  have hl := items_pre hP
  have hm := items_mem hP
  have ho := items_ok 0 xs hx (by omega) _ hm
  have hle := items_le 0 xs _ hm
  simp only at hle
  have hcs := codeI_sum (k : Int) P
  refine (put1_any h n o ho (by omega) (fun x hx => ?_) hk (by rw [List.length_append, hcs]; omega)).mono ?_
  · have := items_some 0 xs _ hm x hx
    unfold codedB at hc
    rw [List.all_eq_true] at hc
    simpa using hc x this
  · rintro e w' ⟨rfl, h'⟩
    refine ⟨rfl, ?_⟩
    show PS w0 p b1 b2 v l xs k (L ++ (P ++ [(n, o)]).flatMap (codeI (k : Int))) w'
    rw [List.flatMap_append, ← List.append_assoc]
    simpa using h'

/-- The error of Put. -/
def putLErr (xs : List Int) (k : Int) : Int := if paramB k = true then (if 1048576 < xs.length then 4 else if codedB xs = true then 0 else 3) else 1

theorem putl_nil (l : Value) (xs : List Int) (k : Int) (w : World) (hl : Sl w l (i64s xs)) : Calls Tryz.prog 79 #[.pointer none, l, .int .i64 k] w fun e w' => e = .returned (.int .i64 2) ∧ Below w.heap.size w w' := by
  obtain ⟨A, c, rfl, hm⟩ := i64s_form hl
  clear hl
  have HB := hid (show Below w.heap.size w ((w.alloc (.cells #[.pointer none] 24)).alloc (.cells #[.int .i64 k] 3)) from ((Below.refl _ _).alloc (Nat.le_refl _) _).alloc ((Below.refl _ _).alloc (Nat.le_refl _) _).size _)
  go_enter Tryz.func79, Tryz.ntmps79
  go_wp2_with fail
  go_ret
  exact ⟨rfl, HB.out⟩

set_option maxRecDepth 100000 in
set_option maxHeartbeats 4000000 in
theorem putl_bad (p : Nat) (l : Value) (xs : List Int) (k : Int) (w : World) (hl : Sl w l (i64s xs)) (hx : InI xs) (hb : putLErr xs k ≠ 0) :
    Calls Tryz.prog 79 #[.pointer (some ⟨p, 0, none⟩), l, .int .i64 k] w fun e w' => e = .returned (.int .i64 (putLErr xs k)) ∧ Below w.heap.size w w' := by
  obtain ⟨A, c, rfl, hm⟩ := i64s_form hl
  have HB := hid (show Below w.heap.size w ((w.alloc (.cells #[.pointer (some ⟨p, 0, none⟩)] 24)).alloc (.cells #[.int .i64 k] 3)) from ((Below.refl _ _).alloc (Nat.le_refl _) _).alloc ((Below.refl _ _).alloc (Nat.le_refl _) _).size _)
  have HC := hid (coded_any (.slice A xs.length c) xs _ (hl.below HB.out) hx)
  have HE := hid (putLErr.eq_1 xs k)
  obtain ⟨E, hE⟩ : ∃ E, putLErr xs k = E := ⟨_, rfl⟩
  rw [hE] at HE hb
  rw [hE]
  have HBB := hid hb
  clear hl hx hb hE
  by_cases h0 : 0 ≤ k ∧ k ≤ 30
  · rw [if_pos ((paramB_iff k).2 h0)] at HE
    obtain ⟨h1, h2⟩ := h0
    by_cases h3 : 1048576 < xs.length
    · rw [if_pos h3] at HE
      obtain rfl := HE.out
      have h3' : (1048576 : Int) < xs.length := by omega
      clear h3
      go_enter Tryz.func79, Tryz.ntmps79
      go_wp2_with fail
      go_ret
      exact ⟨rfl, HB.out⟩
    · rw [if_neg h3] at HE
      obtain ⟨b, hb⟩ : ∃ b, codedB xs = b := ⟨_, rfl⟩
      rw [hb] at HE HC
      cases b
      · obtain rfl : E = 3 := HE.out
        have h3' : ¬ (1048576 : Int) < xs.length := by omega
        clear h3 hb
        go_enter Tryz.func79, Tryz.ntmps79
        go_wp2_with fail
        with_reducible refine HC.out.mono ?_
        rintro e w1 ⟨rfl, n, rfl⟩
        go_wp2_with fail
        go_ret
        exact ⟨rfl, below_drewN' HB.out n⟩
      · exact absurd HE.out HBB.out
  · rw [if_neg (fun h => h0 ((paramB_iff k).1 h))] at HE
    obtain rfl := HE.out
    by_cases h1 : k < 0
    · go_enter Tryz.func79, Tryz.ntmps79
      go_wp2_with fail
      go_ret
      exact ⟨rfl, HB.out⟩
    · have h2 : 30 < k := by omega
      go_enter Tryz.func79, Tryz.ntmps79
      go_wp2_with fail
      go_ret
      exact ⟨rfl, HB.out⟩

set_option maxRecDepth 100000 in
set_option maxHeartbeats 4000000 in
theorem putl_ok (p : Nat) (v : Value) (L : List Bool) (l : Value) (xs : List Int) (k : Nat) (w : World) (hw : Wr w p v L) (hL : L.length ≤ 1000000000) (hl : Sl w l (i64s xs)) (hx : InI xs) (hn : xs.length ≤ 1048576) (hap : i64s xs ≠ [] → ∀ g, l.ownBlock = some g → ¬ Foot p v g ∧ g < w.heap.size) (hk : k ≤ 30) (ha : codedB xs = true) :
    Calls Tryz.prog 79 #[.pointer (some ⟨p, 0, none⟩), l, .int .i64 (k : Int)] w fun e w' => e = .returned (.int .i64 0) ∧ WI w p v (L ++ codeL xs k) w' := by
  obtain ⟨A, c, rfl, hm⟩ := i64s_form hl
  have hmf : ∀ (fn : Fn) (first cap : Array Value) (w : World), (Instr.makeFunc fn first cap).run Tryz.prog w = .ok (.func fn first cap) w := fun _ _ _ _ => rfl
  have hbel : Below w.heap.size w ((w.alloc (.cells #[.pointer (some ⟨p, 0, none⟩)] 24)).alloc (.cells #[.int .i64 (k : Int)] 3)) := ((Below.refl _ _).alloc (Nat.le_refl _) _).alloc ((Below.refl _ _).alloc (Nat.le_refl _) _).size _
  have hk1 := (Blk.new w 24 #[.pointer (some ⟨p, 0, none⟩)]).alloc (.cells #[.int .i64 (k : Int)] 3)
  have hk2 := Blk.new (w.alloc (.cells #[.pointer (some ⟨p, 0, none⟩)] 24)) 3 #[.int .i64 (k : Int)]
  rw [show (w.alloc (.cells #[.pointer (some ⟨p, 0, none⟩)] 24)).heap.size = w.heap.size + 1 from by simp] at hk2
  have HPS := hid (show PS w p w.heap.size (w.heap.size + 1) v (.slice A xs.length c) xs k L ((w.alloc (.cells #[.pointer (some ⟨p, 0, none⟩)] 24)).alloc (.cells #[.int .i64 (k : Int)] 3)) from ⟨⟨hw.refl.then_below hbel, hl.below hbel, hap⟩, hk1, hk2⟩)
  have HC := hid (coded_any (.slice A xs.length c) xs _ (hl.below hbel) hx)
  rw [ha] at HC
  have HV := hid (put1_visit (w0 := w) (p := p) (b1 := w.heap.size) (b2 := w.heap.size + 1) (v := v) (l := .slice A xs.length c) hx ha hn hk hL)
  have h1 : ¬ (k : Int) < 0 := by omega
  have h2 : ¬ (30 : Int) < k := by omega
  have h3 : ¬ (1048576 : Int) < xs.length := by omega
  clear hbel hk1 hk2 hl hx hap ha hw
  go_enter Tryz.func79, Tryz.ntmps79
  go_wp2_with fail
  with_reducible refine HC.out.mono ?_
  rintro e w1 ⟨rfl, n, rfl⟩
  have HP0 := hid (show PS w p w.heap.size (w.heap.size + 1) v (.slice A xs.length c) xs k (L ++ [].flatMap (codeI (k : Int))) (((w.alloc (.cells #[.pointer (some ⟨p, 0, none⟩)] 24)).alloc (.cells #[.int .i64 (k : Int)] 3)).drewN n) from by
    have h := HPS.out
    rw [List.flatMap_nil, List.append_nil]
    exact ⟨⟨h.lw.wi.then_below (below_drewN' (.refl _ _) n), h.lw.sl.drewN n, h.lw.ap⟩, h.k1.drewN n, h.k2.drewN n⟩)
  have HEA := hid (each_any 99 #[.pointer (some ⟨w.heap.size, 0, none⟩), .pointer (some ⟨w.heap.size + 1, 0, none⟩)] enters_put1 (.slice A xs.length c) xs _ (fun P W => PS w p w.heap.size (w.heap.size + 1) v (.slice A xs.length c) xs k (L ++ P.flatMap (codeI (k : Int))) W) ⟨A, c, rfl⟩ hm (fun P W h => h.lw.sl) HV.out HP0.out)
  go_wp2_with fail
  with_reducible refine HEA.out.mono ?_
  rintro e w2 ⟨rfl, hps⟩
  have HF := hid hps.lw.wi
  clear hps
  go_wp2_with fail
  go_ret
  exact ⟨rfl, HF.out⟩
end Go.Proofs.YtjboboaccjbebaaGreat
/- Layer 9: put. -/
namespace Go.Proofs.YtjboboaccjbebaaGreat
open Go.RowKit

theorem own_footU {w : World} {p : Nat} {u v : Value} {L : List Bool} {n : Nat} {xs : List Value} (hw : Wr w p u L) (h : w.ownsRow 0 51 1 v n xs) : ∀ g, v.ownBlock = some g → ¬ Foot p u g := by
  intro g hg
  rcases h.2 with ⟨rfl, _⟩ | ⟨g', cap, cur, rfl, _, hh, _⟩
  · simp [Value.ownBlock] at hg
  · simp [Value.ownBlock] at hg
    subst hg
    exact wr_typeI hw hh (by decide) (by decide)

/-- put's state: a list beside a writer, and the offer that was chosen. -/
structure QS (w0 : World) (p b : Nat) (v l : Value) (xs : List Int) (R : Nat × Nat × Nat) (L : List Bool) (W : World) : Prop where
  lw : LW w0 p v l (i64s xs) L W
  bk : Blk W b 93 (tri R).toArray
section
variable {w0 W W' : World} {p b : Nat} {v l : Value} {xs : List Int} {R : Nat × Nat × Nat} {L L' : List Bool}
theorem QS.later (h : QS w0 p b v l xs R L W) (hb : Below W.heap.size W W') : QS w0 p b v l xs R L W' :=
  ⟨⟨h.lw.wi.then_below hb, h.lw.sl.below hb, h.lw.ap⟩, (hb.block _ h.bk.lt).trans h.bk⟩
theorem QS.drew (h : QS w0 p b v l xs R L W) : QS w0 p b v l xs R L W.drew := h.later ((Below.refl _ _).drew)
theorem QS.calls {f : FuncId} {args : Array Value} {Q : Ending → Prop} (h : QS w0 p b v l xs R L W)
    (kk : ∀ v1, Wr W p v1 L → (i64s xs ≠ [] → ∀ g, l.ownBlock = some g → ¬ Foot p v1 g ∧ g < W.heap.size) → Calls Tryz.prog f args W fun e w3 => Q e ∧ WI W p v1 L' w3) : Calls Tryz.prog f args W fun e w3 => Q e ∧ QS w0 p b v l xs R L' w3 := by
  obtain ⟨v1, h1, hm, hk⟩ := h.lw.wi
  refine (kk v1 h1 fun hne g hg => ⟨fun hf => (h.lw.ap hne g hg).1 (hm.foot (h.lw.ap hne g hg).2 hf), Nat.lt_of_lt_of_le (h.lw.ap hne g hg).2 hk.size⟩).mono ?_
  rintro e w3 ⟨he, v3, h3, hm3, hk3⟩
  exact ⟨he, ⟨⟨v3, h3, hm.trans hk.size hm3, hk.trans hk3 fun i hi hf => hm.foot hi hf⟩, h.lw.sl.kept' hk3 (fun hne g hg hf => (h.lw.ap hne g hg).1 (hm.foot (h.lw.ap hne g hg).2 hf)), h.lw.ap⟩, h.bk.kept hk3 (wr_typeI h1 h.bk (by decide) (by decide))⟩
theorem QS.cells (h : QS w0 p b v l xs R L W) : W.cell? ⟨b, 0, none⟩ = some (.int .i64 (R.1 : Int)) ∧ W.cell? ⟨b, 1, none⟩ = some (.int .i64 (R.2.1 : Int)) := by
  have h0 := h.bk.cell 0
  have h1 := h.bk.cell 1
  simp [tri] at h0 h1
  exact ⟨h0, h1⟩
theorem QS.putall {w1 : World} {z : Value} {us : List Nat} (h : QS w0 p b v l xs R L W) (k : Int) (hz : FreshU w1 us z W) (hL : L.length ≤ 1000000000) (hu : InU us) (hn : us.length ≤ 1048576) (hk : paramB k = true) (ha : us.all mayB = true) :
    Calls Tryz.prog 77 #[.pointer (some ⟨p, 0, none⟩), z, .int .i64 k] W fun e w3 => e = .returned (.int .i64 0) ∧ QS w0 p b v l xs R (L ++ codesR us k) w3 :=
  h.calls (Q := fun e => e = .returned (.int .i64 0)) fun v1 h1 _ => rputall_ok p v1 L z us k W h1 hL hz.sl hu hn (fun _ g hg => ⟨own_footU h1 hz.1 g hg, (hz.1.lt g hg).2⟩) hk ha
/-- A number of so many bits is put. -/
theorem QS.put (h : QS w0 p b v l xs R L W) (x n : Nat) (hL : L.length ≤ 60000000000) (hn : n ≤ 64) (hx : x < 2 ^ n) (hx' : x < 18446744073709551616) (xi ni : Int) (hxi : xi = (x : Int)) (hni : ni = (n : Int)) :
    Calls Tryz.prog 44 #[.pointer (some ⟨p, 0, none⟩), .int .u64 xi, .int .i64 ni] W fun e w3 => e = .returned (.int .i64 0) ∧ QS w0 p b v l xs R (L ++ bitsOf x n) w3 := by
  subst hxi hni
  refine h.calls (Q := fun e => e = .returned (.int .i64 0)) fun v1 h1 _ => put_at W p v1 L _ x n rfl h1 (by omega) hx' _ ?_
  have e1 : putErr x (n : Int) = 0 := by
    unfold putErr
    rw [if_neg (by omega), Int.toNat_natCast, if_neg (by omega)]
  exact ⟨e1, by unfold putBits; rw [if_pos e1, Int.toNat_natCast]⟩
end
theorem cmask_lt' (x : Int) (k : Nat) : (x % 2 ^ k).toNat < 2 ^ k := by
  have hp : (2 : Int) ^ k = ((2 ^ k : Nat) : Int) := (Int.natCast_pow 2 _).symm
  have h0 := Nat.two_pow_pos k
  rw [hp]
  have h1 := Int.emod_nonneg x (show ((2 ^ k : Nat) : Int) ≠ 0 by omega)
  have h2 := Int.emod_lt_of_pos x (show 0 < ((2 ^ k : Nat) : Int) by omega)
  omega
theorem mask_raw (x : Int) (k : Nat) (hk : k ≤ 62) : bits BinOp.and IntKind.u64 (IntKind.u64.wrap x) (IntKind.u64.wrap (IntKind.u64.wrap (2 ^ k) - 1)) = ((x % 2 ^ k).toNat : Int) := by
  have e0 : (2 : Int) ^ k = ((2 ^ k : Nat) : Int) := (Int.natCast_pow 2 _).symm
  have hpb : 2 ^ k ≤ 2 ^ 62 := Nat.pow_le_pow_right (by omega) hk
  have hpb' : 2 ^ k ≤ 4611686018427387904 := hpb
  have hp1 := Nat.two_pow_pos k
  obtain ⟨u, hu⟩ : ∃ u : Nat, x % 18446744073709551616 = (u : Int) := ⟨(x % 18446744073709551616).toNat, by omega⟩
  have hul : u < 18446744073709551616 := by omega
  have hwx : IntKind.u64.wrap x = (u : Int) := by rw [IntKind.wrap_u64]; exact hu
  have hd : ((2 ^ k : Nat) : Int) ∣ 18446744073709551616 := ⟨((2 ^ (64 - k) : Nat) : Int), by
    rw [← Int.natCast_mul, ← Nat.pow_add, show k + (64 - k) = 64 by omega]; rfl⟩
  have e2 : x % ((2 ^ k : Nat) : Int) = ((u % 2 ^ k : Nat) : Int) := by
    rw [Int.natCast_emod, ← hu, Int.emod_emod_of_dvd _ hd]
  rw [e0, e2, hwx]
  generalize hp2 : (2 : Nat) ^ k = q at *
  rw [IntWalk.u64_in (q : Int) (by omega), IntWalk.u64_in ((q : Int) - 1) (by omega), show ((q : Int) - 1) = ((q - 1 : Nat) : Int) by omega, u64_and_nat _ _ hul (by omega), ← hp2, Nat.and_two_pow_sub_one_eq_mod]
  rfl

set_option maxRecDepth 100000 in
set_option maxHeartbeats 8000000 in
theorem pput_ok (p : Nat) (v : Value) (L : List Bool) (l : Value) (xs : List Int) (w : World) (hw : Wr w p v L) (hL : L.length ≤ 900000000) (hl : Sl w l (i64s xs)) (hx : InI xs) (hn : xs.length ≤ 65536) (hap : i64s xs ≠ [] → ∀ g, l.ownBlock = some g → ¬ Foot p v g ∧ g < w.heap.size) (hc : codedB xs = true) :
    Calls Tryz.prog 47 #[.pointer (some ⟨p, 0, none⟩), l] w fun e w' => e = .returned (.tuple #[]) ∧ WI w p v (L ++ codeP xs) w' := by
  have hfits : ∀ x ∈ xs, fitsB x = true := by rw [codedB_all, List.all_eq_true] at hc; exact hc
  have hcode := choose_cases xs hc
  have HC := hid (choose_any l xs w hl hx hn)
  have HLW := hid (show LW w p v l (i64s xs) L w from ⟨hw.refl, hl, hap⟩)
  obtain ⟨A, c, rfl, hm⟩ := i64s_form hl
  unfold offV at HC
  obtain ⟨R, hR⟩ : ∃ R, chooseL xs = R := ⟨_, rfl⟩
  rw [hR] at HC hcode
  have HZ := hid (fun W (h : Sl W (.slice A xs.length c) (i64s xs)) => zigs_any (.slice A xs.length c) xs W h hx (by omega))
  have hk31 := kR_le xs
  have hu31 := kU_le xs
  have hd1 := (needL_ge xs).1
  have hd40 := needL_le 40 (by omega) xs fun x hx => needN_fits (hfits x hx)
  have HX := hid (And.intro hx (And.intro hc (And.intro hfits (needL_ge xs).2)))
  obtain ⟨r, hr⟩ : ∃ r, kR xs = r := ⟨_, rfl⟩
  obtain ⟨u, hu⟩ : ∃ u, kU xs = u := ⟨_, rfl⟩
  obtain ⟨d, hd⟩ : ∃ d, needL xs = d := ⟨_, rfl⟩
  rw [hr] at hcode hk31
  rw [hu] at hcode hu31
  rw [hd] at hcode hd1 hd40 HX
  clear hw hl hx hap hc hfits hR hr hu hd
  rcases hcode with ⟨rfl, _, hp⟩ | ⟨rfl, hp⟩ | ⟨rfl, hp, _⟩ | ⟨rfl, hp⟩
  · have HP := hid hp
    clear hp
    go_enter Tryz.func47, Tryz.ntmps47
    go_wp2_with fail
    with_reducible refine HC.out.mono ?_
    rintro e w1 ⟨rfl, hb1⟩
    have HQ0 := (show QS w p w1.heap.size v (.slice A xs.length c) xs (0, 0, 6) L (w1.alloc (.cells #[.int .i64 0, .int .i64 0, .int .i64 6] 93)) from ⟨⟨HLW.out.wi.then_below (hb1.alloc hb1.size _), HLW.out.sl.below (hb1.alloc hb1.size _), HLW.out.ap⟩, Blk.new _ _ _⟩)
    clear hb1
    go_wp2_with fail
    obtain ⟨W2, hW2⟩ : ∃ W2, w1.alloc (.cells #[.int .i64 0, .int .i64 0, .int .i64 6] 93) = W2 := ⟨_, rfl⟩
    rw [hW2] at HQ0
    rw [hW2]
    obtain ⟨b4, hb4⟩ : ∃ b4, w1.heap.size = b4 := ⟨_, rfl⟩
    rw [hb4] at HQ0
    rw [hb4]
    clear hW2 hb4
    have HQ := hid HQ0
    clear HQ0
    with_reducible refine (HQ.out.put 31 6 (by omega) (by omega) (by omega) (by omega) 31 6 rfl rfl).mono ?_
    rintro e w3 ⟨rfl, h3⟩
    have H3 := hid h3.lw.wi
    clear h3
    go_wp2_with fail
    go_end0
    rw [HP.out]
    exact ⟨rfl, H3.out⟩
  · have HP := hid hp
    clear hp
    have hmay : (zigs xs).all mayB = true := by
      rw [List.all_eq_true]
      intro z hz
      unfold zigs at hz
      obtain ⟨x, hx, rfl⟩ := List.mem_map.1 hz
      exact (mayB_iff _).2 ((fitsB_iff x).1 (HX.out.2.2.1 x hx))
    have HPA := hid (And.intro (zigs_lt HX.out.1) (And.intro (zigs_length xs) (And.intro ((paramB_iff (r : Int)).2 (by omega)) hmay)))
    clear hmay
    have hwr : IntKind.u64.wrap (r : Int) = (r : Int) := IntWalk.u64_in _ (by omega)
    obtain ⟨cr, hcr⟩ : ∃ cr, cR xs = cr := ⟨_, rfl⟩
    rw [hcr] at HC
    clear hcr
    go_enter Tryz.func47, Tryz.ntmps47
    go_wp2_with fail
    with_reducible refine HC.out.mono ?_
    rintro e w1 ⟨rfl, hb1⟩
    have HQ0 := (show QS w p w1.heap.size v (.slice A xs.length c) xs (1, r, cr) L (w1.alloc (.cells #[.int .i64 1, .int .i64 (r : Int), .int .i64 (cr : Int)] 93)) from ⟨⟨HLW.out.wi.then_below (hb1.alloc hb1.size _), HLW.out.sl.below (hb1.alloc hb1.size _), HLW.out.ap⟩, Blk.new _ _ _⟩)
    clear hb1
    go_wp2_with fail
    obtain ⟨W2, hW2⟩ : ∃ W2, w1.alloc (.cells #[.int .i64 1, .int .i64 (r : Int), .int .i64 (cr : Int)] 93) = W2 := ⟨_, rfl⟩
    rw [hW2] at HQ0
    rw [hW2]
    obtain ⟨b4, hb4⟩ : ∃ b4, w1.heap.size = b4 := ⟨_, rfl⟩
    rw [hb4] at HQ0
    rw [hb4]
    clear hW2 hb4
    have HQ := hid HQ0
    clear HQ0
    with_reducible refine (HQ.out.put r 6 (by omega) (by omega) (by omega) (by omega) (r : Int) 6 rfl rfl).mono ?_
    rintro e w3 ⟨rfl, h3⟩
    obtain ⟨k0, k1⟩ := h3.cells
    have H3 := hid h3
    clear h3
    go_wp2_with fail
    go_region_held3 (fun w' => w'.cell? ⟨b4, 1, none⟩ = some (.int .i64 (r : Int))) (first | exact k4 | exact k1 | go_keep)
      (first
        | (go_at_call 78; (with_reducible refine (HZ.out _ H3.out.drew.lw.sl).mono ?_); rintro e w4 ⟨Az, cz, rfl, hz⟩; have h4 := H3.out.drew.later hz.2.1; have k4 := h4.cells.2; have H4 := hid (And.intro h4 hz); clear h4 hz)
        | (go_at_call 77; (with_reducible refine (H4.out.1.putall (r : Int) H4.out.2 (by rw [List.length_append, bitsOf_length]; omega) HPA.out.1 (by rw [HPA.out.2.1]; omega) HPA.out.2.2.1 HPA.out.2.2.2).mono ?_); rintro e w5 ⟨rfl, h5⟩; have k5 := h5.cells.2; have H5 := hid h5.lw.wi; clear h5))
    all_goals (go_wp2_with fail)
    all_goals (go_end0)
    all_goals (rw [HP.out, ← List.append_assoc]; exact ⟨rfl, H5.out⟩)
  · have HP := hid hp
    clear hp
    have hwr : IntKind.u64.wrap (u : Int) = (u : Int) := IntWalk.u64_in _ (by omega)
    obtain ⟨cr, hcr⟩ : ∃ cr, cU xs = cr := ⟨_, rfl⟩
    rw [hcr] at HC
    clear hcr
    go_enter Tryz.func47, Tryz.ntmps47
    go_wp2_with fail
    with_reducible refine HC.out.mono ?_
    rintro e w1 ⟨rfl, hb1⟩
    have HQ0 := (show QS w p w1.heap.size v (.slice A xs.length c) xs (2, u, cr) L (w1.alloc (.cells #[.int .i64 2, .int .i64 (u : Int), .int .i64 (cr : Int)] 93)) from ⟨⟨HLW.out.wi.then_below (hb1.alloc hb1.size _), HLW.out.sl.below (hb1.alloc hb1.size _), HLW.out.ap⟩, Blk.new _ _ _⟩)
    clear hb1
    go_wp2_with fail
    obtain ⟨W2, hW2⟩ : ∃ W2, w1.alloc (.cells #[.int .i64 2, .int .i64 (u : Int), .int .i64 (cr : Int)] 93) = W2 := ⟨_, rfl⟩
    rw [hW2] at HQ0
    rw [hW2]
    obtain ⟨b4, hb4⟩ : ∃ b4, w1.heap.size = b4 := ⟨_, rfl⟩
    rw [hb4] at HQ0
    rw [hb4]
    clear hW2 hb4
    have HQ := hid HQ0
    clear HQ0
    with_reducible refine (HQ.out.put 32 6 (by omega) (by omega) (by omega) (by omega) 32 6 rfl rfl).mono ?_
    rintro e w3 ⟨rfl, h3⟩
    obtain ⟨k0, k1⟩ := h3.cells
    have H3 := hid h3
    clear h3
    go_wp2_with fail
    with_reducible refine (H3.out.put u 5 (by rw [List.length_append, bitsOf_length]; omega) (by omega) (by omega) (by omega) (u : Int) 5 rfl rfl).mono ?_
    rintro e w4 ⟨rfl, h4⟩
    clear k0 k1
    obtain ⟨k0, k1⟩ := h4.cells
    have H4 := hid h4
    clear h4
    go_wp2_with fail
    with_reducible refine (H4.out.calls (L' := L ++ bitsOf 32 6 ++ bitsOf u 5 ++ codeL xs (u : Int)) (Q := fun e => e = .returned (.int .i64 0)) fun v1 h1 hap => putl_ok p v1 _ _ xs u w4 h1 (by rw [List.length_append, List.length_append, bitsOf_length, bitsOf_length]; omega) H4.out.lw.sl HX.out.1 (by omega) hap hu31 HX.out.2.1).mono ?_
    rintro e w5 ⟨rfl, h5⟩
    have H5 := hid h5.lw.wi
    clear h5
    go_wp2_with fail
    go_end0
    rw [HP.out, ← List.append_assoc, ← List.append_assoc]
    exact ⟨rfl, H5.out⟩
  · have HP := hid hp
    clear hp
    have hwr : IntKind.u64.wrap (d : Int) = (d : Int) := IntWalk.u64_in _ (by omega)
    obtain ⟨cr, hcr⟩ : ∃ cr, cW xs = cr := ⟨_, rfl⟩
    rw [hcr] at HC
    clear hcr
    go_enter Tryz.func47, Tryz.ntmps47
    go_wp2_with fail
    with_reducible refine HC.out.mono ?_
    rintro e w1 ⟨rfl, hb1⟩
    have HQ0 := (show QS w p w1.heap.size v (.slice A xs.length c) xs (3, d, cr) L (w1.alloc (.cells #[.int .i64 3, .int .i64 (d : Int), .int .i64 (cr : Int)] 93)) from ⟨⟨HLW.out.wi.then_below (hb1.alloc hb1.size _), HLW.out.sl.below (hb1.alloc hb1.size _), HLW.out.ap⟩, Blk.new _ _ _⟩)
    clear hb1
    go_wp2_with fail
    obtain ⟨W2, hW2⟩ : ∃ W2, w1.alloc (.cells #[.int .i64 3, .int .i64 (d : Int), .int .i64 (cr : Int)] 93) = W2 := ⟨_, rfl⟩
    rw [hW2] at HQ0
    rw [hW2]
    obtain ⟨b4, hb4⟩ : ∃ b4, w1.heap.size = b4 := ⟨_, rfl⟩
    rw [hb4] at HQ0
    rw [hb4]
    clear hW2 hb4
    have HQ := hid HQ0
    clear HQ0
    with_reducible refine (HQ.out.put 33 6 (by omega) (by omega) (by omega) (by omega) 33 6 rfl rfl).mono ?_
    rintro e w3 ⟨rfl, h3⟩
    obtain ⟨k0, k1⟩ := h3.cells
    have H3 := hid h3
    clear h3
    go_wp2_with fail
    with_reducible refine (H3.out.put d 6 (by rw [List.length_append, bitsOf_length]; omega) (by omega) (by omega) (by omega) (d : Int) 6 rfl rfl).mono ?_
    rintro e w4 ⟨rfl, h4⟩
    clear k0 k1
    have H4 := hid h4
    clear h4
    go_wp2_with fail
    go_loopw [22] (fun i wr => ∃ j : Nat, j ≤ xs.length ∧ i = .int .i64 j ∧ Hid (QS w p b4 v (.slice A xs.length c) xs (3, d, cr) (L ++ bitsOf 33 6 ++ bitsOf d 6 ++ (xs.take j).flatMap (rawC d)) wr)) (fun i _ => xs.length - (intOf i).toNat)
    case atStart => exact ⟨0, by omega, rfl, by show QS _ _ _ _ _ _ _ _ _; simpa using H4.out⟩
    case round =>
      obtain ⟨j, hj, rfl, hq⟩ := hrel
      by_cases hjm : j < xs.length
      · have hin : (j : Int) < xs.length := by omega
        obtain ⟨ad, rfl, hc⟩ := i64s_at hq.out.lw.sl hjm
        obtain ⟨k0, k1⟩ := hq.out.cells
        have hxb := HX.out.1 xs[j] (List.getElem_mem _)
        have hmk := mask_raw xs[j] d (by omega)
        have hlt : (xs[j] % 2 ^ d).toNat < 2 ^ d := cmask_lt' xs[j] d
        have hrl := rawAll_length d (xs.take j)
        have hdj : d * (xs.take j).length ≤ 40 * 65536 := Nat.mul_le_mul hd40 (by rw [List.length_take]; omega)
        have hl2 : (L ++ bitsOf 33 6 ++ bitsOf d 6 ++ (xs.take j).flatMap (rawC d)).length ≤ 60000000000 := by
          simp only [List.length_append, bitsOf_length]
          omega
        have HS := hid (show L ++ bitsOf 33 6 ++ bitsOf d 6 ++ (xs.take (j + 1)).flatMap (rawC d) = (L ++ bitsOf 33 6 ++ bitsOf d 6 ++ (xs.take j).flatMap (rawC d)) ++ bitsOf (xs[j] % 2 ^ d).toNat d from by
          rw [take_snocI xs j hjm, List.flatMap_append, List.append_assoc _ ((xs.take j).flatMap (rawC d))]
          congr 2
          simp [rawC])
        have hp40 : 2 ^ d ≤ 2 ^ 40 := Nat.pow_le_pow_right (by omega) hd40
        obtain ⟨x, hxe⟩ : ∃ x, xs[j] = x := ⟨_, rfl⟩
        rw [hxe] at hc hmk hlt HS
        obtain ⟨y, hy⟩ : ∃ y, (x % 2 ^ d).toNat = y := ⟨_, rfl⟩
        rw [hy] at hmk hlt HS
        have hy64 : y < 18446744073709551616 := by omega
        have HY := hid (And.intro hlt hl2)
        clear hxe hxb hrl hdj hl2 hp40 hy hlt
        go_wp2_with fail
        go_region_held3 (fun w' => w'.cell? ⟨b4, 1, none⟩ = some (.int .i64 (d : Int))) (first | exact k6 | exact k1 | go_keep)
          (first
            | (go_at_call 44; (with_reducible refine (hq.out.drew.put y d HY.out.2 (by omega) HY.out.1 hy64 (y : Int) (d : Int) rfl rfl).mono ?_); rintro e w6 ⟨rfl, h6⟩; have k6 := h6.cells.2; have H6 := hid h6; clear h6))
        all_goals (go_wp2_with fail)
        go_roundw
        case rel => exact ⟨j + 1, by omega, by go_num, by show QS _ _ _ _ _ _ _ _ _; rw [HS.out]; exact H6.out⟩
        case measure => simp [intOf]; omega
      · have hin : ¬ (j : Int) < xs.length := by omega
        obtain rfl : j = xs.length := by omega
        go_wp2_with fail
        go_end0
        have h := hq.out.lw.wi
        rw [List.take_length] at h
        rw [HP.out, ← List.append_assoc, ← List.append_assoc]
        exact ⟨rfl, h⟩
end Go.Proofs.YtjboboaccjbebaaGreat
/- Layer 9: Put. -/
namespace Go.Proofs.YtjboboaccjbebaaGreat
open Go.RowKit

/-- Put's state between the parts. -/
structure TS (w0 : World) (p b1 : Nat) (v l : Value) (xs : List Int) (L : List Bool) (W : World) : Prop where
  lw : LW w0 p v l (i64s xs) L W
  k1 : Blk W b1 24 #[.pointer (some ⟨p, 0, none⟩)]
section
variable {w0 W W' : World} {p b1 : Nat} {v l : Value} {xs : List Int} {L L' : List Bool}
theorem TS.later (h : TS w0 p b1 v l xs L W) (hb : Below W.heap.size W W') : TS w0 p b1 v l xs L W' :=
  ⟨⟨h.lw.wi.then_below hb, h.lw.sl.below hb, h.lw.ap⟩, (hb.block _ h.k1.lt).trans h.k1⟩
theorem TS.calls {f : FuncId} {args : Array Value} {Q : Ending → Prop} (h : TS w0 p b1 v l xs L W)
    (kk : ∀ v1, Wr W p v1 L → (i64s xs ≠ [] → ∀ g, l.ownBlock = some g → ¬ Foot p v1 g ∧ g < W.heap.size) → Calls Tryz.prog f args W fun e w3 => Q e ∧ WI W p v1 L' w3) : Calls Tryz.prog f args W fun e w3 => Q e ∧ TS w0 p b1 v l xs L' w3 := by
  obtain ⟨v1, h1, hm, hk⟩ := h.lw.wi
  refine (kk v1 h1 fun hne g hg => ⟨fun hf => (h.lw.ap hne g hg).1 (hm.foot (h.lw.ap hne g hg).2 hf), Nat.lt_of_lt_of_le (h.lw.ap hne g hg).2 hk.size⟩).mono ?_
  rintro e w3 ⟨he, v3, h3, hm3, hk3⟩
  exact ⟨he, ⟨⟨v3, h3, hm.trans hk.size hm3, hk.trans hk3 fun i hi hf => hm.foot hi hf⟩, h.lw.sl.kept' hk3 (fun hne g hg hf => (h.lw.ap hne g hg).1 (hm.foot (h.lw.ap hne g hg).2 hf)), h.lw.ap⟩, h.k1.kept hk3 (wr_typeI h1 h.k1 (by decide) (by decide))⟩
end
theorem TS.put {w0 W : World} {p b1 : Nat} {v l : Value} {xs : List Int} {L : List Bool} (h : TS w0 p b1 v l xs L W) (x n : Nat) (hL : L.length ≤ 60000000000) (hn : n ≤ 64) (hx : x < 2 ^ n) (hx' : x < 18446744073709551616) (xi ni : Int) (hxi : xi = (x : Int)) (hni : ni = (n : Int)) :
    Calls Tryz.prog 44 #[.pointer (some ⟨p, 0, none⟩), .int .u64 xi, .int .i64 ni] W fun e w3 => e = .returned (.int .i64 0) ∧ TS w0 p b1 v l xs (L ++ bitsOf x n) w3 := by
  subst hxi hni
  refine h.calls (Q := fun e => e = .returned (.int .i64 0)) fun v1 h1 _ => put_at W p v1 L _ x n rfl h1 (by omega) hx' _ ?_
  have e1 : putErr x (n : Int) = 0 := by
    unfold putErr
    rw [if_neg (by omega), Int.toNat_natCast, if_neg (by omega)]
  exact ⟨e1, by unfold putBits; rw [if_pos e1, Int.toNat_natCast]⟩
theorem partsC_bd {xs : List Int} (h : InI xs) (hn : xs.length ≤ 65536) (hc : codedB xs = true) (p m : Nat) : (partsC xs p m).length ≤ m * 4194400 := by
  rw [partsC_length hc]
  exact partsN_bd h hn p m

set_option maxRecDepth 100000 in
set_option maxHeartbeats 4000000 in
theorem pput1_any {w0 W : World} {p b1 : Nat} {v l z : Value} {xs : List Int} {L : List Bool} (h : TS w0 p b1 v l xs L W) (hx : InI xs) (hn : xs.length ≤ 65536) (hc : codedB xs = true) (hL : L.length ≤ 900000000) (q i : Nat) (hz : Sl W z (i64s (partL xs q i))) (hap : i64s (partL xs q i) ≠ [] → ∀ b, z.ownBlock = some b → l.ownBlock = some b) :
    Calls Tryz.prog 46 #[z, .pointer (some ⟨b1, 0, none⟩)] W fun e w' => e = .returned (.tuple #[]) ∧ TS w0 p b1 v l xs (L ++ codeP (partL xs q i)) w' := by
  have HP := hid (h.calls (L' := L ++ codeP (partL xs q i)) (Q := fun e => e = .returned (.tuple #[])) fun v1 h1 hap1 => pput_ok p v1 L z (partL xs q i) W h1 hL hz (part_inI hx q i) (part_len q i hn) (fun hne g hg => hap1 (fun e => hne (by
    have hxs : xs = [] := by cases xs; rfl; simp [i64s] at e
    subst hxs
    simp [partL, i64s])) g (hap hne g hg)) (part_coded hc q i))
  have hc1 := h.k1.cell 0
  simp at hc1
  obtain ⟨A, c, rfl, _⟩ := i64s_form hz
  clear h hx hn hc hL hz hap
  go_enter Tryz.func46, Tryz.ntmps46
  go_wp2_with fail
  with_reducible refine HP.out.mono ?_
  rintro e w2 ⟨rfl, h2⟩
  have H2 := hid h2
  clear h2
  go_wp2_with fail
  go_end0
  exact ⟨rfl, H2.out⟩
theorem enters_pput1 : ∀ args w, (callFunc 46 args).run Tryz.prog w = .ok (.enter 46 args) w := enters_of Tryz.func46 (by kernel_rfl) rfl

/-- The error of Put. -/
def pPutErr (xs : List Int) (p : Int) : Int := if 65536 < xs.length then 4 else if codedB xs = true then (if orderB xs.length p = true then 0 else 1) else 3
theorem mayL_coded {xs : List Int} (h : xs.length ≤ 65536) : mayL xs = codedB xs := by unfold mayL; rw [decide_eq_true h]; rfl

theorem pPut_nil (l : Value) (xs : List Int) (p : Int) (w : World) (hl : Sl w l (i64s xs)) : Calls Tryz.prog 21 #[.pointer none, l, .int .i64 p] w fun e w' => e = .returned (.int .i64 2) ∧ Below w.heap.size w w' := by
  obtain ⟨A, c, rfl, hm⟩ := i64s_form hl
  clear hl
  have HB := hid (show Below w.heap.size w (w.alloc (.cells #[.pointer none] 24)) from (Below.refl _ _).alloc (Nat.le_refl _) _)
  go_enter Tryz.func21, Tryz.ntmps21
  go_wp2_with fail
  go_ret
  exact ⟨rfl, HB.out⟩

set_option maxRecDepth 100000 in
set_option maxHeartbeats 4000000 in
theorem pPut_long (p : Nat) (A : Option Addr) (c n : Nat) (q : Int) (w : World) (h : 65536 < n) :
    Calls Tryz.prog 21 #[.pointer (some ⟨p, 0, none⟩), .slice A n c, .int .i64 q] w fun e w' => e = .returned (.int .i64 4) ∧ Below w.heap.size w w' := by
  have HB := hid (show Below w.heap.size w (w.alloc (.cells #[.pointer (some ⟨p, 0, none⟩)] 24)) from (Below.refl _ _).alloc (Nat.le_refl _) _)
  have h' : (65536 : Int) < n := by omega
  clear h
  go_enter Tryz.func21, Tryz.ntmps21
  go_wp2_with fail
  go_ret
  exact ⟨rfl, HB.out⟩

set_option maxRecDepth 100000 in
set_option maxHeartbeats 4000000 in
theorem pPut_bad (p : Nat) (l : Value) (xs : List Int) (q : Int) (w : World) (hl : Sl w l (i64s xs)) (hx : InI xs) (hb : pPutErr xs q ≠ 0) :
    Calls Tryz.prog 21 #[.pointer (some ⟨p, 0, none⟩), l, .int .i64 q] w fun e w' => e = .returned (.int .i64 (pPutErr xs q)) ∧ Below w.heap.size w w' := by
  obtain ⟨A, c, rfl, hm⟩ := i64s_form hl
  by_cases hn : 65536 < xs.length
  · have e : pPutErr xs q = 4 := by unfold pPutErr; rw [if_pos hn]
    rw [e]
    exact pPut_long p A c xs.length q w hn
  have hn' : xs.length ≤ 65536 := by omega
  have HB := hid (show Below w.heap.size w (w.alloc (.cells #[.pointer (some ⟨p, 0, none⟩)] 24)) from (Below.refl _ _).alloc (Nat.le_refl _) _)
  have HM := hid (mayl_any (.slice A xs.length c) xs _ (hl.below HB.out) hx)
  rw [mayL_coded hn'] at HM
  have HO := hid (fun W => order_any xs.length q W)
  have HE := hid (pPutErr.eq_1 xs q)
  rw [if_neg hn] at HE
  obtain ⟨E, hE⟩ : ∃ E, pPutErr xs q = E := ⟨_, rfl⟩
  rw [hE] at HE hb
  rw [hE]
  obtain ⟨b, hbb⟩ : ∃ b, codedB xs = b := ⟨_, rfl⟩
  obtain ⟨d, hd⟩ : ∃ d, orderB xs.length q = d := ⟨_, rfl⟩
  rw [hbb] at HM HE
  rw [hd] at HO HE
  have HBB := hid hb
  have h' : ¬ (65536 : Int) < xs.length := by omega
  clear hl hx hb hE hbb hd hn
  cases b
  · obtain rfl : E = 3 := HE.out
    go_enter Tryz.func21, Tryz.ntmps21
    go_wp2_with fail
    with_reducible refine HM.out.mono ?_
    rintro e w1 ⟨rfl, n, rfl⟩
    go_wp2_with fail
    go_ret
    exact ⟨rfl, below_drewN' HB.out n⟩
  cases d
  · obtain rfl : E = 1 := HE.out
    go_enter Tryz.func21, Tryz.ntmps21
    go_wp2_with fail
    with_reducible refine HM.out.mono ?_
    rintro e w1 ⟨rfl, n, rfl⟩
    go_wp2_with fail
    with_reducible refine (HO.out _).mono ?_
    rintro e w1 ⟨rfl, rfl⟩
    go_wp2_with fail
    go_ret
    exact ⟨rfl, below_drewN' HB.out n⟩
  · exact absurd HE.out HBB.out

set_option maxRecDepth 100000 in
set_option maxHeartbeats 4000000 in
theorem pPut_ok (p : Nat) (v : Value) (L : List Bool) (l : Value) (xs : List Int) (q : Nat) (w : World) (hw : Wr w p v L) (hL : L.length ≤ 100000000) (hl : Sl w l (i64s xs)) (hx : InI xs) (hn : xs.length ≤ 65536) (hap : i64s xs ≠ [] → ∀ g, l.ownBlock = some g → ¬ Foot p v g ∧ g < w.heap.size) (hc : codedB xs = true) (ho : orderB xs.length q = true) :
    Calls Tryz.prog 21 #[.pointer (some ⟨p, 0, none⟩), l, .int .i64 (q : Int)] w fun e w' => e = .returned (.int .i64 0) ∧ WI w p v (L ++ wholeC xs q) w' := by
  have hq : q ≤ 6 := by
    obtain ⟨q', e, h⟩ := orderB_nat ho
    omega
  obtain ⟨A, c, rfl, hm⟩ := i64s_form hl
  have hmf : ∀ (fn : Fn) (first cap : Array Value) (w : World), (Instr.makeFunc fn first cap).run Tryz.prog w = .ok (.func fn first cap) w := fun _ _ _ _ => rfl
  have hbel : Below w.heap.size w (w.alloc (.cells #[.pointer (some ⟨p, 0, none⟩)] 24)) := (Below.refl _ _).alloc (Nat.le_refl _) _
  have HTS := hid (show TS w p w.heap.size v (.slice A xs.length c) xs L (w.alloc (.cells #[.pointer (some ⟨p, 0, none⟩)] 24)) from ⟨⟨hw.refl.then_below hbel, hl.below hbel, hap⟩, Blk.new _ _ _⟩)
  have HM := hid (mayl_any (.slice A xs.length c) xs _ (hl.below hbel) hx)
  rw [mayL_coded hn, hc] at HM
  have HO := hid (fun W => order_any xs.length (q : Int) W)
  rw [ho] at HO
  have HV := hid (show VisitP 46 #[.pointer (some ⟨w.heap.size, 0, none⟩)] (.slice A xs.length c) xs q (fun i W => TS w p w.heap.size v (.slice A xs.length c) xs (L ++ bitsOf q 3 ++ partsC xs q i) W) from by
    intro i W z hi h hz hap1
    have hb := partsC_bd hx hn hc q i
    have h64 : 2 ^ q ≤ 2 ^ 6 := Nat.pow_le_pow_right (by omega) hq
    refine (pput1_any h hx hn hc (by simp only [List.length_append, bitsOf_length]; omega) q i hz hap1).mono ?_
    rintro e w' ⟨rfl, h'⟩
    refine ⟨rfl, ?_⟩
    show TS _ _ _ _ _ _ (L ++ bitsOf q 3 ++ (partsC xs q i ++ codeP (partL xs q i))) _
    rw [← List.append_assoc]
    exact h')
  have HEA := hid (fun W h => partsv_any 46 #[.pointer (some ⟨w.heap.size, 0, none⟩)] enters_pput1 (.slice A xs.length c) xs q W (fun i W => TS w p w.heap.size v (.slice A xs.length c) xs (L ++ bitsOf q 3 ++ partsC xs q i) W) ⟨A, c, rfl⟩ hn hq (fun i W h => h.lw.sl) (fun i W n h => h.later (below_drewN' (.refl _ _) n)) HV.out h)
  have h3 : ¬ (65536 : Int) < xs.length := by omega
  have hwq : IntKind.u64.wrap (q : Int) = (q : Int) := IntWalk.u64_in _ (by omega)
  have HWC := hid (wholeC.eq_1 xs q)
  clear hbel hl hx hap hc hw ho
  go_enter Tryz.func21, Tryz.ntmps21
  go_wp2_with fail
  with_reducible refine HM.out.mono ?_
  rintro e w1 ⟨rfl, n, rfl⟩
  have H1 := hid (HTS.out.later (below_drewN' (.refl _ _) n))
  go_wp2_with fail
  with_reducible refine (HO.out _).mono ?_
  rintro e w1 ⟨rfl, rfl⟩
  go_wp2_with fail
  with_reducible refine (H1.out.put q 3 (by omega) (by omega) (by omega) (by omega) (q : Int) 3 rfl rfl).mono ?_
  rintro e w3 ⟨rfl, h3⟩
  have H3 := hid h3
  clear h3
  go_wp2_with fail
  with_reducible refine (HEA.out _ (by simpa [partsC] using H3.out)).mono ?_
  rintro e w4 ⟨rfl, h4⟩
  have H4 := hid h4.lw.wi
  clear h4
  go_wp2_with fail
  go_ret
  rw [HWC.out, ← List.append_assoc]
  exact ⟨rfl, H4.out⟩
end Go.Proofs.YtjboboaccjbebaaGreat
/- string(b) of bytes; bytes are known by their bits. -/
namespace Go.Proofs.YtjboboaccjbebaaGreat
open Go.RowKit

theorem flat_inj : ∀ {F G : List Nat}, (∀ x ∈ F, x < 256) → (∀ x ∈ G, x < 256) → flat F = flat G → F = G
  | [], [], _, _, _ => rfl
  | [], y :: G, _, _, h => by have := congrArg List.length h; simp [flat_length] at this
  | x :: F, [], _, _, h => by have := congrArg List.length h; simp [flat_length] at this
  | x :: F, y :: G, hF, hG, h => by
    have h' : bitsOf x 8 ++ flat F = bitsOf y 8 ++ flat G := h
    obtain ⟨h1, h2⟩ := List.append_inj h' (by rw [bitsOf_length, bitsOf_length])
    have e1 := bitsOf_inj x y 8 (hF x (by simp)) (hG y (by simp)) h1
    have e2 := flat_inj (fun z hz => hF z (by simp [hz])) (fun z hz => hG z (by simp [hz])) h2
    rw [e1, e2]

/-- The string of bytes. -/
def strOf (F : List Nat) : ByteArray := ⟨(F.map UInt8.ofNat).toArray⟩

theorem strOf_list (F : List Nat) : (strOf F).toList = F.map UInt8.ofNat := by simp [strOf]

theorem str_of (w : World) (v : Value) (F : List Nat) (h : Sl w v (u8s F)) (hb : ∀ x ∈ F, x < 256) : (convert 25 9 v).run Tryz.prog w = .ok (.string (strOf F)) w := by
  rcases h with ⟨rfl, hx⟩ | ⟨ad, c, rfl, _, _, hc⟩
  · have e : F = [] := by simpa [u8s] using hx
    subst e
    exact Lib.run_convert_nil_bytes w _ _ 5 0 Tryz.underlying25 Tryz.underlying5 Tryz.underlying9
  · have h := run_convert_bytes_back (P := Tryz.prog) w 25 9 5 ad c (F.map UInt8.ofNat) Tryz.underlying25 Tryz.underlying5 Tryz.underlying9 (by
      intro j hj
      have hj' : j < F.length := by simpa using hj
      have hx := hb F[j] (List.getElem_mem _)
      rw [hc j (.int .u8 (F[j] : Nat)) (by simp [u8s, hj'])]
      congr 2
      simp
      omega)
    rw [u8s_length]
    rw [List.length_map] at h
    exact h
end Go.Proofs.YtjboboaccjbebaaGreat
/- What the fixed calls of the statements of layer 7 come to: true. -/
namespace Go.Proofs.YtjboboaccjbebaaGreat
open Go.RowKit

theorem blk_slI {w : World} {g : Nat} {xs : List Int} (h : Blk w g 3 (i64s xs).toArray) (hm : xs.length ≤ 1000) : Sl w (.slice (some ⟨g, 0, none⟩) xs.length xs.length) (i64s xs) := by
  have hl := i64s_length xs
  have h2 := own_of_blk (xs := i64s xs) h (Nat.le_refl xs.length) (by unfold maxLen; omega) (by simpa using hl) (by rw [List.take_of_length_le (by simpa using Nat.le_of_eq hl)]) hl
  exact Sl.of_own h2

theorem codeL005 : codeL [0, 0, 5] 0 = [false, true, true, true, true, true, true, true, true, true, true, true, false] := by decide +kernel

end Go.Proofs.YtjboboaccjbebaaGreat
/- What the fixed calls of the statements of layer 9 come to: true. -/
namespace Go.Proofs.YtjboboaccjbebaaGreat
open Go.RowKit

theorem whole0000 : wholeC [0, 0, 0, 0] 0 = [false, false, false, false, true, true, true, true, true] := by decide +kernel
theorem choose9 : chooseX [9, -9, 9, -9, 9] = (1, 3, 36) := by decide +kernel

end Go.Proofs.YtjboboaccjbebaaGreat
