/- Layer 7: Put. -/
import Derived.Test.YtjboboaccjbebaaRunD
import Derived.Test.YtjboboaccjbebaaRPutsS
namespace Go.Proofs.Ytjboboaccjbebaa
open Go.RowKit

theorem items_le (n : Nat) (l : List Int) : ∀ a ∈ items n l, a.1 ≤ n + l.length := by
  induction l generalizing n with
  | nil =>
    intro a ha
    rw [items] at ha
    split at ha
    · simp at ha; subst ha; show n ≤ n + 0; omega
    · cases ha
  | cons x xs ih =>
    intro a ha
    rw [List.length_cons]
    rw [items] at ha
    split at ha
    · have := ih (n + 1) a ha; omega
    · rcases List.mem_cons.1 ha with rfl | ha
      · show n ≤ _; omega
      · have := ih 0 a ha; omega
theorem items_some (n : Nat) (l : List Int) : ∀ a ∈ items n l, ∀ x, a.2 = some x → x ∈ l := by
  induction l generalizing n with
  | nil =>
    intro a ha x hx
    rw [items] at ha
    split at ha
    · simp at ha; subst ha; cases hx
    · cases ha
  | cons y xs ih =>
    intro a ha x hx
    rw [items] at ha
    split at ha
    · exact List.mem_cons_of_mem _ (ih (n + 1) a ha x hx)
    · rcases List.mem_cons.1 ha with rfl | ha
      · simp at hx; subst hx; exact List.mem_cons_self
      · exact List.mem_cons_of_mem _ (ih 0 a ha x hx)

/-- Put's state: a list beside a writer, and two cells that hold the writer and the parameter. -/
structure PS (w0 : World) (p b1 b2 : Nat) (v l : Value) (xs : List Int) (k : Nat) (L : List Bool) (W : World) : Prop where
  lw : LW w0 p v l (i64s xs) L W
  k1 : Blk W b1 24 #[.pointer (some ⟨p, 0, none⟩)]
  k2 : Blk W b2 3 #[.int .i64 (k : Int)]
section
variable {w0 W : World} {p b1 b2 k : Nat} {v l : Value} {xs : List Int} {L L' : List Bool}
theorem PS.drew (h : PS w0 p b1 b2 v l xs k L W) : PS w0 p b1 b2 v l xs k L W.drew :=
  ⟨⟨h.lw.wi.then_below ((Below.refl _ _).drew), h.lw.sl.drew, h.lw.ap⟩, h.k1.drew, h.k2.drew⟩
theorem PS.calls {f : FuncId} {args : Array Value} {R : Ending → Prop} (h : PS w0 p b1 b2 v l xs k L W)
    (kk : ∀ v1, Wr W p v1 L → Calls Try.prog f args W fun e w3 => R e ∧ WI W p v1 L' w3) : Calls Try.prog f args W fun e w3 => R e ∧ PS w0 p b1 b2 v l xs k L' w3 := by
  obtain ⟨v1, h1, hm, hk⟩ := h.lw.wi
  refine (kk v1 h1).mono ?_
  rintro e w3 ⟨he, v3, h3, hm3, hk3⟩
  refine ⟨he, ⟨⟨v3, h3, hm.trans hk.size hm3, hk.trans hk3 fun i hi hf => hm.foot hi hf⟩, h.lw.sl.kept' hk3 (fun hne g hg hf => (h.lw.ap hne g hg).1 (hm.foot (h.lw.ap hne g hg).2 hf)), h.lw.ap⟩, ?_, ?_⟩
  · exact h.k1.kept hk3 (wr_typeI h1 h.k1 (by decide) (by decide))
  · exact h.k2.kept hk3 (wr_typeI h1 h.k2 (by decide) (by decide))
theorem PS.cells (h : PS w0 p b1 b2 v l xs k L W) : W.cell? ⟨b1, 0, none⟩ = some (.pointer (some ⟨p, 0, none⟩)) ∧ W.cell? ⟨b2, 0, none⟩ = some (.int .i64 (k : Int)) := by
  have h0 := h.k1.cell 0
  have h1 := h.k2.cell 0
  simp at h0 h1
  exact ⟨h0, h1⟩
end

set_option maxRecDepth 100000 in
set_option maxHeartbeats 4000000 in
theorem put1_any {w0 W : World} {p b1 b2 k : Nat} {v l : Value} {xs : List Int} {L : List Bool} (h : PS w0 p b1 b2 v l xs k L W) (n : Nat) (o : Option Int) (ha : OkI (n, o)) (hn : n ≤ 1048576) (hz : ∀ x, o = some x → zigN x < 1099511627776) (hk : k ≤ 30) (hL : L.length ≤ 60000000000) :
    Calls Try.prog 66 #[.int .i64 (n : Int), .int .i64 (o.getD 0), .bool o.isSome, .pointer (some ⟨b1, 0, none⟩), .pointer (some ⟨b2, 0, none⟩)] W fun e w' => e = .returned (.tuple #[]) ∧ PS w0 p b1 b2 v l xs k (L ++ codeI (k : Int) (n, o)) w' := by
  have hg : gamB (n + 1) = true := (gamB_iff _).2 (by omega)
  have hgl := gamC_length (n + 1)
  have hgc := gamCost_le (n + 1)
  have hw1 : IntKind.u64.wrap (n : Int) = (n : Int) := IntWalk.u64_in _ (by omega)
  have hw2 : IntKind.u64.wrap ((n : Int) + 1) = ((n + 1 : Nat) : Int) := by rw [IntWalk.u64_in _ (by omega)]; omega
  have HG := hid (h.calls (L' := L ++ gamC (n + 1)) (R := fun e => e = .returned (.int .i64 0)) fun v1 h1 => putgamma_ok W p (n + 1) v1 L h1 (by omega) hg)
  have hL2 : (L ++ gamC (n + 1)).length ≤ 60000000063 := by rw [List.length_append]; omega
  obtain ⟨hc1, hc2⟩ := h.cells
  have HE := hid (show ∀ t, L ++ codeI (k : Int) (n, t) = (L ++ gamC (n + 1)) ++ (match t with | none => [] | some x => codeR (zigN x - 1) (k : Int)) from fun t => by unfold codeI; rw [List.append_assoc]; cases t <;> rfl)
  have HA := hid (And.intro ha hz)
  obtain ⟨L1, hL1⟩ : ∃ L1, L ++ gamC (n + 1) = L1 := ⟨_, rfl⟩
  simp only [hL1] at HG HE hL2
  obtain ⟨m, hm⟩ : ∃ m, n + 1 = m := ⟨_, rfl⟩
  rw [hm] at HG hw2
  clear hL1 hm hg hgl hgc h ha hz
  cases o with
  | none =>
    go_enter Try.func66, Try.ntmps66
    go_wp2_with fail
    with_reducible refine HG.out.mono ?_
    rintro e w2 ⟨rfl, h2⟩
    have H2 := hid h2
    clear h2
    go_wp2_with fail
    go_end0
    rw [HE.out, List.append_nil]
    exact ⟨rfl, H2.out⟩
  | some x =>
    obtain ⟨hx1, hx2, hx0⟩ := HA.out.1.2 x rfl
    have hzx := HA.out.2 x rfl
    have HR := hid (fun W => rest_any x W hx1 hx2 hx0)
    have HPT := hid (fun W u (h : Wr W p u L1) => rput_ok W p u L1 (zigN x - 1) k h (by omega) (by omega) hk)
    have HE2 := hid (show L ++ codeI (k : Int) (n, some x) = L1 ++ codeK (zigN x - 1) k by rw [HE.out]; show L1 ++ codeR _ _ = _; unfold codeR; rw [if_pos ⟨(paramB_iff _).2 (by omega), (mayB_iff _).2 (by omega)⟩, Int.toNat_natCast])
    obtain ⟨z, hze⟩ : ∃ z, zigN x - 1 = z := ⟨_, rfl⟩
    rw [hze] at HR HE2
    simp only [hze] at HPT
    clear hze hzx hx1 hx2 hx0 HE HA
    go_enter Try.func66, Try.ntmps66
    go_wp2_with fail
    with_reducible refine HG.out.mono ?_
    rintro e w2 ⟨rfl, h2⟩
    clear hc1 hc2
    obtain ⟨hc1, hc2⟩ := h2.cells
    have H2 := hid h2
    clear h2
    go_wp2_with fail
    go_region_with (first
      | (go_at_call 68; (with_reducible refine (HR.out _).mono ?_); rintro e w3 ⟨rfl, rfl⟩)
      | (go_at_call 67; (with_reducible refine (H2.out.drew.calls (L' := L1 ++ codeK z k) (R := fun e => e = .returned (.int .i64 0)) fun v1 h1 => HPT.out _ v1 h1).mono ?_); rintro e w4 ⟨rfl, h4⟩; have H4 := hid h4; clear h4))
    all_goals (go_wp2_with fail)
    all_goals (go_end0)
    all_goals (rw [HE2.out]; exact ⟨rfl, H4.out⟩)
theorem enters_put1 : ∀ args w, (callFunc 66 args).run Try.prog w = .ok (.enter 66 args) w := enters_of Try.func66 (by kernel_rfl) rfl

theorem put1_visit {w0 : World} {p b1 b2 k : Nat} {v l : Value} {xs : List Int} {L : List Bool} (hx : InI xs) (hc : codedB xs = true) (hn : xs.length ≤ 1048576) (hk : k ≤ 30) (hL : L.length ≤ 1000000000) :
    Visit 66 #[.pointer (some ⟨b1, 0, none⟩), .pointer (some ⟨b2, 0, none⟩)] xs (fun P W => PS w0 p b1 b2 v l xs k (L ++ P.flatMap (codeI (k : Int))) W) := by
  intro P n o R W hP h
  have hs := sumI_le (k : Int) P
  have hl := items_pre hP
  have hm := items_mem hP
  have ho := items_ok 0 xs hx (by omega) _ hm
  have hle := items_le 0 xs _ hm
  simp only at hle
  have hcs := codeI_sum (k : Int) P
  refine (put1_any h n o ho (by omega) (fun x hx => ?_) hk (by rw [List.length_append, hcs]; omega)).mono ?_
  · have := items_some 0 xs _ hm x hx
    unfold codedB at hc
    rw [List.all_eq_true] at hc
    simpa using hc x this
  · rintro e w' ⟨rfl, h'⟩
    refine ⟨rfl, ?_⟩
    show PS w0 p b1 b2 v l xs k (L ++ (P ++ [(n, o)]).flatMap (codeI (k : Int))) w'
    rw [List.flatMap_append, ← List.append_assoc]
    simpa using h'

/-- The error of Put. -/
def putLErr (xs : List Int) (k : Int) : Int := if paramB k = true then (if 1048576 < xs.length then 4 else if codedB xs = true then 0 else 3) else 1

theorem putl_nil (l : Value) (xs : List Int) (k : Int) (w : World) (hl : Sl w l (i64s xs)) : Calls Try.prog 19 #[.pointer none, l, .int .i64 k] w fun e w' => e = .returned (.int .i64 2) ∧ Below w.heap.size w w' := by
  obtain ⟨A, c, rfl, hm⟩ := i64s_form hl
  clear hl
  have HB := hid (show Below w.heap.size w ((w.alloc (.cells #[.pointer none] 24)).alloc (.cells #[.int .i64 k] 3)) from ((Below.refl _ _).alloc (Nat.le_refl _) _).alloc ((Below.refl _ _).alloc (Nat.le_refl _) _).size _)
  go_enter Try.func19, Try.ntmps19
  go_wp2_with fail
  go_ret
  exact ⟨rfl, HB.out⟩

set_option maxRecDepth 100000 in
set_option maxHeartbeats 4000000 in
theorem putl_bad (p : Nat) (l : Value) (xs : List Int) (k : Int) (w : World) (hl : Sl w l (i64s xs)) (hx : InI xs) (hb : putLErr xs k ≠ 0) :
    Calls Try.prog 19 #[.pointer (some ⟨p, 0, none⟩), l, .int .i64 k] w fun e w' => e = .returned (.int .i64 (putLErr xs k)) ∧ Below w.heap.size w w' := by
  obtain ⟨A, c, rfl, hm⟩ := i64s_form hl
  have HB := hid (show Below w.heap.size w ((w.alloc (.cells #[.pointer (some ⟨p, 0, none⟩)] 24)).alloc (.cells #[.int .i64 k] 3)) from ((Below.refl _ _).alloc (Nat.le_refl _) _).alloc ((Below.refl _ _).alloc (Nat.le_refl _) _).size _)
  have HC := hid (coded_any (.slice A xs.length c) xs _ (hl.below HB.out) hx)
  have HE := hid (putLErr.eq_1 xs k)
  obtain ⟨E, hE⟩ : ∃ E, putLErr xs k = E := ⟨_, rfl⟩
  rw [hE] at HE hb
  rw [hE]
  have HBB := hid hb
  clear hl hx hb hE
  by_cases h0 : 0 ≤ k ∧ k ≤ 30
  · rw [if_pos ((paramB_iff k).2 h0)] at HE
    obtain ⟨h1, h2⟩ := h0
    by_cases h3 : 1048576 < xs.length
    · rw [if_pos h3] at HE
      obtain rfl := HE.out
      have h3' : (1048576 : Int) < xs.length := by omega
      clear h3
      go_enter Try.func19, Try.ntmps19
      go_wp2_with fail
      go_ret
      exact ⟨rfl, HB.out⟩
    · rw [if_neg h3] at HE
      obtain ⟨b, hb⟩ : ∃ b, codedB xs = b := ⟨_, rfl⟩
      rw [hb] at HE HC
      cases b
      · obtain rfl : E = 3 := HE.out
        have h3' : ¬ (1048576 : Int) < xs.length := by omega
        clear h3 hb
        go_enter Try.func19, Try.ntmps19
        go_wp2_with fail
        with_reducible refine HC.out.mono ?_
        rintro e w1 ⟨rfl, n, rfl⟩
        go_wp2_with fail
        go_ret
        exact ⟨rfl, below_drewN' HB.out n⟩
      · exact absurd HE.out HBB.out
  · rw [if_neg (fun h => h0 ((paramB_iff k).1 h))] at HE
    obtain rfl := HE.out
    by_cases h1 : k < 0
    · go_enter Try.func19, Try.ntmps19
      go_wp2_with fail
      go_ret
      exact ⟨rfl, HB.out⟩
    · have h2 : 30 < k := by omega
      go_enter Try.func19, Try.ntmps19
      go_wp2_with fail
      go_ret
      exact ⟨rfl, HB.out⟩

set_option maxRecDepth 100000 in
set_option maxHeartbeats 4000000 in
theorem putl_ok (p : Nat) (v : Value) (L : List Bool) (l : Value) (xs : List Int) (k : Nat) (w : World) (hw : Wr w p v L) (hL : L.length ≤ 1000000000) (hl : Sl w l (i64s xs)) (hx : InI xs) (hn : xs.length ≤ 1048576) (hap : i64s xs ≠ [] → ∀ g, l.ownBlock = some g → ¬ Foot p v g ∧ g < w.heap.size) (hk : k ≤ 30) (ha : codedB xs = true) :
    Calls Try.prog 19 #[.pointer (some ⟨p, 0, none⟩), l, .int .i64 (k : Int)] w fun e w' => e = .returned (.int .i64 0) ∧ WI w p v (L ++ codeL xs k) w' := by
  obtain ⟨A, c, rfl, hm⟩ := i64s_form hl
  have hmf : ∀ (fn : Fn) (first cap : Array Value) (w : World), (Instr.makeFunc fn first cap).run Try.prog w = .ok (.func fn first cap) w := fun _ _ _ _ => rfl
  have hbel : Below w.heap.size w ((w.alloc (.cells #[.pointer (some ⟨p, 0, none⟩)] 24)).alloc (.cells #[.int .i64 (k : Int)] 3)) := ((Below.refl _ _).alloc (Nat.le_refl _) _).alloc ((Below.refl _ _).alloc (Nat.le_refl _) _).size _
  have hk1 := (Blk.new w 24 #[.pointer (some ⟨p, 0, none⟩)]).alloc (.cells #[.int .i64 (k : Int)] 3)
  have hk2 := Blk.new (w.alloc (.cells #[.pointer (some ⟨p, 0, none⟩)] 24)) 3 #[.int .i64 (k : Int)]
  rw [show (w.alloc (.cells #[.pointer (some ⟨p, 0, none⟩)] 24)).heap.size = w.heap.size + 1 from by simp] at hk2
  have HPS := hid (show PS w p w.heap.size (w.heap.size + 1) v (.slice A xs.length c) xs k L ((w.alloc (.cells #[.pointer (some ⟨p, 0, none⟩)] 24)).alloc (.cells #[.int .i64 (k : Int)] 3)) from ⟨⟨hw.refl.then_below hbel, hl.below hbel, hap⟩, hk1, hk2⟩)
  have HC := hid (coded_any (.slice A xs.length c) xs _ (hl.below hbel) hx)
  rw [ha] at HC
  have HV := hid (put1_visit (w0 := w) (p := p) (b1 := w.heap.size) (b2 := w.heap.size + 1) (v := v) (l := .slice A xs.length c) hx ha hn hk hL)
  have h1 : ¬ (k : Int) < 0 := by omega
  have h2 : ¬ (30 : Int) < k := by omega
  have h3 : ¬ (1048576 : Int) < xs.length := by omega
  clear hbel hk1 hk2 hl hx hap ha hw
  go_enter Try.func19, Try.ntmps19
  go_wp2_with fail
  with_reducible refine HC.out.mono ?_
  rintro e w1 ⟨rfl, n, rfl⟩
  have HP0 := hid (show PS w p w.heap.size (w.heap.size + 1) v (.slice A xs.length c) xs k (L ++ [].flatMap (codeI (k : Int))) (((w.alloc (.cells #[.pointer (some ⟨p, 0, none⟩)] 24)).alloc (.cells #[.int .i64 (k : Int)] 3)).drewN n) from by
    have h := HPS.out
    rw [List.flatMap_nil, List.append_nil]
    exact ⟨⟨h.lw.wi.then_below (below_drewN' (.refl _ _) n), h.lw.sl.drewN n, h.lw.ap⟩, h.k1.drewN n, h.k2.drewN n⟩)
  have HEA := hid (each_any 66 #[.pointer (some ⟨w.heap.size, 0, none⟩), .pointer (some ⟨w.heap.size + 1, 0, none⟩)] enters_put1 (.slice A xs.length c) xs _ (fun P W => PS w p w.heap.size (w.heap.size + 1) v (.slice A xs.length c) xs k (L ++ P.flatMap (codeI (k : Int))) W) ⟨A, c, rfl⟩ hm (fun P W h => h.lw.sl) HV.out HP0.out)
  go_wp2_with fail
  with_reducible refine HEA.out.mono ?_
  rintro e w2 ⟨rfl, hps⟩
  have HF := hid hps.lw.wi
  clear hps
  go_wp2_with fail
  go_ret
  exact ⟨rfl, HF.out⟩
end Go.Proofs.Ytjboboaccjbebaa
