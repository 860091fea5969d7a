/- Layer 8: PutAll, Put. -/
import Derived.Test.YtgjiffpiffphfaaEven
namespace Go.Proofs.Ytgjiffpiffphfaa
open Go.RowKit

theorem enters_evlit : ∀ args w, (callFunc 78 args).run Try.prog w = .ok (.enter 78 args) w := enters_of Try.func78 (by kernel_rfl) rfl
theorem evlit_any (b v n : Nat) (w : World) (hc : w.cell? ⟨b, 0, none⟩ = some (.int .u64 (n : Int))) :
    Calls Try.prog 78 #[.int .u64 (v : Int), .pointer (some ⟨b, 0, none⟩)] w fun e w' => e = .returned (.bool (decide (n ≤ v))) ∧ w = w' := by
  have HE := hid (show decide ((n : Int) ≤ (v : Int)) = decide (n ≤ v) by rw [Bool.eq_iff_iff, decide_eq_true_iff, decide_eq_true_iff]; omega)
  go_enter Try.func78, Try.ntmps78
  go_wp2_with fail
  go_ret
  exact ⟨by rw [← HE.out]; rfl, rfl⟩

theorem eputall_nil (l : Value) (n : Nat) (w : World) : Calls Try.prog 43 #[.pointer none, l, .int .u64 (n : Int)] w fun e w' => e = .returned (.int .i64 2) ∧ Below w.heap.size w w' := by
  go_enter Try.func43, Try.ntmps43
  go_wp2_with fail
  go_ret
  exact ⟨rfl, (Below.refl _ _).alloc (Nat.le_refl _) _⟩

/-- Are all of a span? -/
def belowB (xs : List Nat) (n : Nat) : Bool := xs.all fun v => decide (v < n)
theorem any_not_below (xs : List Nat) (n : Nat) : xs.any (fun v => decide (n ≤ v)) = !belowB xs n := by
  unfold belowB
  induction xs with
  | nil => rfl
  | cons x xs ih =>
    rw [List.any_cons, List.all_cons, ih, Bool.not_and]
    congr 1
    by_cases h : n ≤ x
    · have : ¬ x < n := by omega
      simp [h, this]
    · have : x < n := by omega
      simp [h, this]
def ePErr (xs : List Nat) (n : Nat) : Int := if spanB n = true then (if belowB xs n = true then 0 else 3) else 1
def codesE (xs : List Nat) (n : Nat) : List Bool := xs.flatMap fun u => codeE u n

theorem eputall_bad (p : Nat) (l : Value) (xs : List Nat) (n : Nat) (w : World) (hl : Sl w l (u64s xs)) (hx : InU xs) (h : ¬ (spanB n = true ∧ belowB xs n = true)) :
    Calls Try.prog 43 #[.pointer (some ⟨p, 0, none⟩), l, .int .u64 (n : Int)] w fun e w' => e = .returned (.int .i64 (ePErr xs n)) ∧ Below w.heap.size w w' := by
  have hmf : ∀ (fn : Fn) (first cap : Array Value) (w : World), (Instr.makeFunc fn first cap).run Try.prog w = .ok (.func fn first cap) w := fun _ _ _ _ => rfl
  have HP := hid (fun W => span_any n W)
  have HC := hid (containsU_any 78 #[.pointer (some ⟨w.heap.size, 0, none⟩)] enters_evlit (fun v => decide (n ≤ v)) (fun x => x < 18446744073709551616) l xs (w.alloc (.cells #[.int .u64 (n : Int)] 22)) (hl.alloc _) hx (fun x m _ => (evlit_any w.heap.size x n _ (by simp)).mono fun _ _ ⟨he, hw⟩ => ⟨he, 0, hw.symm⟩))
  rw [any_not_below] at HC
  have HH := hid h
  obtain ⟨b, hb⟩ : ∃ b, spanB n = b := ⟨_, rfl⟩
  obtain ⟨c, hc⟩ : ∃ c, belowB xs n = c := ⟨_, rfl⟩
  rw [hb] at HP HH
  rw [hc] at HC HH
  have HB := hid (And.intro hb hc)
  clear hb hc h hl hx
  cases b
  · have HE := hid (show ePErr xs n = 1 by simp [ePErr, HB.out.1])
    go_enter Try.func43, Try.ntmps43
    go_wp2_with fail
    with_reducible refine (HP.out _).mono ?_
    rintro e w1 ⟨rfl, rfl⟩
    go_wp2_with fail
    go_ret
    exact ⟨by rw [HE.out]; rfl, (Below.refl _ _).alloc (Nat.le_refl _) _⟩
  cases c
  · have HE := hid (show ePErr xs n = 3 by simp only [ePErr, HB.out.1, HB.out.2]; rfl)
    go_enter Try.func43, Try.ntmps43
    go_wp2_with fail
    with_reducible refine (HP.out _).mono ?_
    rintro e w1 ⟨rfl, rfl⟩
    go_wp2_with fail
    with_reducible refine HC.out.mono ?_
    rintro e w1 ⟨rfl, m, rfl⟩
    go_wp2_with fail
    go_ret
    exact ⟨by rw [HE.out]; rfl, below_drewN' ((Below.refl _ _).alloc (Nat.le_refl _) _) m⟩
  · exact absurd ⟨rfl, rfl⟩ HH.out

theorem LW.blkB {w0 wr : World} {p : Nat} {v l : Value} {xs : List Value} {L : List Bool} {B t : Nat} {cs : Array Value} (h : LW w0 p v l xs L wr) (hb : Blk w0 B t cs) (hB : ¬ Foot p v B) : Blk wr B t cs := by
  obtain ⟨v1, h1, hm, hk⟩ := h.wi
  exact hb.kept hk hB

set_option maxRecDepth 100000 in
set_option maxHeartbeats 1600000 in
theorem eputall_ok (p : Nat) (v : Value) (L : List Bool) (l : Value) (xs : List Nat) (n : Nat) (w : World) (hw : Wr w p v L) (hL : L.length ≤ 1000000000) (hl : Sl w l (u64s xs)) (hx : InU xs) (hn : xs.length ≤ 1048576) (hap : u64s xs ≠ [] → ∀ g, l.ownBlock = some g → ¬ Foot p v g ∧ g < w.heap.size) (hk : spanB n = true) (ha : belowB xs n = true) :
    Calls Try.prog 43 #[.pointer (some ⟨p, 0, none⟩), l, .int .u64 (n : Int)] w fun e w' => e = .returned (.int .i64 0) ∧ WI w p v (L ++ codesE xs n) w' := by
  obtain ⟨A, c, rfl, hm⟩ := u64s_form hl
  have hmf : ∀ (fn : Fn) (first cap : Array Value) (w : World), (Instr.makeFunc fn first cap).run Try.prog w = .ok (.func fn first cap) w := fun _ _ _ _ => rfl
  obtain ⟨n1, n2⟩ := (spanB_iff n).1 hk
  have HP := hid (fun W => span_any n W)
  have HC := hid (containsU_any 78 #[.pointer (some ⟨w.heap.size, 0, none⟩)] enters_evlit (fun v => decide (n ≤ v)) (fun x => x < 18446744073709551616) (.slice A xs.length c) xs (w.alloc (.cells #[.int .u64 (n : Int)] 22)) (hl.alloc _) hx (fun x m _ => (evlit_any w.heap.size x n _ (by simp)).mono fun _ _ ⟨he, hw⟩ => ⟨he, 0, hw.symm⟩))
  rw [any_not_below, ha] at HC
  rw [hk] at HP
  have hbel := (Below.refl _ w).alloc (Nat.le_refl _) (.cells #[.int .u64 (n : Int)] 22)
  have HX := hid (And.intro ha (And.intro hx (And.intro (show LW (w.alloc (.cells #[.int .u64 (n : Int)] 22)) p v (.slice A xs.length c) (u64s xs) L (w.alloc (.cells #[.int .u64 (n : Int)] 22)) from ⟨(hw.below hbel).refl, hl.alloc _, fun h g hg => ⟨(hap h g hg).1, by have := (hap h g hg).2; simp; omega⟩⟩) (And.intro (Blk.new w 22 #[.int .u64 (n : Int)]) (And.intro (show ¬ Foot p v w.heap.size from fun h => by have := hw.footlt h; omega) hbel)))))
  clear hk ha hx hl hw hap hbel
  go_enter Try.func43, Try.ntmps43
  go_wp2_with fail
  with_reducible refine (HP.out _).mono ?_
  rintro e w1 ⟨rfl, rfl⟩
  go_wp2_with fail
  with_reducible refine HC.out.mono ?_
  rintro e w1 ⟨rfl, m, rfl⟩
  go_wp2_with fail
  obtain ⟨W0, hW0⟩ : ∃ W0, w.alloc (.cells #[.int .u64 (n : Int)] 22) = W0 := ⟨_, rfl⟩
  rw [hW0] at HX ⊢
  have HW0 := hid hW0
  clear hW0
  go_loopw [8, 22] (fun _ i wr => ∃ j : Nat, j ≤ xs.length ∧ i = .int .i64 j ∧ LW W0 p v (.slice A xs.length c) (u64s xs) (L ++ codesE (xs.take j) n) wr) (fun _ i _ => xs.length - (intOf i).toNat)
  case atStart =>
    obtain ⟨hwi, hsl, hap⟩ := HX.out.2.2.1
    exact ⟨0, by omega, rfl, by simpa [codesE] using hwi.then_below (below_drewN' (.refl _ _) m), hsl.drewN m, hap⟩
  case round =>
    obtain ⟨j, hj, rfl, hlw⟩ := hrel
    have HL := hid hlw
    have hbb := (hlw.blkB HX.out.2.2.2.1 HX.out.2.2.2.2.1).cell 0
    simp at hbb
    by_cases hjm : j < xs.length
    · have hin : (j : Int) < xs.length := by omega
      obtain ⟨ad, rfl, hc⟩ := u64s_at hlw.sl hjm
      have hu := HX.out.2.1 xs[j] (List.getElem_mem _)
      have hmay := List.all_eq_true.1 HX.out.1 xs[j] (List.getElem_mem _)
      rw [decide_eq_true_iff] at hmay
      obtain ⟨x, hxe⟩ : ∃ x, xs[j] = x := ⟨_, rfl⟩
      rw [hxe] at hc hu hmay
      have HXE := hid (And.intro hxe (And.intro hu hmay))
      clear hxe hu hmay hlw
      have hcl : (codesE (xs.take j) n).length ≤ 41943040 := by
        have e : ∀ ys : List Nat, (codesE ys n).length ≤ ys.length * 40 := by
          intro ys
          induction ys with
          | nil => simp [codesE]
          | cons y ys ih =>
            have h := costE_le y n1 n2
            have e : codesE (y :: ys) n = codeE y n ++ codesE ys n := rfl
            rw [e, List.length_append, codeE_length, List.length_cons]
            omega
        have := e (xs.take j)
        rw [List.length_take] at this
        omega
      go_wp2_with fail
      have HCC := HL.out.calls (R := fun e => e = .returned (.tuple #[])) fun v1 h1 => eput_any wr p v1 (L ++ codesE (xs.take j) n) x n h1 (by rw [List.length_append]; omega) n1 n2 HXE.out.2.2
      with_reducible refine HCC.mono ?_
      clear HCC
      rintro e w2 ⟨rfl, h2⟩
      have H2 := hid (show LW W0 p v (.slice (some ad) xs.length c) (u64s xs) (L ++ codesE (xs.take (j + 1)) n) w2 by
        rw [take_snocI xs j hjm, HXE.out.1]
        simp only [codesE, List.flatMap_append, List.flatMap_cons, List.flatMap_nil, List.append_nil]
        rw [← List.append_assoc]
        exact h2)
      clear h2
      go_wp2_with fail
      go_roundw
      case rel => exact ⟨j + 1, by omega, by go_num, H2.out⟩
      case measure => simp [intOf]; omega
    · have hin : ¬ (j : Int) < xs.length := by omega
      obtain rfl : j = xs.length := by omega
      clear hlw
      go_wp2_with fail
      go_ret
      have h := HL.out.wi
      rw [List.take_length] at h
      exact ⟨rfl, h.after_below HX.out.2.2.2.2.2⟩
end Go.Proofs.Ytgjiffpiffphfaa
