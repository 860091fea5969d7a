/- Layer 6: PutAll, Guess. -/
import Derived.Test.YtjboboaccjbebaaRiceT
import Derived.Test.YtjboboaccjbebaaNumW
import Derived.Test.YtjboboaccjbebaaAddN
namespace Go.Proofs.Ytjboboaccjbebaa
open Go.RowKit

theorem notmay_any (u : Nat) (w : World) (hu : u < 18446744073709551616) : Calls Try.prog 158 #[.int .u64 (u : Int)] w fun e w' => e = .returned (.bool (!mayB u)) ∧ w = w' := by
  have HM := hid (may_any u w hu)
  clear hu
  go_enter Try.func158, Try.ntmps158
  go_wp2_with fail
  with_reducible refine HM.out.mono ?_
  rintro e w1 ⟨rfl, rfl⟩
  go_wp2_with fail
  go_ret
  exact ⟨rfl, rfl⟩
theorem enters_notmay : ∀ args w, (callFunc 158 args).run Try.prog w = .ok (.enter 158 args) w := enters_of Try.func158 (by kernel_rfl) rfl

theorem rputall_nil (l : Value) (k : Int) (w : World) : Calls Try.prog 136 #[.pointer none, l, .int .i64 k] w fun e w' => e = .returned (.int .i64 2) ∧ w = w' := by
  go_enter Try.func136, Try.ntmps136
  go_wp2_with fail
  go_ret
  exact ⟨rfl, rfl⟩

theorem any_not_mayB (xs : List Nat) : xs.any (fun x => !mayB x) = !xs.all mayB := by
  induction xs with
  | nil => rfl
  | cons x xs ih => rw [List.any_cons, List.all_cons, ih, Bool.not_and]

/-- The error of PutAll. -/
def putAErr (xs : List Nat) (k : Int) : Int := if paramB k = true then (if xs.all mayB = true then 0 else 3) else 1
/-- What it writes. -/
def codesR (xs : List Nat) (k : Int) : List Bool := xs.flatMap fun u => codeR u k
theorem codesR_length (xs : List Nat) (k : Int) : (codesR xs k).length = totalR xs k := by
  unfold codesR totalR sumN
  rw [List.length_flatMap]
  congr 1
  exact List.map_congr_left fun u _ => codeR_length u k

theorem rputall_bad (p : Nat) (l : Value) (xs : List Nat) (k : Int) (w : World) (hl : Sl w l (u64s xs)) (hx : InU xs) (h : ¬ (paramB k = true ∧ xs.all mayB = true)) :
    Calls Try.prog 136 #[.pointer (some ⟨p, 0, none⟩), l, .int .i64 k] w fun e w' => e = .returned (.int .i64 (putAErr xs k)) ∧ Below w.heap.size w w' := by
  have HP := hid (param_any k w)
  have HC := hid (containsU_any 158 #[] enters_notmay (fun x => !mayB x) (fun x => x < 18446744073709551616) l xs w hl hx (fun x n hx => (notmay_any x _ hx).mono fun _ _ ⟨he, hw⟩ => ⟨he, 0, hw.symm⟩))
  rw [any_not_mayB] at HC
  have HH := hid h
  obtain ⟨b, hb⟩ : ∃ b, paramB k = b := ⟨_, rfl⟩
  obtain ⟨c, hc⟩ : ∃ c, xs.all mayB = c := ⟨_, rfl⟩
  rw [hb] at HP HH
  rw [hc] at HC HH
  have HB := hid (And.intro hb hc)
  have HX := hid (And.intro hl hx)
  clear hb hc h hl hx
  cases b
  · have HE := hid (show putAErr xs k = 1 by simp [putAErr, HB.out.1])
    go_enter Try.func136, Try.ntmps136
    go_wp2_with fail
    with_reducible refine HP.out.mono ?_
    rintro e w1 ⟨rfl, rfl⟩
    go_wp2_with fail
    go_ret
    exact ⟨by rw [HE.out]; rfl, .refl _ _⟩
  cases c
  · have HE := hid (show putAErr xs k = 3 by simp only [putAErr, HB.out.1, HB.out.2]; rfl)
    go_enter Try.func136, Try.ntmps136
    go_wp2_with fail
    with_reducible refine HP.out.mono ?_
    rintro e w1 ⟨rfl, rfl⟩
    go_wp2_with fail
    with_reducible refine HC.out.mono ?_
    rintro e w1 ⟨rfl, n, rfl⟩
    go_wp2_with fail
    go_ret
    exact ⟨by rw [HE.out]; rfl, below_drewN' (.refl _ _) n⟩
  · exact absurd ⟨rfl, rfl⟩ HH.out

/-- A list beside a writer: nothing of it is the writer's. -/
structure LW (w0 : World) (p : Nat) (v l : Value) (xs : List Value) (L : List Bool) (wr : World) : Prop where
  wi : WI w0 p v L wr
  sl : Sl wr l xs
  ap : xs ≠ [] → ∀ g, l.ownBlock = some g → ¬ Foot p v g ∧ g < w0.heap.size
theorem LW.calls {w0 wr : World} {p : Nat} {v l : Value} {xs : List Value} {L L' : List Bool} {f : FuncId} {args : Array Value} {R : Ending → Prop} (h : LW w0 p v l xs L wr)
    (k : ∀ v1, Wr wr p v1 L → Calls Try.prog f args wr fun e w3 => R e ∧ WI wr p v1 L' w3) : Calls Try.prog f args wr fun e w3 => R e ∧ LW w0 p v l xs L' w3 := by
  obtain ⟨v1, h1, hm, hk⟩ := h.wi
  refine (k v1 h1).mono ?_
  rintro e w3 ⟨he, v3, h3, hm3, hk3⟩
  exact ⟨he, ⟨v3, h3, hm.trans hk.size hm3, hk.trans hk3 fun i hi hf => hm.foot hi hf⟩, h.sl.kept' hk3 (fun hne g hg hf => (h.ap hne g hg).1 (hm.foot (h.ap hne g hg).2 hf)), h.ap⟩

set_option maxHeartbeats 800000 in
theorem rputall_ok (p : Nat) (v : Value) (L : List Bool) (l : Value) (xs : List Nat) (k : Int) (w : World) (hw : Wr w p v L) (hL : L.length ≤ 1000000000) (hl : Sl w l (u64s xs)) (hx : InU xs) (hn : xs.length ≤ 1048576) (hap : u64s xs ≠ [] → ∀ g, l.ownBlock = some g → ¬ Foot p v g ∧ g < w.heap.size) (hk : paramB k = true) (ha : xs.all mayB = true) :
    Calls Try.prog 136 #[.pointer (some ⟨p, 0, none⟩), l, .int .i64 k] w fun e w' => e = .returned (.int .i64 0) ∧ WI w p v (L ++ codesR xs k) w' := by
  obtain ⟨A, c, rfl, hm⟩ := u64s_form hl
  have HP := hid (param_any k w)
  have HC := hid (containsU_any 158 #[] enters_notmay (fun x => !mayB x) (fun x => x < 18446744073709551616) (.slice A xs.length c) xs w hl hx (fun x n hx => (notmay_any x _ hx).mono fun _ _ ⟨he, hw⟩ => ⟨he, 0, hw.symm⟩))
  rw [any_not_mayB, ha] at HC
  rw [hk] at HP
  have HX := hid (And.intro hk (And.intro ha (And.intro hx (show LW w p v (.slice A xs.length c) (u64s xs) L w from ⟨hw.refl, hl, hap⟩))))
  clear hk ha hx hl hw hap
  go_enter Try.func136, Try.ntmps136
  go_wp2_with fail
  with_reducible refine HP.out.mono ?_
  rintro e w1 ⟨rfl, rfl⟩
  go_wp2_with fail
  with_reducible refine HC.out.mono ?_
  rintro e w1 ⟨rfl, n, rfl⟩
  go_wp2_with fail
  go_loopw [8, 21] (fun _ i wr => ∃ j : Nat, j ≤ xs.length ∧ i = .int .i64 j ∧ LW w p v (.slice A xs.length c) (u64s xs) (L ++ codesR (xs.take j) k) wr) (fun _ i _ => xs.length - (intOf i).toNat)
  case atStart =>
    obtain ⟨hwi, hsl, hap⟩ := HX.out.2.2.2
    exact ⟨0, by omega, rfl, by simpa [codesR] using hwi.then_below (below_drewN' (.refl _ _) n), hsl.drewN n, hap⟩
  case round =>
    obtain ⟨j, hj, rfl, hlw⟩ := hrel
    have HL := hid hlw
    by_cases hjm : j < xs.length
    · have hin : (j : Int) < xs.length := by omega
      obtain ⟨ad, rfl, hc⟩ := u64s_at hlw.sl hjm
      have hu := HX.out.2.2.1 xs[j] (List.getElem_mem _)
      have hmay := List.all_eq_true.1 HX.out.2.1 xs[j] (List.getElem_mem _)
      obtain ⟨x, hxe⟩ : ∃ x, xs[j] = x := ⟨_, rfl⟩
      rw [hxe] at hc hu hmay
      have HXE := hid (And.intro hxe (And.intro hu hmay))
      clear hxe hu hmay hlw
      have hcl : (codesR (xs.take j) k).length ≤ 67108864 := by
        rw [codesR_length]
        have := totalR_le (xs.take j) k
        rw [List.length_take] at this
        omega
      go_wp2_with fail
      have HCC := HL.out.calls (R := fun e => e = .returned (.int .i64 (putRErr x k))) fun v1 h1 => rput_any wr p v1 (L ++ codesR (xs.take j) k) x k h1 (by rw [List.length_append]; omega) HXE.out.2.1
      rw [show putRErr x k = 0 by simp [putRErr, HX.out.1, HXE.out.2.2]] at HCC
      with_reducible refine HCC.mono ?_
      clear HCC
      rintro e w2 ⟨rfl, h2⟩
      have H2 := hid (show LW w p v (.slice (some ad) xs.length c) (u64s xs) (L ++ codesR (xs.take (j + 1)) k) w2 by
        rw [take_snocI xs j hjm, HXE.out.1]
        simp only [codesR, List.flatMap_append, List.flatMap_cons, List.flatMap_nil, List.append_nil]
        rw [← List.append_assoc]
        exact h2)
      clear h2
      go_wp2_with fail
      go_roundw
      case rel => exact ⟨j + 1, by omega, by go_num, H2.out⟩
      case measure => simp [intOf]; omega
    · have hin : ¬ (j : Int) < xs.length := by omega
      obtain rfl : j = xs.length := by omega
      clear hlw
      go_wp2_with fail
      go_ret
      have h := HL.out.wi
      rw [List.take_length] at h
      exact ⟨rfl, h⟩

/-- A guess at the parameter. -/
def allN (xs : List Nat) : Nat := xs.foldl (fun a u => addN a (min u 4611686018427387904)) 0
theorem allN_snoc (xs : List Nat) (x : Nat) : allN (xs ++ [x]) = addN (allN xs) (min x 4611686018427387904) := by simp [allN]
theorem allN_le (xs : List Nat) : allN xs ≤ 4611686018427387904 := by
  rcases List.eq_nil_or_concat xs with rfl | ⟨ys, y, rfl⟩
  · simp [allN]
  · rw [List.concat_eq_append, allN_snoc]
    exact addN_le _ _
def guessN (xs : List Nat) : Nat := if xs.length = 0 then 0 else min (wid (allN xs / xs.length)) 30

end Go.Proofs.Ytjboboaccjbebaa
