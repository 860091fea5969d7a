/- Layer 8: cost, Cost, Put; the reference's Span, Short, Code. -/
import Derived.Test.YtjboboaccjbebaaGreatMgC
import Derived.Test.YtjboboaccjbebaaGreatMgD
import Derived.Test.YtjboboaccjbebaaGreatMgE

namespace Go.Proofs.YtjboboaccjbebaaGreat
open Go.RowKit

theorem refspan_any (n : Nat) (w : World) : Calls Tryz.prog 53 #[.int .u64 (n : Int)] w fun e w' => e = .returned (.bool (spanB n)) ∧ w = w' := by
  by_cases h1 : 1 ≤ n
  · by_cases h2 : n ≤ 1099511627776
    · have e : spanB n = true := by unfold spanB; rw [decide_eq_true_iff]; omega
      rw [e]
      clear e
      go_enter Tryz.func53, Tryz.ntmps53
      go_wp2_with fail
      go_ret
      exact ⟨by first | (simp; done) | (simp; omega), rfl⟩
    · have e : spanB n = false := by unfold spanB; rw [decide_eq_false_iff_not]; omega
      rw [e]
      clear e
      go_enter Tryz.func53, Tryz.ntmps53
      go_wp2_with fail
      go_ret
      exact ⟨by first | (simp; done) | (simp; omega), rfl⟩
  · have e : spanB n = false := by unfold spanB; rw [decide_eq_false_iff_not]; omega
    rw [e]
    clear e
    go_enter Tryz.func53, Tryz.ntmps53
    go_wp2_with fail
    go_ret
    exact ⟨by first | (simp; done) | (simp; omega), rfl⟩

theorem refshort_any (n : Nat) (w : World) (h1 : 1 ≤ n) (hn : n ≤ 1099511627776) : Calls Tryz.prog 55 #[.int .u64 (n : Int)] w fun e w' => e = .returned (.int .u64 (eS n : Nat)) ∧ w = w' := by
  obtain ⟨hb, hs⟩ := eB_le n h1 hn
  have HC := refwidth_at ((n : Int) - 1) (n - 1) (by omega) w (by omega)
  rw [show wid (n - 1) = eB n from rfl] at HC
  have hes : eS n = 2 ^ eB n - n := rfl
  obtain ⟨b, hbe⟩ : ∃ b, eB n = b := ⟨_, rfl⟩
  rw [hbe] at hb hs HC hes
  have hp : 2 ^ b ≤ 2 ^ 40 := Nat.pow_le_pow_right (by omega) hb
  have HPW := power_at (b : Int) b rfl w (by omega)
  have e : (2 : Int) ^ b = ((2 ^ b : Nat) : Int) := (Int.natCast_pow 2 b).symm
  rw [e] at HPW
  obtain ⟨P, hP⟩ : ∃ P, 2 ^ b = P := ⟨_, rfl⟩
  rw [hP] at hs hes hp HPW
  rw [hes]
  clear e hP hes hbe
  replace hp : P ≤ 1099511627776 := hp
  replace HC := hid HC
  replace HPW := hid HPW
  have HE := hid (show ((P : Int) - n) = ((P - n : Nat) : Int) by omega)
  go_enter Tryz.func55, Tryz.ntmps55
  go_wp2_with fail
  with_reducible refine HC.out.mono ?_
  rintro e w1 ⟨rfl, rfl⟩
  go_wp2_with fail
  with_reducible refine HPW.out.mono ?_
  rintro e w1 ⟨rfl, rfl⟩
  go_wp2_with fail
  go_ret
  exact ⟨by rw [← HE.out]; rfl, rfl⟩

/-- The code of a number, if there is one. -/
def codeF (v n : Nat) : List Bool := if spanB n = true ∧ v < n then codeE v n else []
def costF (v n : Nat) : Nat := if spanB n = true ∧ v < n then costE v n else 0
theorem codeF_length (v n : Nat) : (codeF v n).length = costF v n := by
  unfold codeF costF
  split
  · exact codeE_length _ _
  · rfl
theorem codeE_one (v : Nat) : codeE v 1 = if v < 0 then bitsOf v (0 - 1) else bitsOf (v + 0) 0 := rfl

set_option maxRecDepth 100000 in
theorem refcode08_none (v n : Nat) (w : World) (h : ¬ (spanB n = true ∧ v < n) ∨ n = 1) :
    Calls Tryz.prog 26 #[.int .u64 (v : Int), .int .u64 (n : Int)] w fun e w' => e = .returned (.slice none 0 0) ∧ w = w' := by
  have HP := refspan_any n w
  have HH := hid h
  obtain ⟨b, hb⟩ : ∃ b, spanB n = b := ⟨_, rfl⟩
  rw [hb] at HP HH
  clear hb h
  replace HP := hid HP
  cases b
  · go_enter Tryz.func26, Tryz.ntmps26
    go_wp2_with fail
    with_reducible refine HP.out.mono ?_
    rintro e w1 ⟨rfl, rfl⟩
    go_wp2_with fail
    go_ret
    exact ⟨rfl, rfl⟩
  · by_cases hv : v < n
    · have h1 : n = 1 := by rcases HH.out with h | h; exact absurd ⟨rfl, hv⟩ h; exact h
      have hv' : ¬ (n : Int) ≤ v := by omega
      have hn1 : ((n : Int) == 1) = true := by rw [beq_iff_eq]; omega
      clear h1
      go_enter Tryz.func26, Tryz.ntmps26
      go_wp2_with fail
      with_reducible refine HP.out.mono ?_
      rintro e w1 ⟨rfl, rfl⟩
      go_wp2_with fail
      go_ret
      exact ⟨rfl, rfl⟩
    · have hv' : (n : Int) ≤ v := by omega
      go_enter Tryz.func26, Tryz.ntmps26
      go_wp2_with fail
      with_reducible refine HP.out.mono ?_
      rintro e w1 ⟨rfl, rfl⟩
      go_wp2_with fail
      go_ret
      exact ⟨rfl, rfl⟩

set_option maxRecDepth 100000 in
theorem refcode08_ok (v n : Nat) (w : World) (h1 : 1 < n) (hn : n ≤ 1099511627776) (hv : v < n) :
    Calls Tryz.prog 26 #[.int .u64 (v : Int), .int .u64 (n : Int)] w (CodeS w (codeE v n) (costE v n)) := by
  have HP := refspan_any n w
  rw [(spanB_iff n).2 ⟨by omega, hn⟩] at HP
  replace HP := hid HP
  have HW := refwidth_at ((n : Int) - 1) (n - 1) (by omega) w (by omega)
  rw [show wid (n - 1) = eB n from rfl] at HW
  have HS := refshort_any n w (by omega) hn
  obtain ⟨hf1, hf2, hf3⟩ := eS_fits (v := v) (by omega) hn hv
  have hb := (eB_le n (by omega) hn).1
  have HC := hid (And.intro (codeE.eq_1 v n) (costE.eq_1 v n))
  obtain ⟨b, hbe⟩ : ∃ b, eB n = b := ⟨_, rfl⟩
  obtain ⟨s, hse⟩ : ∃ s, eS n = s := ⟨_, rfl⟩
  rw [hbe] at hf1 hf2 hf3 hb HC HW
  rw [hse] at hf1 hf2 HC HS
  replace HW := hid HW
  replace HS := hid HS
  have hsb : v + s < 1099511627776 := by omega
  have hv' : ¬ (n : Int) ≤ v := by omega
  have hn1 : ((n : Int) == 1) = false := by rw [beq_eq_false_iff_ne]; omega
  clear hf2 hf3 hbe hse
  by_cases hlt : v < s
  · have hlt' : (v : Int) < s := by omega
    have hb1 := (hf1 hlt).1
    clear hf1
    go_enter Tryz.func26, Tryz.ntmps26
    go_wp2_with fail
    with_reducible refine HP.out.mono ?_
    rintro e w1 ⟨rfl, rfl⟩
    go_wp2_with fail
    with_reducible refine HW.out.mono ?_
    rintro e w1 ⟨rfl, rfl⟩
    go_wp2_with fail
    with_reducible refine HS.out.mono ?_
    rintro e w1 ⟨rfl, rfl⟩
    go_wp2_with fail
    have HCC := bits_sl (v : Int) ((b : Int) - 1) v (b - 1) rfl (by omega) w (by omega) (by omega)
    with_reducible refine HCC.mono ?_
    clear HCC
    rintro e w1 ⟨A1, c1, rfl, hf⟩
    have HF := hid hf
    clear hf
    go_wp2_with fail
    go_ret
    rw [HC.out.1, HC.out.2, if_pos hlt, if_pos hlt]
    exact ⟨A1, c1, rfl, HF.out⟩
  · have hlt' : ¬ (v : Int) < s := by omega
    clear hf1
    go_enter Tryz.func26, Tryz.ntmps26
    go_wp2_with fail
    with_reducible refine HP.out.mono ?_
    rintro e w1 ⟨rfl, rfl⟩
    go_wp2_with fail
    with_reducible refine HW.out.mono ?_
    rintro e w1 ⟨rfl, rfl⟩
    go_wp2_with fail
    with_reducible refine HS.out.mono ?_
    rintro e w1 ⟨rfl, rfl⟩
    go_wp2_with fail
    with_reducible refine HS.out.mono ?_
    rintro e w1 ⟨rfl, rfl⟩
    go_wp2_with fail
    have HCC := bits_sl ((v : Int) + s) (b : Int) (v + s) b (by omega) rfl w (by omega) (by omega)
    with_reducible refine HCC.mono ?_
    clear HCC
    rintro e w1 ⟨A1, c1, rfl, hf⟩
    have HF := hid hf
    clear hf
    go_wp2_with fail
    go_ret
    rw [HC.out.1, HC.out.2, if_neg hlt, if_neg hlt]
    exact ⟨A1, c1, rfl, HF.out⟩

theorem refcode08_any (v n : Nat) (w : World) :
    Calls Tryz.prog 26 #[.int .u64 (v : Int), .int .u64 (n : Int)] w (CodeS w (codeF v n) (costF v n)) := by
  by_cases h : ¬ (spanB n = true ∧ v < n) ∨ n = 1
  · have e2 : codeF v n = [] := by
      unfold codeF
      by_cases hh : spanB n = true ∧ v < n
      · have e : n = 1 := by rcases h with h | h; exact absurd hh h; exact h
        subst e
        rw [if_pos hh]
        obtain rfl : v = 0 := by omega
        decide +kernel
      · rw [if_neg hh]
    have e1 : costF v n = 0 := by rw [← codeF_length, e2]; rfl
    rw [e1, e2]
    refine (refcode08_none v n w h).mono ?_
    rintro e w' ⟨rfl, rfl⟩
    exact ⟨none, 0, rfl, ⟨World.ownsRow_nil _ _ _ _, .refl _ _, by simp [Value.ownBlock]⟩⟩
  · have hh : spanB n = true ∧ v < n := Decidable.byContradiction fun hc => h (.inl hc)
    have hs := (spanB_iff n).1 hh.1
    have e2 : codeF v n = codeE v n := by unfold codeF; rw [if_pos hh]
    have e1 : costF v n = costE v n := by unfold costF; rw [if_pos hh]
    rw [e1, e2]
    exact refcode08_ok v n w (by omega) hs.2 hh.2

set_option maxRecDepth 100000 in
theorem ecost_any (v n : Nat) (w : World) (h1 : 1 ≤ n) (hn : n ≤ 1099511627776) (hv : v < n) : Calls Tryz.prog 90 #[.int .u64 (v : Int), .int .u64 (n : Int)] w (DrawnI w (.int .i64 (costE v n : Nat))) := by
  have hf := (eS_fits h1 hn hv).1
  have hb := (eB_le n h1 hn).1
  have HP := hid (parts_any n w h1 hn)
  have HC := hid (costE.eq_1 v n)
  obtain ⟨b, hbe⟩ : ∃ b, eB n = b := ⟨_, rfl⟩
  obtain ⟨s, hse⟩ : ∃ s, eS n = s := ⟨_, rfl⟩
  rw [hbe] at hf hb HC HP
  rw [hse] at hf HC HP
  clear hbe hse
  by_cases hlt : v < s
  · have hlt' : (v : Int) < s := by omega
    have hb1 := (hf hlt).1
    have HB := hid (show ((b : Int) - 1) = ((b - 1 : Nat) : Int) by omega)
    clear hf
    go_enter Tryz.func90, Tryz.ntmps90
    go_wp2_with fail
    with_reducible refine HP.out.mono ?_
    rintro e w1 ⟨rfl, m, rfl⟩
    go_wp2_with fail
    go_ret
    rw [HC.out, if_pos hlt, ← HB.out]
    exact ⟨rfl, m, rfl⟩
  · have hlt' : ¬ (v : Int) < s := by omega
    clear hf
    go_enter Tryz.func90, Tryz.ntmps90
    go_wp2_with fail
    with_reducible refine HP.out.mono ?_
    rintro e w1 ⟨rfl, m, rfl⟩
    go_wp2_with fail
    go_ret
    rw [HC.out, if_neg hlt]
    exact ⟨rfl, m, rfl⟩

theorem eCost_any (v n : Nat) (w : World) : Calls Tryz.prog 71 #[.int .u64 (v : Int), .int .u64 (n : Int)] w (DrawnI w (.int .i64 (costF v n : Nat))) := by
  have HP := span_any n w
  have HC := hid (costF.eq_1 v n)
  have HX := hid (spanB_iff n)
  have HE := hid (fun h1 h2 h3 => ecost_any v n w h1 h2 h3)
  obtain ⟨b, hb⟩ : ∃ b, spanB n = b := ⟨_, rfl⟩
  rw [hb] at HP HC HX
  replace HP := hid HP
  clear hb
  cases b
  · go_enter Tryz.func71, Tryz.ntmps71
    go_wp2_with fail
    with_reducible refine HP.out.mono ?_
    rintro e w1 ⟨rfl, rfl⟩
    go_wp2_with fail
    go_ret
    rw [HC.out, if_neg (by simp)]
    exact ⟨rfl, 0, rfl⟩
  · by_cases hv : v < n
    · have hv' : ¬ (n : Int) ≤ v := by omega
      obtain ⟨h1, h2⟩ := HX.out.1 (by simp)
      have HEE := hid (HE.out h1 h2 hv)
      clear HE h1 h2
      go_enter Tryz.func71, Tryz.ntmps71
      go_wp2_with fail
      with_reducible refine HP.out.mono ?_
      rintro e w1 ⟨rfl, rfl⟩
      go_wp2_with fail
      with_reducible refine HEE.out.mono ?_
      rintro e w1 ⟨rfl, m, rfl⟩
      go_wp2_with fail
      go_ret
      rw [HC.out, if_pos (by exact ⟨by simp, hv⟩)]
      exact ⟨rfl, m, rfl⟩
    · have hv' : (n : Int) ≤ v := by omega
      have HV := hid hv
      go_enter Tryz.func71, Tryz.ntmps71
      go_wp2_with fail
      with_reducible refine HP.out.mono ?_
      rintro e w1 ⟨rfl, rfl⟩
      go_wp2_with fail
      go_ret
      rw [HC.out, if_neg (fun h => HV.out h.2)]
      exact ⟨rfl, 0, rfl⟩
end Go.Proofs.YtjboboaccjbebaaGreat
/- Layer 8: Total; the reference's Codes, Below. -/
namespace Go.Proofs.YtjboboaccjbebaaGreat
open Go.RowKit

/-- All codes, as far as there are any. -/
def codesF (xs : List Nat) (n : Nat) : List Bool := xs.flatMap fun u => codeF u n
theorem costF_le (v n : Nat) : costF v n ≤ 40 := by
  unfold costF
  split
  · have h := (spanB_iff n).1 (by rename_i h; exact h.1)
    exact costE_le v h.1 h.2
  · omega
theorem codesF_le (xs : List Nat) (n : Nat) : (codesF xs n).length ≤ xs.length * 40 := by
  induction xs with
  | nil => simp [codesF]
  | cons y ys ih =>
    have h := costF_le y n
    have e : codesF (y :: ys) n = codeF y n ++ codesF ys n := rfl
    rw [e, List.length_append, codeF_length, List.length_cons]
    omega
theorem codesF_snoc (xs : List Nat) (x n : Nat) : codesF (xs ++ [x]) n = codesF xs n ++ codeF x n := by simp [codesF]

theorem etotal_any (l : Value) (xs : List Nat) (n : Nat) (w : World) (hl : Sl w l (u64s xs)) (hn : xs.length ≤ 1048576) :
    Calls Tryz.prog 40 #[l, .int .u64 (n : Int)] w (DrawnI w (.int .i64 ((codesF xs n).length : Int))) := by
  obtain ⟨A, c, rfl, hm⟩ := u64s_form hl
  have H := hid hl
  clear hl
  go_enter Tryz.func40, Tryz.ntmps40
  go_wp2_with fail
  go_loopw [5, 7, 10] (fun s _ i wr => ∃ k t d : Nat, k ≤ xs.length ∧ i = .int .i64 k ∧ s = .int .i64 t ∧ t ≤ 41943040 ∧ Hid (t = (codesF (xs.take k) n).length) ∧ wr = w.drewN d) (fun _ _ i _ => xs.length - (intOf i).toNat)
  case atStart => exact ⟨0, 0, 0, by omega, rfl, rfl, by omega, rfl, rfl⟩
  case round =>
    obtain ⟨k, t, d, hk, rfl, rfl, ht, hd, rfl⟩ := hrel
    by_cases hkm : k < xs.length
    · have hin : (k : Int) < xs.length := by omega
      obtain ⟨ad, rfl, hc⟩ := u64s_at H.out hkm
      obtain ⟨x, hx⟩ : ∃ x, xs[k] = x := ⟨_, rfl⟩
      rw [hx] at hc
      have HX := hid hx
      clear hx
      have HK := hid (codeF_length x n)
      have hyl := costF_le x n
      have HC := eCost_any x n (w.drewN d)
      obtain ⟨y, hy⟩ : ∃ y, costF x n = y := ⟨_, rfl⟩
      rw [hy] at HC HK hyl
      clear hy
      go_wp2_with fail
      with_reducible refine HC.mono ?_
      clear HC
      rintro e w2 ⟨rfl, d2, hw2⟩
      rw [World.drewN_drewN] at hw2
      go_wp2_with fail
      go_roundw
      case rel =>
        have hs : t + y = (codesF (xs.take (k + 1)) n).length := by rw [take_snocI xs k hkm, codesF_snoc, List.length_append, HX.out, HK.out, ← hd.out]
        have hle := codesF_le (xs.take (k + 1)) n
        rw [List.length_take] at hle
        exact ⟨k + 1, t + y, _, by omega, by go_num, by go_num, by omega, hs, rfl⟩
      case measure => simp [intOf]; omega
    · have hin : ¬ (k : Int) < xs.length := by omega
      obtain rfl : k = xs.length := by omega
      go_wp2_with fail
      go_ret
      have h := hd.out
      rw [List.take_length] at h
      exact ⟨by rw [← h]; rfl, d, rfl⟩
end Go.Proofs.YtjboboaccjbebaaGreat
/- Layer 21: beyond, refused, span, lifted, costs, Cost. -/
namespace Go.Proofs.YtjboboaccjbebaaGreat
open Go.RowKit

/-- Is a number within a bound? -/
def inB (b : Nat) (x : Int) : Bool := decide (-(b : Int) ≤ x ∧ x ≤ (b : Int))
theorem inB_iff (b : Nat) (x : Int) : inB b x = true ↔ -(b : Int) ≤ x ∧ x ≤ (b : Int) := by unfold inB; rw [decide_eq_true_iff]
theorem inB_no {b : Nat} {x : Int} (h : ¬ (-(b : Int) ≤ x ∧ x ≤ (b : Int))) : inB b x = false := by unfold inB; rw [decide_eq_false_iff_not]; exact h
theorem beyond_any (x : Int) (b : Nat) (w : World) (hb : b ≤ 2147483648) : Calls Tryz.prog 38 #[.int .i64 x, .int .i64 (b : Int)] w fun e w' => e = .returned (.bool (!inB b x)) ∧ w = w' := by
  have hwn : IntKind.i64.wrap (-(b : Int)) = -(b : Int) := IntWalk.i64_in _ (by omega)
  by_cases h1 : x < -(b : Int)
  · have HD := hid (inB_no (b := b) (x := x) (by omega))
    go_enter Tryz.func38, Tryz.ntmps38
    go_wp2_with fail
    go_ret
    exact ⟨by rw [HD.out]; rfl, rfl⟩
  · by_cases h2 : (b : Int) < x
    · have HD := hid (inB_no (b := b) (x := x) (by omega))
      go_enter Tryz.func38, Tryz.ntmps38
      go_wp2_with fail
      go_ret
      exact ⟨by rw [HD.out]; rfl, rfl⟩
    · have HD := hid ((inB_iff b x).2 (by omega))
      go_enter Tryz.func38, Tryz.ntmps38
      go_wp2_with fail
      go_ret
      exact ⟨by rw [HD.out]; rfl, rfl⟩
theorem ref1_any (g : Nat) (x : Int) (b : Nat) (w : World) (hb : b ≤ 2147483648) (hc : w.cell? ⟨g, 0, none⟩ = some (.int .i64 (b : Int))) : Calls Tryz.prog 37 #[.int .i64 x, .pointer (some ⟨g, 0, none⟩)] w fun e w' => e = .returned (.bool (!inB b x)) ∧ w = w' := by
  have HB := hid (beyond_any x b w hb)
  go_enter Tryz.func37, Tryz.ntmps37
  go_wp2_with fail
  with_reducible refine HB.out.mono ?_
  rintro e w1 ⟨rfl, rfl⟩
  go_wp2_with fail
  go_ret
  exact ⟨rfl, rfl⟩
theorem enters_ref1 : ∀ args w, (callFunc 37 args).run Tryz.prog w = .ok (.enter 37 args) w := enters_of Tryz.func37 (by kernel_rfl) rfl
theorem any_beyond (b : Nat) (xs : List Int) : xs.any (fun x => !inB b x) = !withinB b xs := by
  rw [show withinB b xs = xs.all (inB b) from rfl, List.not_all_eq_any_not]
/-- Why numbers are not coded. -/
def boundB (b : Int) : Bool := decide (0 ≤ b ∧ b ≤ 2147483648)
def refE (l : List Int) (b : Int) : Int := if boundB b = true then (if 65536 < l.length then 4 else if withinB b.toNat l = true then 0 else 37) else 1
theorem boundB_iff (b : Int) : boundB b = true ↔ 0 ≤ b ∧ b ≤ 2147483648 := by unfold boundB; rw [decide_eq_true_iff]
theorem cknown_any (b : Int) (w : World) : Calls Tryz.prog 31 #[.int .i64 b] w fun e w' => e = .returned (.bool (boundB b)) ∧ w = w' := by
  by_cases h0 : 0 ≤ b
  · by_cases h1 : b ≤ 2147483648
    · have HD := hid (show boundB b = true from (boundB_iff b).2 ⟨h0, h1⟩)
      go_enter Tryz.func31, Tryz.ntmps31
      go_wp2_with fail
      go_ret
      exact ⟨by rw [HD.out]; rfl, rfl⟩
    · have HD := hid (show boundB b = false by unfold boundB; rw [decide_eq_false_iff_not]; omega)
      go_enter Tryz.func31, Tryz.ntmps31
      go_wp2_with fail
      go_ret
      exact ⟨by rw [HD.out]; rfl, rfl⟩
  · have HD := hid (show boundB b = false by unfold boundB; rw [decide_eq_false_iff_not]; omega)
    go_enter Tryz.func31, Tryz.ntmps31
    go_wp2_with fail
    go_ret
    exact ⟨by rw [HD.out]; rfl, rfl⟩

set_option maxRecDepth 100000 in
set_option maxHeartbeats 4000000 in
theorem refused_long (A : Option Addr) (n c b : Nat) (w : World) (hb : b ≤ 2147483648) (hn : 65536 < n) :
    Calls Tryz.prog 18 #[.slice A n c, .int .i64 (b : Int)] w fun e w' => e = .returned (.int .i64 4) ∧ Below w.heap.size w w' := by
  have HK := hid (fun W => cknown_any (b : Int) W)
  rw [(boundB_iff (b : Int)).2 (by omega)] at HK
  have h0 := hid ((Below.refl w.heap.size w).alloc (Nat.le_refl _) (.cells #[.int .i64 (b : Int)] 3))
  have hn' : (65536 : Int) < n := by omega
  go_enter Tryz.func18, Tryz.ntmps18
  go_wp2_with fail
  with_reducible refine (HK.out _).mono ?_
  rintro e w1 ⟨rfl, rfl⟩
  go_wp2_with fail
  go_ret
  exact ⟨rfl, h0.out⟩

set_option maxRecDepth 100000 in
set_option maxHeartbeats 4000000 in
theorem refused_any (l : Value) (xs : List Int) (b : Int) (w : World) (hl : Sl w l (i64s xs)) :
    Calls Tryz.prog 18 #[l, .int .i64 b] w fun e w' => e = .returned (.int .i64 (refE xs b)) ∧ Below w.heap.size w w' := by
  by_cases hb : boundB b = true
  · have hb2 := (boundB_iff b).1 hb
    obtain ⟨b, rfl⟩ := Int.eq_ofNat_of_zero_le hb2.1
    have hbn : b ≤ 2147483648 := by omega
    have HE := hid (refE.eq_1 xs (b : Int))
    rw [if_pos hb, Int.toNat_natCast] at HE
    by_cases hn : 65536 < xs.length
    · obtain ⟨A, c, rfl, _⟩ := i64s_form hl
      rw [HE.out, if_pos hn]
      exact refused_long A xs.length c b w hbn hn
    rw [if_neg hn] at HE
    have HK := hid (fun W => cknown_any (b : Int) W)
    rw [hb] at HK
    have hbel := (Below.refl w.heap.size w).alloc (Nat.le_refl _) (.cells #[.int .i64 (b : Int)] 3)
    have hblk := Blk.new w 3 #[.int .i64 (b : Int)]
    have HC := hid (contains_any 37 #[.pointer (some ⟨w.heap.size, 0, none⟩)] enters_ref1 (fun x => !inB b x) (fun _ => True) l xs (w.alloc (.cells #[.int .i64 (b : Int)] 3)) (hl.below hbel) (fun _ _ => trivial) (fun x n _ => (ref1_any w.heap.size x b _ hbn (by simp [(hblk.drewN n).cell 0])).mono fun _ _ ⟨he, hw⟩ => ⟨he, 0, hw.symm⟩))
    rw [any_beyond] at HC
    obtain ⟨A, c, rfl, _⟩ := i64s_form hl
    obtain ⟨d, hd⟩ : ∃ d, withinB b xs = d := ⟨_, rfl⟩
    rw [hd] at HC HE
    have hn' : ¬ (65536 : Int) < xs.length := by omega
    have h0 := hid hbel
    clear hb hb2 hl hd hbel hblk hn
    cases d
    · go_enter Tryz.func18, Tryz.ntmps18
      go_wp2_with fail
      with_reducible refine (HK.out _).mono ?_
      rintro e w1 ⟨rfl, rfl⟩
      go_wp2_with fail
      with_reducible refine HC.out.mono ?_
      rintro e w2 ⟨rfl, n2, rfl⟩
      go_wp2_with fail
      go_ret
      exact ⟨by rw [HE.out]; rfl, below_drewN' h0.out n2⟩
    · go_enter Tryz.func18, Tryz.ntmps18
      go_wp2_with fail
      with_reducible refine (HK.out _).mono ?_
      rintro e w1 ⟨rfl, rfl⟩
      go_wp2_with fail
      with_reducible refine HC.out.mono ?_
      rintro e w2 ⟨rfl, n2, rfl⟩
      go_wp2_with fail
      go_ret
      exact ⟨by rw [HE.out]; rfl, below_drewN' h0.out n2⟩
  · have HE := hid (refE.eq_1 xs b)
    rw [if_neg hb] at HE
    have HK := hid (fun W => cknown_any b W)
    rw [show boundB b = false by simpa using hb] at HK
    have h0 := hid ((Below.refl w.heap.size w).alloc (Nat.le_refl _) (.cells #[.int .i64 b] 3))
    obtain ⟨A, c, rfl, _⟩ := i64s_form hl
    clear hb hl
    go_enter Tryz.func18, Tryz.ntmps18
    go_wp2_with fail
    with_reducible refine (HK.out _).mono ?_
    rintro e w1 ⟨rfl, rfl⟩
    go_wp2_with fail
    go_ret
    exact ⟨by rw [HE.out]; rfl, h0.out⟩

theorem cspan_any (b : Nat) (w : World) (hb : b ≤ 2147483648) : Calls Tryz.prog 25 #[.int .i64 (b : Int)] w fun e w' => e = .returned (.int .u64 ((2 * b + 1 : Nat) : Int)) ∧ w = w' := by
  have h1 : IntKind.u64.wrap (b : Int) = (b : Int) := IntWalk.u64_in _ (by omega)
  have h2 : IntKind.u64.wrap (2 * (b : Int)) = ((2 * b : Nat) : Int) := by rw [IntWalk.u64_in _ (by omega)]; omega
  have h3 : IntKind.u64.wrap (((2 * b : Nat) : Int) + 1) = ((2 * b + 1 : Nat) : Int) := by rw [IntWalk.u64_in _ (by omega)]; omega
  obtain ⟨d, hd⟩ : ∃ d, 2 * b = d := ⟨_, rfl⟩
  rw [hd] at h2 h3 ⊢
  obtain ⟨f, hf⟩ : ∃ f, d + 1 = f := ⟨_, rfl⟩
  rw [hf] at h3 ⊢
  clear hd hf
  go_enter Tryz.func25, Tryz.ntmps25
  go_wp2_with fail
  go_ret
  exact ⟨rfl, rfl⟩
end Go.Proofs.YtjboboaccjbebaaGreat
/- Layer 21: lifted, costs, Cost. -/
namespace Go.Proofs.YtjboboaccjbebaaGreat
open Go.RowKit

theorem centre21 (x : Int) (b u : Nat) (w : World) (hb : b ≤ 274877906944) (h1 : ¬ x < -(b : Int)) (h2 : ¬ (b : Int) < x) (hu : x + b = (u : Int)) : Calls Tryz.prog 52 #[.int .i64 x, .int .i64 (b : Int)] w fun e w' => e = .returned (.tuple #[.int .u64 (u : Int), .int .i64 0]) ∧ w = w' := by
  have HU := hid hu
  clear hu
  go_enter Tryz.func52, Tryz.ntmps52
  go_wp2_with fail
  go_ret2
  exact ⟨by rw [← HU.out]; rfl, rfl⟩
theorem liftN_snoc (b : Nat) (xs : List Int) (x : Int) : liftN b (xs ++ [x]) = liftN b xs ++ [(x + (b : Int)).toNat] := by simp [liftN]
theorem codesF_within {b : Nat} {l : List Int} (hb : b ≤ 2147483648) (h : withinB b l = true) : codesF (liftN b l) (2 * b + 1) = evenC b l := by
  have hs : spanB (2 * b + 1) = true := (spanB_iff _).2 ⟨by omega, by omega⟩
  unfold codesF evenC codesE
  have e : ∀ xs : List Nat, (∀ u ∈ xs, u < 2 * b + 1) → xs.flatMap (fun u => codeF u (2 * b + 1)) = xs.flatMap (fun u => codeE u (2 * b + 1)) := by
    intro xs
    induction xs with
    | nil => intro _; rfl
    | cons u xs ih =>
      intro hx
      rw [List.flatMap_cons, List.flatMap_cons, ih fun v hv => hx v (List.mem_cons_of_mem _ hv)]
      congr 1
      unfold codeF
      rw [if_pos ⟨hs, hx u (List.mem_cons_self ..)⟩]
  exact e _ (lift_lt h)
theorem evenC_le {b : Nat} {l : List Int} (hb : b ≤ 2147483648) (h : withinB b l = true) : (evenC b l).length ≤ l.length * 40 := by
  rw [← codesF_within hb h]
  have := codesF_le (liftN b l) (2 * b + 1)
  rwa [liftN_length] at this
theorem leastW_bd {xs : List Int} (hx : InI xs) (hn : xs.length ≤ 65536) : leastW xs ≤ 400000000 := by
  have hc64 : ∀ k : Nat, costW xs (k : Int) ≤ 400000000 := fun k => by
      unfold costW
      split
      · rename_i h
        obtain ⟨q, e, hq⟩ := orderB_nat h.2
        have := partsN_bd hx hn (Int.toNat (k : Int)) (2 ^ Int.toNat (k : Int))
        rw [Int.toNat_natCast] at this ⊢
        have : 2 ^ k ≤ 2 ^ 6 := Nat.pow_le_pow_right (by omega) (by omega)
        omega
      · omega
  exact hc64 _
theorem within_may {b : Nat} {l : List Int} (hb : b ≤ 2147483648) (hn : l.length ≤ 65536) (h : withinB b l = true) : mayL l = true := by
  rw [mayL_coded hn]
  exact within_coded hb h

def LiftS (w : World) (b : Nat) (xs : List Int) (e : Ending) (w' : World) : Prop := ∃ A c, e = .returned (.slice A xs.length c) ∧ FreshU w (liftN b xs) (.slice A xs.length c) w'
set_option maxRecDepth 100000 in
set_option maxHeartbeats 1600000 in
theorem lifted_any (l : Value) (xs : List Int) (b : Nat) (w : World) (hl : Sl w l (i64s xs)) (hn : xs.length ≤ 65536) (hb : b ≤ 2147483648) (hw : withinB b xs = true) : Calls Tryz.prog 24 #[l, .int .i64 (b : Int)] w (LiftS w b xs) := by
  obtain ⟨A, c, rfl, hm⟩ := i64s_form hl
  have hmk := fun W => make_uint xs.length (by omega) W
  have H := hid (And.intro hl (fun x (h : x ∈ xs) => within_at hw h))
  clear hl hw
  go_enter Tryz.func24, Tryz.ntmps24
  go_wp2_with fail
  clear hmk
  go_loopw [13] (fun i wr => ∃ j m : Nat, j + m = xs.length ∧ i = .int .i64 j ∧ Hid (Blk wr w.heap.size 51 (u64s (liftN b (xs.take j) ++ List.replicate m 0)).toArray) ∧ Hid (Below w.heap.size w wr)) (fun i _ => xs.length - (intOf i).toNat)
  case atStart => exact ⟨0, xs.length, by omega, rfl, by rw [made_zeroU]; simpa [liftN, Hid] using Blk.new w _ _, (Below.refl _ _).alloc (Nat.le_refl _) _⟩
  case round =>
    obtain ⟨j, m, hjm, rfl, hblk, hbel⟩ := hrel
    rcases m with _ | m
    · have hin : ¬ (j : Int) < xs.length := by omega
      obtain rfl : j = xs.length := by omega
      go_wp2_with fail
      go_ret
      have h := hblk.out
      rw [List.take_length, List.replicate_zero, List.append_nil] at h
      exact ⟨_, _, rfl, blk_freshU h (liftN_length b xs) (by omega) hbel.out (Nat.le_refl _)⟩
    · have hin : (j : Int) < xs.length := by omega
      have hjx : j < xs.length := by omega
      obtain ⟨ad, rfl, hc⟩ := i64s_at (H.out.1.below hbel.out) hjx
      have hxb := H.out.2 xs[j] (List.getElem_mem _)
      have hlz : (liftN b (xs.take j)).length = j := by rw [liftN_length, List.length_take]; omega
      have hcb := hblk.out.cell j
      have hfb := hblk.out.frozen j
      rw [u64s_get _ _ _ hlz] at hcb
      obtain ⟨x, hxe⟩ : ∃ x, xs[j] = x := ⟨_, rfl⟩
      rw [hxe] at hc hxb
      have HX := hid (And.intro hxe hlz)
      have HZ := hid (centre21 x b (x + (b : Int)).toNat wr (by omega) (by omega) (by omega) (by omega))
      obtain ⟨z, hz⟩ : ∃ z, (x + (b : Int)).toNat = z := ⟨_, rfl⟩
      rw [hz] at HZ
      have HZZ := hid hz
      clear hxe hlz hz hxb
      go_wp2_with fail
      with_reducible refine HZ.out.mono ?_
      rintro e w1 ⟨rfl, rfl⟩
      go_wp2_with fail
      go_roundw
      case rel =>
        refine ⟨j + 1, m, by omega, by go_num, ?_, hbel.out.setCell (by simp) _⟩
        have h := hblk.out.upd j (.int .u64 (z : Int))
        rw [u64s_store _ _ _ _ HX.out.2] at h
        show Blk _ _ _ _
        rw [take_snocI xs j hjx, liftN_snoc, HX.out.1, HZZ.out]
        exact h
      case measure => simp [intOf]; omega

set_option maxRecDepth 100000 in
set_option maxHeartbeats 1600000 in
theorem costs_any (l : Value) (xs : List Int) (b : Nat) (w : World) (hl : Sl w l (i64s xs)) (hx : InI xs) (hn : xs.length ≤ 65536) (hb : b ≤ 2147483648) (hw : withinB b xs = true) : Calls Tryz.prog 19 #[l, .int .i64 (b : Int)] w
    fun e w' => e = .returned (.tuple #[.int .i64 ((1 + (evenC b xs).length : Nat) : Int), .int .i64 ((1 + leastW xs : Nat) : Int), .int .i64 (ordL xs : Int)]) ∧ Below w.heap.size w w' := by
  have HO := hid (pOrder_any l xs w hl hx)
  have hox : orderX xs = (ordL xs, leastW xs) := by unfold orderX; rw [if_pos (within_may hb hn hw)]
  rw [hox] at HO
  have HLI := hid (fun W (h : Sl W l (i64s xs)) => lifted_any l xs b W h hn hb hw)
  have HSP := hid (fun W => cspan_any b W hb)
  have HTO := hid (fun W z (h : Sl W z (u64s (liftN b xs))) => etotal_any z (liftN b xs) (2 * b + 1) W h (by rw [liftN_length]; omega))
  simp only [codesF_within hb hw] at HTO
  obtain ⟨sp, hsp⟩ : ∃ sp, 2 * b + 1 = sp := ⟨_, rfl⟩
  simp only [hsp] at HSP HTO
  clear hsp
  have h1 := evenC_le hb hw
  have h2 := leastW_bd hx hn
  obtain ⟨E, hE⟩ : ∃ E, (evenC b xs).length = E := ⟨_, rfl⟩
  rw [hE] at h1 ⊢
  simp only [hE] at HTO
  obtain ⟨L, hL⟩ : ∃ L, leastW xs = L := ⟨_, rfl⟩
  rw [hL] at h2 HO ⊢
  have w1 : IntKind.i64.wrap (1 + (E : Int)) = ((1 + E : Nat) : Int) := by rw [IntWalk.i64_in _ (by omega)]; omega
  have w2 : IntKind.i64.wrap (1 + (L : Int)) = ((1 + L : Nat) : Int) := by rw [IntWalk.i64_in _ (by omega)]; omega
  obtain ⟨E1, hE1⟩ : ∃ E1, 1 + E = E1 := ⟨_, rfl⟩
  obtain ⟨L1, hL1⟩ : ∃ L1, 1 + L = L1 := ⟨_, rfl⟩
  rw [hE1] at w1 ⊢
  rw [hL1] at w2 ⊢
  have H := hid hl
  obtain ⟨A, c, rfl, hm⟩ := i64s_form hl
  clear hl hx hw hox hE hL hE1 hL1
  go_enter Tryz.func19, Tryz.ntmps19
  go_wp2_with fail
  with_reducible refine HO.out.mono ?_
  rintro e w3 ⟨rfl, hb3⟩
  have H3 := hid hb3
  clear hb3
  go_wp2_with fail
  with_reducible refine (HLI.out _ (H.out.below H3.out)).mono ?_
  rintro e w4 ⟨A4, c4, rfl, hf4⟩
  have H4 := hid (And.intro (H3.out.trans (hf4.2.1.mono H3.out.size)) hf4.sl)
  clear hf4
  go_wp2_with fail
  with_reducible refine (HSP.out _).mono ?_
  rintro e w5 ⟨rfl, rfl⟩
  go_wp2_with fail
  with_reducible refine (HTO.out _ _ H4.out.2).mono ?_
  rintro e w6 ⟨rfl, n6, rfl⟩
  go_wp2_with fail
  refine bodyPost_ret (results_tmp3 rfl _ _ _) rfl ?_
  exact ⟨rfl, below_drewN' H4.out.1 n6⟩

def corrC (xs : List Int) (b : Int) : Nat := if refE xs b = 0 then (codeB b.toNat xs).length else 0
theorem refE_zero {xs : List Int} {b : Int} (h : refE xs b = 0) : ∃ q : Nat, b = (q : Int) ∧ q ≤ 2147483648 ∧ xs.length ≤ 65536 ∧ withinB q xs = true := by
  unfold refE at h
  split at h
  · rename_i hb
    have hb := (boundB_iff b).1 hb
    split at h
    · cases h
    · split at h
      · exact ⟨b.toNat, by omega, by omega, by omega, by assumption⟩
      · cases h
  · cases h

set_option maxRecDepth 100000 in
set_option maxHeartbeats 1600000 in
theorem corrCost_any (l : Value) (xs : List Int) (b : Int) (w : World) (hl : Sl w l (i64s xs)) (hx : InI xs) : Calls Tryz.prog 7 #[l, .int .i64 b] w
    fun e w' => e = .returned (.tuple #[.int .i64 (corrC xs b : Nat), .int .i64 (refE xs b)]) ∧ Below w.heap.size w w' := by
  have HR := hid (refused_any l xs b w hl)
  by_cases h0 : refE xs b = 0
  · obtain ⟨q, rfl, hq, hn, hw⟩ := refE_zero h0
    have HC := hid (fun W (h : Sl W l (i64s xs)) => costs_any l xs q W h hx hn hq hw)
    have hcc : corrC xs (q : Int) = min (1 + (evenC q xs).length) (1 + leastW xs) := by
      unfold corrC
      rw [if_pos h0, Int.toNat_natCast, codeB_length (within_may hq hn hw)]
    rw [h0] at HR ⊢
    rw [hcc]
    obtain ⟨E, hE⟩ : ∃ E, 1 + (evenC q xs).length = E := ⟨_, rfl⟩
    obtain ⟨L, hL⟩ : ∃ L, 1 + leastW xs = L := ⟨_, rfl⟩
    simp only [hE, hL] at HC
    rw [hE, hL]
    have hmin : min (E : Int) (L : Int) = ((min E L : Nat) : Int) := by omega
    obtain ⟨M, hM⟩ : ∃ M, min E L = M := ⟨_, rfl⟩
    rw [hM] at hmin ⊢
    have H := hid hl
    obtain ⟨A, c, rfl, hm⟩ := i64s_form hl
    clear hl hx h0 hw hcc hE hL hM
    go_enter Tryz.func7, Tryz.ntmps7
    go_wp2_with fail
    with_reducible refine HR.out.mono ?_
    rintro e w1 ⟨rfl, hb1⟩
    have H1 := hid hb1
    clear hb1
    go_wp2_with fail
    with_reducible refine (HC.out _ (H.out.below H1.out)).mono ?_
    rintro e w2 ⟨rfl, hb2⟩
    have H2 := hid (H1.out.trans (hb2.mono H1.out.size))
    clear hb2
    go_wp2_with fail
    go_ret2
    exact ⟨rfl, H2.out⟩
  · have hcc : corrC xs b = 0 := by unfold corrC; rw [if_neg h0]
    rw [hcc]
    obtain ⟨x, hxx⟩ : ∃ x, refE xs b = x := ⟨_, rfl⟩
    rw [hxx] at HR h0 ⊢
    have hne : (x != 0) = true := by rw [bne_iff_ne]; exact h0
    obtain ⟨A, c, rfl, hm⟩ := i64s_form hl
    clear hl hx h0 hcc hxx
    go_enter Tryz.func7, Tryz.ntmps7
    go_wp2_with fail
    with_reducible refine HR.out.mono ?_
    rintro e w1 ⟨rfl, hb1⟩
    have H1 := hid hb1
    clear hb1
    go_wp2_with fail
    go_ret2
    exact ⟨rfl, H1.out⟩
end Go.Proofs.YtjboboaccjbebaaGreat
/- Layer 21: Put. -/
namespace Go.Proofs.YtjboboaccjbebaaGreat
open Go.RowKit

theorem LW.later {w0 wr w1 : World} {p : Nat} {v l : Value} {xs : List Value} {L : List Bool} (h : LW w0 p v l xs L wr) (hb : Below wr.heap.size wr w1) : LW w0 p v l xs L w1 := ⟨h.wi.then_below hb, h.sl.below hb, h.ap⟩
theorem LW.calls2 {w0 wr : World} {p : Nat} {v l : Value} {xs : List Value} {L L' : List Bool} {f : FuncId} {args : Array Value} {R : Ending → Prop} (h : LW w0 p v l xs L wr)
    (k : ∀ v1, Wr wr p v1 L → (xs ≠ [] → ∀ g, l.ownBlock = some g → ¬ Foot p v1 g ∧ g < wr.heap.size) → Calls Tryz.prog f args wr fun e w3 => R e ∧ WI wr p v1 L' w3) : Calls Tryz.prog f args wr fun e w3 => R e ∧ LW w0 p v l xs L' w3 := by
  obtain ⟨v1, h1, hm, hk⟩ := h.wi
  refine (k v1 h1 fun hne g hg => ⟨fun hf => (h.ap hne g hg).1 (hm.foot (h.ap hne g hg).2 hf), Nat.lt_of_lt_of_le (h.ap hne g hg).2 hk.size⟩).mono ?_
  rintro e w3 ⟨he, v3, h3, hm3, hk3⟩
  exact ⟨he, ⟨v3, h3, hm.trans hk.size hm3, hk.trans hk3 fun i hi hf => hm.foot hi hf⟩, h.sl.kept' hk3 (fun hne g hg hf => (h.ap hne g hg).1 (hm.foot (h.ap hne g hg).2 hf)), h.ap⟩

set_option maxRecDepth 100000 in
theorem corrPut_nil (l : Value) (xs : List Int) (b : Int) (w : World) (hl : Sl w l (i64s xs)) : Calls Tryz.prog 6 #[.pointer none, l, .int .i64 b] w fun e w' => e = .returned (.int .i64 2) ∧ w = w' := by
  obtain ⟨A, c, rfl, hm⟩ := i64s_form hl
  clear hl
  go_enter Tryz.func6, Tryz.ntmps6
  go_wp2_with fail
  go_ret
  exact ⟨rfl, rfl⟩

set_option maxRecDepth 100000 in
theorem corrPut_bad (p : Nat) (l : Value) (xs : List Int) (b : Int) (w : World) (hl : Sl w l (i64s xs)) (h0 : refE xs b ≠ 0) : Calls Tryz.prog 6 #[.pointer (some ⟨p, 0, none⟩), l, .int .i64 b] w fun e w' => e = .returned (.int .i64 (refE xs b)) ∧ Below w.heap.size w w' := by
  have HR := hid (refused_any l xs b w hl)
  obtain ⟨x, hxx⟩ : ∃ x, refE xs b = x := ⟨_, rfl⟩
  rw [hxx] at HR h0 ⊢
  have hne : (x == 0) = false := by rw [beq_eq_false_iff_ne]; exact h0
  obtain ⟨A, c, rfl, hm⟩ := i64s_form hl
  clear hl h0 hxx
  go_enter Tryz.func6, Tryz.ntmps6
  go_wp2_with fail
  with_reducible refine HR.out.mono ?_
  rintro e w1 ⟨rfl, hb1⟩
  have H1 := hid hb1
  clear hb1
  go_wp2_with fail
  go_ret
  exact ⟨rfl, H1.out⟩

set_option maxRecDepth 100000 in
set_option maxHeartbeats 4000000 in
theorem corrPut_ok (p : Nat) (v : Value) (L : List Bool) (l : Value) (xs : List Int) (b : Nat) (w : World) (hw : Wr w p v L) (hL : L.length ≤ 90000000) (hl : Sl w l (i64s xs)) (hx : InI xs) (hap : i64s xs ≠ [] → ∀ g, l.ownBlock = some g → ¬ Foot p v g ∧ g < w.heap.size) (h0 : refE xs (b : Int) = 0) :
    Calls Tryz.prog 6 #[.pointer (some ⟨p, 0, none⟩), l, .int .i64 (b : Int)] w fun e w' => e = .returned (.int .i64 0) ∧ WI w p v (L ++ codeB b xs) w' := by
  have HR := hid (refused_any l xs (b : Int) w hl)
  rw [h0] at HR
  obtain ⟨q, hq, hb, hn, hwi⟩ := refE_zero h0
  obtain rfl : q = b := by omega
  have hcd := within_coded hb hwi
  have HC := hid (fun W (h : Sl W l (i64s xs)) => costs_any l xs q W h hx hn hb hwi)
  have HP := hid (fun W (h : LW w p v l (i64s xs) (L ++ [true]) W) => h.calls2 fun v1 h1 h2 => pPut_ok p v1 (L ++ [true]) l xs (ordL xs) W h1 (by rw [List.length_append]; simp; omega) h.sl hx hn h2 hcd (ordM_at (by omega) (ordL_le xs)))
  have HON := hid (fun W (h : LW w p v l (i64s xs) L W) => h.calls fun v1 h1 => ones_fit W p v1 L 1 1 rfl h1 (by omega) (by omega))
  have HZE := hid (fun W (h : LW w p v l (i64s xs) L W) => h.calls fun v1 h1 => zeros_fit W p v1 L 1 1 rfl h1 (by omega) (by omega))
  have HLI := hid (fun W (h : Sl W l (i64s xs)) => lifted_any l xs q W h hn hb hwi)
  have HSP := hid (fun W => cspan_any q W hb)
  have hsb : spanB (2 * q + 1) = true := (spanB_iff _).2 ⟨by omega, by omega⟩
  have hbl : belowB (liftN q xs) (2 * q + 1) = true := by unfold belowB; rw [List.all_eq_true]; intro u hu; rw [decide_eq_true_iff]; exact lift_lt hwi u hu
  have HPA := hid (fun W W0 z (hz : FreshU W0 (liftN q xs) z W) (h : LW w p v l (i64s xs) (L ++ [false]) W) => h.calls fun v1 h1 => eputall_ok p v1 (L ++ [false]) z (liftN q xs) (2 * q + 1) W h1 (by rw [List.length_append]; simp; omega) hz.sl (fun u hu => by have := lift_lt hwi u hu; omega) (by rw [liftN_length]; omega) (fun _ g hg => ⟨own_footU h1 hz.1 g hg, (hz.1.lt g hg).2⟩) hsb hbl)
  have HCB := hid (show L ++ codeB q xs = if 1 + leastW xs < 1 + (evenC q xs).length then L ++ [true] ++ wholeC xs (ordL xs) else L ++ [false] ++ codesE (liftN q xs) (2 * q + 1) from by
    unfold codeB
    by_cases h : leastW xs < (evenC q xs).length
    · rw [if_pos h, if_pos (by omega)]; simp
    · rw [if_neg h, if_neg (by omega)]; simp [evenC])
  obtain ⟨B, hB⟩ : ∃ B, L ++ codeB q xs = B := ⟨_, rfl⟩
  rw [hB] at HCB ⊢
  obtain ⟨sp, hsp⟩ : ∃ sp, 2 * q + 1 = sp := ⟨_, rfl⟩
  simp only [hsp] at HSP HPA HCB
  obtain ⟨E, hE⟩ : ∃ E, 1 + (evenC q xs).length = E := ⟨_, rfl⟩
  obtain ⟨M, hM⟩ : ∃ M, 1 + leastW xs = M := ⟨_, rfl⟩
  simp only [hE, hM] at HC HCB
  simp only [List.replicate_one] at HON HZE
  have H := hid (show LW w p v l (i64s xs) L w from ⟨hw.refl, hl, hap⟩)
  obtain ⟨A, c, rfl, hm⟩ := i64s_form hl
  clear hl hx h0 hwi hcd hw hap hsb hbl hB hsp hE hM hq
  by_cases hlt : M < E
  · have hlt' : (M : Int) < E := by omega
    rw [if_pos hlt] at HCB
    clear hlt HZE HPA HLI HSP
    go_enter Tryz.func6, Tryz.ntmps6
    go_wp2_with fail
    with_reducible refine HR.out.mono ?_
    rintro e w1 ⟨rfl, hb1⟩
    have H1 := hid (H.out.later hb1)
    clear hb1
    go_wp2_with fail
    with_reducible refine (HC.out _ H1.out.sl).mono ?_
    rintro e w2 ⟨rfl, hb2⟩
    have H2 := hid (H1.out.later hb2)
    clear hb2
    go_wp2_with fail
    with_reducible refine (HON.out _ H2.out).mono ?_
    rintro e w3 ⟨rfl, h3⟩
    have H3 := hid h3
    clear h3
    go_wp2_with fail
    with_reducible refine (HP.out _ H3.out).mono ?_
    rintro e w4 ⟨rfl, h4⟩
    have H4 := hid h4
    clear h4
    go_wp2_with fail
    go_ret
    exact ⟨rfl, by rw [HCB.out]; exact H4.out.wi⟩
  · have hlt' : ¬ (M : Int) < E := by omega
    rw [if_neg hlt] at HCB
    clear hlt HON HP
    go_enter Tryz.func6, Tryz.ntmps6
    go_wp2_with fail
    with_reducible refine HR.out.mono ?_
    rintro e w1 ⟨rfl, hb1⟩
    have H1 := hid (H.out.later hb1)
    clear hb1
    go_wp2_with fail
    with_reducible refine (HC.out _ H1.out.sl).mono ?_
    rintro e w2 ⟨rfl, hb2⟩
    have H2 := hid (H1.out.later hb2)
    clear hb2
    go_wp2_with fail
    with_reducible refine (HZE.out _ H2.out).mono ?_
    rintro e w3 ⟨rfl, h3⟩
    have H3 := hid h3
    clear h3
    go_wp2_with fail
    with_reducible refine (HLI.out _ H3.out.sl).mono ?_
    rintro e w4 ⟨A4, c4, rfl, hf4⟩
    have H4 := hid (And.intro (H3.out.later hf4.2.1) hf4)
    clear hf4
    go_wp2_with fail
    with_reducible refine (HSP.out _).mono ?_
    rintro e w5 ⟨rfl, rfl⟩
    go_wp2_with fail
    with_reducible refine (HPA.out _ _ _ H4.out.2 H4.out.1).mono ?_
    rintro e w6 ⟨rfl, h6⟩
    have H6 := hid h6
    clear h6
    go_wp2_with fail
    go_ret
    exact ⟨rfl, by rw [HCB.out]; exact H6.out.wi⟩
end Go.Proofs.YtjboboaccjbebaaGreat
/- Layer 21: Bound, and the reference's; what the fixed calls of its statements come to: true. -/
namespace Go.Proofs.YtjboboaccjbebaaGreat
open Go.RowKit

/-- The least bound of any numbers. -/
def boundL (l : List Int) : Nat := l.foldl (fun m x => max m (holdI x).natAbs) 0
theorem boundL_snoc (xs : List Int) (x : Int) : boundL (xs ++ [x]) = max (boundL xs) (holdI x).natAbs := by simp [boundL]
theorem boundL_le (xs : List Int) : boundL xs ≤ 4611686018427387904 ∧ ∀ x ∈ xs, (holdI x).natAbs ≤ boundL xs := by
  revert xs
  apply rev_all
  intro ys
  induction ys with
  | nil => simp [boundL]
  | cons y ys ih =>
    have h := holdI_bd y
    rw [List.reverse_cons, boundL_snoc]
    refine ⟨by omega, fun x hx => ?_⟩
    rcases List.mem_append.1 hx with hx | hx
    · have := ih.2 x hx; omega
    · simp at hx; rw [hx]; omega
theorem boundL_at (xs : List Int) : boundL xs = 0 ∨ ∃ x ∈ xs, (holdI x).natAbs = boundL xs := by
  revert xs
  apply rev_all
  intro ys
  induction ys with
  | nil => exact .inl rfl
  | cons y ys ih =>
    rw [List.reverse_cons, boundL_snoc]
    by_cases h : (holdI y).natAbs ≤ boundL ys.reverse
    · rw [Nat.max_eq_left h]
      rcases ih with ih | ⟨x, hx, e⟩
      · exact .inl ih
      · exact .inr ⟨x, List.mem_append_left _ hx, e⟩
    · exact .inr ⟨y, by simp, by omega⟩
/-- Within it they are coded, if it may be; within a lower one they are not. -/
theorem boundL_refE {xs : List Int} (hn : xs.length ≤ 65536) :
    (boundL xs ≤ 2147483648 → refE xs (boundL xs : Int) = 0) ∧ (2147483648 < boundL xs → refE xs (boundL xs : Int) = 1) ∧ (boundL xs = 0 → refE xs ((boundL xs : Int) - 1) = 1) ∧ (0 < boundL xs → boundL xs ≤ 2147483648 → refE xs ((boundL xs : Int) - 1) = 37) := by
  have hl := (boundL_le xs).2
  have ha := boundL_at xs
  refine ⟨fun h => ?_, fun h => ?_, fun h => ?_, fun h h2 => ?_⟩
  · unfold refE
    rw [if_pos ((boundB_iff _).2 (by omega)), if_neg (by omega), Int.toNat_natCast, if_pos]
    unfold withinB
    rw [List.all_eq_true]
    intro x hm
    rw [decide_eq_true_iff]
    have h1 := hl x hm
    unfold holdI at h1
    omega
  · unfold refE
    rw [if_neg]
    rw [boundB_iff]
    omega
  · unfold refE
    rw [if_neg]
    rw [boundB_iff]
    omega
  · unfold refE
    rw [if_pos ((boundB_iff _).2 (by omega)), if_neg (by omega), if_neg]
    intro hw
    rcases ha with ha | ⟨x, hm, e⟩
    · omega
    · have := within_at hw hm
      unfold holdI at e
      omega

set_option maxRecDepth 100000 in
set_option maxHeartbeats 1600000 in
theorem cbound_any (l : Value) (xs : List Int) (w : World) (hl : Sl w l (i64s xs)) : Calls Tryz.prog 17 #[l] w fun e w' => e = .returned (.int .i64 (boundL xs : Nat)) ∧ w = w' := by
  obtain ⟨A, c, rfl, hm⟩ := i64s_form hl
  have H := hid hl
  clear hl
  go_enter Tryz.func17, Tryz.ntmps17
  go_wp2_with fail
  go_loop [3, 8] (fun m i => ∃ k t : Nat, k ≤ xs.length ∧ i = .int .i64 k ∧ m = .int .i64 t ∧ Hid (t = boundL (xs.take k))) (fun _ i => xs.length - (intOf i).toNat)
  case atStart => exact ⟨0, 0, by omega, rfl, rfl, by simp [boundL, Hid]⟩
  case round =>
    obtain ⟨k, t, hk, rfl, rfl, hd⟩ := hrel
    by_cases hkm : k < xs.length
    · have hin : (k : Int) < xs.length := by omega
      obtain ⟨ad, rfl, hc⟩ := i64s_at H.out hkm
      obtain ⟨x, hxe⟩ : ∃ x, xs[k] = x := ⟨_, rfl⟩
      rw [hxe] at hc
      have HX := hid hxe
      have HC := hid (hold_any x w)
      have hb := holdI_bd x
      obtain ⟨y, hy⟩ : ∃ y, holdI x = y := ⟨_, rfl⟩
      rw [hy] at HC hb
      have HY := hid hy
      have hwn : IntKind.i64.wrap (-y) = -y := IntWalk.i64_in _ (by omega)
      have hmx : (if (if (t : Int) < y then y else (t : Int)) < -y then -y else if (t : Int) < y then y else (t : Int)) = ((max t y.natAbs : Nat) : Int) := by
        by_cases h1 : (t : Int) < y <;> simp only [h1, if_true, if_false] <;> split <;> omega
      obtain ⟨m, hm⟩ : ∃ m, max t y.natAbs = m := ⟨_, rfl⟩
      rw [hm] at hmx
      have HM := hid hm
      have HMX := hid hmx
      clear hxe hy hb hm hmx
      go_wp2_with fail
      with_reducible refine HC.out.mono ?_
      rintro e w3 ⟨rfl, rfl⟩
      go_wp2_with fail
      go_round
      case rel => exact ⟨k + 1, m, by omega, by go_num, by rw [HMX.out], by show _ = _; rw [take_snocI xs k hkm, boundL_snoc, ← hd.out, HX.out, HY.out, HM.out]⟩
      case measure => simp [intOf]; omega
    · have hin : ¬ (k : Int) < xs.length := by omega
      obtain rfl : k = xs.length := by omega
      go_wp2_with fail
      go_ret
      have h := hd.out
      rw [List.take_length] at h
      exact ⟨by rw [← h]; rfl, rfl⟩

theorem code21 : codeB 1 [0, -1, 1] = [false, true, false, false, true, true] := by decide +kernel
theorem ref21 : refE [0, -1, 1] ((1 : Nat) : Int) = 0 := by decide +kernel
theorem bound37 : boundL [3, -7] = 7 := by decide +kernel

set_option maxRecDepth 100000 in
set_option maxHeartbeats 4000000 in
theorem known21 (w : World) : Calls Tryz.prog 5 #[] w fun e w' => e = .returned (.bool true) ∧ Below w.heap.size w w' := by
  have hW0 := Wr.new w
  have hb0 := (Below.refl _ w).alloc (Nat.le_refl _) (.cells #[.slice none 0 0, .int .u8 0, .int .i64 0] 27)
  have hb1 := hb0.alloc hb0.size (.cells #[.int .i64 0, .int .i64 (-1), .int .i64 1] 3)
  have hW1 := hW0.below ((Below.refl _ _).alloc (Nat.le_refl _) (.cells #[.int .i64 0, .int .i64 (-1), .int .i64 1] 3))
  have hbk := Blk.new (w.alloc (.cells #[.slice none 0 0, .int .u8 0, .int .i64 0] 27)) 3 #[.int .i64 0, .int .i64 (-1), .int .i64 1]
  have HP := corrPut_ok w.heap.size (.slice none 0 0) [] _ [0, -1, 1] 1 _ hW1 (by simp) (blk_slI (xs := [0, -1, 1]) hbk (by simp)) (by simp [InI]) (fun _ g hg => by
    simp [Value.ownBlock] at hg
    subst hg
    refine ⟨fun hf => ?_, by simp⟩
    have e := foot_nil hf
    simp at e) ref21
  rw [show ((1 : Nat) : Int) = 1 from rfl, code21, List.nil_append, show (w.alloc (.cells #[.slice none 0 0, .int .u8 0, .int .i64 0] 27)).heap.size = w.heap.size + 1 by simp, show ([0, -1, 1] : List Int).length = 3 from rfl] at HP
  replace HP := hid HP
  have HB := hid hb1
  clear hW0 hb0 hb1 hW1 hbk
  go_enter Tryz.func5, Tryz.ntmps5
  go_wp2_with fail
  with_reducible refine HP.out.mono ?_
  rintro e w1 ⟨rfl, hw⟩
  obtain ⟨v1, h1, hm1, hk1⟩ := hw
  have hbw : Below w.heap.size w w1 := Kept.after HB.out (Nat.le_refl _) hk1 fun i hi => by rw [foot_nil hi]; exact Nat.le_refl _
  have H1 := hid (And.intro h1 hbw)
  clear h1 hm1 hk1 hbw
  go_wp2_with fail
  with_reducible refine (len_any _ _ v1 _ H1.out.1 (by simp)).mono ?_
  rintro e w5 ⟨rfl, n5, rfl⟩
  have H5 := hid (And.intro (H1.out.1.drewN n5) (below_drewN' H1.out.2 n5))
  go_wp2_with fail
  with_reducible refine (bytes_any _ _ v1 _ H5.out.1 (by simp)).mono ?_
  rintro e w6 ⟨F, A6, c6, rfl, hf, hfl, hby⟩
  obtain rfl : F = [76] := flat_inj hby (by decide) (by rw [hfl]; decide)
  have hstr : (convert 25 9 (.slice A6 1 c6)).run Tryz.prog w6 = .ok (.string (strOf [76])) w6 := str_of w6 _ [76] (Sl.of_own hf.1) hby
  have H6 := hid (H5.out.2.trans (hf.2.1.mono H5.out.2.size))
  clear hf hfl hby
  have he : ((strOf [76]).toList == [76]) = true := by rw [strOf_list]; decide
  go_wp2_with fail
  have hblk2 := Blk.new w6 3 #[.int .i64 3, .int .i64 (-7)]
  have HC := cbound_any _ [3, -7] _ (blk_slI (xs := [3, -7]) hblk2 (by simp))
  rw [bound37] at HC
  refine HC.mono ?_
  clear HC hblk2
  rintro e w7 ⟨rfl, rfl⟩
  have H7 := hid (H6.out.alloc H6.out.size (.cells #[.int .i64 3, .int .i64 (-7)] 3))
  go_wp2_with fail
  go_ret
  exact ⟨rfl, H7.out⟩
end Go.Proofs.YtjboboaccjbebaaGreat
