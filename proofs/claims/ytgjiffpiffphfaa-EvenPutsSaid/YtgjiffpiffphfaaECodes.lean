/- Layer 8: Total; the reference's Codes, Below. -/
import Derived.Test.YtgjiffpiffphfaaERef
namespace Go.Proofs.Ytgjiffpiffphfaa
open Go.RowKit

/-- All codes, as far as there are any. -/
def codesF (xs : List Nat) (n : Nat) : List Bool := xs.flatMap fun u => codeF u n
theorem costF_le (v n : Nat) : costF v n ≤ 40 := by
  unfold costF
  split
  · have h := (spanB_iff n).1 (by rename_i h; exact h.1)
    exact costE_le v h.1 h.2
  · omega
theorem codesF_le (xs : List Nat) (n : Nat) : (codesF xs n).length ≤ xs.length * 40 := by
  induction xs with
  | nil => simp [codesF]
  | cons y ys ih =>
    have h := costF_le y n
    have e : codesF (y :: ys) n = codeF y n ++ codesF ys n := rfl
    rw [e, List.length_append, codeF_length, List.length_cons]
    omega
theorem codesF_snoc (xs : List Nat) (x n : Nat) : codesF (xs ++ [x]) n = codesF xs n ++ codeF x n := by simp [codesF]

set_option maxRecDepth 100000 in
set_option maxHeartbeats 1600000 in
theorem refcodes08_any (l : Value) (xs : List Nat) (n : Nat) (w : World) (hl : Sl w l (u64s xs)) (hn : xs.length ≤ 1048576) :
    Calls Try.prog 46 #[l, .int .u64 (n : Int)] w (CodeS w (codesF xs n) (codesF xs n).length) := by
  obtain ⟨A0, c0, rfl, hm0⟩ := u64s_form hl
  have H := hid hl
  clear hl
  go_enter Try.func46, Try.ntmps46
  go_wp2_with fail
  go_loopw [5, 6] (fun o i wr => ∃ (j m : Nat) (A : Option Addr) (c : Nat), j ≤ xs.length ∧ i = .int .i64 j ∧ o = .slice A m c ∧ Hid ((codesF (xs.take j) n).length = m) ∧ FreshI w (bis (codesF (xs.take j) n)) (.slice A m c) wr) (fun _ i _ => xs.length - (intOf i).toNat)
  case atStart => exact ⟨0, 0, none, 0, by omega, rfl, rfl, rfl, ⟨World.ownsRow_nil _ _ _ _, .refl _ _, by simp [Value.ownBlock]⟩⟩
  case round =>
    obtain ⟨j, m, A, c, hj, rfl, rfl, hm, hf⟩ := hrel
    have HF := hid hf
    have hml : m ≤ 41943040 := by
      have := codesF_le (xs.take j) n
      rw [List.length_take, hm.out] at this
      omega
    by_cases hjm : j < xs.length
    · have hin : (j : Int) < xs.length := by omega
      obtain ⟨ad, rfl, hc⟩ := u64s_at (H.out.below hf.bel) hjm
      obtain ⟨x, hx⟩ : ∃ x, xs[j] = x := ⟨_, rfl⟩
      rw [hx] at hc
      have HX := hid hx
      clear hx hf
      have hkl := costF_le x n
      have HK := hid (codeF_length x n)
      have HC := refcode08_any x n wr
      obtain ⟨k, hk⟩ : ∃ k, costF x n = k := ⟨_, rfl⟩
      rw [hk] at hkl HK HC
      clear hk
      go_wp2_with fail
      with_reducible refine HC.mono ?_
      clear HC
      rintro e w2 ⟨A2, c2, rfl, hf2⟩
      have H2 := hid (And.intro (HF.out.later hf2.bel) hf2)
      clear hf2 hc
      go_wp2_with (at_builtin; go_must (refine wpList_app _ rfl (.tmp 13) (.tmp 19) 27 rfl 3 .i64 8 Try.underlying27 Try.info_int (.slice A m c) m (i64s (bis (codesF (xs.take j) n))) rfl ?c1 (.slice A2 k c2) (i64s (bis (codeF x n))) rfl ?c2 i64s_one (by decide) ?c3 ?_); rotate_right; intro v6 w6 hown hg hmv; replace hown := hid hown; replace hg := hid hg; replace hmv := hid hmv)
      case c1 => exact H2.out.1.own_of hm.out
      case c2 => exact H2.out.2.sl
      case c3 => rw [i64s_length, bis_length, HK.out]; omega
      have h6 := H2.out.1.bits_app' hm.out hown.out hg.out hmv.out
      obtain ⟨A6, c6, rfl⟩ := h6.form
      rw [bis_length, List.length_append, hm.out, HK.out] at h6 ⊢
      rw [← HX.out, ← codesF_snoc, ← take_snocI xs j hjm] at h6
      have H6 := hid h6
      clear h6 hown hg hmv
      go_wp2_with fail
      go_roundw
      case rel =>
        refine ⟨j + 1, m + k, A6, c6, by omega, by go_num, rfl, ?_, H6.out⟩
        show (codesF (xs.take (j + 1)) n).length = m + k
        rw [take_snocI xs j hjm, codesF_snoc, List.length_append, hm.out, HX.out, HK.out]
      case measure => simp [intOf]; omega
    · have hin : ¬ (j : Int) < xs.length := by omega
      obtain rfl : j = xs.length := by omega
      clear hf
      go_wp2_with fail
      go_ret
      have h := HF.out
      have hmm := hm.out
      rw [List.take_length] at h hmm
      rw [hmm]
      exact ⟨A, c, rfl, h⟩

theorem refbelow_any (l : Value) (xs : List Nat) (n : Nat) (w : World) (hl : Sl w l (u64s xs)) :
    Calls Try.prog 45 #[l, .int .u64 (n : Int)] w fun e w' => e = .returned (.bool (xs.all fun v => decide (v < n))) ∧ w = w' := by
  obtain ⟨A, c, rfl, hm⟩ := u64s_form hl
  have H := hid hl
  clear hl
  go_enter Try.func45, Try.ntmps45
  go_wp2_with fail
  go_loop [5] (fun i => ∃ k : Nat, k ≤ xs.length ∧ i = .int .i64 k ∧ Hid ((xs.take k).all (fun v => decide (v < n)) = true)) (fun i => xs.length - (intOf i).toNat)
  case atStart => exact ⟨0, by omega, rfl, by simp [Hid]⟩
  case round =>
    obtain ⟨j, hj, rfl, hd⟩ := hrel
    by_cases hjm : j < xs.length
    · have hin : (j : Int) < xs.length := by omega
      obtain ⟨ad, rfl, hc⟩ := u64s_at H.out hjm
      obtain ⟨x, hx⟩ : ∃ x, xs[j] = x := ⟨_, rfl⟩
      rw [hx] at hc
      have HX := hid hx
      clear hx
      by_cases hlt : x < n
      · have hlt' : ¬ (n : Int) ≤ x := by omega
        go_wp2_with fail
        go_round
        case rel => exact ⟨j + 1, by omega, by go_num, by show _ = _; rw [take_snocI xs j hjm, List.all_append, hd.out, HX.out]; simp [hlt]⟩
        case measure => simp [intOf]; omega
      · have hlt' : (n : Int) ≤ x := by omega
        go_wp2_with fail
        go_ret
        have e : (xs.all fun v => decide (v < n)) = false := by
          rw [List.all_eq_false]
          exact ⟨x, by rw [← HX.out]; exact List.getElem_mem _, by simpa using hlt⟩
        exact ⟨by rw [e]; rfl, rfl⟩
    · have hin : ¬ (j : Int) < xs.length := by omega
      obtain rfl : j = xs.length := by omega
      go_wp2_with fail
      go_ret
      have h := hd.out
      rw [List.take_length] at h
      exact ⟨by rw [h]; rfl, rfl⟩

theorem etotal_any (l : Value) (xs : List Nat) (n : Nat) (w : World) (hl : Sl w l (u64s xs)) (hn : xs.length ≤ 1048576) :
    Calls Try.prog 44 #[l, .int .u64 (n : Int)] w (DrawnI w (.int .i64 ((codesF xs n).length : Int))) := by
  obtain ⟨A, c, rfl, hm⟩ := u64s_form hl
  have H := hid hl
  clear hl
  go_enter Try.func44, Try.ntmps44
  go_wp2_with fail
  go_loopw [5, 7, 10] (fun s _ i wr => ∃ k t d : Nat, k ≤ xs.length ∧ i = .int .i64 k ∧ s = .int .i64 t ∧ t ≤ 41943040 ∧ Hid (t = (codesF (xs.take k) n).length) ∧ wr = w.drewN d) (fun _ _ i _ => xs.length - (intOf i).toNat)
  case atStart => exact ⟨0, 0, 0, by omega, rfl, rfl, by omega, rfl, rfl⟩
  case round =>
    obtain ⟨k, t, d, hk, rfl, rfl, ht, hd, rfl⟩ := hrel
    by_cases hkm : k < xs.length
    · have hin : (k : Int) < xs.length := by omega
      obtain ⟨ad, rfl, hc⟩ := u64s_at H.out hkm
      obtain ⟨x, hx⟩ : ∃ x, xs[k] = x := ⟨_, rfl⟩
      rw [hx] at hc
      have HX := hid hx
      clear hx
      have HK := hid (codeF_length x n)
      have hyl := costF_le x n
      have HC := eCost_any x n (w.drewN d)
      obtain ⟨y, hy⟩ : ∃ y, costF x n = y := ⟨_, rfl⟩
      rw [hy] at HC HK hyl
      clear hy
      go_wp2_with fail
      with_reducible refine HC.mono ?_
      clear HC
      rintro e w2 ⟨rfl, d2, hw2⟩
      rw [World.drewN_drewN] at hw2
      go_wp2_with fail
      go_roundw
      case rel =>
        have hs : t + y = (codesF (xs.take (k + 1)) n).length := by rw [take_snocI xs k hkm, codesF_snoc, List.length_append, HX.out, HK.out, ← hd.out]
        have hle := codesF_le (xs.take (k + 1)) n
        rw [List.length_take] at hle
        exact ⟨k + 1, t + y, _, by omega, by go_num, by go_num, by omega, hs, rfl⟩
      case measure => simp [intOf]; omega
    · have hin : ¬ (k : Int) < xs.length := by omega
      obtain rfl : k = xs.length := by omega
      go_wp2_with fail
      go_ret
      have h := hd.out
      rw [List.take_length] at h
      exact ⟨by rw [← h]; rfl, d, rfl⟩
end Go.Proofs.Ytgjiffpiffphfaa
