/- The reference's Guess of layer 6. -/
import Derived.Test.YtgjiffpiffphfaaRef06
namespace Go.Proofs.Ytgjiffpiffphfaa
open Go.RowKit

set_option maxHeartbeats 1600000 in
theorem refguess_any (l : Value) (xs : List Nat) (w : World) (hl : Sl w l (u64s xs)) (hx : InU xs) :
    Calls Try.prog 32 #[l] w fun e w' => e = .returned (.int .i64 (guessN xs : Nat)) ∧ w = w' := by
  obtain ⟨A, c, rfl, hm⟩ := u64s_form hl
  by_cases h0 : xs.length = 0
  · have HE := hid (show guessN xs = 0 by simp [guessN, h0])
    have hb : ((xs.length : Int) == 0) = true := by rw [beq_iff_eq]; omega
    clear h0 hl hx
    go_enter Try.func32, Try.ntmps32
    go_wp2_with fail
    go_ret
    exact ⟨by rw [HE.out]; rfl, rfl⟩
  · have hb : ((xs.length : Int) == 0) = false := by rw [beq_eq_false_iff_ne]; omega
    have HE := hid (show guessN xs = min (wid (allN xs / xs.length)) 30 by simp [guessN, h0])
    have H := hid (And.intro hl hx)
    have hpos : 0 < xs.length := by omega
    clear hl hx h0
    go_enter Try.func32, Try.ntmps32
    go_wp2_with fail
    go_loop [3, 4] (fun a i => ∃ k t : Nat, k ≤ xs.length ∧ i = .int .i64 k ∧ a = .int .i64 t ∧ t ≤ 4611686018427387904 ∧ Hid (t = allN (xs.take k))) (fun _ i => xs.length - (intOf i).toNat)
    case atStart => exact ⟨0, 0, by omega, rfl, rfl, by omega, by simp [Hid, allN]⟩
    case round =>
      obtain ⟨k, t, hk, rfl, rfl, ht, hd⟩ := hrel
      by_cases hkm : k < xs.length
      · have hin : (k : Int) < xs.length := by omega
        obtain ⟨ad, rfl, hc⟩ := u64s_at H.out.1 hkm
        have hu := H.out.2 xs[k] (List.getElem_mem _)
        obtain ⟨x, hxe⟩ : ∃ x, xs[k] = x := ⟨_, rfl⟩
        rw [hxe] at hc hu
        have HX := hid (And.intro hxe hu)
        clear hxe
        obtain ⟨y, hy⟩ : ∃ y, min x 4611686018427387904 = y := ⟨_, rfl⟩
        have hy2 : y ≤ 4611686018427387904 := by omega
        have HCC := refaddn_any t y w ht hy2
        obtain ⟨z, hz⟩ : ∃ z, addN t y = z := ⟨_, rfl⟩
        have hz2 : z ≤ 4611686018427387904 := by rw [← hz]; exact addN_le _ _
        rw [hz] at HCC
        have HZ := hid (And.intro hz (And.intro hy HCC))
        clear hz HCC
        by_cases hbig : x < 4611686018427387904
        · obtain rfl : x = y := by omega
          have hbig' : (x : Int) < 4611686018427387904 := by omega
          have hwx : IntKind.i64.wrap (x : Int) = (x : Int) := IntWalk.i64_in _ (by omega)
          clear hy
          go_wp2_with fail
          with_reducible refine HZ.out.2.2.mono ?_
          rintro e w1 ⟨rfl, rfl⟩
          go_wp2_with fail
          go_round
          case rel => exact ⟨k + 1, z, by omega, by go_num, rfl, hz2, by show _ = _; rw [take_snocI xs k hkm, allN_snoc, HX.out.1, HZ.out.2.1, ← hd.out, HZ.out.1]⟩
          case measure => simp [intOf]; omega
        · obtain rfl : y = 4611686018427387904 := by omega
          have hbig' : ¬ (x : Int) < 4611686018427387904 := by omega
          clear hy
          have HZZ : Hid (Calls Try.prog 71 #[.int .i64 (t : Int), .int .i64 4611686018427387904] w fun e w' => e = .returned (.int .i64 (z : Int)) ∧ w = w') := HZ.out.2.2
          go_wp2_with fail
          with_reducible refine HZZ.out.mono ?_
          rintro e w1 ⟨rfl, rfl⟩
          go_wp2_with fail
          go_round
          case rel => exact ⟨k + 1, z, by omega, by go_num, rfl, hz2, by show _ = _; rw [take_snocI xs k hkm, allN_snoc, HX.out.1, HZ.out.2.1, ← hd.out, HZ.out.1]⟩
          case measure => simp [intOf]; omega
      · have hin : ¬ (k : Int) < xs.length := by omega
        obtain rfl : k = xs.length := by omega
        have hdl := Nat.div_le_self t xs.length
        obtain ⟨q, hq⟩ : ∃ q, t / xs.length = q := ⟨_, rfl⟩
        have hdq : IntKind.i64.wrap ((t : Int).tdiv (xs.length : Int)) = (q : Int) := by
          rw [Int.tdiv_eq_ediv_of_nonneg (by omega), ← Int.natCast_ediv, hq, IntWalk.i64_in _ (by omega)]
        have hdq2 : ∀ Y : Int, Y = (t : Int) → Y / (xs.length : Int) = (q : Int) := by
          rintro Y rfl
          rw [← Int.natCast_ediv, hq]
        have hq2 : q ≤ 4611686018427387904 := by omega
        have HQ := hid hq
        clear hq hdl
        go_wp2_with fail
        have HCC := refwidth_at (q : Int) q rfl w (by omega)
        obtain ⟨v, hv⟩ : ∃ v, wid q = v := ⟨_, rfl⟩
        rw [hv] at HCC
        with_reducible refine HCC.mono ?_
        clear HCC hdq hdq2
        rintro e w1 ⟨rfl, rfl⟩
        have h := hd.out
        rw [List.take_length] at h
        have HF := hid (show guessN xs = min v 30 by rw [HE.out, ← h, HQ.out, hv])
        clear h
        by_cases hbig : 30 < v
        · have hbig' : (30 : Int) < v := by omega
          go_wp2_with fail
          go_ret
          exact ⟨by rw [HF.out, Nat.min_eq_right (by omega)]; rfl, rfl⟩
        · have hbig' : ¬ (30 : Int) < v := by omega
          go_wp2_with fail
          go_ret
          exact ⟨by rw [HF.out, Nat.min_eq_left (by omega)]; rfl, rfl⟩
end Go.Proofs.Ytgjiffpiffphfaa
