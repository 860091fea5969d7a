/- The reference's Code of layer 6. -/
import Derived.Test.YtjboboaccjbebaaRef06
namespace Go.Proofs.Ytjboboaccjbebaa
open Go.RowKit

theorem codeK_low {u k : Nat} (h : u / 2 ^ k < 24) : codeK u k = (List.replicate (u / 2 ^ k) true ++ [false]) ++ bitsOf u k := by unfold codeK; rw [if_pos h]
theorem codeK_high {u k : Nat} (h : ¬ u / 2 ^ k < 24) : codeK u k = List.replicate 24 true ++ bitsOf u 40 := by unfold codeK; rw [if_neg h]
theorem bis_ones (n : Nat) : bis (List.replicate n true) = List.replicate n 1 := by unfold bis; rw [List.map_replicate]; rfl
theorem FreshI.app1' {w w1 w2 : World} {F : List Int} {v : Value} {x : Int} {n g cap : Nat} {o : Obj} (h : FreshI w F v w1) (hn : F.length = n) (hown : w2.ownsRow 0 3 1 (.slice (some ⟨g, 0, none⟩) (n + 1) cap) (n + 1) (i64s F ++ [.int .i64 x])) (hg : (w1.alloc o).grownBy w2 v.ownBlock) (hm : v.ownBlock = some g ∨ g = w1.heap.size + 1) :
    FreshI w (F ++ [x]) (.slice (some ⟨g, 0, none⟩) (n + 1) cap) w2 := by
  subst hn
  exact h.app1 hown hg hm
theorem FreshI.own_n {w w1 : World} {F : List Int} {v : Value} {n : Nat} (h : FreshI w F v w1) (hn : F.length = n) : w1.ownsRow 0 3 1 v n (i64s F) := by
  have := h.1
  rwa [hn] at this

/-- Bits, made. -/
def CodeS (w : World) (B : List Bool) (n : Nat) (e : Ending) (w' : World) : Prop := ∃ A c, e = .returned (.slice A n c) ∧ FreshI w (bis B) (.slice A n c) w'

set_option maxRecDepth 100000 in
set_option maxHeartbeats 4000000 in
theorem refcode_none (u : Nat) (k : Int) (w : World) (h : ¬ (paramB k = true ∧ mayB u = true)) :
    Calls Try.prog 70 #[.int .u64 (u : Int), .int .i64 k] w fun e w' => e = .returned (.slice none 0 0) ∧ w = w' := by
  have HP := hid (refparam_any k w)
  have HM := hid (refmay_any u w)
  have HH := hid h
  obtain ⟨b, hb⟩ : ∃ b, paramB k = b := ⟨_, rfl⟩
  obtain ⟨c, hc⟩ : ∃ c, mayB u = c := ⟨_, rfl⟩
  rw [hb] at HP HH
  rw [hc] at HM HH
  clear hb hc h
  cases b
  · go_enter Try.func70, Try.ntmps70
    go_wp2_with fail
    with_reducible refine HP.out.mono ?_
    rintro e w1 ⟨rfl, rfl⟩
    go_wp2_with fail
    go_ret
    exact ⟨rfl, rfl⟩
  cases c
  · go_enter Try.func70, Try.ntmps70
    go_wp2_with fail
    with_reducible refine HP.out.mono ?_
    rintro e w1 ⟨rfl, rfl⟩
    go_wp2_with fail
    with_reducible refine HM.out.mono ?_
    rintro e w1 ⟨rfl, rfl⟩
    go_wp2_with fail
    go_ret
    exact ⟨rfl, rfl⟩
  · exact absurd ⟨rfl, rfl⟩ HH.out

set_option maxRecDepth 100000 in
set_option maxHeartbeats 4000000 in
theorem refcode_ok (u k : Nat) (w : World) (hu : u < 1099511627776) (hk : k ≤ 30) :
    Calls Try.prog 70 #[.int .u64 (u : Int), .int .i64 (k : Int)] w (CodeS w (codeK u k) (costK u k)) := by
  have HP := hid (refparam_any (k : Int) w)
  have HM := hid (refmay_any u w)
  rw [(paramB_iff (k : Int)).2 (by omega)] at HP
  rw [(mayB_iff u).2 hu] at HM
  have HQ := refquo_any u k hk w
  have hq := Nat.div_le_self u (2 ^ k)
  have HE := hid (And.intro (@codeK_low u k) (And.intro (@codeK_high u k) (show costK u k = if u / 2 ^ k < 24 then u / 2 ^ k + 1 + k else 64 from rfl)))
  obtain ⟨q, hqe⟩ : ∃ q, u / 2 ^ k = q := ⟨_, rfl⟩
  rw [hqe] at HQ hq HE
  have HQQ := hid HQ
  clear HQ hqe
  go_enter Try.func70, Try.ntmps70
  go_wp2_with fail
  with_reducible refine HP.out.mono ?_
  rintro e w1 ⟨rfl, rfl⟩
  go_wp2_with fail
  with_reducible refine HM.out.mono ?_
  rintro e w1 ⟨rfl, rfl⟩
  go_wp2_with fail
  with_reducible refine HQQ.out.mono ?_
  rintro e w1 ⟨rfl, rfl⟩
  clear HP HM HQQ
  go_wp2_with fail
  go_loopw [6, 7] (fun o i wr => ∃ j : Nat, j ≤ 24 ∧ j ≤ q ∧ i = .int .i64 j ∧ ∃ A c, o = .slice A j c ∧ FreshI w (List.replicate j 1) (.slice A j c) wr) (fun _ i _ => 24 - (intOf i).toNat)
  case atStart => exact ⟨0, by omega, by omega, rfl, none, 0, rfl, ⟨World.ownsRow_nil _ _ _ _, .refl _ _, by simp [Value.ownBlock]⟩⟩
  case round =>
    obtain ⟨j, hj, hjq, rfl, A, c, rfl, hf⟩ := hrel
    have HF := hid hf
    clear hf
    have hwj : IntKind.u64.wrap (j : Int) = (j : Int) := IntWalk.u64_in _ (by omega)
    by_cases hgo : j < 24 ∧ j < q
    · have g1 : (j : Int) < 24 := by omega
      have g2 : (j : Int) < (q : Int) := by omega
      go_wp2_with (at_builtin; go_must (refine wpList_app1 _ rfl (.tmp 29) (.tmp 30) 22 rfl 3 .i64 8 Try.underlying22 Try.info_int (.slice A j c) (i64s (List.replicate j 1)) j rfl ?d1 ⟨wr.heap.size, 0, none⟩ 1 rfl ?d3 (by decide) ?d4 (wr.heap.size + 1) ?d5 ?_); rotate_right; intro g cap w2 hown2 hg2 hat hlt; replace hown2 := hid hown2; replace hg2 := hid hg2; replace hat := hid hat)
      case d1 => exact (HF.out.own_n (List.length_replicate)).alloc _
      case d3 => exact World.cell?_alloc_at _ _ _ _ rfl
      case d4 => omega
      case d5 => simp
      go_roundw
      case rel =>
        have h := HF.out.app1' (List.length_replicate) hown2.out hg2.out hat.out
        rw [← List.replicate_succ'] at h
        exact ⟨j + 1, by omega, by omega, by go_num, _, _, rfl, h⟩
      case measure => simp [intOf]; omega
    · by_cases hlt : q < 24
      · obtain rfl : j = q := by omega
        have g0 : (j : Int) < 24 := by omega
        have g2 : ¬ (j : Int) < (j : Int) := by omega
        go_wp2_with (at_builtin; go_must (refine wpList_app1 _ rfl (.tmp 34) (.tmp 35) 22 rfl 3 .i64 8 Try.underlying22 Try.info_int (.slice A j c) (i64s (List.replicate j 1)) j rfl ?d1 ⟨wr.heap.size, 0, none⟩ 0 rfl ?d3 (by decide) ?d4 (wr.heap.size + 1) ?d5 ?_); rotate_right; intro g cap w2 hown2 hg2 hat hlt; replace hown2 := hid hown2; replace hg2 := hid hg2; replace hat := hid hat)
        case d1 => exact (HF.out.own_n (List.length_replicate)).alloc _
        case d4 => omega
        have h2 := HF.out.app1' (List.length_replicate) hown2.out hg2.out hat.out
        have H2 := hid h2
        clear h2 hown2 hg2 hat
        go_wp2_with fail
        have HC := bits_sl (u : Int) (k : Int) u k rfl rfl w2 (by omega) (by omega)
        with_reducible refine HC.mono ?_
        clear HC
        rintro e w3 ⟨A3, c3, rfl, hf3⟩
        have H3 := hid (And.intro (H2.out.later hf3.bel) hf3)
        clear hf3
        go_wp2_with (at_builtin; go_must (refine wpList_app _ rfl (.tmp 36) (.tmp 39) 22 rfl 3 .i64 8 Try.underlying22 Try.info_int (.slice (some ⟨g, 0, none⟩) (j + 1) cap) (j + 1) (i64s (List.replicate j 1 ++ [0])) rfl ?c1 (.slice A3 k c3) (i64s (bis (bitsOf u k))) rfl ?c2 i64s_one (by decide) ?c3 ?_); rotate_right; intro v6 w6 hown hg hm; replace hown := hid hown; replace hg := hid hg; replace hm := hid hm)
        case c1 => exact H3.out.1.own_n (by rw [List.length_append, List.length_replicate]; rfl)
        case c2 => exact H3.out.2.sl
        case c3 => rw [i64s_length, bis_length, bitsOf_length]; omega
        have h6 := H3.out.1.app (G := bis (bitsOf u k)) (by rw [List.length_append, List.length_replicate]; exact hown.out) hg.out hm.out
        rw [show List.replicate j (1 : Int) ++ [0] ++ bis (bitsOf u k) = bis (codeK u k) by rw [HE.out.1 (by omega), bis_app, bis_app, bis_ones]; rfl] at h6
        obtain ⟨A6, c6, rfl⟩ := h6.form
        rw [bis_length, codeK_length] at h6 ⊢
        have H6 := hid h6
        go_wp2_with fail
        go_ret
        exact ⟨A6, c6, rfl, H6.out⟩
      · obtain rfl : j = 24 := by omega
        have g3 : ¬ (q : Int) < 24 := by omega
        have g0 : ¬ ((24 : Nat) : Int) < 24 := by omega
        go_wp2_with fail
        have HC := bits_sl (u : Int) 40 u 40 rfl rfl wr (by omega) (by omega)
        with_reducible refine HC.mono ?_
        clear HC
        rintro e w3 ⟨A3, c3, rfl, hf3⟩
        have H3 := hid (And.intro (HF.out.later hf3.bel) hf3)
        clear hf3
        go_wp2_with (at_builtin; go_must (refine wpList_app _ rfl (.tmp 41) (.tmp 43) 22 rfl 3 .i64 8 Try.underlying22 Try.info_int (.slice A 24 c) 24 (i64s (List.replicate 24 1)) rfl ?c1 (.slice A3 40 c3) (i64s (bis (bitsOf u 40))) rfl ?c2 i64s_one (by decide) ?c3 ?_); rotate_right; intro v6 w6 hown hg hm; replace hown := hid hown; replace hg := hid hg; replace hm := hid hm)
        case c1 => exact H3.out.1.own_n (List.length_replicate)
        case c2 => exact H3.out.2.sl
        case c3 => rw [i64s_length, bis_length, bitsOf_length]; omega
        have h6 := H3.out.1.app (G := bis (bitsOf u 40)) (by rw [List.length_replicate]; exact hown.out) hg.out hm.out
        rw [show List.replicate 24 (1 : Int) ++ bis (bitsOf u 40) = bis (codeK u k) by rw [HE.out.2.1 hlt, bis_app, bis_ones]] at h6
        obtain ⟨A6, c6, rfl⟩ := h6.form
        rw [bis_length, codeK_length] at h6 ⊢
        have H6 := hid h6
        go_wp2_with fail
        go_ret
        exact ⟨A6, c6, rfl, H6.out⟩

/-- Whatever number and parameter. -/
theorem refcode_any06 (u : Nat) (k : Int) (w : World) :
    Calls Try.prog 70 #[.int .u64 (u : Int), .int .i64 k] w (CodeS w (codeR u k) (costR u k)) := by
  by_cases hb : paramB k = true ∧ mayB u = true
  · have hk := (paramB_iff k).1 hb.1
    obtain ⟨m, rfl⟩ := Int.eq_ofNat_of_zero_le hk.1
    have e1 : costR u (m : Int) = costK u m := by simp [costR, hb.1, hb.2]
    have e2 : codeR u (m : Int) = codeK u m := by simp [codeR, hb.1, hb.2]
    rw [e1, e2]
    exact refcode_ok u m w ((mayB_iff u).1 hb.2) (by omega)
  · have e1 : costR u k = 0 := by unfold costR; rw [if_neg hb]
    have e2 : codeR u k = [] := by unfold codeR; rw [if_neg hb]
    rw [e1, e2]
    refine (refcode_none u k w hb).mono ?_
    rintro e w' ⟨rfl, rfl⟩
    exact ⟨none, 0, rfl, ⟨World.ownsRow_nil _ _ _ _, .refl _ _, by simp [Value.ownBlock]⟩⟩
end Go.Proofs.Ytjboboaccjbebaa
