/- Layer 7: noughts, each: a list's items are visited one after another. -/
import Derived.Test.YtjboboaccjbebaaRunQ
import Derived.Test.YtjboboaccjbebaaCFunc
import Derived.WalkMore
import Derived.ScopeJumps
namespace Go.Proofs.Ytjboboaccjbebaa
open Go.RowKit

theorem Sl.drop_ {w : World} {ad : Addr} {n c : Nat} {xs : List Value} (h : Sl w (.slice (some ad) n c) xs) {k : Nat} (hk : k ≤ n) : Sl w (.slice (some (ad.add k)) (n - k) (c - k)) (xs.drop k) := by
  rcases h with ⟨e, _⟩ | ⟨ad', c', e, hc, hm, hcell⟩
  · cases e
  · injection e with e1 e2 e3
    injection e1 with e1
    subst e1 e2 e3
    refine .inr ⟨ad.add k, c - k, by rw [List.length_drop], by rw [List.length_drop]; omega, by omega, fun j u hj => ?_⟩
    rw [List.getElem?_drop] at hj
    rw [add_of_add]
    exact hcell _ _ hj
theorem Sl.drop_len {w : World} {ad : Addr} {n c : Nat} {xs : List Value} (h : Sl w (.slice (some ad) n c) xs) : n = xs.length ∧ n ≤ c := by
  rcases h with ⟨e, _⟩ | ⟨ad', c', e, hc, hm, hcell⟩
  · cases e
  · injection e with e1 e2 e3
    exact ⟨e2, by omega⟩
theorem i64s_drop (xs : List Int) (k : Nat) : (i64s xs).drop k = i64s (xs.drop k) := by simp [i64s, List.map_drop]

set_option maxRecDepth 100000 in
set_option maxHeartbeats 1600000 in
theorem noughts_any (l : Value) (xs : List Int) (w : World) (hl : Sl w l (i64s xs)) : Calls Try.prog 76 #[l] w fun e w' => e = .returned (.int .i64 (lz xs : Nat)) ∧ w = w' := by
  obtain ⟨A, c, rfl, hm⟩ := i64s_form hl
  have H := hid hl
  clear hl
  go_enter Try.func76, Try.ntmps76
  go_wp2_with fail
  go_step3
  go_wp2_with fail
  go_step3
  go_wp2_with fail
  go_loop [3, 8] (fun n i => ∃ k : Nat, k ≤ xs.length ∧ i = .int .i64 k ∧ n = .int .i64 k ∧ Hid (lz xs = k + lz (xs.drop k))) (fun _ i => xs.length - (intOf i).toNat)
  case atStart => exact ⟨0, by omega, rfl, rfl, by simp [Hid]⟩
  case round =>
    obtain ⟨k, hk, rfl, rfl, hd⟩ := hrel
    by_cases hkm : k < xs.length
    · have hin : (k : Int) < xs.length := by omega
      obtain ⟨ad, rfl, hc⟩ := i64s_at H.out hkm
      have hdr := List.drop_eq_getElem_cons hkm
      obtain ⟨x, hx⟩ : ∃ x, xs[k] = x := ⟨_, rfl⟩
      rw [hx] at hc hdr
      have HD := hid hdr
      clear hx hdr
      by_cases h0 : x = 0
      · subst h0
        go_wp2_with fail
        go_round
        case rel =>
          refine ⟨k + 1, by omega, by go_num, by go_num, ?_⟩
          show _ = _
          have h := hd.out
          rw [HD.out, lz, if_pos rfl] at h
          omega
        case measure => simp [intOf]; omega
      · have hb : (x != 0) = true := by rw [bne_iff_ne]; exact h0
        have HX := hid h0
        clear h0
        go_wp2_with fail
        go_ret
        have h := hd.out
        rw [HD.out, lz, if_neg HX.out] at h
        exact ⟨by rw [h]; rfl, rfl⟩
    · have hin : ¬ (k : Int) < xs.length := by omega
      obtain rfl : k = xs.length := by omega
      go_wp2_with fail
      go_ret
      have h := hd.out
      rw [List.drop_of_length_le (Nat.le_refl _), lz] at h
      exact ⟨by rw [h]; rfl, rfl⟩

theorem wp_scope_from {P : Program} {a : Act} {w : World} {Q : Exit → Act → World → Prop} {c rest : Code} (l : Nat) (J : Act → World → Prop) (μ : Act → World → Nat) (hf : findLabel c l = some (Code.skip.seq rest))
    (start : (∀ a w, J a w → rest.wp P (Exit.jump l J Q) a w) → c.wp P (Exit.jump l J Q) a w)
    (pass : ∀ a w, J a w → rest.wp P (Exit.jump l (fun a' w' => J a' w' ∧ μ a' w' < μ a w) Q) a w) : (Code.scope c).wp P Q a w :=
  wp_scope_jumps l J μ hf (start fun a w h => wp_mono (pass a w h) fun e a' w' q => by
    cases e with
    | goto l' => exact ⟨q.1, q.2.1⟩
    | normal => exact q
    | exit id => exact q
    | ret => exact q
    | panic ch => exact q
    | outgrown => exact q) fun a w h => wp_seq (wp_skip (pass a w h))

/-- What is called with what each item says, one after another; I holds between. -/
def Visit (g : Nat) (cap : Array Value) (xs : List Int) (I : List (Nat × Option Int) → World → Prop) : Prop :=
  ∀ P n o R W, P ++ (n, o) :: R = items 0 xs → I P W → Calls Try.prog g (#[.int .i64 (n : Nat), .int .i64 (o.getD 0), .bool o.isSome] ++ cap) W fun e w' => e = .returned (.tuple #[]) ∧ I (P ++ [(n, o)]) w'

set_option maxRecDepth 100000 in
set_option maxHeartbeats 4000000 in
theorem each_any (g : Nat) (cap : Array Value) (eg : ∀ args w, (callFunc g args).run Try.prog w = .ok (.enter g args) w) (l : Value) (xs : List Int) (w : World) (I : List (Nat × Option Int) → World → Prop)
    (hlf : ∃ A c, l = .slice A xs.length c) (hm : xs.length ≤ 9223372036854775807) (hI : ∀ P W, I P W → Sl W l (i64s xs)) (hv : Visit g cap xs I) (h0 : I [] w) :
    Calls Try.prog 65 #[l, .func (.func g) #[] cap] w fun e w' => e = .returned (.tuple #[]) ∧ I (items 0 xs) w' := by
  obtain ⟨A, c, rfl⟩ := hlf
  have H := hid (And.intro hI (And.intro hv h0))
  clear hI hv h0
  go_enter Try.func65, Try.ntmps65
  go_wp2_with fail
  refine wp_scope_from 0 (fun a' w' => ∃ (j : Nat) (P : List (Nat × Option Int)) (u2 u3 u5 u6 u7 u8 u9 u10 u11 u12 u13 u14 u15 u16 u17 u18 u19 u20 u21 u22 u23 u24 u25 u26 u27 u28 u29 u30 u31 u32 : Value), a' = { tmps := #[.slice A xs.length c, .func (.func g) #[] cap, u2, u3, .int .i64 (j : Int), u5, u6, u7, u8, u9, u10, u11, u12, u13, u14, u15, u16, u17, u18, u19, u20, u21, u22, u23, u24, u25, u26, u27, u28, u29, u30, u31, u32], defers := [] } ∧ j ≤ xs.length ∧ Hid (I P w') ∧ Hid (items 0 xs = P ++ items 0 (xs.drop j))) (fun a' _ => xs.length - (intOf (a'.tmps.getD 4 undef)).toNat) rfl (fun hp => ?_) ?_
  · go_wp2_with fail
    go_step3
    rename_i hK
    exact hK _ _ (hp _ _ ⟨0, [], _, _, _, _, _, _, _, _, _, _, _, _, _, _, _, _, _, _, _, _, _, _, _, _, _, _, _, _, _, _, rfl, by omega, H.out.2.2, rfl⟩)
  · rintro a' w' ⟨j, P, u2, u3, u5, u6, u7, u8, u9, u10, u11, u12, u13, u14, u15, u16, u17, u18, u19, u20, u21, u22, u23, u24, u25, u26, u27, u28, u29, u30, u31, u32, rfl, hj, hI, hit⟩
    by_cases hjm : j < xs.length
    · have hb : ((j : Int) == (xs.length : Int)) = false := by rw [beq_eq_false_iff_ne]; omega
      obtain ⟨ad, rfl, hc⟩ := i64s_at (H.out.1 P w' hI.out) hjm
      have hmc : xs.length ≤ c := (Sl.drop_len (H.out.1 P w' hI.out)).2
      go_wp2_with fail
      have hit2 := hit.out
      have hxe : (xs.drop j).length = xs.length - j := List.length_drop
      have hitm := items_eq 0 (xs.drop j)
      rw [Nat.zero_add] at hitm
      have hz := lz_le (xs.drop j)
      have HN := noughts_any (.slice (some (ad.add j)) (xs.length - j) (c - j)) (xs.drop j) w' (by
        have := (H.out.1 P w' hI.out).drop_ (k := j) (by omega)
        rwa [i64s_drop] at this)
      by_cases hzl : lz (xs.drop j) < (xs.drop j).length
      · rw [dif_pos hzl] at hitm
        have hx0 : (xs.drop j)[lz (xs.drop j)] = xs[j + lz (xs.drop j)]'(by omega) := by rw [List.getElem_drop]
        rw [hx0, List.drop_drop] at hitm
        obtain ⟨z, hzz⟩ : ∃ z, lz (xs.drop j) = z := ⟨_, rfl⟩
        simp only [hzz] at hitm hzl HN hz
        have hjz : j + z < xs.length := by omega
        obtain ⟨ad', e', hc'⟩ := i64s_at (H.out.1 P w' hI.out) hjz
        cases e'
        obtain ⟨x, hx⟩ : ∃ x, xs[j + z] = x := ⟨_, rfl⟩
        rw [hx] at hitm hc'
        obtain ⟨y, hy⟩ : ∃ y, j + z = y := ⟨_, rfl⟩
        rw [← Nat.add_assoc, hy] at hitm
        rw [hy] at hc' hjz
        have hb2 : ((y : Int) == (xs.length : Int)) = false := by rw [beq_eq_false_iff_ne]; omega
        have hw1 : IntKind.i64.wrap ((j : Int) + (z : Int)) = (y : Int) := by rw [IntWalk.i64_in _ (by omega)]; omega
        have HY := hid (And.intro hy (And.intro hit2 hitm))
        have HC := hid (H.out.2.1 P z (some x) (items 0 (xs.drop (y + 1))) w' (by rw [hit2, hitm]) hI.out)
        clear hit2 hitm hzz hx hy hx0 hz hzl hxe
        with_reducible refine HN.mono ?_
        rintro e w1 ⟨rfl, rfl⟩
        go_wp2_with fail
        refine HC.out.mono ?_
        rintro e w2 ⟨rfl, hI2⟩
        have H2 := hid hI2
        clear hI2
        go_wp2_with fail
        go_step3
        refine ⟨rfl, ⟨y + 1, _, _, _, _, _, _, _, _, _, _, _, _, _, _, _, _, _, _, _, _, _, _, _, _, _, _, _, _, _, _, _, by first | (congr 1) | (congr 3; omega), by omega, H2.out, ?_⟩, ?_⟩
        · show _ = _
          rw [HY.out.2.1, HY.out.2.2, List.append_assoc]
          rfl
        · have := HY.out.1
          simp [intOf]; omega
      · rw [dif_neg hzl] at hitm
        obtain ⟨z, hzz⟩ : ∃ z, lz (xs.drop j) = z := ⟨_, rfl⟩
        simp only [hzz] at hitm hzl HN hz
        have hjz : j + z = xs.length := by omega
        have hz0 : 0 < z := by omega
        rw [if_pos hz0] at hitm
        have hw1 : IntKind.i64.wrap ((j : Int) + (z : Int)) = (xs.length : Int) := by rw [IntWalk.i64_in _ (by omega)]; omega
        have HY := hid (And.intro hit2 hitm)
        have HC := hid (H.out.2.1 P z none [] w' (by rw [hit2, hitm]) hI.out)
        clear hit2 hitm hzz hz hzl hxe
        with_reducible refine HN.mono ?_
        rintro e w1 ⟨rfl, rfl⟩
        go_wp2_with fail
        refine HC.out.mono ?_
        rintro e w2 ⟨rfl, hI2⟩
        have H2 := hid hI2
        clear hI2
        go_wp2_with fail
        simp only [Exit.jump]
        refine bodyPost_ret (results_none rfl _ _ _) rfl ?_
        rw [HY.out.1, HY.out.2]
        exact ⟨rfl, H2.out⟩
    · obtain rfl : j = xs.length := by omega
      go_wp2_with fail
      simp only [Exit.jump]
      refine bodyPost_ret (results_none rfl _ _ _) rfl ?_
      have h := hit.out
      rw [List.drop_of_length_le (Nat.le_refl _), items, if_neg (by omega), List.append_nil] at h
      rw [h]
      exact ⟨rfl, hI.out⟩
end Go.Proofs.Ytjboboaccjbebaa
