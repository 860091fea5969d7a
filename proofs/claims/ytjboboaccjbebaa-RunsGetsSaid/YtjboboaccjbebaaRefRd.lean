/- The reference's reader (descantref02.Reader): Read, Left, Get, Ones, Align. -/
import Derived.Test.YtjboboaccjbebaaRef02b
import Derived.Test.YtjboboaccjbebaaROnes
namespace Go.Proofs.Ytjboboaccjbebaa
open Go.RowKit

/-- Block p is a reference's reader that stands at bit i of the bits L, which the slice v holds. -/
structure RefRd (w : World) (p : Nat) (v : Value) (L : List Bool) (i : Nat) : Prop where
  blk : Blk w p 58 #[v, .int .i64 (i : Int)]
  sl : Sl w v (i64s (bis L))
  ne : v.ownBlock ≠ some p
  at_ : i ≤ L.length
  len : L.length ≤ 8589934592

section
variable {w w' : World} {p : Nat} {v : Value} {L : List Bool} {i : Nat}
theorem RefRd.keep (h : RefRd w p v L i) {S : Nat → Prop} (hk : Kept S w w') (hp : ¬ S p) (hv : ∀ g, v.ownBlock = some g → ¬ S g) : RefRd w' p v L i :=
  ⟨h.blk.kept hk hp, h.sl.kept hk hv, h.ne, h.at_, h.len⟩
theorem RefRd.below (h : RefRd w p v L i) (hk : Below w.heap.size w w') : RefRd w' p v L i := h.keep (Kept.of_below' (S := fun _ => False) hk) id fun _ _ => id
theorem RefRd.drew (h : RefRd w p v L i) : RefRd w.drew p v L i := ⟨h.blk, h.sl.drew, h.ne, h.at_, h.len⟩
theorem RefRd.drewN (h : RefRd w p v L i) (n : Nat) : RefRd (w.drewN n) p v L i := ⟨h.blk, h.sl.drewN n, h.ne, h.at_, h.len⟩
theorem RefRd.move (h : RefRd w p v L i) (j : Nat) (hj : j ≤ L.length) : RefRd (w.setCell ⟨p, 1, none⟩ (.int .i64 (j : Int))) p v L j :=
  ⟨by simpa using h.blk.upd 1 (.int .i64 (j : Int)), h.sl.setCell h.ne _, h.ne, hj, h.len⟩
theorem RefRd.slice (h : RefRd w p v L i) : ∃ A c, v = .slice A L.length c := by
  obtain ⟨A, c, e, _⟩ := h.sl.form
  rw [i64s_length, bis_length] at e
  exact ⟨A, c, e⟩
theorem RefRd.cell {A : Option Addr} {c t : Nat} {n : Nat} (h : RefRd w p (.slice A n c) L i) (ht : t < L.length) : ∃ ad, A = some ad ∧ w.cell? (ad.add t) = some (.int .i64 (bi L[t])) := by
  obtain ⟨ad, e, hc⟩ := h.sl.at_ (show t < (i64s (bis L)).length by rw [i64s_length, bis_length]; exact ht)
  rw [bis_get L t ht] at hc
  exact ⟨ad, e, hc⟩
end

/-- It stands at j now; nothing but its own block was touched. -/
def RRI (w : World) (p : Nat) (v : Value) (L : List Bool) (j : Nat) (w' : World) : Prop := RefRd w' p v L j ∧ Kept (fun k => k = p) w w'
theorem RRI.refl {w : World} {p : Nat} {v : Value} {L : List Bool} {i : Nat} (h : RefRd w p v L i) : RRI w p v L i w := ⟨h, .refl _ _⟩
theorem RRI.trans {w w1 w2 : World} {p : Nat} {v : Value} {L : List Bool} {i j : Nat} (h : RRI w p v L i w1) (k : RRI w1 p v L j w2) : RRI w p v L j w2 := ⟨k.1, h.2.trans k.2 fun _ _ => id⟩

/-- What Read hands back: a reader in new memory, at the first bit. -/
def RefReadPost (w : World) (L : List Bool) (e : Ending) (w' : World) : Prop :=
  ∃ q v, e = .returned (.pointer (some ⟨q, 0, none⟩)) ∧ RefRd w' q v L 0 ∧ Below w.heap.size w w' ∧ w.heap.size ≤ q ∧ ∀ g, v.ownBlock = some g → w.heap.size ≤ g ∧ g < q

theorem refread_any (w : World) (v : Value) (F : List Nat) (h : Sl w v (u8s F)) (hF : F.length ≤ 1073741824) (hb : ∀ x ∈ F, x < 256) : Calls Try.prog 39 #[v] w (RefReadPost w (flat F)) := by
  have H := hid (And.intro h hb)
  clear h hb
  go_enter Try.func39, Try.ntmps39
  go_wp2_with fail
  have HC := refof_any v F w H.out.1 hF H.out.2
  with_reducible refine HC.mono ?_
  clear HC
  rintro e w1 ⟨A, c, rfl, hf⟩
  replace hf := hid hf
  go_wp2_with fail
  go_ret
  have hlt : ∀ g, (Value.slice A (bis (flat F)).length c).ownBlock = some g → g < w1.heap.size := fun g hg => (hf.out.1.lt g hg).2
  refine ⟨w1.heap.size, _, rfl, ⟨Blk.new w1 _ _, hf.out.sl.alloc _, fun h => by have := hlt _ h; omega, by omega, by rw [flat_length]; omega⟩, hf.out.2.1.alloc hf.out.2.1.size _, hf.out.2.1.size, fun g hg => ⟨hf.out.2.2 g hg, hlt g hg⟩⟩

theorem refleft_any (w : World) (p : Nat) (v : Value) (L : List Bool) (i : Nat) (h : RefRd w p v L i) : Calls Try.prog 155 #[.pointer (some ⟨p, 0, none⟩)] w fun e w' => e = .returned (.int .i64 ((L.length : Int) - (i : Int))) ∧ ∃ n, w' = w.drewN n := by
  obtain ⟨A, c, rfl⟩ := h.slice
  have c0 := h.blk.cell 0
  have c1 := h.blk.cell 1
  simp at c0 c1
  have hi := h.at_
  have hl := h.len
  have hw9 : IntKind.i64.wrap ((L.length : Int) - (i : Int)) = (L.length : Int) - (i : Int) := IntWalk.i64_in _ (by omega)
  clear h
  go_enter Try.func155, Try.ntmps155
  go_wp2_with fail
  go_quiet (fail)
  go_wp2_with fail
  go_ret
  exact ⟨rfl, _, rfl⟩

theorem refget_arg (p : Nat) (n : Int) (w : World) (hn : n < 0 ∨ 64 < n) : Calls Try.prog 130 #[.pointer (some ⟨p, 0, none⟩), .int .i64 n] w fun e w' => e = .returned (.tuple #[.int .u64 0, .int .i64 1]) ∧ w = w' := by
  rcases hn with hn | hn
  · go_enter Try.func130, Try.ntmps130
    go_wp2_with fail
    go_ret2
    exact ⟨rfl, rfl⟩
  · have h0 : ¬ n < 0 := by omega
    go_enter Try.func130, Try.ntmps130
    go_wp2_with fail
    go_ret2
    exact ⟨rfl, rfl⟩
set_option maxRecDepth 100000 in
theorem refget_end (w : World) (p : Nat) (v : Value) (L : List Bool) (i n : Nat) (h : RefRd w p v L i) (hn : n ≤ 64) (hi : L.length < i + n) : Calls Try.prog 130 #[.pointer (some ⟨p, 0, none⟩), .int .i64 (n : Int)] w fun e w' => e = .returned (.tuple #[.int .u64 0, .int .i64 10]) ∧ ∃ k, w' = w.drewN k := by
  have h0 : ¬ (n : Int) < 0 := by omega
  have h1 : ¬ (64 : Int) < n := by omega
  have h2 : (L.length : Int) - (i : Int) < n := by omega
  have H := hid h
  clear h
  go_enter Try.func130, Try.ntmps130
  go_wp2_with fail
  with_reducible refine (refleft_any w p v L i H.out).mono ?_
  rintro e w1 ⟨rfl, k, rfl⟩
  go_wp2_with fail
  go_ret2
  exact ⟨rfl, k, rfl⟩

theorem refget_bit {L : List Bool} {i j V : Nat} (hV : V < 2 ^ j) (hj : j + 1 ≤ 64) (hVe : valOf ((L.drop i).take j) = V) (hlt : i + j < L.length) {b : Bool} (hb : L[i + j] = b) :
    IntKind.u64.wrap (IntKind.u64.wrap (2 * (V : Int)) + bi b) = ((valOf ((L.drop i).take (j + 1)) : Nat) : Int) := by
  have hp : 2 ^ (j + 1) ≤ 2 ^ 64 := Nat.pow_le_pow_right (by omega) hj
  rw [Nat.pow_succ] at hp
  have e : (L.drop i).take (j + 1) = (L.drop i).take j ++ [b] := take_more _ _ _ _ (by rw [List.getElem?_eq_getElem hlt, hb])
  have h1 : bi b = ((b.toNat : Nat) : Int) := by cases b <;> rfl
  have hb2 : b.toNat ≤ 1 := by cases b <;> decide
  have hlt2 : 2 * V + b.toNat < 18446744073709551616 := by omega
  rw [e, valOf_append, hVe, h1, IntWalk.u64_in (2 * (V : Int)) (by omega), IntWalk.u64_in _ (by omega)]
  omega

set_option maxRecDepth 100000 in
set_option maxHeartbeats 1600000 in
theorem refget_ok (w : World) (p : Nat) (v : Value) (L : List Bool) (i n : Nat) (h : RefRd w p v L i) (hn : n ≤ 64) (hi : i + n ≤ L.length) : Calls Try.prog 130 #[.pointer (some ⟨p, 0, none⟩), .int .i64 (n : Int)] w fun e w' =>
    e = .returned (.tuple #[.int .u64 ((valOf ((L.drop i).take n) : Nat) : Int), .int .i64 0]) ∧ RRI w p v L (i + n) w' := by
  have h0 : ¬ (n : Int) < 0 := by omega
  have h1 : ¬ (64 : Int) < n := by omega
  have h2 : ¬ (L.length : Int) - (i : Int) < n := by omega
  have H := hid h
  clear h
  go_enter Try.func130, Try.ntmps130
  go_wp2_with fail
  with_reducible refine (refleft_any w p v L i H.out).mono ?_
  rintro e w1 ⟨rfl, k, rfl⟩
  go_wp2_with fail
  go_loopw [6, 7] (fun x m wr => ∃ j : Nat, j ≤ n ∧ m = .int .i64 j ∧ x = .int .u64 ((valOf ((L.drop i).take j) : Nat) : Int) ∧ RRI w p v L i wr) (fun _ m _ => n - (intOf m).toNat)
  case atStart => exact ⟨0, by omega, rfl, rfl, H.out.drewN _, (Kept.refl _ _).drewN _⟩
  case round =>
    obtain ⟨j, hj, rfl, rfl, hrd, hkp⟩ := hrel
    obtain ⟨A, c, rfl⟩ := hrd.slice
    have c0 := hrd.blk.cell 0
    have c1 := hrd.blk.cell 1
    have f1 := hrd.blk.frozen 1
    simp at c0 c1
    have hlen := hrd.len
    have hV : valOf ((L.drop i).take j) < 2 ^ j := by
      have h := valOf_lt ((L.drop i).take j)
      rwa [List.length_take, List.length_drop, Nat.min_eq_left (by omega)] at h
    obtain ⟨V, hVe⟩ : ∃ V, valOf ((L.drop i).take j) = V := ⟨_, rfl⟩
    rw [hVe] at hV ⊢
    have HH := hid (And.intro hrd (And.intro hkp (And.intro hV hVe)))
    by_cases hjn : j < n
    · have hin : (j : Int) < n := by omega
      have hlt : i + j < L.length := by omega
      obtain ⟨ad, rfl, hc⟩ := hrd.cell hlt
      obtain ⟨b, hb⟩ : ∃ b, L[i + j] = b := ⟨_, rfl⟩
      rw [hb] at hc
      have hb0 : 0 ≤ bi b := by cases b <;> simp [bi]
      have hb1 : bi b ≤ 1 := by cases b <;> simp [bi]
      have hw1 : IntKind.i64.wrap ((i : Int) + (j : Int)) = ((i + j : Nat) : Int) := by rw [IntWalk.i64_in _ (by omega)]; omega
      have hlt' : ((i + j : Nat) : Int) < L.length := by omega
      have HB := hid hb
      clear hrd hkp hV hVe hb
      go_wp2_with fail
      go_quiet (fail)
      go_wp2_with fail
      go_roundw
      case rel =>
        obtain ⟨hrd, hkp, hV, hVe⟩ := HH.out
        exact ⟨j + 1, by omega, by go_num, congrArg (Value.int .u64) (refget_bit hV (by omega) hVe hlt HB.out), hrd.drewN _, hkp.drewN _⟩
      case measure => simp [intOf]; omega
    · have hin : ¬ (j : Int) < n := by omega
      clear hrd hkp hV hVe
      go_wp2_with fail
      go_ret2
      obtain ⟨hrd, hkp, hV, hVe⟩ := HH.out
      obtain rfl : j = n := by omega
      refine ⟨by rw [hVe]; rfl, ?_⟩
      have e : (i : Int) + (j : Int) = ((i + j : Nat) : Int) := by omega
      rw [e]
      exact ⟨hrd.move _ hi, hkp.setCell (by simp) _⟩

theorem refget_any (w : World) (p : Nat) (v : Value) (L : List Bool) (i : Nat) (n : Int) (h : RefRd w p v L i) : Calls Try.prog 130 #[.pointer (some ⟨p, 0, none⟩), .int .i64 n] w fun e w' =>
    e = .returned (.tuple #[.int .u64 ((getVal L i n : Nat) : Int), .int .i64 (getErr L i n)]) ∧ RRI w p v L (getAt L i n) w' := by
  by_cases h1 : n < 0 ∨ 64 < n
  · have e1 : getErr L i n = 1 := by simp [getErr, h1]
    have e2 : getVal L i n = 0 := by unfold getVal; rw [if_pos (by omega)]
    have e3 : getAt L i n = i := by unfold getAt; rw [if_pos (by omega)]
    rw [e1, e2, e3]
    refine (refget_arg p n w h1).mono ?_
    rintro e' w' ⟨rfl, rfl⟩
    exact ⟨rfl, .refl h⟩
  · obtain ⟨m, rfl⟩ := Int.eq_ofNat_of_zero_le (show 0 ≤ n by omega)
    by_cases h2 : L.length < i + m
    · have e1 : getErr L i m = 10 := by unfold getErr; rw [if_neg (by omega), if_pos (by omega)]
      have e2 : getVal L i m = 0 := by unfold getVal; rw [if_pos (by omega)]
      have e3 : getAt L i m = i := by unfold getAt; rw [if_pos (by omega)]
      rw [e1, e2, e3]
      refine (refget_end w p v L i m h (by omega) h2).mono ?_
      rintro e' w' ⟨rfl, k, rfl⟩
      exact ⟨rfl, h.drewN k, (Kept.refl _ _).drewN k⟩
    · have e1 : getErr L i m = 0 := by unfold getErr; rw [if_neg (by omega), if_neg (by omega)]
      have e2 : getVal L i m = valOf ((L.drop i).take m) := by unfold getVal; rw [if_neg (by omega)]; simp
      have e3 : getAt L i m = i + m := by unfold getAt; rw [if_neg (by omega)]; simp
      rw [e1, e2, e3]
      exact refget_ok w p v L i m h (by omega) (by omega)

theorem refones_arg (p : Nat) (n : Int) (w : World) (hn : n < 0) : Calls Try.prog 131 #[.pointer (some ⟨p, 0, none⟩), .int .i64 n] w fun e w' => e = .returned (.tuple #[.int .i64 0, .int .i64 1]) ∧ w = w' := by
  go_enter Try.func131, Try.ntmps131
  go_wp2_with fail
  go_ret2
  exact ⟨rfl, rfl⟩

def RefOnesPost (w : World) (p : Nat) (v : Value) (L : List Bool) (i m : Nat) (e : Ending) (w' : World) : Prop :=
  e = .returned (.tuple #[.int .i64 ((onesVal L i m : Nat) : Int), .int .i64 (onesErr L i m)]) ∧ RRI w p v L (onesAt L i m) w'

set_option maxRecDepth 100000 in
set_option maxHeartbeats 3200000 in
theorem refones_ok (w : World) (p : Nat) (v : Value) (L : List Bool) (i m : Nat) (h : RefRd w p v L i) : Calls Try.prog 131 #[.pointer (some ⟨p, 0, none⟩), .int .i64 (m : Int)] w (RefOnesPost w p v L i m) := by
  have h0 : ¬ (m : Int) < 0 := by omega
  have H := hid h
  clear h
  go_enter Try.func131, Try.ntmps131
  go_wp2_with fail
  go_loopw [6] (fun n wr => ∃ k : Nat, k ≤ m ∧ i + k ≤ L.length ∧ n = .int .i64 k ∧ (∀ j, j < k → L[i + j]? = some true) ∧ RRI w p v L i wr) (fun n _ => L.length + 1 - (intOf n).toNat)
  case atStart => exact ⟨0, Nat.zero_le _, H.out.at_, rfl, by omega, .refl H.out⟩
  case round =>
    obtain ⟨k, hkm, hik, rfl, hones, hrd, hkp⟩ := hrel
    obtain ⟨A, c, rfl⟩ := hrd.slice
    have c0 := hrd.blk.cell 0
    have c1 := hrd.blk.cell 1
    have f1 := hrd.blk.frozen 1
    simp at c0 c1
    have hlen := hrd.len
    have hw9 : IntKind.i64.wrap ((i : Int) + (k : Int)) = ((i + k : Nat) : Int) := by rw [IntWalk.i64_in _ (by omega)]; omega
    have HH := hid (And.intro hones (And.intro hrd hkp))
    by_cases hend : i + k < L.length
    · have hend2 : decide ((i : Int) + (k : Int) < (L.length : Int)) = true := by simp; omega
      have hend3 : decide ((L.length : Int) ≤ (i : Int) + (k : Int)) = false := by simp; omega
      have hend4 : (i : Int) + (k : Int) < L.length := by omega
      have hend5 : 0 ≤ (i : Int) + (k : Int) := by omega
      have hend6 : ((i : Int) + (k : Int)).toNat = i + k := by omega
      by_cases hkm' : k = m
      · have hin2 : decide (k < m) = false := by simp; omega
        have heq : ((k : Int) == (m : Int)) = true := by simp; omega
        have HM := hid hkm'
        clear hkm' hones hrd hkp
        go_wp2_with fail
        go_quiet (fail)
        go_wp2_with fail
        go_ret2
        obtain ⟨hones, hrd, hkp⟩ := HH.out
        have ho : ones (L.drop i) m = m := by
          obtain rfl := HM.out
          exact ones_is (Nat.le_refl _) (fun j hj => by rw [drop_get]; exact hones j hj) (.inl rfl)
        have e1 : onesVal L i m = m := by unfold onesVal; rw [if_neg (by omega), Int.toNat_natCast, if_pos ho]
        have e2 : onesErr L i m = 0 := by unfold onesErr; rw [if_neg (by omega), Int.toNat_natCast, if_pos ho]
        have e3 : onesAt L i m = i + m := by unfold onesAt; rw [if_neg (by omega), Int.toNat_natCast, if_pos ho]
        unfold RefOnesPost
        rw [e1, e2, e3]
        obtain rfl := HM.out
        refine ⟨rfl, ?_⟩
        have e : (i : Int) + (k : Int) = ((i + k : Nat) : Int) := by omega
        rw [e]
        exact ⟨(hrd.drewN _).move _ hik, (hkp.drewN _).setCell (by simp) _⟩
      · have hin2 : decide (k < m) = true := by simp; omega
        have heq : ((k : Int) == (m : Int)) = false := by simp; omega
        obtain ⟨ad, rfl, hc⟩ := hrd.cell hend
        obtain ⟨b, hb⟩ : ∃ b, L[i + k] = b := ⟨_, rfl⟩
        rw [hb] at hc
        have HB := hid hb
        clear hones hrd hkp hb
        cases b
        · have hb1 : (bi false == 1) = false := rfl
          go_wp2_with fail
          go_quiet (fail)
          go_wp2_with fail
          go_quiet (fail)
          go_wp2_with fail
          go_ret2
          obtain ⟨hones, hrd, hkp⟩ := HH.out
          have ho : ones (L.drop i) m = k := ones_is hkm (fun j hj => by rw [drop_get]; exact hones j hj) (.inr (by rw [drop_get, List.getElem?_eq_getElem hend, HB.out]; simp))
          have e1 : onesVal L i m = k := by unfold onesVal; rw [if_neg (by omega), Int.toNat_natCast, ho, if_neg hkm', if_neg (by omega)]
          have e2 : onesErr L i m = 0 := by unfold onesErr; rw [if_neg (by omega), Int.toNat_natCast, ho, if_neg hkm', if_neg (by omega)]
          have e3 : onesAt L i m = i + k + 1 := by unfold onesAt; rw [if_neg (by omega), Int.toNat_natCast, ho, if_neg hkm', if_neg (by omega)]
          unfold RefOnesPost
          rw [e1, e2, e3]
          refine ⟨rfl, ?_⟩
          have e : (i : Int) + (k : Int) + 1 = ((i + k + 1 : Nat) : Int) := by omega
          rw [e]
          exact ⟨(hrd.drewN _).move _ (by omega), (hkp.drewN _).setCell (by simp) _⟩
        · have hb1 : (bi true == 1) = true := rfl
          go_wp2_with fail
          go_quiet (fail)
          go_wp2_with fail
          go_roundw
          case rel =>
            obtain ⟨hones, hrd, hkp⟩ := HH.out
            refine ⟨k + 1, by omega, by omega, by go_num, fun j hj => ?_, hrd.drewN _, hkp.drewN _⟩
            by_cases hjk : j < k
            · exact hones j hjk
            · obtain rfl : j = k := by omega
              rw [List.getElem?_eq_getElem hend, HB.out]
          case measure => simp [intOf]; omega
    · have hend2 : decide ((i : Int) + (k : Int) < (L.length : Int)) = false := by simp; omega
      have hend3 : decide ((L.length : Int) ≤ (i : Int) + (k : Int)) = true := by simp; omega
      by_cases hkm' : k = m
      · have heq : ((k : Int) == (m : Int)) = true := by simp; omega
        have HM := hid hkm'
        clear hkm' hones hrd hkp
        go_wp2_with fail
        go_quiet (fail)
        go_wp2_with fail
        go_ret2
        obtain ⟨hones, hrd, hkp⟩ := HH.out
        have ho : ones (L.drop i) m = m := by
          obtain rfl := HM.out
          exact ones_is (Nat.le_refl _) (fun j hj => by rw [drop_get]; exact hones j hj) (.inl rfl)
        have e1 : onesVal L i m = m := by unfold onesVal; rw [if_neg (by omega), Int.toNat_natCast, if_pos ho]
        have e2 : onesErr L i m = 0 := by unfold onesErr; rw [if_neg (by omega), Int.toNat_natCast, if_pos ho]
        have e3 : onesAt L i m = i + m := by unfold onesAt; rw [if_neg (by omega), Int.toNat_natCast, if_pos ho]
        unfold RefOnesPost
        rw [e1, e2, e3]
        obtain rfl := HM.out
        refine ⟨rfl, ?_⟩
        have e : (i : Int) + (k : Int) = ((i + k : Nat) : Int) := by omega
        rw [e]
        exact ⟨(hrd.drewN _).move _ hik, (hkp.drewN _).setCell (by simp) _⟩
      · have heq : ((k : Int) == (m : Int)) = false := by simp; omega
        clear hones hrd hkp
        go_wp2_with fail
        go_quiet (fail)
        go_wp2_with fail
        go_quiet (fail)
        go_wp2_with fail
        go_ret2
        obtain ⟨hones, hrd, hkp⟩ := HH.out
        have ho : ones (L.drop i) m = k := ones_is hkm (fun j hj => by rw [drop_get]; exact hones j hj) (.inr (by rw [drop_get, List.getElem?_eq_none (by omega)]; simp))
        have e1 : onesVal L i m = 0 := by unfold onesVal; rw [if_neg (by omega), Int.toNat_natCast, ho, if_neg hkm', if_pos (by omega)]
        have e2 : onesErr L i m = 10 := by unfold onesErr; rw [if_neg (by omega), Int.toNat_natCast, ho, if_neg hkm', if_pos (by omega)]
        have e3 : onesAt L i m = i := by unfold onesAt; rw [if_neg (by omega), Int.toNat_natCast, ho, if_neg hkm', if_pos (by omega)]
        unfold RefOnesPost
        rw [e1, e2, e3]
        exact ⟨rfl, (hrd.drewN _).drewN _, (hkp.drewN _).drewN _⟩

theorem refones_any (w : World) (p : Nat) (v : Value) (L : List Bool) (i : Nat) (m : Int) (h : RefRd w p v L i) : Calls Try.prog 131 #[.pointer (some ⟨p, 0, none⟩), .int .i64 m] w fun e w' =>
    e = .returned (.tuple #[.int .i64 ((onesVal L i m : Nat) : Int), .int .i64 (onesErr L i m)]) ∧ RRI w p v L (onesAt L i m) w' := by
  by_cases h0 : m < 0
  · have e1 : onesVal L i m = 0 := by unfold onesVal; rw [if_pos h0]
    have e2 : onesErr L i m = 1 := by unfold onesErr; rw [if_pos h0]
    have e3 : onesAt L i m = i := by unfold onesAt; rw [if_pos h0]
    rw [e1, e2, e3]
    refine (refones_arg p m w h0).mono ?_
    rintro e' w' ⟨rfl, rfl⟩
    exact ⟨rfl, .refl h⟩
  · obtain ⟨m, rfl⟩ := Int.eq_ofNat_of_zero_le (show 0 ≤ m by omega)
    exact refones_ok w p v L i m h

def RefAlignPost (w : World) (p : Nat) (v : Value) (L : List Bool) (i : Nat) (e : Ending) (w' : World) : Prop :=
  e = .returned (.int .i64 (alignErr L i)) ∧ RRI w p v L (alignAt L i) w'

end Go.Proofs.Ytjboboaccjbebaa
