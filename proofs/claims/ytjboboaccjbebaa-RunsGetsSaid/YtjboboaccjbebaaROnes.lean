/- (*Reader).Ones and Align. -/
import Derived.Test.YtjboboaccjbebaaRGet
namespace Go.Proofs.Ytjboboaccjbebaa
open Go.RowKit

/-- How many bits 1 stand ahead, m at the most. -/
def ones (l : List Bool) (m : Nat) : Nat := ((l.take m).takeWhile id).length
theorem ones_is {l : List Bool} {m k : Nat} (hk : k ≤ m) (h1 : ∀ j, j < k → l[j]? = some true) (h2 : k = m ∨ l[k]? ≠ some true) : ones l m = k := by
  induction k generalizing l m with
  | zero =>
    unfold ones
    rcases h2 with h2 | h2
    · subst h2; simp
    · rcases l with _ | ⟨b, l⟩
      · simp
      · rcases m with _ | m
        · simp
        · cases b <;> simp_all
  | succ k ih =>
    obtain ⟨m, rfl⟩ : ∃ n, m = n + 1 := ⟨m - 1, by omega⟩
    rcases l with _ | ⟨b, l⟩
    · have := h1 0 (by omega); simp at this
    · have hb : b = true := by simpa using h1 0 (by omega)
      subst hb
      have h := ih (l := l) (m := m) (by omega) (fun j hj => by simpa using h1 (j + 1) (by omega)) (by
        rcases h2 with h2 | h2
        · exact .inl (by omega)
        · exact .inr (by simpa using h2))
      unfold ones at h ⊢
      simp [h]

/-- What Ones answers of bits L at i. -/
def onesVal (L : List Bool) (i : Nat) (m : Int) : Nat := if m < 0 then 0 else if ones (L.drop i) m.toNat = m.toNat then m.toNat else if L.length ≤ i + ones (L.drop i) m.toNat then 0 else ones (L.drop i) m.toNat
def onesErr (L : List Bool) (i : Nat) (m : Int) : Int := if m < 0 then 1 else if ones (L.drop i) m.toNat = m.toNat then 0 else if L.length ≤ i + ones (L.drop i) m.toNat then 10 else 0
def onesAt (L : List Bool) (i : Nat) (m : Int) : Nat := if m < 0 then i else if ones (L.drop i) m.toNat = m.toNat then i + m.toNat else if L.length ≤ i + ones (L.drop i) m.toNat then i else i + ones (L.drop i) m.toNat + 1

theorem rones_nil (n : Int) (w : World) : Calls Try.prog 129 #[.pointer none, .int .i64 n] w fun e w' => e = .returned (.tuple #[.int .i64 0, .int .i64 2]) ∧ w = w' := by
  go_enter Try.func129, Try.ntmps129
  go_wp2_with fail
  go_ret2
  exact ⟨rfl, rfl⟩
theorem rones_arg (p : Nat) (n : Int) (w : World) (hn : n < 0) : Calls Try.prog 129 #[.pointer (some ⟨p, 0, none⟩), .int .i64 n] w fun e w' => e = .returned (.tuple #[.int .i64 0, .int .i64 1]) ∧ w = w' := by
  go_enter Try.func129, Try.ntmps129
  go_wp2_with fail
  go_ret2
  exact ⟨rfl, rfl⟩

def OnesPost (w : World) (p : Nat) (v : Value) (F : List Nat) (i m : Nat) (e : Ending) (w' : World) : Prop :=
  e = .returned (.tuple #[.int .i64 ((onesVal (flat F) i m : Nat) : Int), .int .i64 (onesErr (flat F) i m)]) ∧ RI w p v F (onesAt (flat F) i m) w'

theorem drop_get (L : List Bool) (i j : Nat) : (L.drop i)[j]? = L[i + j]? := List.getElem?_drop

set_option maxRecDepth 100000 in
set_option maxHeartbeats 1600000 in
theorem rones_ok (w : World) (p : Nat) (v : Value) (F : List Nat) (i m : Nat) (h : Rd w p v F i) : Calls Try.prog 129 #[.pointer (some ⟨p, 0, none⟩), .int .i64 (m : Int)] w (OnesPost w p v F i m) := by
  have h0 : ¬ (m : Int) < 0 := by omega
  have H := hid h
  clear h
  go_enter Try.func129, Try.ntmps129
  go_wp2_with fail
  go_loopw [6] (fun n wr => ∃ k : Nat, k ≤ m ∧ i + k ≤ 8 * F.length ∧ n = .int .i64 k ∧ (∀ j, j < k → (flat F)[i + j]? = some true) ∧ RI w p v F i wr) (fun n _ => 8 * F.length + 1 - (intOf n).toNat)
  case atStart => exact ⟨0, Nat.zero_le _, H.out.at_, rfl, by omega, .refl H.out⟩
  case round =>
    obtain ⟨k, hkm, hik, rfl, hones, hrd, hkp⟩ := hrel
    obtain ⟨A, c, rfl⟩ := hrd.slice
    have c0 := hrd.blk.cell 0
    have c1 := hrd.blk.cell 1
    have f1 := hrd.blk.frozen 1
    simp at c0 c1
    have hlen := hrd.len
    have HH := hid (And.intro hones (And.intro hrd hkp))
    clear hones hrd hkp
    by_cases hkm' : k = m
    · have hin : ¬ (k : Int) < m := by omega
      have HM := hid hkm'
      clear hkm'
      go_wp2_with fail
      go_ret2
      obtain ⟨hones, hrd, hkp⟩ := HH.out
      have ho : ones ((flat F).drop i) m = m := by
        obtain rfl := HM.out
        exact ones_is (Nat.le_refl _) (fun j hj => by rw [drop_get]; exact hones j hj) (.inl rfl)
      have e1 : onesVal (flat F) i m = m := by unfold onesVal; rw [if_neg (by omega), Int.toNat_natCast, if_pos ho]
      have e2 : onesErr (flat F) i m = 0 := by unfold onesErr; rw [if_neg (by omega), Int.toNat_natCast, if_pos ho]
      have e3 : onesAt (flat F) i m = i + m := by unfold onesAt; rw [if_neg (by omega), Int.toNat_natCast, if_pos ho]
      unfold OnesPost
      rw [e1, e2, e3]
      obtain rfl := HM.out
      refine ⟨rfl, ?_⟩
      have e : (i : Int) + (k : Int) = ((i + k : Nat) : Int) := by omega
      rw [e]
      exact ⟨hrd.move _ hik, hkp.setCell (by simp) _⟩
    · have hin : (k : Int) < m := by omega
      have hw8 : IntKind.i64.wrap (8 * (F.length : Int)) = 8 * (F.length : Int) := IntWalk.i64_in _ (by omega)
      have hw9 : IntKind.i64.wrap ((i : Int) + (k : Int)) = (i : Int) + (k : Int) := IntWalk.i64_in _ (by omega)
      by_cases hend : i + k < 8 * F.length
      · have hend' : ¬ 8 * (F.length : Int) ≤ (i : Int) + (k : Int) := by omega
        have hend2 : decide (8 * (F.length : Int) ≤ (i : Int) + (k : Int)) = false := by simpa using hend'
        obtain ⟨b, hb⟩ : ∃ b, (flat F)[i + k]? = some b := ⟨_, List.getElem?_eq_getElem (by rw [flat_length]; omega)⟩
        have HB := hid hb
        clear hb
        go_wp2_with fail
        go_quiet (fail)
        go_wp2_with fail
        with_reducible refine (peek_at _ p _ F i _ (i + k) (by omega) (HH.out.2.1.drewN _) b HB.out).mono ?_
        rintro e w2 ⟨rfl, rfl⟩
        cases b
        · have hbn : (bN false == 0) = true := rfl
          go_wp2_with fail
          go_ret2
          obtain ⟨hones, hrd, hkp⟩ := HH.out
          have ho : ones ((flat F).drop i) m = k := ones_is hkm (fun j hj => by rw [drop_get]; exact hones j hj) (.inr (by rw [drop_get, HB.out]; simp))
          have e1 : onesVal (flat F) i m = k := by unfold onesVal; rw [if_neg (by omega), Int.toNat_natCast, ho, if_neg hkm', if_neg (by rw [flat_length]; omega)]
          have e2 : onesErr (flat F) i m = 0 := by unfold onesErr; rw [if_neg (by omega), Int.toNat_natCast, ho, if_neg hkm', if_neg (by rw [flat_length]; omega)]
          have e3 : onesAt (flat F) i m = i + k + 1 := by unfold onesAt; rw [if_neg (by omega), Int.toNat_natCast, ho, if_neg hkm', if_neg (by rw [flat_length]; omega)]
          unfold OnesPost
          rw [e1, e2, e3]
          refine ⟨rfl, ?_⟩
          have e : (i : Int) + ((k : Int) + 1) = ((i + k + 1 : Nat) : Int) := by omega
          rw [e]
          exact ⟨(hrd.drewN _).move _ (by omega), (hkp.drewN _).setCell (by simp) _⟩
        · have hbn : (bN true == 0) = false := rfl
          go_wp2_with fail
          go_roundw
          case rel =>
            obtain ⟨hones, hrd, hkp⟩ := HH.out
            refine ⟨k + 1, by omega, by omega, by go_num, fun j hj => ?_, hrd.drewN _, hkp.drewN _⟩
            by_cases hjk : j < k
            · exact hones j hjk
            · obtain rfl : j = k := by omega
              exact HB.out
          case measure => simp [intOf]; omega
      · have hend' : 8 * (F.length : Int) ≤ (i : Int) + (k : Int) := by omega
        have hend2 : decide (8 * (F.length : Int) ≤ (i : Int) + (k : Int)) = true := by simpa using hend'
        go_wp2_with fail
        go_quiet (fail)
        go_wp2_with fail
        go_ret2
        obtain ⟨hones, hrd, hkp⟩ := HH.out
        have ho : ones ((flat F).drop i) m = k := ones_is hkm (fun j hj => by rw [drop_get]; exact hones j hj) (.inr (by rw [drop_get, List.getElem?_eq_none (by rw [flat_length]; omega)]; simp))
        have e1 : onesVal (flat F) i m = 0 := by unfold onesVal; rw [if_neg (by omega), Int.toNat_natCast, ho, if_neg hkm', if_pos (by rw [flat_length]; omega)]
        have e2 : onesErr (flat F) i m = 10 := by unfold onesErr; rw [if_neg (by omega), Int.toNat_natCast, ho, if_neg hkm', if_pos (by rw [flat_length]; omega)]
        have e3 : onesAt (flat F) i m = i := by unfold onesAt; rw [if_neg (by omega), Int.toNat_natCast, ho, if_neg hkm', if_pos (by rw [flat_length]; omega)]
        unfold OnesPost
        rw [e1, e2, e3]
        exact ⟨rfl, hrd.drewN _, hkp.drewN _⟩

theorem rones_any (w : World) (p : Nat) (v : Value) (F : List Nat) (i : Nat) (m : Int) (h : Rd w p v F i) : Calls Try.prog 129 #[.pointer (some ⟨p, 0, none⟩), .int .i64 m] w fun e w' =>
    e = .returned (.tuple #[.int .i64 ((onesVal (flat F) i m : Nat) : Int), .int .i64 (onesErr (flat F) i m)]) ∧ RI w p v F (onesAt (flat F) i m) w' := by
  by_cases h0 : m < 0
  · have e1 : onesVal (flat F) i m = 0 := by unfold onesVal; rw [if_pos h0]
    have e2 : onesErr (flat F) i m = 1 := by unfold onesErr; rw [if_pos h0]
    have e3 : onesAt (flat F) i m = i := by unfold onesAt; rw [if_pos h0]
    rw [e1, e2, e3]
    refine (rones_arg p m w h0).mono ?_
    rintro e' w' ⟨rfl, rfl⟩
    exact ⟨rfl, .refl h⟩
  · obtain ⟨m, rfl⟩ := Int.eq_ofNat_of_zero_le (show 0 ≤ m by omega)
    exact rones_ok w p v F i m h

/-- Where the byte ends in which bit i stands. -/
def up8 (i : Nat) : Nat := (i + 7) / 8 * 8
/-- Are all bits up to there 0? -/
def alignOk (L : List Bool) (i : Nat) : Bool := ((L.drop i).take (up8 i - i)).all fun b => !b
def alignErr (L : List Bool) (i : Nat) : Int := if alignOk L i then 0 else 11
def alignAt (L : List Bool) (i : Nat) : Nat := if alignOk L i then up8 i else i
theorem alignOk_yes {L : List Bool} {i : Nat} (h : ∀ j, i ≤ j → j < up8 i → L[j]? = some false) : alignOk L i = true := by
  unfold alignOk
  rw [List.all_eq_true]
  intro b hb
  obtain ⟨k, hk, rfl⟩ := List.getElem_of_mem hb
  rw [List.length_take] at hk
  rw [List.getElem_take, List.getElem_drop]
  have := h (i + k) (by omega) (by omega)
  rw [List.getElem?_eq_some_iff] at this
  obtain ⟨_, e⟩ := this
  rw [e]; rfl
theorem alignOk_no {L : List Bool} {i j : Nat} (h1 : i ≤ j) (h2 : j < up8 i) (h : L[j]? = some true) : alignOk L i = false := by
  unfold alignOk
  rw [List.all_eq_false]
  refine ⟨true, ?_, by simp⟩
  rw [List.mem_iff_getElem?]
  refine ⟨j - i, ?_⟩
  rw [List.getElem?_take_of_lt (by omega), List.getElem?_drop, show i + (j - i) = j from by omega]
  exact h

def RAlignPost (w : World) (p : Nat) (v : Value) (F : List Nat) (i : Nat) (e : Ending) (w' : World) : Prop :=
  e = .returned (.int .i64 (alignErr (flat F) i)) ∧ RI w p v F (alignAt (flat F) i) w'

end Go.Proofs.Ytjboboaccjbebaa
