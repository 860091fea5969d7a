/- Layer 8: GetAll. -/
import Derived.Test.YtgjiffpiffphfaaEvenG
import Derived.Test.YtgjiffpiffphfaaRiceGA
namespace Go.Proofs.Ytgjiffpiffphfaa
open Go.RowKit

/-- So many numbers, one behind the other, from place i on. -/
def egS (L : List Bool) (k i : Nat) : Nat → Except Int (List Nat × Nat)
  | 0 => .ok ([], i)
  | n + 1 => match egS L k i n with
    | .error e => .error e
    | .ok (l, j) => if (egT L j k).2.1 = 0 then .ok (l ++ [(egT L j k).1], (egT L j k).2.2) else .error (egT L j k).2.1
theorem egS_step {L : List Bool} {k i m j : Nat} {l : List Nat} (h : egS L k i m = .ok (l, j)) : egS L k i (m + 1) = if (egT L j k).2.1 = 0 then .ok (l ++ [(egT L j k).1], (egT L j k).2.2) else .error (egT L j k).2.1 := by rw [egS, h]
theorem egS_err {L : List Bool} {k i n : Nat} {x : Int} (h : egS L k i n = .error x) (m : Nat) : egS L k i (n + m) = .error x := by
  induction m with
  | zero => exact h
  | succ m ih => show egS L k i (n + m + 1) = _; rw [egS, ih]
theorem egS_err' {L : List Bool} {k i n : Nat} {x : Int} (h : egS L k i n = .error x) {m : Nat} (hm : n ≤ m) : egS L k i m = .error x := by
  have := egS_err h (m - n)
  rwa [show n + (m - n) = m by omega] at this
theorem egS_len {L : List Bool} {k i : Nat} : ∀ {n : Nat} {l : List Nat} {j : Nat}, egS L k i n = .ok (l, j) → l.length = n
  | 0, l, j, h => by
    rw [egS] at h
    injection h with h
    injection h with h1 h2
    subst h1
    rfl
  | n + 1, l, j, h => by
    rw [egS] at h
    cases e : egS L k i n with
    | error x => rw [e] at h; cases h
    | ok a =>
      obtain ⟨l', j'⟩ := a
      rw [e] at h
      have hl := egS_len e
      simp only at h
      split at h
      · injection h with h
        injection h with h1 h2
        subst h1
        simp [hl]
      · cases h
theorem egT_lt (L : List Bool) (i n : Nat) (h1 : 1 ≤ n) (hn : n ≤ 1099511627776) : (egT L i n).1 < 18446744073709551616 := by
  have hb := (eB_le n h1 hn).1
  rw [egT]
  by_cases h0 : eB n = 0
  · rw [if_pos h0]
    show 0 < _
    omega
  rw [if_neg h0]
  have hm : ((eB n : Int) - 1) = ((eB n - 1 : Nat) : Int) := by omega
  rw [hm]
  have h2 := getVal_lt L i (eB n - 1)
  have h3 := getVal_lt L (getAt L i ((eB n - 1 : Nat) : Int)) 1
  rw [show ((1 : Nat) : Int) = 1 from rfl] at h3
  have h4 : 2 ^ (eB n - 1) ≤ 2 ^ 39 := Nat.pow_le_pow_right (by omega) (by omega)
  split
  · show getVal L i ((eB n - 1 : Nat) : Int) < _; omega
  · split
    · show getVal L i ((eB n - 1 : Nat) : Int) < _; omega
    · split
      · show 0 < _; omega
      · show 2 * getVal L i ((eB n - 1 : Nat) : Int) + getVal L (getAt L i ((eB n - 1 : Nat) : Int)) 1 - eS n < _; omega
theorem egetall_arg (p : Nat) (n : Int) (k : Nat) (w : World) (h : spanB k = false ∨ n < 0 ∨ 1048576 < n) : Calls Try.prog 42 #[.pointer (some ⟨p, 0, none⟩), .int .i64 n, .int .u64 (k : Int)] w fun e w' => e = .returned (.tuple #[.slice none 0 0, .int .i64 1]) ∧ w = w' := by
  have HP := span_any k w
  obtain ⟨b, hb⟩ : ∃ b, spanB k = b := ⟨_, rfl⟩
  rw [hb] at HP h
  replace HP := hid HP
  clear hb
  cases b
  · clear h
    go_enter Try.func42, Try.ntmps42
    go_wp2_with fail
    with_reducible refine HP.out.mono ?_
    rintro e w1 ⟨rfl, rfl⟩
    go_wp2_with fail
    go_ret2
    exact ⟨rfl, rfl⟩
  · by_cases h1 : n < 0
    · clear h
      go_enter Try.func42, Try.ntmps42
      go_wp2_with fail
      with_reducible refine HP.out.mono ?_
      rintro e w1 ⟨rfl, rfl⟩
      go_wp2_with fail
      go_ret2
      exact ⟨rfl, rfl⟩
    · have h2 : 1048576 < n := by rcases h with h | h | h <;> first | exact h | cases h | omega
      clear h
      go_enter Try.func42, Try.ntmps42
      go_wp2_with fail
      with_reducible refine HP.out.mono ?_
      rintro e w1 ⟨rfl, rfl⟩
      go_wp2_with fail
      go_ret2
      exact ⟨rfl, rfl⟩

set_option maxRecDepth 100000 in
set_option maxHeartbeats 4000000 in
theorem egetall_any (w : World) (p : Nat) (v : Value) (F : List Nat) (i k n : Nat) (h : Rd w p v F i) (hk : spanB k = true) (hn : n ≤ 1048576) (hv : ∀ g, v.ownBlock = some g → g < w.heap.size) :
    Calls Try.prog 42 #[.pointer (some ⟨p, 0, none⟩), .int .i64 (n : Int), .int .u64 (k : Int)] w (GAPost (fun w' j => Rd w' p v F j) w p (egS (flat F) k i n) n) := by
  obtain ⟨k1, k2⟩ := (spanB_iff k).1 hk
  have HP := span_any k w
  rw [hk] at HP
  replace HP := hid HP
  have HG := hid (fun w' j (h : Rd w' p v F j) => egetlow_any w' p v F j k h k1 k2)
  have HL := hid (fun j => egT_lt (flat F) j k k1 k2)
  have HV := hid hv
  have G0 := hid (show GU (fun w' j => Rd w' p v F j) w p i [] (.slice none 0 0) w from ⟨h, .refl _ _, World.ownsRow_nil _ _ _ _, by simp [Value.ownBlock], h.blk.lt⟩)
  clear h hv
  obtain ⟨L, hL⟩ : ∃ L, flat F = L := ⟨_, rfl⟩
  rw [hL] at HG HL ⊢
  clear hL
  go_enter Try.func42, Try.ntmps42
  go_wp2_with fail
  with_reducible refine HP.out.mono ?_
  rintro e w1 ⟨rfl, rfl⟩
  go_wp2_with fail
  go_loopw [8, 27] (fun o c wr => ∃ (m : Nat) (l : List Nat) (j : Nat) (A : Option Addr) (cc : Nat), m ≤ n ∧ c = .int .i64 m ∧ o = .slice A m cc ∧ Hid (egS L k i m = .ok (l, j)) ∧ Hid (GU (fun w' j => Rd w' p v F j) w p j l (.slice A m cc) wr)) (fun _ c _ => n - (intOf c).toNat)
  case atStart => exact ⟨0, [], i, none, 0, by omega, rfl, rfl, rfl, G0.out⟩
  case round =>
    obtain ⟨m, l, j, A, cc, hm, rfl, rfl, hS, hG⟩ := hrel
    by_cases hmn : m < n
    · have hin : (m : Int) < n := by omega
      have hC := HG.out wr j hG.out.rd
      have hxl := HL.out j
      have hR := hid (egS_step hS.out)
      obtain ⟨r, hr⟩ : ∃ r, egT L j k = r := ⟨_, rfl⟩
      rw [hr] at hC hxl hR
      clear hr
      obtain ⟨x, e1, a⟩ := r
      replace hC := hid hC
      simp only at hxl
      by_cases he : e1 = 0
      · subst he
        go_wp2_with fail
        with_reducible refine hC.out.mono ?_
        rintro e w2 ⟨rfl, hr2⟩
        have G2 := hid (hG.out.get (RI.rd hr2) hr2.2)
        clear hr2
        go_wp2_with (at_builtin; go_must (refine wpList_app1 _ rfl (.tmp 38) (.tmp 40) 23 rfl 22 .u64 8 Try.underlying23 Try.info_uint (.slice A m cc) (u64s l) m rfl ?d1 ⟨w2.heap.size, 0, none⟩ (x : Int) rfl ?d3 (by decide) ?d4 (w2.heap.size + 1) ?d5 ?_); rotate_right; intro g cap w3 hown3 hg3 hat hlt; replace hown3 := hid hown3; replace hg3 := hid hg3; replace hat := hid hat)
        case d1 => exact (G2.out.own_n (egS_len hS.out)).alloc _
        case d3 => exact World.cell?_alloc_at _ _ _ _ rfl
        case d4 => omega
        case d5 => simp
        have hgr := G2.out.grow (egS_len hS.out) (fun w4 hk4 => G2.out.rd.keep hk4 (fun e => by have := G2.out.new _ e; have := G2.out.lt; omega) fun g' hg' e => by have := G2.out.new _ e; have := HV.out _ hg'; omega) hown3.out hg3.out hat.out
        have hst := hR.out
        rw [if_pos trivial] at hst
        go_roundw
        case rel => exact ⟨m + 1, _, _, _, _, by omega, by go_num, rfl, hst, hgr⟩
        case measure => simp [intOf]; omega
      · have he' : (e1 == 0) = false := by rw [beq_eq_false_iff_ne]; exact he
        have HE := hid he
        clear he
        go_wp2_with fail
        with_reducible refine hC.out.mono ?_
        rintro e w2 ⟨rfl, hr2⟩
        have G2 := hid (hG.out.get (RI.rd hr2) hr2.2)
        clear hr2
        go_wp2_with fail
        go_ret2
        have hst := hR.out
        rw [if_neg HE.out] at hst
        unfold GAPost
        rw [egS_err' hst (by omega)]
        exact ⟨rfl, G2.out.kp, HE.out, _, G2.out.rd⟩
    · have hin : ¬ (m : Int) < n := by omega
      obtain rfl : m = n := by omega
      go_wp2_with fail
      go_ret2
      unfold GAPost
      rw [hS.out]
      exact ⟨A, cc, rfl, hG.out⟩
end Go.Proofs.Ytgjiffpiffphfaa
