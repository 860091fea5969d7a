/- 'few' of layer 2's statements; slices of acts in old memory. -/
import Derived.Test.YtfbccmogiafgfaaArgs
import Derived.WalkKit
import Derived.WalkSpells
import Derived.WalkLawsBesides
import Derived.Outline
import Derived.BigGuardPart
namespace Go.Proofs.Ytfbccmogiafgfaa
open Go.RowKit

/-- A slice of acts that came in: element i is (K i, V i, N i). -/
def Acts (w : World) (A : Option Addr) (n : Nat) (K : Nat → Int) (V : Nat → Nat) (N : Nat → Int) : Prop :=
  ∀ i, i < n → ∃ ad, A = some ad ∧ ad.block < w.heap.size ∧ w.cell? (ad.add (i * 3)) = some (.int .i64 (K i)) ∧ w.cell? ⟨(ad.add (i * 3)).block, (ad.add (i * 3)).off + 1, none⟩ = some (.int .u64 (V i : Int)) ∧
    w.cell? ⟨(ad.add (i * 3)).block, (ad.add (i * 3)).off + 2, none⟩ = some (.int .i64 (N i)) ∧ V i < 18446744073709551616

theorem Acts.below {w w' : World} {A : Option Addr} {n : Nat} {K : Nat → Int} {V : Nat → Nat} {N : Nat → Int} (h : Acts w A n K V N) (hb : Below w.heap.size w w') : Acts w' A n K V N := fun i hi => by
  obtain ⟨ad, e, hlt, h0, h1, h2, hV⟩ := h i hi
  have hlt' : (ad.add (i * 3)).block < w.heap.size := by rw [block_of_add]; exact hlt
  exact ⟨ad, e, Nat.lt_of_lt_of_le hlt hb.size, (hb.cell (p := ad.add (i * 3)) hlt').trans h0, (hb.cell (p := ⟨(ad.add (i * 3)).block, (ad.add (i * 3)).off + 1, none⟩) hlt').trans h1, (hb.cell (p := ⟨(ad.add (i * 3)).block, (ad.add (i * 3)).off + 2, none⟩) hlt').trans h2, hV⟩

/-- How many of the first n acts are of kind 4. -/
def fours (K : Nat → Int) : Nat → Nat
  | 0 => 0
  | n + 1 => fours K n + if K n = 4 then 1 else 0
theorem fours_le (K : Nat → Int) (n : Nat) : fours K n ≤ n := by
  induction n with
  | zero => simp [fours]
  | succ n ih => simp only [fours]; split <;> omega
/-- Calls are few, and write few bits. -/
def Few (m : Nat) (K N : Nat → Int) : Prop := m ≤ 50 ∧ fours K m ≤ 3 ∧ ∀ i, i < m → ¬ (1 ≤ K i ∧ K i ≤ 2 ∧ 300 < N i ∧ N i ≤ 1048576)

def FewPost (w : World) (m : Nat) (K N : Nat → Int) (e : Ending) (w' : World) : Prop := w = w' ∧ ∃ b : Bool, e = .returned (.bool b) ∧ (b = true → Few m K N)

set_option maxRecDepth 100000 in
set_option maxHeartbeats 1600000 in
theorem few_any (A : Option Addr) (m c : Nat) (K : Nat → Int) (V : Nat → Nat) (N : Nat → Int) (w : World) (h : Acts w A m K V N) (hm : m ≤ 9223372036854775807) : Calls Try.prog 20 #[.slice A m c] w (FewPost w m K N) := by
  have H := hid h
  clear h
  go_enter Try.func20, Try.ntmps20
  go_wp2_with fail
  go_loopw [3, 4] (fun t i wr => ∃ k : Nat, k ≤ m ∧ k ≤ 60 ∧ i = .int .i64 k ∧ t = .int .i64 (fours K k : Nat) ∧ (∀ j, j < k → ¬ (1 ≤ K j ∧ K j ≤ 2 ∧ 300 < N j ∧ N j ≤ 1048576)) ∧ wr = w) (fun _ i _ => 60 - (intOf i).toNat)
  case atStart => exact ⟨0, Nat.zero_le _, by omega, rfl, rfl, by omega, rfl⟩
  case round =>
    obtain ⟨k, hk, hk60, rfl, rfl, hall, rfl⟩ := hrel
    have hf := fours_le K k
    have HA := hid hall
    clear hall
    by_cases hkm : k < m ∧ k < 60
    · obtain ⟨hkm, hk6⟩ := hkm
      have hin : (k : Int) < m := by omega
      have hin6 : (k : Int) < 60 := by omega
      obtain ⟨ad, rfl, _, h0, h1, h2, _⟩ := H.out k hkm
      obtain ⟨K0, hK⟩ : ∃ x, K k = x := ⟨_, rfl⟩
      obtain ⟨N0, hN⟩ : ∃ x, N k = x := ⟨_, rfl⟩
      rw [hK] at h0
      rw [hN] at h2
      have HK := hid (And.intro hK hN)
      clear hK hN
      by_cases hbad : 1 ≤ K0 ∧ K0 ≤ 2 ∧ 300 < N0 ∧ N0 ≤ 1048576
      · obtain ⟨b1, b2, b3, b4⟩ := hbad
        go_wp2_with fail
        go_ret
        exact ⟨rfl, false, rfl, by simp⟩
      · have HB := hid hbad
        clear hbad
        by_cases h4 : K0 = 4
        · subst h4
          go_wp2_with fail
          all_goals
            go_roundw
            case rel =>
              refine ⟨k + 1, by omega, by omega, by go_num, ?_, fun j hj => ?_, trivial⟩
              · simp only [fours, HK.out.1]
                first | rfl | simp | go_num
              · by_cases hjk : j < k
                · exact HA.out j hjk
                · obtain rfl : j = k := by omega
                  rw [HK.out.1, HK.out.2]
                  exact HB.out
            case measure => simp [intOf]; omega
        · have h4' : (K0 == 4) = false := by simpa using h4
          have H4 := hid h4
          clear h4
          go_wp2_with fail
          all_goals first
          | (go_ret
             exact ⟨rfl, false, rfl, by simp⟩)
          | (go_roundw
             case rel =>
               refine ⟨k + 1, by omega, by omega, by go_num, ?_, fun j hj => ?_, trivial⟩
               · simp only [fours, HK.out.1]
                 rw [if_neg H4.out]; first | rfl | simp | go_num
               · by_cases hjk : j < k
                 · exact HA.out j hjk
                 · obtain rfl : j = k := by omega
                   rw [HK.out.1, HK.out.2]
                   exact HB.out
             case measure => simp [intOf]; omega)
    · by_cases h60 : k < m
      · have hin : (k : Int) < m := by omega
        have hin6 : ¬ (k : Int) < 60 := by omega
        have h50 : ¬ (m : Int) ≤ 50 := by omega
        go_wp2_with fail
        go_ret
        exact ⟨rfl, false, rfl, by simp⟩
      · have hin : ¬ (k : Int) < m := by omega
        obtain rfl : k = m := by omega
        by_cases h50 : k ≤ 50
        · have h50' : (k : Int) ≤ 50 := by omega
          go_wp2_with fail
          go_ret
          refine ⟨rfl, decide ((fours K k : Int) ≤ 3), rfl, fun hd => ⟨h50, ?_, HA.out⟩⟩
          have := of_decide_eq_true hd
          omega
        · have h50' : ¬ (k : Int) ≤ 50 := by omega
          go_wp2_with fail
          go_ret
          exact ⟨rfl, false, rfl, by simp⟩
end Go.Proofs.Ytfbccmogiafgfaa
