/- The walk of EvenGets: long lists, bad arguments, many numbers. -/
import Derived.Test.YtgjiffpiffphfaaEvenGA
import Derived.Test.YtgjiffpiffphfaaERef
import Derived.Test.YtgjiffpiffphfaaRGetsW
import Derived.Test.YtgjiffpiffphfaaKnown08
namespace Go.Proofs.Ytgjiffpiffphfaa
open Go.RowKit
namespace evenGets

set_option maxRecDepth 100000 in
set_option maxHeartbeats 4000000 in
theorem walk_long (A : Option Addr) (c : Nat) (F : List Nat) (n : Int) (k : Nat) (w : World) (h1 : 200 < F.length) :
    Calls Try.prog 10 #[.slice A F.length c, .int .i64 n, .int .u64 (k : Int)] w fun e w' => e = .returned (.bool true) ∧ Below w.heap.size w w' := by
  have h1' : (200 : Int) < F.length := by omega
  go_enter Try.func10, Try.ntmps10
  go_wp2_with fail
  with_reducible refine (known08 _).mono ?_
  rintro e w1 ⟨rfl, hb⟩
  replace hb := hid hb
  go_wp2_with fail
  go_ret
  exact ⟨rfl, hb.out⟩

set_option maxRecDepth 100000 in
set_option maxHeartbeats 4000000 in
theorem walk_bad (A : Option Addr) (c : Nat) (F : List Nat) (n : Int) (k : Nat) (w : World) (hv : Sl w (.slice A F.length c) (u8s F)) (hb : ∀ x ∈ F, x < 256) (h1 : F.length ≤ 200) (hbad : spanB k = false ∨ n < 0 ∨ 1048576 < n) :
    Calls Try.prog 10 #[.slice A F.length c, .int .i64 n, .int .u64 (k : Int)] w fun e w' => e = .returned (.bool true) ∧ Below w.heap.size w w' := by
  have h1' : ¬ (200 : Int) < F.length := by omega
  have H := hid (And.intro hv hb)
  have HGA := hid (fun p W => egetall_arg p n k W hbad)
  have HP := hid (fun W => refspan_any k W)
  clear hv hb
  obtain ⟨b, hb⟩ : ∃ b, spanB k = b := ⟨_, rfl⟩
  rw [hb] at HP hbad
  clear hb
  have hcase : b = false ∨ (b = true ∧ n < 0) ∨ (b = true ∧ ¬ n < 0 ∧ 1048576 < n) := by
    cases b
    · exact .inl rfl
    · rcases hbad with h | h | h
      · cases h
      · exact .inr (.inl ⟨rfl, h⟩)
      · exact .inr (.inr ⟨rfl, by omega, h⟩)
  clear hbad
  rcases hcase with rfl | ⟨rfl, hn0⟩ | ⟨rfl, hn1, hn2⟩
  all_goals (
    go_enter Try.func10, Try.ntmps10
    go_wp2_with fail
    with_reducible refine (read_any w _ F H.out.1 (by omega) H.out.2).mono ?_
    rintro e w1 ⟨q1, v1, rfl, hr1⟩
    have H1 := hid hr1
    clear hr1
    go_wp2_with fail
    with_reducible refine (refread_any w1 _ F (H.out.1.below H1.out.2.1) (by omega) H.out.2).mono ?_
    rintro e w2 ⟨q2, v2, rfl, hr2⟩
    have H2 := hid (R2.new H1.out hr2)
    clear hr2
    go_wp2_with fail
    with_reducible refine (HP.out w2).mono ?_
    rintro e w3 ⟨rfl, rfl⟩
    go_wp2_with fail
    with_reducible refine (HGA.out q1 w2).mono ?_
    rintro e w3 ⟨rfl, rfl⟩
    go_wp2_with fail
    with_reducible refine (known08 _).mono ?_
    rintro e w3 ⟨rfl, hbb⟩
    have H3 := hid (H2.out.bel.trans (hbb.mono H2.out.bel.size))
    clear hbb
    go_wp2_with fail
    go_ret
    exact ⟨rfl, H3.out⟩)

set_option maxRecDepth 100000 in
set_option maxHeartbeats 4000000 in
theorem walk_deep (A : Option Addr) (c : Nat) (F : List Nat) (n k : Nat) (w : World) (hv : Sl w (.slice A F.length c) (u8s F)) (hb : ∀ x ∈ F, x < 256) (h1 : F.length ≤ 200) (hk : spanB k = true) (hn : n ≤ 1048576) (hd : 2000 < n) :
    Calls Try.prog 10 #[.slice A F.length c, .int .i64 (n : Int), .int .u64 (k : Int)] w fun e w' => e = .returned (.bool true) ∧ Below w.heap.size w w' := by
  have h1' : ¬ (200 : Int) < F.length := by omega
  have H := hid (And.intro hv hb)
  have HP := hid (fun W => refspan_any k W)
  rw [hk] at HP
  clear hv hb hk
  go_enter Try.func10, Try.ntmps10
  go_wp2_with fail
  with_reducible refine (read_any w _ F H.out.1 (by omega) H.out.2).mono ?_
  rintro e w1 ⟨q1, v1, rfl, hr1⟩
  have H1 := hid hr1
  clear hr1
  go_wp2_with fail
  with_reducible refine (refread_any w1 _ F (H.out.1.below H1.out.2.1) (by omega) H.out.2).mono ?_
  rintro e w2 ⟨q2, v2, rfl, hr2⟩
  have H2 := hid (R2.new H1.out hr2)
  clear hr2
  go_wp2_with fail
  with_reducible refine (HP.out w2).mono ?_
  rintro e w3 ⟨rfl, rfl⟩
  go_wp2_with fail
  with_reducible refine (known08 _).mono ?_
  rintro e w3 ⟨rfl, hbb⟩
  have H3 := hid (H2.out.bel.trans (hbb.mono H2.out.bel.size))
  clear hbb
  go_wp2_with fail
  go_ret
  exact ⟨rfl, H3.out⟩
end evenGets
end Go.Proofs.Ytgjiffpiffphfaa
