/- (*Writer).Put: the bits of a number are added, or nothing. -/
import Derived.Test.YtjboboaccjbebaaWr
namespace Go.Proofs.Ytjboboaccjbebaa
open Go.RowKit

theorem put_nil (x n : Int) (w : World) : Calls Try.prog 79 #[.pointer none, .int .u64 x, .int .i64 n] w fun e w' => e = .returned (.int .i64 2) ∧ w = w' := by
  go_enter Try.func79, Try.ntmps79
  go_wp2_with fail
  go_ret
  exact ⟨rfl, rfl⟩

theorem put_arg (p : Nat) (x n : Int) (w : World) (hn : n < 0 ∨ 64 < n) : Calls Try.prog 79 #[.pointer (some ⟨p, 0, none⟩), .int .u64 x, .int .i64 n] w fun e w' => e = .returned (.int .i64 1) ∧ w = w' := by
  rcases hn with hn | hn
  · go_enter Try.func79, Try.ntmps79
    go_wp2_with fail
    go_ret
    exact ⟨rfl, rfl⟩
  · have h0 : ¬ n < 0 := by omega
    go_enter Try.func79, Try.ntmps79
    go_wp2_with fail
    go_ret
    exact ⟨rfl, rfl⟩

theorem put_range (p : Nat) (x : Nat) (n : Nat) (w : World) (hn : n < 64) (h : 2 ^ n ≤ x) : Calls Try.prog 79 #[.pointer (some ⟨p, 0, none⟩), .int .u64 x, .int .i64 n] w fun e w' => e = .returned (.int .i64 3) ∧ w = w' := by
  have h0 : ¬ (n : Int) < 0 := by omega
  have h1 : ¬ (64 : Int) < n := by omega
  have h2 : (n : Int) < 64 := by omega
  have h3 : ((x : Int) / 2 ^ n != 0) = true := by
    rw [bne_iff_ne]
    have e : ((x : Int) / 2 ^ n) = ((x / 2 ^ n : Nat) : Int) := by simp
    rw [e]
    have := Nat.div_pos h (Nat.two_pow_pos n)
    omega
  clear h hn
  go_enter Try.func79, Try.ntmps79
  go_wp2_with fail
  go_ret
  exact ⟨rfl, rfl⟩

theorem bit_of (x i : Nat) (hx : x < 18446744073709551616) : (bits BinOp.and IntKind.u64 ((x : Int) / 2 ^ i) 1 == 1) = x.testBit i := by
  have e : ((x : Int) / 2 ^ i) = ((x / 2 ^ i : Nat) : Int) := by simp
  have h := u64_and_nat (x / 2 ^ i) 1 (Nat.lt_of_le_of_lt (Nat.div_le_self _ _) hx) (by omega)
  rw [e, show ((1 : Int)) = ((1 : Nat) : Int) from rfl, h, Nat.and_one_is_mod, Nat.testBit_eq_decide_div_mod_eq, Bool.eq_iff_iff]
  simp
  omega

theorem flat_bound {L X : List Bool} {F : List Nat} {part q k x n : Nat} (hX : X ++ bitsOf x k = bitsOf x n) (e : L ++ X = flat F ++ (bitsOf part 8).take q) (hL : L.length + 64 ≤ 68719476736) (hn : n ≤ 64) :
    F.length ≤ 17179869184 ∧ (L ++ X).length ≤ 68719476736 := by
  have h1 := congrArg List.length hX
  have h2 := congrArg List.length e
  simp only [List.length_append, bitsOf_length, flat_length] at h1 h2 ⊢
  omega

theorem step_bit {w wr w2 : World} {p : Nat} {v v1 : Value} {L X : List Bool} {x k n : Nat} (hk : 1 ≤ k) (hX : X ++ bitsOf x k = bitsOf x n) (hm : Moved w v v1) (hkp : Kept (Foot p v) w wr) (hw : WI wr p v1 (L ++ X ++ [x.testBit (k - 1)]) w2) :
    ∃ X', X' ++ bitsOf x (k - 1) = bitsOf x n ∧ WI w p v (L ++ X') w2 := by
  refine ⟨X ++ [x.testBit (k - 1)], ?_, ?_⟩
  · rw [← hX, bitsOf_bit x k hk, List.append_assoc]
    rfl
  · obtain ⟨v2, h2, hm2, hk2⟩ := hw
    exact ⟨v2, by rw [← List.append_assoc]; exact h2, hm.trans hkp.size hm2, hkp.trans hk2 fun i hi hf => hm.foot hi hf⟩

theorem Wst.byte {wr w1 w2 : World} {p : Nat} {v1 : Value} {F : List Nat} {part : Nat} (h : Wst wr p v1 F part 0) (X : Int) (y : Nat) (hX : X = (y : Int)) (hy : y < 256) (hk : Kept (fun _ => False) wr w1) {g cap : Nat}
    (hb2 : Blk w2 p 27 #[v1, .int .u8 (part : Int), .int .i64 0])
    (hown : w2.ownsRow 0 5 1 (.slice (some ⟨g, 0, none⟩) (F.length + 1) cap) (F.length + 1) (u8s F ++ [.int .u8 X])) (hgrow : w1.grownBy w2 v1.ownBlock) (hat : v1.ownBlock = some g ∨ wr.heap.size ≤ g) :
    WI wr p v1 (flat F ++ bitsOf y 8) (w2.setCell ⟨p, 0, none⟩ (.slice (some ⟨g, 0, none⟩) (F.length + 1) cap)) := by
  have hne := own_ne hown hb2 (by decide)
  refine ⟨.slice (some ⟨g, 0, none⟩) (F.length + 1) cap, ⟨F ++ [y], part, 0, ⟨?_, ?_, by omega, h.hp, h.low, ?_⟩, ?_⟩, ?_, ?_⟩
  · simpa using hb2.upd 0 (.slice (some ⟨g, 0, none⟩) (F.length + 1) cap)
  · subst hX
    have e : (F ++ [y]).length = F.length + 1 := by simp
    rw [e, u8s_app]
    exact own_setCell hown hne _
  · intro x hx
    rcases List.mem_append.1 hx with hx | hx
    · exact h.by_ x hx
    · simp at hx
      omega
  · simp [flat_append, flat_one]
  · rcases hat with e | e
    · exact .inl e.symm
    · exact .inr ⟨g, rfl, e⟩
  · exact ((hk.mono fun _ _ h => h.elim).grown hgrow (fun k hk _ => .inr hk)).setCell (fun _ => .inl rfl) _

theorem step_byte {w wr w2 : World} {p : Nat} {v v1 : Value} {L X : List Bool} {x k n : Nat} {F : List Nat} {part : Nat} (hk : 8 ≤ k) (hX : X ++ bitsOf x k = bitsOf x n) (e : L ++ X = flat F ++ (bitsOf part 8).take 0) (hm : Moved w v v1) (hkp : Kept (Foot p v) w wr)
    (hw : WI wr p v1 (flat F ++ bitsOf (x / 2 ^ (k - 8) % 256) 8) w2) : ∃ X', X' ++ bitsOf x (k - 8) = bitsOf x n ∧ WI w p v (L ++ X') w2 := by
  refine ⟨X ++ bitsOf (x / 2 ^ (k - 8) % 256) 8, ?_, ?_⟩
  · rw [← hX, bitsOf_byte x k hk, List.append_assoc]
  · obtain ⟨v2, h2, hm2, hk2⟩ := hw
    rw [List.take_zero, List.append_nil] at e
    exact ⟨v2, by rw [← List.append_assoc, e]; exact h2, hm.trans hkp.size hm2, hkp.trans hk2 fun i hi hf => hm.foot hi hf⟩

set_option maxHeartbeats 1600000 in
theorem put_ok (w : World) (p : Nat) (v : Value) (L : List Bool) (x n : Nat) (h : Wr w p v L) (hL : L.length + 64 ≤ 68719476736) (hn : n ≤ 64) (hx : x < 2 ^ n) (hx' : x < 18446744073709551616) :
    Calls Try.prog 79 #[.pointer (some ⟨p, 0, none⟩), .int .u64 x, .int .i64 n] w fun e w' => e = .returned (.int .i64 0) ∧ WI w p v (L ++ bitsOf x n) w' := by
  have h0 : ¬ (n : Int) < 0 := by omega
  have h1 : ¬ (64 : Int) < n := by omega
  have H := hid h
  have HX := hid hx
  clear h hx
  go_enter Try.func79, Try.ntmps79
  have h3 : ((x : Int) / 2 ^ n != 0) = false := by
    rw [bne_eq_false_iff_eq]
    have e : ((x : Int) / 2 ^ n) = ((x / 2 ^ n : Nat) : Int) := by simp
    rw [e, Nat.div_eq_of_lt HX.out]
    rfl
  by_cases h2 : (n : Int) < 64
  all_goals
    go_wp2_with fail
    clear h3
    go_loopw [2] (fun m wr => ∃ k : Nat, k ≤ n ∧ m = .int .i64 k ∧ ∃ X, X ++ bitsOf x k = bitsOf x n ∧ WI w p v (L ++ X) wr) (fun m _ => (intOf m).toNat)
    case atStart => exact ⟨n, Nat.le_refl _, rfl, [], rfl, by simpa using H.out.refl⟩
    case round =>
      obtain ⟨k, hk, rfl, X, hX, v1, ⟨F, part, q, hst, hL1⟩, hm, hkp⟩ := hrel
      have HH := hid (And.intro hX (And.intro hst (And.intro hL1 (And.intro hm hkp))))
      have c0 := hst.blk.cell 0
      have c2 := hst.blk.cell 2
      have f0 := hst.blk.frozen 0
      have f2 := hst.blk.frozen 2
      have hz := hst.blk.lt
      simp at c0 c2
      obtain ⟨hF, hLX⟩ := flat_bound hX hL1 hL hn
      clear hX hst hL1 hm hkp
      by_cases hk0 : k = 0
      · subst hk0
        go_wp2_with fail
        go_ret
        obtain ⟨hX, hst, hL1, hm, hkp⟩ := HH.out
        simp only [bitsOf, List.append_nil] at hX
        subst hX
        exact ⟨rfl, v1, ⟨F, part, q, hst, hL1⟩, hm, hkp⟩
      · have hk1 : (0 : Int) < k := by omega
        have h1k : 1 ≤ k := by omega
        by_cases hq : q = 0
        · subst hq
          by_cases hc : 8 ≤ k
          · have hc8 : (8 : Int) ≤ k := by omega
            have hw8 : IntKind.i64.wrap ((k : Int) - 8) = ((k - 8 : Nat) : Int) := by rw [IntWalk.i64_in _ (by omega)]; omega
            go_wp2_with fail
            go_region_law (go_must (refine step_app1 _ rfl (.tmp 41) (.tmp 47) 25 rfl 5 .u8 1 Try.underlying25 Try.info_u8 v1 (u8s F) F.length ?_ ?_ ⟨wr.heap.size, 0, none⟩ ((x : Int) / 2 ^ (k - 8) % 256) ?_ ?_ (by decide) hF (wr.heap.size + 1) ?_ ?_; (simp [Act.eval]); (repeat first | exact HH.out.2.1.own | refine own_drew ?_ | refine World.ownsRow.alloc ?_ _); (simp [Act.eval]); (simp only [World.cell?_drew]; rw [World.cell?_alloc_at _ _ _ _ (by simp)]; rfl); (simp); (intro g cap w2 hown hgrow hat hlt; have hb2 : Blk w2 p 27 #[v1, .int .u8 (part : Int), .int .i64 0] := Blk.grown (Blk.drew (Blk.alloc HH.out.2.1.blk _)) hgrow HH.out.2.1.ne; have c0 := hb2.cell 0; have f0 := hb2.frozen 0; simp at c0; replace hb2 := hid hb2; replace hown := hid hown; replace hgrow := hid hgrow)))
            all_goals (go_wp2_with fail)
            all_goals
              go_roundw
              case rel => exact ⟨k - 8, by omega, rfl, step_byte hc HH.out.1 HH.out.2.2.1 HH.out.2.2.2.1 HH.out.2.2.2.2 (HH.out.2.1.byte _ (x / 2 ^ (k - 8) % 256) (by simp) (Nat.mod_lt _ (by omega)) (((Kept.refl _ _).alloc _).drew) hb2.out hown.out hgrow.out (hat.imp id (by omega)))⟩
              case measure => simp [intOf]; omega
          · have hc8 : (k : Int) < 8 := by omega
            go_wp2_with fail
            rw [bit_of x (k - 1) hx']
            refine (bit_wr wr p v1 (L ++ X) _ ⟨F, part, 0, HH.out.2.1, HH.out.2.2.1⟩ hLX).mono ?_
            rintro e w2 ⟨rfl, hw2⟩
            replace hw2 := hid hw2
            go_wp2_with fail
            go_roundw
            case rel => exact ⟨k - 1, by omega, by go_num, step_bit h1k HH.out.1 HH.out.2.2.2.1 HH.out.2.2.2.2 hw2.out⟩
            case measure => simp [intOf]; omega
        · have hq0 : ((q : Int) == 0) = false := by simp; omega
          go_wp2_with fail
          rw [bit_of x (k - 1) hx']
          refine (bit_wr wr p v1 (L ++ X) _ ⟨F, part, q, HH.out.2.1, HH.out.2.2.1⟩ hLX).mono ?_
          rintro e w2 ⟨rfl, hw2⟩
          replace hw2 := hid hw2
          go_wp2_with fail
          go_roundw
          case rel => exact ⟨k - 1, by omega, by go_num, step_bit h1k HH.out.1 HH.out.2.2.2.1 HH.out.2.2.2.2 hw2.out⟩
          case measure => simp [intOf]; omega

/-- The error of Put. -/
def putErr (x : Nat) (n : Int) : Int := if n < 0 ∨ 64 < n then 1 else if 2 ^ n.toNat ≤ x then 3 else 0
/-- The bits that Put adds. -/
def putBits (x : Nat) (n : Int) : List Bool := if putErr x n = 0 then bitsOf x n.toNat else []

theorem put_any (w : World) (p : Nat) (v : Value) (L : List Bool) (x : Nat) (n : Int) (h : Wr w p v L) (hL : L.length + 64 ≤ 68719476736) (hx' : x < 18446744073709551616) :
    Calls Try.prog 79 #[.pointer (some ⟨p, 0, none⟩), .int .u64 x, .int .i64 n] w fun e w' => e = .returned (.int .i64 (putErr x n)) ∧ WI w p v (L ++ putBits x n) w' := by
  by_cases h1 : n < 0 ∨ 64 < n
  · have e : putErr x n = 1 := by simp [putErr, h1]
    refine (put_arg p x n w h1).mono ?_
    rintro e' w' ⟨rfl, rfl⟩
    simpa [putBits, e] using h.refl
  · obtain ⟨m, rfl⟩ := Int.eq_ofNat_of_zero_le (show 0 ≤ n by omega)
    by_cases h2 : 2 ^ m ≤ x
    · have hm : m < 64 := by
        rcases Nat.lt_or_ge m 64 with h | h
        · exact h
        · have := Nat.pow_le_pow_right (n := 2) (by omega) h
          omega
      have e : putErr x m = 3 := by simp [putErr, h1, h2]
      refine (put_range p x m w hm h2).mono ?_
      rintro e' w' ⟨rfl, rfl⟩
      simpa [putBits, e] using h.refl
    · have e : putErr x m = 0 := by simp [putErr, h1, h2]
      simpa [putBits, e] using put_ok w p v L x m h hL (by omega) (by omega) hx'

/-- The same, the numbers as they stand at the call. -/
theorem put_at (w : World) (p : Nat) (v : Value) (L : List Bool) (xi : Int) (x : Nat) (n : Int) (hx : xi = (x : Int)) (h : Wr w p v L) (hL : L.length + 64 ≤ 68719476736) (hx' : x < 18446744073709551616) (B : List Bool) (hB : putErr x n = 0 ∧ putBits x n = B) :
    Calls Try.prog 79 #[.pointer (some ⟨p, 0, none⟩), .int .u64 xi, .int .i64 n] w fun e w' => e = .returned (.int .i64 0) ∧ WI w p v (L ++ B) w' := by
  subst hx
  have h := put_any w p v L x n h hL hx'
  rwa [hB.1, hB.2] at h
end Go.Proofs.Ytjboboaccjbebaa
