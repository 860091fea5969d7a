/- (*Writer).many, Ones, Zeros, Len, Align: what they add and answer. -/
import Derived.Test.YtjboboaccjbebaaGreatMgA
import Derived.Deep.LoopGhost

namespace Go.Proofs.YtjboboaccjbebaaGreat
open Go.RowKit

/-- The error of Ones and Zeros. -/
def manyErr (n : Int) : Int := if n < 0 then 1 else if 1048576 < n then 4 else 0
/-- The bits that they add. -/
def manyBits (b : Bool) (n : Int) : List Bool := if manyErr n = 0 then List.replicate n.toNat b else []

theorem many_nil (b : Bool) (n : Int) (w : World) : Calls Tryz.prog 41 #[.pointer none, .bool b, .int .i64 n] w fun e w' => e = .returned (.int .i64 2) ∧ w = w' := by
  go_enter Tryz.func41, Tryz.ntmps41
  go_wp2_with fail
  go_ret
  exact ⟨rfl, rfl⟩

theorem many_bad (p : Nat) (b : Bool) (n : Int) (w : World) (h : n < 0 ∨ 1048576 < n) : Calls Tryz.prog 41 #[.pointer (some ⟨p, 0, none⟩), .bool b, .int .i64 n] w fun e w' => e = .returned (.int .i64 (manyErr n)) ∧ w = w' := by
  rcases h with h | h
  · have e : manyErr n = 1 := by simp [manyErr, h]
    rw [e]
    clear e
    go_enter Tryz.func41, Tryz.ntmps41
    go_wp2_with fail
    go_ret
    exact ⟨rfl, rfl⟩
  · have h0 : ¬ n < 0 := by omega
    have e : manyErr n = 4 := by simp [manyErr, h0, h]
    rw [e]
    clear e
    go_enter Tryz.func41, Tryz.ntmps41
    go_wp2_with fail
    go_ret
    exact ⟨rfl, rfl⟩

set_option maxHeartbeats 800000 in
theorem many_ok (w : World) (p : Nat) (v : Value) (L : List Bool) (b : Bool) (n : Nat) (h : Wr w p v L) (hL : L.length + n ≤ 68719476736) (hn : n ≤ 1048576) :
    Calls Tryz.prog 41 #[.pointer (some ⟨p, 0, none⟩), .bool b, .int .i64 n] w fun e w' => e = .returned (.int .i64 0) ∧ WI w p v (L ++ List.replicate n b) w' := by
  have h0 : ¬ (n : Int) < 0 := by omega
  have h1 : ¬ (1048576 : Int) < n := by omega
  have H := hid h
  clear h
  go_enter Tryz.func41, Tryz.ntmps41
  go_wp2_with fail
  go_loopw [17] (fun i wr => ∃ k : Nat, k ≤ n ∧ i = .int .i64 k ∧ WI w p v (L ++ List.replicate k b) wr) (fun i _ => n - (intOf i).toNat)
  case atStart => exact ⟨0, Nat.zero_le _, rfl, by simpa using H.out.refl⟩
  case round =>
    obtain ⟨k, hk, rfl, HW⟩ := hrel
    replace HW := hid HW
    by_cases hkn : (k : Int) < n
    · go_wp2_with fail
      obtain ⟨v1, hv1, hm, hkp⟩ := HW.out
      refine (bit_wr wr p v1 _ _ hv1 ?_).mono ?_
      · simp; omega
      · rintro e w2 ⟨rfl, hw2⟩
        have HW2 := hid (show WI w p v (L ++ List.replicate (k + 1) b) w2 from by
          obtain ⟨v2, h2, hm2, hk2⟩ := hw2
          exact ⟨v2, by rw [List.replicate_succ', ← List.append_assoc]; exact h2, hm.trans hkp.size hm2, hkp.trans hk2 fun i hi hf => hm.foot hi hf⟩)
        clear hw2 hm hkp hv1
        go_wp2_with fail
        go_roundw
        case rel => exact ⟨k + 1, by omega, by go_num, HW2.out⟩
        case measure => simp [intOf]; omega
    · go_wp2_with fail
      go_ret
      obtain rfl : k = n := by omega
      exact ⟨rfl, HW.out⟩

theorem many_any (w : World) (p : Nat) (v : Value) (L : List Bool) (b : Bool) (n : Int) (h : Wr w p v L) (hL : L.length + 1048576 ≤ 68719476736) :
    Calls Tryz.prog 41 #[.pointer (some ⟨p, 0, none⟩), .bool b, .int .i64 n] w fun e w' => e = .returned (.int .i64 (manyErr n)) ∧ WI w p v (L ++ manyBits b n) w' := by
  by_cases h1 : n < 0 ∨ 1048576 < n
  · have e : manyErr n ≠ 0 := by
      unfold manyErr
      split
      · decide
      · rw [if_pos (by omega)]; decide
    refine (many_bad p b n w h1).mono ?_
    rintro e' w' ⟨rfl, rfl⟩
    simpa [manyBits, e] using h.refl
  · obtain ⟨m, rfl⟩ := Int.eq_ofNat_of_zero_le (show 0 ≤ n by omega)
    have e : manyErr m = 0 := by
      unfold manyErr
      rw [if_neg (by omega), if_neg (by omega)]
    simpa [manyBits, e] using many_ok w p v L b m h (by omega) (by omega)

theorem ones_any (w : World) (p : Nat) (v : Value) (L : List Bool) (n : Int) (h : Wr w p v L) (hL : L.length + 1048576 ≤ 68719476736) :
    Calls Tryz.prog 20 #[.pointer (some ⟨p, 0, none⟩), .int .i64 n] w fun e w' => e = .returned (.int .i64 (manyErr n)) ∧ WI w p v (L ++ manyBits true n) w' := by
  have H := hid h
  clear h
  go_enter Tryz.func20, Tryz.ntmps20
  go_wp2_with fail
  refine (many_any w p v L true n H.out hL).mono ?_
  rintro e w2 ⟨rfl, hw2⟩
  replace hw2 := hid hw2
  go_wp2_with fail
  go_ret
  exact ⟨rfl, hw2.out⟩
theorem zeros_any (w : World) (p : Nat) (v : Value) (L : List Bool) (n : Int) (h : Wr w p v L) (hL : L.length + 1048576 ≤ 68719476736) :
    Calls Tryz.prog 22 #[.pointer (some ⟨p, 0, none⟩), .int .i64 n] w fun e w' => e = .returned (.int .i64 (manyErr n)) ∧ WI w p v (L ++ manyBits false n) w' := by
  have H := hid h
  clear h
  go_enter Tryz.func22, Tryz.ntmps22
  go_wp2_with fail
  refine (many_any w p v L false n H.out hL).mono ?_
  rintro e w2 ⟨rfl, hw2⟩
  replace hw2 := hid hw2
  go_wp2_with fail
  go_ret
  exact ⟨rfl, hw2.out⟩
theorem ones_nil (n : Int) (w : World) : Calls Tryz.prog 20 #[.pointer none, .int .i64 n] w fun e w' => e = .returned (.int .i64 2) ∧ w = w' := by
  go_enter Tryz.func20, Tryz.ntmps20
  go_wp2_with fail
  refine (many_nil true n w).mono ?_
  rintro e w2 ⟨rfl, rfl⟩
  go_wp2_with fail
  go_ret
  exact ⟨rfl, rfl⟩
theorem zeros_nil (n : Int) (w : World) : Calls Tryz.prog 22 #[.pointer none, .int .i64 n] w fun e w' => e = .returned (.int .i64 2) ∧ w = w' := by
  go_enter Tryz.func22, Tryz.ntmps22
  go_wp2_with fail
  refine (many_nil false n w).mono ?_
  rintro e w2 ⟨rfl, rfl⟩
  go_wp2_with fail
  go_ret
  exact ⟨rfl, rfl⟩

theorem len_nil (w : World) : Calls Tryz.prog 9 #[.pointer none] w fun e w' => e = .returned (.int .i64 0) ∧ w = w' := by
  go_enter Tryz.func9, Tryz.ntmps9
  go_wp2_with fail
  go_ret
  exact ⟨rfl, rfl⟩
theorem len_any (w : World) (p : Nat) (v : Value) (L : List Bool) (h : Wr w p v L) (hL : L.length ≤ 68719476736) :
    Calls Tryz.prog 9 #[.pointer (some ⟨p, 0, none⟩)] w fun e w' => e = .returned (.int .i64 (L.length : Int)) ∧ ∃ n, w' = w.drewN n := by
  obtain ⟨F, part, n, h, rfl⟩ := h
  have hl := h.len
  rw [hl] at hL ⊢
  clear hl
  obtain ⟨A, c, rfl⟩ := h.slice
  have c0 := h.blk.cell 0
  have c2 := h.blk.cell 2
  simp at c0 c2
  have hn := h.hn
  have hw8 : IntKind.i64.wrap (8 * (F.length : Int)) = 8 * (F.length : Int) := IntWalk.i64_in _ (by omega)
  have hw9 : IntKind.i64.wrap (8 * (F.length : Int) + (n : Int)) = 8 * (F.length : Int) + (n : Int) := IntWalk.i64_in _ (by omega)
  clear h
  go_enter Tryz.func9, Tryz.ntmps9
  go_wp2_with fail
  go_quiet (fail)
  go_wp2_with fail
  go_ret
  exact ⟨by simp, _, rfl⟩

end Go.Proofs.YtjboboaccjbebaaGreat
/- (*Writer).Put: the bits of a number are added, or nothing. -/
namespace Go.Proofs.YtjboboaccjbebaaGreat
open Go.RowKit

theorem put_nil (x n : Int) (w : World) : Calls Tryz.prog 44 #[.pointer none, .int .u64 x, .int .i64 n] w fun e w' => e = .returned (.int .i64 2) ∧ w = w' := by
  go_enter Tryz.func44, Tryz.ntmps44
  go_wp2_with fail
  go_ret
  exact ⟨rfl, rfl⟩

theorem put_arg (p : Nat) (x n : Int) (w : World) (hn : n < 0 ∨ 64 < n) : Calls Tryz.prog 44 #[.pointer (some ⟨p, 0, none⟩), .int .u64 x, .int .i64 n] w fun e w' => e = .returned (.int .i64 1) ∧ w = w' := by
  rcases hn with hn | hn
  · go_enter Tryz.func44, Tryz.ntmps44
    go_wp2_with fail
    go_ret
    exact ⟨rfl, rfl⟩
  · have h0 : ¬ n < 0 := by omega
    go_enter Tryz.func44, Tryz.ntmps44
    go_wp2_with fail
    go_ret
    exact ⟨rfl, rfl⟩

theorem put_range (p : Nat) (x : Nat) (n : Nat) (w : World) (hn : n < 64) (h : 2 ^ n ≤ x) : Calls Tryz.prog 44 #[.pointer (some ⟨p, 0, none⟩), .int .u64 x, .int .i64 n] w fun e w' => e = .returned (.int .i64 3) ∧ w = w' := by
  have h0 : ¬ (n : Int) < 0 := by omega
  have h1 : ¬ (64 : Int) < n := by omega
  have h2 : (n : Int) < 64 := by omega
  have h3 : ((x : Int) / 2 ^ n != 0) = true := by
    rw [bne_iff_ne]
    have e : ((x : Int) / 2 ^ n) = ((x / 2 ^ n : Nat) : Int) := by simp
    rw [e]
    have := Nat.div_pos h (Nat.two_pow_pos n)
    omega
  clear h hn
  go_enter Tryz.func44, Tryz.ntmps44
  go_wp2_with fail
  go_ret
  exact ⟨rfl, rfl⟩

theorem bit_of (x i : Nat) (hx : x < 18446744073709551616) : (bits BinOp.and IntKind.u64 ((x : Int) / 2 ^ i) 1 == 1) = x.testBit i := by
  have e : ((x : Int) / 2 ^ i) = ((x / 2 ^ i : Nat) : Int) := by simp
  have h := u64_and_nat (x / 2 ^ i) 1 (Nat.lt_of_le_of_lt (Nat.div_le_self _ _) hx) (by omega)
  rw [e, show ((1 : Int)) = ((1 : Nat) : Int) from rfl, h, Nat.and_one_is_mod, Nat.testBit_eq_decide_div_mod_eq, Bool.eq_iff_iff]
  simp
  omega

theorem flat_bound {L X : List Bool} {F : List Nat} {part q k x n : Nat} (hX : X ++ bitsOf x k = bitsOf x n) (e : L ++ X = flat F ++ (bitsOf part 8).take q) (hL : L.length + 64 ≤ 68719476736) (hn : n ≤ 64) :
    F.length ≤ 17179869184 ∧ (L ++ X).length ≤ 68719476736 := by
  have h1 := congrArg List.length hX
  have h2 := congrArg List.length e
  simp only [List.length_append, bitsOf_length, flat_length] at h1 h2 ⊢
  omega

theorem step_bit {w wr w2 : World} {p : Nat} {v v1 : Value} {L X : List Bool} {x k n : Nat} (hk : 1 ≤ k) (hX : X ++ bitsOf x k = bitsOf x n) (hm : Moved w v v1) (hkp : Kept (Foot p v) w wr) (hw : WI wr p v1 (L ++ X ++ [x.testBit (k - 1)]) w2) :
    ∃ X', X' ++ bitsOf x (k - 1) = bitsOf x n ∧ WI w p v (L ++ X') w2 := by
  refine ⟨X ++ [x.testBit (k - 1)], ?_, ?_⟩
  · rw [← hX, bitsOf_bit x k hk, List.append_assoc]
    rfl
  · obtain ⟨v2, h2, hm2, hk2⟩ := hw
    exact ⟨v2, by rw [← List.append_assoc]; exact h2, hm.trans hkp.size hm2, hkp.trans hk2 fun i hi hf => hm.foot hi hf⟩

theorem Wst.byte {wr w1 w2 : World} {p : Nat} {v1 : Value} {F : List Nat} {part : Nat} (h : Wst wr p v1 F part 0) (X : Int) (y : Nat) (hX : X = (y : Int)) (hy : y < 256) (hk : Kept (fun _ => False) wr w1) {g cap : Nat}
    (hb2 : Blk w2 p 27 #[v1, .int .u8 (part : Int), .int .i64 0])
    (hown : w2.ownsRow 0 5 1 (.slice (some ⟨g, 0, none⟩) (F.length + 1) cap) (F.length + 1) (u8s F ++ [.int .u8 X])) (hgrow : w1.grownBy w2 v1.ownBlock) (hat : v1.ownBlock = some g ∨ wr.heap.size ≤ g) :
    WI wr p v1 (flat F ++ bitsOf y 8) (w2.setCell ⟨p, 0, none⟩ (.slice (some ⟨g, 0, none⟩) (F.length + 1) cap)) := by
  have hne := own_ne hown hb2 (by decide)
  refine ⟨.slice (some ⟨g, 0, none⟩) (F.length + 1) cap, ⟨F ++ [y], part, 0, ⟨?_, ?_, by omega, h.hp, h.low, ?_⟩, ?_⟩, ?_, ?_⟩
  · simpa using hb2.upd 0 (.slice (some ⟨g, 0, none⟩) (F.length + 1) cap)
  · subst hX
    have e : (F ++ [y]).length = F.length + 1 := by simp
    rw [e, u8s_app]
    exact own_setCell hown hne _
  · intro x hx
    rcases List.mem_append.1 hx with hx | hx
    · exact h.by_ x hx
    · simp at hx
      omega
  · simp [flat_append, flat_one]
  · rcases hat with e | e
    · exact .inl e.symm
    · exact .inr ⟨g, rfl, e⟩
  · exact ((hk.mono fun _ _ h => h.elim).grown hgrow (fun k hk _ => .inr hk)).setCell (fun _ => .inl rfl) _

theorem step_byte {w wr w2 : World} {p : Nat} {v v1 : Value} {L X : List Bool} {x k n : Nat} {F : List Nat} {part : Nat} (hk : 8 ≤ k) (hX : X ++ bitsOf x k = bitsOf x n) (e : L ++ X = flat F ++ (bitsOf part 8).take 0) (hm : Moved w v v1) (hkp : Kept (Foot p v) w wr)
    (hw : WI wr p v1 (flat F ++ bitsOf (x / 2 ^ (k - 8) % 256) 8) w2) : ∃ X', X' ++ bitsOf x (k - 8) = bitsOf x n ∧ WI w p v (L ++ X') w2 := by
  refine ⟨X ++ bitsOf (x / 2 ^ (k - 8) % 256) 8, ?_, ?_⟩
  · rw [← hX, bitsOf_byte x k hk, List.append_assoc]
  · obtain ⟨v2, h2, hm2, hk2⟩ := hw
    rw [List.take_zero, List.append_nil] at e
    exact ⟨v2, by rw [← List.append_assoc, e]; exact h2, hm.trans hkp.size hm2, hkp.trans hk2 fun i hi hf => hm.foot hi hf⟩

set_option maxHeartbeats 1600000 in
theorem put_ok (w : World) (p : Nat) (v : Value) (L : List Bool) (x n : Nat) (h : Wr w p v L) (hL : L.length + 64 ≤ 68719476736) (hn : n ≤ 64) (hx : x < 2 ^ n) (hx' : x < 18446744073709551616) :
    Calls Tryz.prog 44 #[.pointer (some ⟨p, 0, none⟩), .int .u64 x, .int .i64 n] w fun e w' => e = .returned (.int .i64 0) ∧ WI w p v (L ++ bitsOf x n) w' := by
  have h0 : ¬ (n : Int) < 0 := by omega
  have h1 : ¬ (64 : Int) < n := by omega
  have H := hid h
  have HX := hid hx
  clear h hx
  go_enter Tryz.func44, Tryz.ntmps44
  have h3 : ((x : Int) / 2 ^ n != 0) = false := by
    rw [bne_eq_false_iff_eq]
    have e : ((x : Int) / 2 ^ n) = ((x / 2 ^ n : Nat) : Int) := by simp
    rw [e, Nat.div_eq_of_lt HX.out]
    rfl
  by_cases h2 : (n : Int) < 64
  all_goals
    go_wp2_with fail
    clear h3
    go_loopw [2] (fun m wr => ∃ k : Nat, k ≤ n ∧ m = .int .i64 k ∧ ∃ X, X ++ bitsOf x k = bitsOf x n ∧ WI w p v (L ++ X) wr) (fun m _ => (intOf m).toNat)
    case atStart => exact ⟨n, Nat.le_refl _, rfl, [], rfl, by simpa using H.out.refl⟩
    case round =>
      obtain ⟨k, hk, rfl, X, hX, v1, ⟨F, part, q, hst, hL1⟩, hm, hkp⟩ := hrel
      have HH := hid (And.intro hX (And.intro hst (And.intro hL1 (And.intro hm hkp))))
      have c0 := hst.blk.cell 0
      have c2 := hst.blk.cell 2
      have f0 := hst.blk.frozen 0
      have f2 := hst.blk.frozen 2
      have hz := hst.blk.lt
      simp at c0 c2
      obtain ⟨hF, hLX⟩ := flat_bound hX hL1 hL hn
      clear hX hst hL1 hm hkp
      by_cases hk0 : k = 0
      · subst hk0
        go_wp2_with fail
        go_ret
        obtain ⟨hX, hst, hL1, hm, hkp⟩ := HH.out
        simp only [bitsOf, List.append_nil] at hX
        subst hX
        exact ⟨rfl, v1, ⟨F, part, q, hst, hL1⟩, hm, hkp⟩
      · have hk1 : (0 : Int) < k := by omega
        have h1k : 1 ≤ k := by omega
        by_cases hq : q = 0
        · subst hq
          by_cases hc : 8 ≤ k
          · have hc8 : (8 : Int) ≤ k := by omega
            have hw8 : IntKind.i64.wrap ((k : Int) - 8) = ((k - 8 : Nat) : Int) := by rw [IntWalk.i64_in _ (by omega)]; omega
            go_wp2_with fail
            go_region_law (go_must (refine step_app1 _ rfl (.tmp 41) (.tmp 47) 25 rfl 5 .u8 1 Tryz.underlying25 Tryz.info_u8 v1 (u8s F) F.length ?_ ?_ ⟨wr.heap.size, 0, none⟩ ((x : Int) / 2 ^ (k - 8) % 256) ?_ ?_ (by decide) hF (wr.heap.size + 1) ?_ ?_; (simp [Act.eval]); (repeat first | exact HH.out.2.1.own | refine own_drew ?_ | refine World.ownsRow.alloc ?_ _); (simp [Act.eval]); (simp only [World.cell?_drew]; rw [World.cell?_alloc_at _ _ _ _ (by simp)]; rfl); (simp); (intro g cap w2 hown hgrow hat hlt; have hb2 : Blk w2 p 27 #[v1, .int .u8 (part : Int), .int .i64 0] := Blk.grown (Blk.drew (Blk.alloc HH.out.2.1.blk _)) hgrow HH.out.2.1.ne; have c0 := hb2.cell 0; have f0 := hb2.frozen 0; simp at c0; replace hb2 := hid hb2; replace hown := hid hown; replace hgrow := hid hgrow)))
            all_goals (go_wp2_with fail)
            all_goals
              go_roundw
              case rel => exact ⟨k - 8, by omega, rfl, step_byte hc HH.out.1 HH.out.2.2.1 HH.out.2.2.2.1 HH.out.2.2.2.2 (HH.out.2.1.byte _ (x / 2 ^ (k - 8) % 256) (by simp) (Nat.mod_lt _ (by omega)) (((Kept.refl _ _).alloc _).drew) hb2.out hown.out hgrow.out (hat.imp id (by omega)))⟩
              case measure => simp [intOf]; omega
          · have hc8 : (k : Int) < 8 := by omega
            go_wp2_with fail
            rw [bit_of x (k - 1) hx']
            refine (bit_wr wr p v1 (L ++ X) _ ⟨F, part, 0, HH.out.2.1, HH.out.2.2.1⟩ hLX).mono ?_
            rintro e w2 ⟨rfl, hw2⟩
            replace hw2 := hid hw2
            go_wp2_with fail
            go_roundw
            case rel => exact ⟨k - 1, by omega, by go_num, step_bit h1k HH.out.1 HH.out.2.2.2.1 HH.out.2.2.2.2 hw2.out⟩
            case measure => simp [intOf]; omega
        · have hq0 : ((q : Int) == 0) = false := by simp; omega
          go_wp2_with fail
          rw [bit_of x (k - 1) hx']
          refine (bit_wr wr p v1 (L ++ X) _ ⟨F, part, q, HH.out.2.1, HH.out.2.2.1⟩ hLX).mono ?_
          rintro e w2 ⟨rfl, hw2⟩
          replace hw2 := hid hw2
          go_wp2_with fail
          go_roundw
          case rel => exact ⟨k - 1, by omega, by go_num, step_bit h1k HH.out.1 HH.out.2.2.2.1 HH.out.2.2.2.2 hw2.out⟩
          case measure => simp [intOf]; omega

/-- The error of Put. -/
def putErr (x : Nat) (n : Int) : Int := if n < 0 ∨ 64 < n then 1 else if 2 ^ n.toNat ≤ x then 3 else 0
/-- The bits that Put adds. -/
def putBits (x : Nat) (n : Int) : List Bool := if putErr x n = 0 then bitsOf x n.toNat else []

theorem put_any (w : World) (p : Nat) (v : Value) (L : List Bool) (x : Nat) (n : Int) (h : Wr w p v L) (hL : L.length + 64 ≤ 68719476736) (hx' : x < 18446744073709551616) :
    Calls Tryz.prog 44 #[.pointer (some ⟨p, 0, none⟩), .int .u64 x, .int .i64 n] w fun e w' => e = .returned (.int .i64 (putErr x n)) ∧ WI w p v (L ++ putBits x n) w' := by
  by_cases h1 : n < 0 ∨ 64 < n
  · have e : putErr x n = 1 := by simp [putErr, h1]
    refine (put_arg p x n w h1).mono ?_
    rintro e' w' ⟨rfl, rfl⟩
    simpa [putBits, e] using h.refl
  · obtain ⟨m, rfl⟩ := Int.eq_ofNat_of_zero_le (show 0 ≤ n by omega)
    by_cases h2 : 2 ^ m ≤ x
    · have hm : m < 64 := by
        rcases Nat.lt_or_ge m 64 with h | h
        · exact h
        · have := Nat.pow_le_pow_right (n := 2) (by omega) h
          omega
      have e : putErr x m = 3 := by simp [putErr, h1, h2]
      refine (put_range p x m w hm h2).mono ?_
      rintro e' w' ⟨rfl, rfl⟩
      simpa [putBits, e] using h.refl
    · have e : putErr x m = 0 := by simp [putErr, h1, h2]
      simpa [putBits, e] using put_ok w p v L x m h hL (by omega) (by omega) hx'

/-- The same, the numbers as they stand at the call. -/
theorem put_at (w : World) (p : Nat) (v : Value) (L : List Bool) (xi : Int) (x : Nat) (n : Int) (hx : xi = (x : Int)) (h : Wr w p v L) (hL : L.length + 64 ≤ 68719476736) (hx' : x < 18446744073709551616) (B : List Bool) (hB : putErr x n = 0 ∧ putBits x n = B) :
    Calls Tryz.prog 44 #[.pointer (some ⟨p, 0, none⟩), .int .u64 xi, .int .i64 n] w fun e w' => e = .returned (.int .i64 0) ∧ WI w p v (L ++ B) w' := by
  subst hx
  have h := put_any w p v L x n h hL hx'
  rwa [hB.1, hB.2] at h
end Go.Proofs.YtjboboaccjbebaaGreat
/- A number that fits is put; a writer's result behind steps that only make memory. -/
namespace Go.Proofs.YtjboboaccjbebaaGreat
open Go.RowKit

/-- A number that fits is put. -/
theorem put_fit (w : World) (p : Nat) (v : Value) (L : List Bool) (xi ni : Int) (x n : Nat) (hxi : xi = (x : Int)) (hni : ni = (n : Int)) (h : Wr w p v L) (hL : L.length + 64 ≤ 68719476736) (hn : n ≤ 64) (hx : x < 2 ^ n) :
    Calls Tryz.prog 44 #[.pointer (some ⟨p, 0, none⟩), .int .u64 xi, .int .i64 ni] w fun e w' => e = .returned (.int .i64 0) ∧ WI w p v (L ++ bitsOf x n) w' := by
  subst hxi hni
  exact put_ok w p v L x n h hL hn hx (Nat.lt_of_lt_of_le hx (Nat.pow_le_pow_right (by omega) hn))

/-- Behind a step that only made memory. -/
theorem WI.after_below {w w0 w1 : World} {p : Nat} {v : Value} {L : List Bool} (hb : Below w.heap.size w w0) (h : WI w0 p v L w1) : WI w p v L w1 := by
  obtain ⟨v1, h1, hm, hk⟩ := h
  refine ⟨v1, h1, ?_, (Kept.of_below' (S := Foot p v) hb).trans hk fun i hi hf => hf⟩
  rcases hm with e | ⟨g, e, hg⟩
  · exact .inl e
  · exact .inr ⟨g, e, Nat.le_trans hb.size hg⟩
theorem WI.then_below {w w1 w2 : World} {p : Nat} {v : Value} {L : List Bool} (h : WI w p v L w1) (hb : Below w1.heap.size w1 w2) : WI w p v L w2 := by
  obtain ⟨v1, h1, hm, hk⟩ := h
  exact ⟨v1, h1.below hb, hm, hk.then_below hb⟩

/-- An empty list needs no memory. -/
theorem Sl.kept' {w w' : World} {v : Value} {xs : List Value} {S : Nat → Prop} (h : Sl w v xs) (hk : Kept S w w') (hS : xs ≠ [] → ∀ g, v.ownBlock = some g → ¬ S g) : Sl w' v xs := by
  by_cases he : xs = []
  · subst he
    rcases h with h | ⟨ad, c, rfl, hc, hm, _⟩
    · exact .inl h
    · exact .inr ⟨ad, c, rfl, hc, hm, fun j u hu => by simp at hu⟩
  · exact h.kept hk (hS he)
theorem i64s_ne {xs : List Int} (h : i64s xs ≠ []) : xs ≠ [] := fun e => h (by rw [e]; rfl)

end Go.Proofs.YtjboboaccjbebaaGreat
/- Layer 6: what numbers cost, and their codes: param, may, cost, Cost, Put, PutAll. -/
namespace Go.Proofs.YtjboboaccjbebaaGreat
open Go.RowKit

/-- May a parameter be? -/
def paramB (k : Int) : Bool := decide (0 ≤ k ∧ k ≤ 30)
/-- Is a number coded? -/
def mayB (u : Nat) : Bool := decide (u < 1099511627776)

theorem param_any (k : Int) (w : World) : Calls Tryz.prog 93 #[.int .i64 k] w fun e w' => e = .returned (.bool (paramB k)) ∧ w = w' := by
  by_cases h1 : 0 ≤ k
  · by_cases h2 : k ≤ 30
    · have e : paramB k = true := by unfold paramB; rw [decide_eq_true_iff]; omega
      rw [e]
      clear e
      go_enter Tryz.func93, Tryz.ntmps93
      go_wp2_with fail
      go_ret
      exact ⟨rfl, rfl⟩
    · have e : paramB k = false := by unfold paramB; rw [decide_eq_false_iff_not]; omega
      rw [e]
      clear e
      go_enter Tryz.func93, Tryz.ntmps93
      go_wp2_with fail
      go_ret
      exact ⟨by simp, rfl⟩
  · have e : paramB k = false := by unfold paramB; rw [decide_eq_false_iff_not]; omega
    rw [e]
    clear e
    go_enter Tryz.func93, Tryz.ntmps93
    go_wp2_with fail
    go_ret
    exact ⟨rfl, rfl⟩

theorem may_any (u : Nat) (w : World) (hu : u < 18446744073709551616) : Calls Tryz.prog 95 #[.int .u64 (u : Int)] w fun e w' => e = .returned (.bool (mayB u)) ∧ w = w' := by
  by_cases h1 : u < 1099511627776
  · have e : mayB u = true := by unfold mayB; rw [decide_eq_true_iff]; omega
    have h2 : ((u : Int) / 1099511627776 == 0) = true := by rw [beq_iff_eq]; omega
    rw [e]
    have HU := hid hu
    clear e hu h1
    go_enter Tryz.func95, Tryz.ntmps95
    go_wp2_with fail
    go_ret
    exact ⟨rfl, rfl⟩
  · have e : mayB u = false := by unfold mayB; rw [decide_eq_false_iff_not]; omega
    have h2 : ((u : Int) / 1099511627776 == 0) = false := by rw [beq_eq_false_iff_ne]; omega
    rw [e]
    have HU := hid hu
    clear e hu h1
    go_enter Tryz.func95, Tryz.ntmps95
    go_wp2_with fail
    go_ret
    exact ⟨rfl, rfl⟩

/-- What a number costs, k a parameter that may be. -/
def costK (u k : Nat) : Nat := if u / 2 ^ k < 24 then u / 2 ^ k + 1 + k else 64
def costR (u : Nat) (k : Int) : Nat := if paramB k = true ∧ mayB u = true then costK u k.toNat else 0
theorem costK_le (u k : Nat) (hk : k ≤ 30) : costK u k ≤ 64 := by unfold costK; split <;> omega
theorem paramB_iff (k : Int) : paramB k = true ↔ 0 ≤ k ∧ k ≤ 30 := by unfold paramB; rw [decide_eq_true_iff]
theorem mayB_iff (u : Nat) : mayB u = true ↔ u < 1099511627776 := by unfold mayB; rw [decide_eq_true_iff]
theorem costR_le (u : Nat) (k : Int) : costR u k ≤ 64 := by
  unfold costR
  split
  · next h => exact costK_le u _ (by have := (paramB_iff k).1 h.1; omega)
  · omega

/-- A quotient by a power of two, as a rule that leaves the facts on numbers alone. -/
theorem shr_rule (u k : Nat) : ∀ Y : Int, Y = (u : Int) → Y / 2 ^ k = ((u / 2 ^ k : Nat) : Int) := by
  rintro Y rfl
  rw [Int.natCast_ediv, Int.natCast_pow]
  rfl

theorem cost_any (u k : Nat) (w : World) (hu : u < 1099511627776) (hk : k ≤ 30) : Calls Tryz.prog 143 #[.int .u64 (u : Int), .int .i64 (k : Int)] w fun e w' => e = .returned (.int .i64 (costK u k : Nat)) ∧ w = w' := by
  have hsh := shr_rule u k
  have hq := Nat.div_le_self u (2 ^ k)
  obtain ⟨q, hqe⟩ : ∃ q, u / 2 ^ k = q := ⟨_, rfl⟩
  rw [hqe] at hsh hq
  have HC := hid (show costK u k = if q < 24 then q + 1 + k else 64 by rw [costK, hqe])
  clear hqe
  by_cases h : q < 24
  · have h' : (q : Int) < 24 := by omega
    go_enter Tryz.func143, Tryz.ntmps143
    go_wp2_with fail
    go_ret
    exact ⟨by rw [HC.out, if_pos h]; rfl, rfl⟩
  · have h' : ¬ (q : Int) < 24 := by omega
    go_enter Tryz.func143, Tryz.ntmps143
    go_wp2_with fail
    go_ret
    exact ⟨by rw [HC.out, if_neg h]; rfl, rfl⟩

theorem rcost_any (u : Nat) (k : Int) (w : World) (hu : u < 18446744073709551616) : Calls Tryz.prog 141 #[.int .u64 (u : Int), .int .i64 k] w fun e w' => e = .returned (.int .i64 (costR u k : Nat)) ∧ w = w' := by
  have HP := hid (param_any k w)
  have HM := hid (may_any u w hu)
  obtain ⟨b, hb⟩ : ∃ b, paramB k = b := ⟨_, rfl⟩
  obtain ⟨c, hc⟩ : ∃ c, mayB u = c := ⟨_, rfl⟩
  rw [hb] at HP
  rw [hc] at HM
  have HB := hid (And.intro hb hc)
  have HU := hid hu
  clear hb hc hu
  cases b
  · have HE := hid (show costR u k = 0 by simp [costR, HB.out.1])
    go_enter Tryz.func141, Tryz.ntmps141
    go_wp2_with fail
    with_reducible refine HP.out.mono ?_
    rintro e w1 ⟨rfl, rfl⟩
    go_wp2_with fail
    go_ret
    exact ⟨by rw [HE.out]; rfl, rfl⟩
  cases c
  · have HE := hid (show costR u k = 0 by simp [costR, HB.out.2])
    go_enter Tryz.func141, Tryz.ntmps141
    go_wp2_with fail
    with_reducible refine HP.out.mono ?_
    rintro e w1 ⟨rfl, rfl⟩
    go_wp2_with fail
    with_reducible refine HM.out.mono ?_
    rintro e w1 ⟨rfl, rfl⟩
    go_wp2_with fail
    go_ret
    exact ⟨by rw [HE.out]; rfl, rfl⟩
  · have hk := (paramB_iff k).1 HB.out.1
    obtain ⟨m, rfl⟩ := Int.eq_ofNat_of_zero_le hk.1
    have HE := hid (show costR u (m : Int) = costK u m by simp [costR, HB.out.1, HB.out.2])
    have HK := hid (cost_any u m w ((mayB_iff u).1 HB.out.2) (by omega))
    clear hk
    go_enter Tryz.func141, Tryz.ntmps141
    go_wp2_with fail
    with_reducible refine HP.out.mono ?_
    rintro e w1 ⟨rfl, rfl⟩
    go_wp2_with fail
    with_reducible refine HM.out.mono ?_
    rintro e w1 ⟨rfl, rfl⟩
    go_wp2_with fail
    with_reducible refine HK.out.mono ?_
    rintro e w1 ⟨rfl, rfl⟩
    go_wp2_with fail
    go_ret
    exact ⟨by rw [HE.out]; rfl, rfl⟩

/-- A number's code. -/
def codeK (u k : Nat) : List Bool := if u / 2 ^ k < 24 then List.replicate (u / 2 ^ k) true ++ [false] ++ bitsOf u k else List.replicate 24 true ++ bitsOf u 40
def codeR (u : Nat) (k : Int) : List Bool := if paramB k = true ∧ mayB u = true then codeK u k.toNat else []
theorem codeK_length (u k : Nat) : (codeK u k).length = costK u k := by
  unfold codeK costK
  split <;> simp [bitsOf_length]
  omega
theorem codeR_length (u : Nat) (k : Int) : (codeR u k).length = costR u k := by
  unfold codeR costR
  split
  · exact codeK_length _ _
  · rfl

/-- Ones and noughts, so many that they may be. -/
theorem ones_fit (w : World) (p : Nat) (v : Value) (L : List Bool) (ni : Int) (n : Nat) (hn : ni = (n : Int)) (h : Wr w p v L) (hL : L.length ≤ 67000000000) (hn2 : n ≤ 1048576) :
    Calls Tryz.prog 20 #[.pointer (some ⟨p, 0, none⟩), .int .i64 ni] w fun e w' => e = .returned (.int .i64 0) ∧ WI w p v (L ++ List.replicate n true) w' := by
  subst hn
  have e1 : manyErr (n : Int) = 0 := by unfold manyErr; rw [if_neg (by omega), if_neg (by omega)]
  have h := ones_any w p v L n h (by omega)
  rw [e1, show manyBits true (n : Int) = List.replicate n true by simp [manyBits, e1]] at h
  exact h
theorem zeros_fit (w : World) (p : Nat) (v : Value) (L : List Bool) (ni : Int) (n : Nat) (hn : ni = (n : Int)) (h : Wr w p v L) (hL : L.length ≤ 67000000000) (hn2 : n ≤ 1048576) :
    Calls Tryz.prog 22 #[.pointer (some ⟨p, 0, none⟩), .int .i64 ni] w fun e w' => e = .returned (.int .i64 0) ∧ WI w p v (L ++ List.replicate n false) w' := by
  subst hn
  have e1 : manyErr (n : Int) = 0 := by unfold manyErr; rw [if_neg (by omega), if_neg (by omega)]
  have h := zeros_any w p v L n h (by omega)
  rw [e1, show manyBits false (n : Int) = List.replicate n false by simp [manyBits, e1]] at h
  exact h

/-- The lowest bits of a number, as a rule. -/
theorem mask_rule (u k : Nat) (hu : u < 18446744073709551616) (hk : k ≤ 32) : ∀ Y : Int, Y = (u : Int) → bits BinOp.and IntKind.u64 Y (IntKind.u64.wrap (IntKind.u64.wrap (2 ^ k) - 1)) = ((u % 2 ^ k : Nat) : Int) := by
  rintro Y rfl
  have hp : (2 : Nat) ^ k ≤ 2 ^ 32 := Nat.pow_le_pow_right (by omega) hk
  have hp' : (2 : Nat) ^ k ≤ 4294967296 := hp
  have hp0 := Nat.two_pow_pos k
  have e0 : (2 : Int) ^ k = ((2 ^ k : Nat) : Int) := (Int.natCast_pow 2 k).symm
  rw [e0]
  generalize hp2 : (2 : Nat) ^ k = p at *
  rw [IntWalk.u64_in (p : Int) (by omega), IntWalk.u64_in ((p : Int) - 1) (by omega), show ((p : Int) - 1) = ((p - 1 : Nat) : Int) by omega, u64_and_nat _ _ hu (by omega), ← hp2, Nat.and_two_pow_sub_one_eq_mod]

theorem rput_nil (u k : Int) (w : World) : Calls Tryz.prog 96 #[.pointer none, .int .u64 u, .int .i64 k] w fun e w' => e = .returned (.int .i64 2) ∧ w = w' := by
  go_enter Tryz.func96, Tryz.ntmps96
  go_wp2_with fail
  go_ret
  exact ⟨rfl, rfl⟩

/-- The error of Put. -/
def putRErr (u : Nat) (k : Int) : Int := if paramB k = true then (if mayB u = true then 0 else 3) else 1

theorem rput_bad (p u : Nat) (k : Int) (w : World) (hu : u < 18446744073709551616) (h : ¬ (paramB k = true ∧ mayB u = true)) : Calls Tryz.prog 96 #[.pointer (some ⟨p, 0, none⟩), .int .u64 (u : Int), .int .i64 k] w fun e w' => e = .returned (.int .i64 (putRErr u k)) ∧ w = w' := by
  have HP := hid (param_any k w)
  have HM := hid (may_any u w hu)
  have HH := hid h
  obtain ⟨b, hb⟩ : ∃ b, paramB k = b := ⟨_, rfl⟩
  obtain ⟨c, hc⟩ : ∃ c, mayB u = c := ⟨_, rfl⟩
  rw [hb] at HP HH
  rw [hc] at HM HH
  have HB := hid (And.intro hb hc)
  have HU := hid hu
  clear hb hc hu h
  cases b
  · have HE := hid (show putRErr u k = 1 by simp [putRErr, HB.out.1])
    go_enter Tryz.func96, Tryz.ntmps96
    go_wp2_with fail
    with_reducible refine HP.out.mono ?_
    rintro e w1 ⟨rfl, rfl⟩
    go_wp2_with fail
    go_ret
    exact ⟨by rw [HE.out]; rfl, rfl⟩
  cases c
  · have HE := hid (show putRErr u k = 3 by simp [putRErr, HB.out.1, HB.out.2])
    go_enter Tryz.func96, Tryz.ntmps96
    go_wp2_with fail
    with_reducible refine HP.out.mono ?_
    rintro e w1 ⟨rfl, rfl⟩
    go_wp2_with fail
    with_reducible refine HM.out.mono ?_
    rintro e w1 ⟨rfl, rfl⟩
    go_wp2_with fail
    go_ret
    exact ⟨by rw [HE.out]; rfl, rfl⟩
  · exact absurd ⟨rfl, rfl⟩ HH.out

set_option maxHeartbeats 800000 in
theorem rput_ok (w : World) (p : Nat) (v : Value) (L : List Bool) (u k : Nat) (h : Wr w p v L) (hL : L.length ≤ 66000000000) (hu : u < 1099511627776) (hk : k ≤ 30) :
    Calls Tryz.prog 96 #[.pointer (some ⟨p, 0, none⟩), .int .u64 (u : Int), .int .i64 (k : Int)] w fun e w' => e = .returned (.int .i64 0) ∧ WI w p v (L ++ codeK u k) w' := by
  have HP := hid (param_any (k : Int) w)
  have HM := hid (may_any u w (by omega))
  rw [(paramB_iff (k : Int)).2 (by omega)] at HP
  rw [(mayB_iff u).2 hu] at HM
  have hsh := shr_rule u k
  have hmk := mask_rule u k (by omega) (by omega)
  have hq := Nat.div_le_self u (2 ^ k)
  have hml := Nat.mod_le u (2 ^ k)
  have hmt := Nat.mod_lt u (Nat.two_pow_pos k)
  obtain ⟨q, hqe⟩ : ∃ q, u / 2 ^ k = q := ⟨_, rfl⟩
  obtain ⟨m, hme⟩ : ∃ m, u % 2 ^ k = m := ⟨_, rfl⟩
  rw [hqe] at hsh hq
  rw [hme] at hmk hml hmt
  have hbm : bitsOf m k = bitsOf u k := by rw [← hme]; exact bitsOf_mod _ _ _ (Nat.le_refl _)
  have HC := hid (show codeK u k = if q < 24 then List.replicate q true ++ [false] ++ bitsOf m k else List.replicate 24 true ++ bitsOf u 40 by rw [codeK, hqe, hbm])
  have H := hid (And.intro h hmt)
  clear h hqe hme hbm hmt
  by_cases hlt : q < 24
  · have h' : (q : Int) < 24 := by omega
    go_enter Tryz.func96, Tryz.ntmps96
    go_wp2_with fail
    with_reducible refine HP.out.mono ?_
    rintro e w1 ⟨rfl, rfl⟩
    go_wp2_with fail
    with_reducible refine HM.out.mono ?_
    rintro e w1 ⟨rfl, rfl⟩
    go_wp2_with fail
    have HCC := ones_fit w p v L (q : Int) q rfl H.out.1 (by omega) (by omega)
    with_reducible refine HCC.mono ?_
    clear HCC
    rintro e w1 ⟨rfl, hw1⟩
    have H1 := hid hw1
    clear hw1
    go_wp2_with fail
    have HCC := H1.out.calls (R := fun e => e = .returned (.int .i64 0)) fun v1 h1 => zeros_fit w1 p v1 _ 1 1 rfl h1 (by simp; omega) (by omega)
    with_reducible refine HCC.mono ?_
    clear HCC
    rintro e w2 ⟨rfl, hw2⟩
    have H2 := hid hw2
    clear hw2
    go_wp2_with fail
    have HCC := H2.out.calls (R := fun e => e = .returned (.int .i64 0)) fun v1 h1 => put_fit w2 p v1 _ (m : Int) (k : Int) m k rfl rfl h1 (by simp; omega) (by omega) H.out.2
    with_reducible refine HCC.mono ?_
    clear HCC
    rintro e w3 ⟨rfl, hw3⟩
    have H3 := hid hw3
    clear hw3
    go_wp2_with fail
    go_ret
    have hw := H3.out
    rw [List.append_assoc, List.append_assoc] at hw
    rw [HC.out, if_pos hlt, List.append_assoc]
    exact ⟨rfl, hw⟩
  · have h' : ¬ (q : Int) < 24 := by omega
    go_enter Tryz.func96, Tryz.ntmps96
    go_wp2_with fail
    with_reducible refine HP.out.mono ?_
    rintro e w1 ⟨rfl, rfl⟩
    go_wp2_with fail
    with_reducible refine HM.out.mono ?_
    rintro e w1 ⟨rfl, rfl⟩
    go_wp2_with fail
    have HCC := ones_fit w p v L 24 24 rfl H.out.1 (by omega) (by omega)
    with_reducible refine HCC.mono ?_
    clear HCC
    rintro e w1 ⟨rfl, hw1⟩
    have H1 := hid hw1
    clear hw1
    go_wp2_with fail
    have HCC := H1.out.calls (R := fun e => e = .returned (.int .i64 0)) fun v1 h1 => put_fit w1 p v1 _ (u : Int) 40 u 40 rfl rfl h1 (by simp; omega) (by omega) hu
    with_reducible refine HCC.mono ?_
    clear HCC
    rintro e w3 ⟨rfl, hw3⟩
    have H3 := hid hw3
    clear hw3
    go_wp2_with fail
    go_ret
    have hw := H3.out
    rw [List.append_assoc] at hw
    rw [HC.out, if_neg hlt]
    exact ⟨rfl, hw⟩

/-- Whatever is put. -/
theorem rput_any (w : World) (p : Nat) (v : Value) (L : List Bool) (u : Nat) (k : Int) (h : Wr w p v L) (hL : L.length ≤ 66000000000) (hu : u < 18446744073709551616) :
    Calls Tryz.prog 96 #[.pointer (some ⟨p, 0, none⟩), .int .u64 (u : Int), .int .i64 k] w fun e w' => e = .returned (.int .i64 (putRErr u k)) ∧ WI w p v (L ++ codeR u k) w' := by
  by_cases hb : paramB k = true ∧ mayB u = true
  · have hk := (paramB_iff k).1 hb.1
    obtain ⟨m, rfl⟩ := Int.eq_ofNat_of_zero_le hk.1
    have e1 : putRErr u (m : Int) = 0 := by simp [putRErr, hb.1, hb.2]
    have e2 : codeR u (m : Int) = codeK u m := by simp [codeR, hb.1, hb.2]
    rw [e1, e2]
    exact rput_ok w p v L u m h hL ((mayB_iff u).1 hb.2) (by omega)
  · have e2 : codeR u k = [] := by unfold codeR; rw [if_neg hb]
    rw [e2, List.append_nil]
    refine (rput_bad p u k w hu hb).mono ?_
    rintro e w' ⟨he, rfl⟩
    exact ⟨he, h.refl⟩
end Go.Proofs.YtjboboaccjbebaaGreat
/- Layer 6: sum, Total, Best. -/
namespace Go.Proofs.YtjboboaccjbebaaGreat
open Go.RowKit

/-- A function value that answers f x at each x of which P holds; it only reads. -/
def QuietN (g : Nat) (cap : Array Value) (f : Nat → Nat) (P : Nat → Prop) (w : World) : Prop :=
  ∀ (x n : Nat), P x → Calls Tryz.prog g (#[.int .u64 (x : Int)] ++ cap) (w.drewN n) fun e w' => e = .returned (.int .i64 (f x : Nat)) ∧ ∃ m, w' = (w.drewN n).drewN m

/-- What f says of all. -/
def sumN (f : Nat → Nat) (xs : List Nat) : Nat := (xs.map f).sum
theorem sumN_snoc (f : Nat → Nat) (xs : List Nat) (x : Nat) : sumN f (xs ++ [x]) = sumN f xs + f x := by simp [sumN]
theorem sumN_le (f : Nat → Nat) (xs : List Nat) (b : Nat) (h : ∀ x ∈ xs, f x ≤ b) : sumN f xs ≤ xs.length * b := by
  induction xs with
  | nil => simp [sumN]
  | cons x xs ih =>
    have h1 := ih fun y hy => h y (by simp [hy])
    have h2 := h x (by simp)
    simp only [sumN, List.map_cons, List.sum_cons, List.length_cons, Nat.add_mul, Nat.one_mul] at h1 ⊢
    omega

set_option maxRecDepth 100000 in
theorem sum_any (g : Nat) (cap : Array Value) (eg : ∀ args w, (callFunc g args).run Tryz.prog w = .ok (.enter g args) w) (f : Nat → Nat) (P : Nat → Prop) (l : Value) (xs : List Nat) (w : World) (hl : Sl w l (u64s xs)) (hP : ∀ x ∈ xs, P x) (hf : QuietN g cap f P w) (hb : ∀ x, f x ≤ 64) (hn : xs.length ≤ 1048576) :
    Calls Tryz.prog 139 #[l, .func (.func g) #[] cap] w (DrawnI w (.int .i64 (sumN f xs : Nat))) := by
  obtain ⟨A, c, rfl, hm⟩ := u64s_form hl
  have H := hid (And.intro hl (And.intro hP (And.intro hf hb)))
  clear hl hP hf hb
  go_enter Tryz.func139, Tryz.ntmps139
  go_wp2_with fail
  go_loopw [5, 10] (fun s i wr => ∃ (k n t : Nat), k ≤ xs.length ∧ i = .int .i64 k ∧ s = .int .i64 t ∧ t ≤ 67108864 ∧ wr = w.drewN n ∧ Hid (t = sumN f (xs.take k))) (fun _ i _ => xs.length - (intOf i).toNat)
  case atStart => exact ⟨0, 0, 0, by omega, rfl, rfl, by omega, rfl, by simp [Hid, sumN]⟩
  case round =>
    obtain ⟨k, n, t, hk, rfl, rfl, ht, rfl, hd⟩ := hrel
    by_cases hkm : k < xs.length
    · have hin : (k : Int) < xs.length := by omega
      obtain ⟨ad, rfl, hc⟩ := u64s_at H.out.1 hkm
      have hcall := H.out.2.2.1 xs[k] n (H.out.2.1 _ (List.getElem_mem _))
      obtain ⟨x, hx⟩ : ∃ x, xs[k] = x := ⟨_, rfl⟩
      rw [hx] at hc hcall
      have hf64 := H.out.2.2.2 x
      obtain ⟨y, hy⟩ : ∃ y, f x = y := ⟨_, rfl⟩
      rw [hy] at hcall hf64
      have HX := hid (And.intro hx (And.intro hy hcall))
      clear hx hcall hy
      go_wp2_with (go_at_fn g; refine HX.out.2.2.mono ?_; rintro e w' ⟨rfl, m1, rfl⟩)
      go_roundw
      case rel =>
        have hs : t + y = sumN f (xs.take (k + 1)) := by rw [take_snocI xs k hkm, sumN_snoc, HX.out.1, HX.out.2.1, ← hd.out]
        have hle := sumN_le f (xs.take (k + 1)) 64 fun z _ => H.out.2.2.2 z
        rw [List.length_take] at hle
        exact ⟨k + 1, n + m1, t + y, by omega, by go_num, by go_num, by omega, rfl, hs⟩
      case measure => simp [intOf]; omega
    · have hin : ¬ (k : Int) < xs.length := by omega
      obtain rfl : k = xs.length := by omega
      go_wp2_with fail
      go_ret
      have h := hd.out
      rw [List.take_length] at h
      exact ⟨by rw [← h]; rfl, n, rfl⟩

theorem enters_total : ∀ args w, (callFunc 140 args).run Tryz.prog w = .ok (.enter 140 args) w := enters_of Tryz.func140 (by kernel_rfl) rfl
theorem totlit_any (b u : Nat) (k : Int) (w : World) (hu : u < 18446744073709551616) (hc : w.cell? ⟨b, 0, none⟩ = some (.int .i64 k)) :
    Calls Tryz.prog 140 #[.int .u64 (u : Int), .pointer (some ⟨b, 0, none⟩)] w fun e w' => e = .returned (.int .i64 (costR u k : Nat)) ∧ w = w' := by
  have HC := hid (rcost_any u k w hu)
  clear hu
  go_enter Tryz.func140, Tryz.ntmps140
  go_wp2_with fail
  with_reducible refine HC.out.mono ?_
  rintro e w1 ⟨rfl, rfl⟩
  go_wp2_with fail
  go_ret
  exact ⟨rfl, rfl⟩

/-- What all cost. -/
def totalR (xs : List Nat) (k : Int) : Nat := sumN (fun u => costR u k) xs
theorem totalR_le (xs : List Nat) (k : Int) : totalR xs k ≤ xs.length * 64 := sumN_le _ xs 64 fun _ _ => costR_le _ _
def InU (xs : List Nat) : Prop := ∀ x ∈ xs, x < 18446744073709551616

theorem total_any (l : Value) (xs : List Nat) (k : Int) (w : World) (hl : Sl w l (u64s xs)) (hx : InU xs) (hn : xs.length ≤ 1048576) :
    Calls Tryz.prog 131 #[l, .int .i64 k] w fun e w' => e = .returned (.int .i64 (totalR xs k : Nat)) ∧ Below w.heap.size w w' := by
  have hmf : ∀ (fn : Fn) (first cap : Array Value) (w : World), (Instr.makeFunc fn first cap).run Tryz.prog w = .ok (.func fn first cap) w := fun _ _ _ _ => rfl
  have HS := hid (sum_any 140 #[.pointer (some ⟨w.heap.size, 0, none⟩)] enters_total (fun u => costR u k) (fun u => u < 18446744073709551616) l xs (w.alloc (.cells #[.int .i64 k] 3)) (hl.alloc _) hx (fun x n hx => (totlit_any w.heap.size x k _ hx (by simp)).mono fun _ _ ⟨he, hw⟩ => ⟨he, 0, hw.symm⟩) (fun _ => costR_le _ _) hn)
  have HH := hid (And.intro hl hx)
  clear hl hx
  go_enter Tryz.func131, Tryz.ntmps131
  go_wp2_with fail
  with_reducible refine HS.out.mono ?_
  rintro e w1 ⟨rfl, n, rfl⟩
  go_wp2_with fail
  go_ret
  exact ⟨rfl, below_drewN' ((Below.refl _ _).alloc (Nat.le_refl _) _) n⟩

/-- The first of 0 .. m where c is least. -/
def bestTo (c : Nat → Nat) : Nat → Nat
  | 0 => 0
  | m + 1 => if c (m + 1) < c (bestTo c m) then m + 1 else bestTo c m
theorem bestTo_le (c : Nat → Nat) (m : Nat) : bestTo c m ≤ m := by
  induction m with
  | zero => simp [bestTo]
  | succ m ih => simp only [bestTo]; split <;> omega
theorem bestTo_least (c : Nat → Nat) (m j : Nat) (h : j ≤ m) : c (bestTo c m) ≤ c j := by
  induction m with
  | zero => obtain rfl : j = 0 := by omega
            simp [bestTo]
  | succ m ih =>
    simp only [bestTo]
    split
    · next hc =>
      by_cases hj : j = m + 1
      · subst hj; exact Nat.le_refl _
      · have := ih (by omega); omega
    · next hc =>
      by_cases hj : j = m + 1
      · subst hj; omega
      · exact ih (by omega)
/-- How far parameters are tried. -/
def mostK (most : Int) : Nat := (clampI most 0 30).toNat
theorem mostK_spec (most : Int) : mostK most ≤ 30 ∧ ((mostK most : Nat) : Int) = clampI most 0 30 := by
  have := clampI_bd most 0 30 (by omega)
  unfold mostK
  omega

/-- The best parameter, and the cost. -/
def BestPost (w : World) (xs : List Nat) (m : Nat) (e : Ending) (w' : World) : Prop :=
  e = .returned (.tuple #[.int .i64 (bestTo (fun k => totalR xs (k : Int)) m : Nat), .int .i64 (totalR xs ((bestTo (fun k => totalR xs (k : Int)) m : Nat) : Int) : Nat)]) ∧ Below w.heap.size w w'

set_option maxHeartbeats 800000 in
theorem best_any (l : Value) (xs : List Nat) (most : Int) (w : World) (hl : Sl w l (u64s xs)) (hx : InU xs) (hn : xs.length ≤ 1048576) :
    Calls Tryz.prog 114 #[l, .int .i64 most] w (BestPost w xs (mostK most)) := by
  obtain ⟨hm30, hmc⟩ := mostK_spec most
  have HT := hid (fun (k : Int) W (h : Sl W l (u64s xs)) => total_any l xs k W h hx hn)
  have HC := hid (fun W => (show Calls Tryz.prog 132 #[.int .i64 most, .int .i64 0, .int .i64 30] W fun e w' => e = .returned (.int .i64 (mostK most : Nat)) ∧ W = w' by rw [hmc]; exact clamp_any most 0 30 W))
  have H := hid (And.intro hl hx)
  obtain ⟨m, hm⟩ : ∃ m, mostK most = m := ⟨_, rfl⟩
  rw [hm] at hm30 HC
  have HM := hid hm
  clear hl hx hmc hm
  obtain ⟨c, hc⟩ : ∃ c : Nat → Nat, (fun k : Nat => totalR xs (k : Int)) = c := ⟨_, rfl⟩
  have hcb : ∀ k : Nat, totalR xs (k : Int) = c k := fun k => by rw [← hc]
  have hc64 : ∀ k, c k ≤ 67108864 := fun k => by rw [← hcb]; have := totalR_le xs (k : Int); omega
  have HCB := hid (And.intro hcb (And.intro hc64 hc))
  clear hcb hc64 hc
  go_enter Tryz.func114, Tryz.ntmps114
  go_wp2_with fail
  have HCC := HT.out 0 w H.out.1
  rw [show totalR xs 0 = c 0 from HCB.out.1 0] at HCC
  with_reducible refine HCC.mono ?_
  clear HCC
  rintro e w1 ⟨rfl, hb1⟩
  have H1 := hid hb1
  clear hb1
  go_wp2_with fail
  go_loopw [6, 7, 8] (fun b t i wr => ∃ (k bb tt : Nat), k ≤ m ∧ i = .int .i64 ((k : Int) + 1) ∧ b = .int .i64 bb ∧ t = .int .i64 tt ∧ Below w.heap.size w wr ∧ Hid (bb = bestTo c k ∧ tt = c bb)) (fun _ _ i _ => (m + 1) - (intOf i).toNat)
  case atStart => exact ⟨0, 0, c 0, by omega, rfl, rfl, rfl, H1.out, rfl, rfl⟩
  case round =>
    obtain ⟨k, bb, tt, hk, rfl, rfl, rfl, hbel, hd⟩ := hrel
    have HB := hid hbel
    clear hbel
    go_wp2_with fail
    with_reducible refine (HC.out wr).mono ?_
    rintro e w2 ⟨rfl, rfl⟩
    by_cases hkm : k < m
    · have hin : (k : Int) + 1 ≤ m := by omega
      go_wp2_with fail
      have HCC := HT.out ((k : Int) + 1) wr (H.out.1.below HB.out)
      rw [show totalR xs ((k : Int) + 1) = c (k + 1) from HCB.out.1 (k + 1)] at HCC
      obtain ⟨y, hy⟩ : ∃ y, c (k + 1) = y := ⟨_, rfl⟩
      rw [hy] at HCC
      have HY := hid hy
      clear hy
      with_reducible refine HCC.mono ?_
      clear HCC
      rintro e w3 ⟨rfl, hb3⟩
      have H3 := hid (HB.out.trans (hb3.mono HB.out.size))
      clear hb3
      by_cases hlt : y < tt
      · have hlt' : (y : Int) < tt := by omega
        go_wp2_with fail
        go_roundw
        case rel => exact ⟨k + 1, k + 1, y, by omega, by go_num, by go_num, rfl, H3.out, by rw [bestTo, if_pos (by rw [HY.out, ← hd.out.1, ← hd.out.2]; exact hlt)], HY.out.symm⟩
        case measure => simp [intOf]; omega
      · have hlt' : ¬ (y : Int) < tt := by omega
        go_wp2_with fail
        go_roundw
        case rel => exact ⟨k + 1, bb, tt, by omega, by go_num, rfl, rfl, H3.out, by rw [bestTo, if_neg (by rw [HY.out, ← hd.out.1, ← hd.out.2]; exact hlt)]; exact hd.out.1, hd.out.2⟩
        case measure => simp [intOf]; omega
    · have hin : ¬ (k : Int) + 1 ≤ m := by omega
      obtain rfl : k = m := by omega
      go_wp2_with fail
      go_ret2
      refine ⟨?_, HB.out⟩
      rw [HM.out, HCB.out.2.2, HCB.out.1, ← hd.out.1, ← hd.out.2]
      rfl
end Go.Proofs.YtjboboaccjbebaaGreat
/- Layer 1 and its reference: how many bits a number has (Width), and takes (Need). -/
namespace Go.Proofs.YtjboboaccjbebaaGreat
open Go.RowKit

theorem width_any (x : Nat) (w : World) (h : x < 18446744073709551616) : Calls Tryz.prog 102 #[.int .u64 (x : Int)] w fun e w' => e = .returned (.int .i64 (wid x : Nat)) ∧ w = w' := by
  have HX := hid h
  clear h
  go_enter Tryz.func102, Tryz.ntmps102
  go_wp2_with fail
  have HC := len_bits x w HX.out
  with_reducible refine HC.mono ?_
  clear HC
  rintro e w1 ⟨rfl, rfl⟩
  go_wp2_with fail
  go_ret
  exact ⟨rfl, rfl⟩
theorem width_at (xi : Int) (x : Nat) (hx : xi = (x : Int)) (w : World) (h : x < 18446744073709551616) : Calls Tryz.prog 102 #[.int .u64 xi] w fun e w' => e = .returned (.int .i64 (wid x : Nat)) ∧ w = w' := by
  subst hx
  exact width_any x w h

theorem refwidth_any (x : Nat) (w : World) (h : x < 18446744073709551616) : Calls Tryz.prog 54 #[.int .u64 (x : Int)] w fun e w' => e = .returned (.int .i64 (wid x : Nat)) ∧ w = w' := by
  have HX := hid h
  clear h
  go_enter Tryz.func54, Tryz.ntmps54
  go_wp2_with fail
  go_loop [0, 3, 4] (fun u n i => ∃ (k y : Nat) (z : Int), k ≤ 64 ∧ i = .int .i64 k ∧ n = .int .i64 k ∧ u = .int .u64 z ∧ 0 ≤ z ∧ z < 18446744073709551616 ∧ Hid (z = (y : Int) ∧ y < 2 ^ (64 - k) ∧ wid x = k + wid y)) (fun _ _ i => 64 - (intOf i).toNat)
  case atStart => exact ⟨0, x, x, by omega, rfl, rfl, rfl, by omega, by have := HX.out; omega, rfl, HX.out, by omega⟩
  case round =>
    obtain ⟨k, y, z, hk, rfl, rfl, rfl, hz1, hz2, hh⟩ := hrel
    by_cases hz : 0 < z
    · have hk64 : k < 64 := by
        rcases Nat.lt_or_ge k 64 with h | h
        · exact h
        · obtain ⟨h1, h2, _⟩ := hh.out
          rw [show 64 - k = 0 by omega] at h2
          simp at h2
          omega
      have hin : (k : Int) < 64 := by omega
      go_wp2_with fail
      go_round
      case rel =>
        obtain ⟨h1, h2, h3⟩ := hh.out
        refine ⟨k + 1, y / 2, z / 2, by omega, by go_num, by go_num, rfl, by omega, by omega, by rw [h1]; omega, ?_, ?_⟩
        · have e : 2 ^ (64 - k) = 2 * 2 ^ (64 - (k + 1)) := by rw [show 64 - k = (64 - (k + 1)) + 1 by omega, Nat.pow_succ]; omega
          omega
        · rw [h3, wid_half y (by omega) (by omega)]
          omega
      case measure => simp [intOf]; omega
    · have hz0 : z = 0 := by omega
      have HZ := hid hz0
      clear hz0
      by_cases hin : (k : Int) < 64
      all_goals
        go_wp2_with fail
        go_ret
        obtain ⟨h1, h2, h3⟩ := hh.out
        rw [HZ.out] at h1
        obtain rfl : y = 0 := by omega
        rw [wid_zero] at h3
        refine ⟨?_, rfl⟩
        rw [h3]
        simp
theorem refwidth_at (xi : Int) (x : Nat) (hx : xi = (x : Int)) (w : World) (h : x < 18446744073709551616) : Calls Tryz.prog 54 #[.int .u64 xi] w fun e w' => e = .returned (.int .i64 (wid x : Nat)) ∧ w = w' := by
  subst hx
  exact refwidth_any x w h

theorem i64_not (x : Int) (h : -9223372036854775808 ≤ x) (h' : x ≤ 9223372036854775807) : bits BinOp.xor IntKind.i64 (-1) x = -x - 1 := by
  have e : BitVec.ofInt 64 (-1) = BitVec.allOnes 64 := by decide
  show IntKind.i64.wrap ((BitVec.ofInt 64 (-1) ^^^ BitVec.ofInt 64 x).toNat : Int) = _
  rw [e, BitVec.allOnes_xor, BitVec.toNat_not, BitVec.toNat_ofInt, IntKind.wrap_i64]
  omega

/-- The bits that a number takes. -/
def needN (x : Int) : Nat := wid (if x < 0 then (-x - 1).toNat else x.toNat) + 1
theorem needN_neg {x : Int} {n : Nat} (h : x < 0) (hn : -x - 1 = (n : Int)) : needN x = wid n + 1 := by
  unfold needN
  rw [if_pos h, hn, Int.toNat_natCast]
theorem needN_pos {x : Int} {n : Nat} (hn : x = (n : Int)) : needN x = wid n + 1 := by
  unfold needN
  rw [if_neg (by omega), hn, Int.toNat_natCast]

theorem need_any (x : Int) (w : World) (h : -9223372036854775808 ≤ x) (h' : x ≤ 9223372036854775807) : Calls Tryz.prog 130 #[.int .i64 x] w fun e w' => e = .returned (.int .i64 (needN x : Nat)) ∧ w = w' := by
  by_cases h0 : x < 0
  · obtain ⟨n, hn⟩ := Int.eq_ofNat_of_zero_le (show 0 ≤ -x - 1 by omega)
    rw [needN_neg h0 hn]
    have hw := wid_max n (by omega)
    have HN := hid hn
    have hn2 : x = -(n : Int) - 1 := by omega
    clear hn
    subst hn2
    have hnot : bits BinOp.xor IntKind.i64 (-1) (-(n : Int) - 1) = (n : Int) := by rw [i64_not _ (by omega) (by omega)]; omega
    go_enter Tryz.func130, Tryz.ntmps130
    go_wp2_with fail
    have HC := fun xi hx => width_at xi n hx w (by omega)
    with_reducible refine (HC _ ?_).mono ?_
    · first | omega | (rw [IntWalk.u64_in _ (by omega)]; done) | (rw [IntWalk.u64_in _ (by omega)]; omega)
    rintro e w1 ⟨rfl, rfl⟩
    go_wp2_with fail
    go_ret
    exact ⟨rfl, rfl⟩
  · obtain ⟨n, hn⟩ := Int.eq_ofNat_of_zero_le (show 0 ≤ x by omega)
    rw [needN_pos hn]
    have hw := wid_max n (by omega)
    subst hn
    go_enter Tryz.func130, Tryz.ntmps130
    go_wp2_with fail
    have HC := fun xi hx => width_at xi n hx w (by omega)
    with_reducible refine (HC _ ?_).mono ?_
    · first | rfl | omega | (rw [IntWalk.u64_in _ (by omega)])
    rintro e w1 ⟨rfl, rfl⟩
    go_wp2_with fail
    go_ret
    exact ⟨rfl, rfl⟩

theorem refneed_any (x : Int) (w : World) (h : -9223372036854775808 ≤ x) (h' : x ≤ 9223372036854775807) : Calls Tryz.prog 122 #[.int .i64 x] w fun e w' => e = .returned (.int .i64 (needN x : Nat)) ∧ w = w' := by
  by_cases h0 : x < 0
  · obtain ⟨n, hn⟩ := Int.eq_ofNat_of_zero_le (show 0 ≤ -x - 1 by omega)
    rw [needN_neg h0 hn]
    have hw := wid_max n (by omega)
    have HN := hid hn
    have hn2 : x = -(n : Int) - 1 := by omega
    clear hn
    subst hn2
    go_enter Tryz.func122, Tryz.ntmps122
    go_wp2_with fail
    have HC := fun xi hx => refwidth_at xi n hx w (by omega)
    with_reducible refine (HC _ ?_).mono ?_
    · first | omega | (rw [IntWalk.u64_in _ (by omega)]; done) | (rw [IntWalk.u64_in _ (by omega)]; omega)
    rintro e w1 ⟨rfl, rfl⟩
    go_wp2_with fail
    go_ret
    exact ⟨rfl, rfl⟩
  · obtain ⟨n, hn⟩ := Int.eq_ofNat_of_zero_le (show 0 ≤ x by omega)
    rw [needN_pos hn]
    have hw := wid_max n (by omega)
    subst hn
    go_enter Tryz.func122, Tryz.ntmps122
    go_wp2_with fail
    have HC := fun xi hx => refwidth_at xi n hx w (by omega)
    with_reducible refine (HC _ ?_).mono ?_
    · first | rfl | omega | (rw [IntWalk.u64_in _ (by omega)])
    rintro e w1 ⟨rfl, rfl⟩
    go_wp2_with fail
    go_ret
    exact ⟨rfl, rfl⟩
end Go.Proofs.YtjboboaccjbebaaGreat
/- Layer 1: Add of numbers that are held and not below 0, and the reference's. -/
namespace Go.Proofs.YtjboboaccjbebaaGreat
open Go.RowKit

/-- Both together, held. -/
def addN (a b : Nat) : Nat := if 4611686018427387904 < a + b then 4611686018427387904 else a + b
theorem addN_le (a b : Nat) : addN a b ≤ 4611686018427387904 := by unfold addN; split <;> omega

theorem hold_id (x : Int) (h : 0 ≤ x) (h' : x ≤ 4611686018427387904) (w : World) : Calls Tryz.prog 35 #[.int .i64 x] w fun e w' => e = .returned (.int .i64 x) ∧ w = w' := by
  have := hold_any x w
  rwa [holdI_id x (by omega) h'] at this
end Go.Proofs.YtjboboaccjbebaaGreat
/- Layer 6: PutAll, Guess. -/
namespace Go.Proofs.YtjboboaccjbebaaGreat
open Go.RowKit

theorem notmay_any (u : Nat) (w : World) (hu : u < 18446744073709551616) : Calls Tryz.prog 94 #[.int .u64 (u : Int)] w fun e w' => e = .returned (.bool (!mayB u)) ∧ w = w' := by
  have HM := hid (may_any u w hu)
  clear hu
  go_enter Tryz.func94, Tryz.ntmps94
  go_wp2_with fail
  with_reducible refine HM.out.mono ?_
  rintro e w1 ⟨rfl, rfl⟩
  go_wp2_with fail
  go_ret
  exact ⟨rfl, rfl⟩
theorem enters_notmay : ∀ args w, (callFunc 94 args).run Tryz.prog w = .ok (.enter 94 args) w := enters_of Tryz.func94 (by kernel_rfl) rfl

theorem rputall_nil (l : Value) (k : Int) (w : World) : Calls Tryz.prog 77 #[.pointer none, l, .int .i64 k] w fun e w' => e = .returned (.int .i64 2) ∧ w = w' := by
  go_enter Tryz.func77, Tryz.ntmps77
  go_wp2_with fail
  go_ret
  exact ⟨rfl, rfl⟩

theorem any_not_mayB (xs : List Nat) : xs.any (fun x => !mayB x) = !xs.all mayB := by
  induction xs with
  | nil => rfl
  | cons x xs ih => rw [List.any_cons, List.all_cons, ih, Bool.not_and]

/-- The error of PutAll. -/
def putAErr (xs : List Nat) (k : Int) : Int := if paramB k = true then (if xs.all mayB = true then 0 else 3) else 1
/-- What it writes. -/
def codesR (xs : List Nat) (k : Int) : List Bool := xs.flatMap fun u => codeR u k
theorem codesR_length (xs : List Nat) (k : Int) : (codesR xs k).length = totalR xs k := by
  unfold codesR totalR sumN
  rw [List.length_flatMap]
  congr 1
  exact List.map_congr_left fun u _ => codeR_length u k

theorem rputall_bad (p : Nat) (l : Value) (xs : List Nat) (k : Int) (w : World) (hl : Sl w l (u64s xs)) (hx : InU xs) (h : ¬ (paramB k = true ∧ xs.all mayB = true)) :
    Calls Tryz.prog 77 #[.pointer (some ⟨p, 0, none⟩), l, .int .i64 k] w fun e w' => e = .returned (.int .i64 (putAErr xs k)) ∧ Below w.heap.size w w' := by
  have HP := hid (param_any k w)
  have HC := hid (containsU_any 94 #[] enters_notmay (fun x => !mayB x) (fun x => x < 18446744073709551616) l xs w hl hx (fun x n hx => (notmay_any x _ hx).mono fun _ _ ⟨he, hw⟩ => ⟨he, 0, hw.symm⟩))
  rw [any_not_mayB] at HC
  have HH := hid h
  obtain ⟨b, hb⟩ : ∃ b, paramB k = b := ⟨_, rfl⟩
  obtain ⟨c, hc⟩ : ∃ c, xs.all mayB = c := ⟨_, rfl⟩
  rw [hb] at HP HH
  rw [hc] at HC HH
  have HB := hid (And.intro hb hc)
  have HX := hid (And.intro hl hx)
  clear hb hc h hl hx
  cases b
  · have HE := hid (show putAErr xs k = 1 by simp [putAErr, HB.out.1])
    go_enter Tryz.func77, Tryz.ntmps77
    go_wp2_with fail
    with_reducible refine HP.out.mono ?_
    rintro e w1 ⟨rfl, rfl⟩
    go_wp2_with fail
    go_ret
    exact ⟨by rw [HE.out]; rfl, .refl _ _⟩
  cases c
  · have HE := hid (show putAErr xs k = 3 by simp only [putAErr, HB.out.1, HB.out.2]; rfl)
    go_enter Tryz.func77, Tryz.ntmps77
    go_wp2_with fail
    with_reducible refine HP.out.mono ?_
    rintro e w1 ⟨rfl, rfl⟩
    go_wp2_with fail
    with_reducible refine HC.out.mono ?_
    rintro e w1 ⟨rfl, n, rfl⟩
    go_wp2_with fail
    go_ret
    exact ⟨by rw [HE.out]; rfl, below_drewN' (.refl _ _) n⟩
  · exact absurd ⟨rfl, rfl⟩ HH.out

/-- A list beside a writer: nothing of it is the writer's. -/
structure LW (w0 : World) (p : Nat) (v l : Value) (xs : List Value) (L : List Bool) (wr : World) : Prop where
  wi : WI w0 p v L wr
  sl : Sl wr l xs
  ap : xs ≠ [] → ∀ g, l.ownBlock = some g → ¬ Foot p v g ∧ g < w0.heap.size
theorem LW.calls {w0 wr : World} {p : Nat} {v l : Value} {xs : List Value} {L L' : List Bool} {f : FuncId} {args : Array Value} {R : Ending → Prop} (h : LW w0 p v l xs L wr)
    (k : ∀ v1, Wr wr p v1 L → Calls Tryz.prog f args wr fun e w3 => R e ∧ WI wr p v1 L' w3) : Calls Tryz.prog f args wr fun e w3 => R e ∧ LW w0 p v l xs L' w3 := by
  obtain ⟨v1, h1, hm, hk⟩ := h.wi
  refine (k v1 h1).mono ?_
  rintro e w3 ⟨he, v3, h3, hm3, hk3⟩
  exact ⟨he, ⟨v3, h3, hm.trans hk.size hm3, hk.trans hk3 fun i hi hf => hm.foot hi hf⟩, h.sl.kept' hk3 (fun hne g hg hf => (h.ap hne g hg).1 (hm.foot (h.ap hne g hg).2 hf)), h.ap⟩

set_option maxHeartbeats 800000 in
theorem rputall_ok (p : Nat) (v : Value) (L : List Bool) (l : Value) (xs : List Nat) (k : Int) (w : World) (hw : Wr w p v L) (hL : L.length ≤ 1000000000) (hl : Sl w l (u64s xs)) (hx : InU xs) (hn : xs.length ≤ 1048576) (hap : u64s xs ≠ [] → ∀ g, l.ownBlock = some g → ¬ Foot p v g ∧ g < w.heap.size) (hk : paramB k = true) (ha : xs.all mayB = true) :
    Calls Tryz.prog 77 #[.pointer (some ⟨p, 0, none⟩), l, .int .i64 k] w fun e w' => e = .returned (.int .i64 0) ∧ WI w p v (L ++ codesR xs k) w' := by
  obtain ⟨A, c, rfl, hm⟩ := u64s_form hl
  have HP := hid (param_any k w)
  have HC := hid (containsU_any 94 #[] enters_notmay (fun x => !mayB x) (fun x => x < 18446744073709551616) (.slice A xs.length c) xs w hl hx (fun x n hx => (notmay_any x _ hx).mono fun _ _ ⟨he, hw⟩ => ⟨he, 0, hw.symm⟩))
  rw [any_not_mayB, ha] at HC
  rw [hk] at HP
  have HX := hid (And.intro hk (And.intro ha (And.intro hx (show LW w p v (.slice A xs.length c) (u64s xs) L w from ⟨hw.refl, hl, hap⟩))))
  clear hk ha hx hl hw hap
  go_enter Tryz.func77, Tryz.ntmps77
  go_wp2_with fail
  with_reducible refine HP.out.mono ?_
  rintro e w1 ⟨rfl, rfl⟩
  go_wp2_with fail
  with_reducible refine HC.out.mono ?_
  rintro e w1 ⟨rfl, n, rfl⟩
  go_wp2_with fail
  go_loopw [8, 21] (fun _ i wr => ∃ j : Nat, j ≤ xs.length ∧ i = .int .i64 j ∧ LW w p v (.slice A xs.length c) (u64s xs) (L ++ codesR (xs.take j) k) wr) (fun _ i _ => xs.length - (intOf i).toNat)
  case atStart =>
    obtain ⟨hwi, hsl, hap⟩ := HX.out.2.2.2
    exact ⟨0, by omega, rfl, by simpa [codesR] using hwi.then_below (below_drewN' (.refl _ _) n), hsl.drewN n, hap⟩
  case round =>
    obtain ⟨j, hj, rfl, hlw⟩ := hrel
    have HL := hid hlw
    by_cases hjm : j < xs.length
    · have hin : (j : Int) < xs.length := by omega
      obtain ⟨ad, rfl, hc⟩ := u64s_at hlw.sl hjm
      have hu := HX.out.2.2.1 xs[j] (List.getElem_mem _)
      have hmay := List.all_eq_true.1 HX.out.2.1 xs[j] (List.getElem_mem _)
      obtain ⟨x, hxe⟩ : ∃ x, xs[j] = x := ⟨_, rfl⟩
      rw [hxe] at hc hu hmay
      have HXE := hid (And.intro hxe (And.intro hu hmay))
      clear hxe hu hmay hlw
      have hcl : (codesR (xs.take j) k).length ≤ 67108864 := by
        rw [codesR_length]
        have := totalR_le (xs.take j) k
        rw [List.length_take] at this
        omega
      go_wp2_with fail
      have HCC := HL.out.calls (R := fun e => e = .returned (.int .i64 (putRErr x k))) fun v1 h1 => rput_any wr p v1 (L ++ codesR (xs.take j) k) x k h1 (by rw [List.length_append]; omega) HXE.out.2.1
      rw [show putRErr x k = 0 by simp [putRErr, HX.out.1, HXE.out.2.2]] at HCC
      with_reducible refine HCC.mono ?_
      clear HCC
      rintro e w2 ⟨rfl, h2⟩
      have H2 := hid (show LW w p v (.slice (some ad) xs.length c) (u64s xs) (L ++ codesR (xs.take (j + 1)) k) w2 by
        rw [take_snocI xs j hjm, HXE.out.1]
        simp only [codesR, List.flatMap_append, List.flatMap_cons, List.flatMap_nil, List.append_nil]
        rw [← List.append_assoc]
        exact h2)
      clear h2
      go_wp2_with fail
      go_roundw
      case rel => exact ⟨j + 1, by omega, by go_num, H2.out⟩
      case measure => simp [intOf]; omega
    · have hin : ¬ (j : Int) < xs.length := by omega
      obtain rfl : j = xs.length := by omega
      clear hlw
      go_wp2_with fail
      go_ret
      have h := HL.out.wi
      rw [List.take_length] at h
      exact ⟨rfl, h⟩

/-- A guess at the parameter. -/
def allN (xs : List Nat) : Nat := xs.foldl (fun a u => addN a (min u 4611686018427387904)) 0
theorem allN_snoc (xs : List Nat) (x : Nat) : allN (xs ++ [x]) = addN (allN xs) (min x 4611686018427387904) := by simp [allN]
theorem allN_le (xs : List Nat) : allN xs ≤ 4611686018427387904 := by
  rcases List.eq_nil_or_concat xs with rfl | ⟨ys, y, rfl⟩
  · simp [allN]
  · rw [List.concat_eq_append, allN_snoc]
    exact addN_le _ _
def guessN (xs : List Nat) : Nat := if xs.length = 0 then 0 else min (wid (allN xs / xs.length)) 30

end Go.Proofs.YtjboboaccjbebaaGreat
/- Lists of bits in new memory: the reference's Bits, and appends of them. -/
namespace Go.Proofs.YtjboboaccjbebaaGreat
open Go.RowKit

/-- Memory that grew by a fresh row. -/
theorem FreshI.bel {w w1 : World} {F : List Int} {v : Value} (h : FreshI w F v w1) : Below w.heap.size w w1 := h.2.1

/-- What code the reference makes: bits in new memory. -/
def BitsPost (w : World) (B : List Bool) (e : Ending) (w' : World) : Prop := ∃ A c, e = .returned (.slice A B.length c) ∧ FreshI w (bis B) (.slice A B.length c) w'

theorem FreshI.bits_app {w w1 w2 : World} {B C : List Bool} {v v' : Value} (h : FreshI w (bis B) v w1) (hown : w2.ownsRow 0 3 1 v' (B.length + (i64s (bis C)).length) (i64s (bis B) ++ i64s (bis C))) (hg : w1.grownBy w2 v.ownBlock) (hm : Moved w1 v v') : FreshI w (bis (B ++ C)) v' w2 := by
  rw [bis_app]
  exact h.app (by rw [bis_length]; exact hown) hg hm

/-- Bits, with their number written out. -/
def BitsS (w : World) (B : List Bool) (n : Nat) (e : Ending) (w' : World) : Prop := ∃ A c, e = .returned (.slice A n c) ∧ FreshI w (bis B) (.slice A n c) w'
theorem bits_sl (xi ni : Int) (x n : Nat) (hxi : xi = (x : Int)) (hni : ni = (n : Int)) (w : World) (hx : x < 18446744073709551616) (hn : n ≤ 1073741824) :
    Calls Tryz.prog 56 #[.int .u64 xi, .int .i64 ni] w (BitsS w (bitsOf x n) n) := by
  refine (bits_at xi ni x n hxi hni w hx hn).mono ?_
  rintro e w' ⟨A, c, rfl, hf⟩
  rw [bis_length, bitsOf_length] at hf ⊢
  exact ⟨A, c, rfl, hf⟩
theorem FreshI.own_of {w w1 : World} {B : List Bool} {v : Value} {n : Nat} (h : FreshI w (bis B) v w1) (hn : B.length = n) : w1.ownsRow 0 3 1 v n (i64s (bis B)) := by
  have := h.1
  rwa [bis_length, hn] at this
theorem FreshI.bits_app' {w w1 w2 : World} {B C : List Bool} {v v' : Value} {n : Nat} (h : FreshI w (bis B) v w1) (hn : B.length = n) (hown : w2.ownsRow 0 3 1 v' (n + (i64s (bis C)).length) (i64s (bis B) ++ i64s (bis C))) (hg : w1.grownBy w2 v.ownBlock) (hm : Moved w1 v v') : FreshI w (bis (B ++ C)) v' w2 := by
  subst hn
  exact h.bits_app hown hg hm

end Go.Proofs.YtjboboaccjbebaaGreat
/- The reference of layer 6: Param, May, Quotient, Code, Cost, Total, All, Best, Guess. -/
namespace Go.Proofs.YtjboboaccjbebaaGreat
open Go.RowKit

theorem refparam_any (k : Int) (w : World) : Calls Tryz.prog 123 #[.int .i64 k] w fun e w' => e = .returned (.bool (paramB k)) ∧ w = w' := by
  by_cases h1 : 0 ≤ k
  · by_cases h2 : k ≤ 30
    · have e : paramB k = true := by unfold paramB; rw [decide_eq_true_iff]; omega
      rw [e]
      clear e
      go_enter Tryz.func123, Tryz.ntmps123
      go_wp2_with fail
      go_ret
      exact ⟨rfl, rfl⟩
    · have e : paramB k = false := by unfold paramB; rw [decide_eq_false_iff_not]; omega
      rw [e]
      clear e
      go_enter Tryz.func123, Tryz.ntmps123
      go_wp2_with fail
      go_ret
      exact ⟨by simp, rfl⟩
  · have e : paramB k = false := by unfold paramB; rw [decide_eq_false_iff_not]; omega
    rw [e]
    clear e
    go_enter Tryz.func123, Tryz.ntmps123
    go_wp2_with fail
    go_ret
    exact ⟨rfl, rfl⟩
theorem refmay_any (u : Nat) (w : World) : Calls Tryz.prog 124 #[.int .u64 (u : Int)] w fun e w' => e = .returned (.bool (mayB u)) ∧ w = w' := by
  have HE := hid (show decide ((u : Int) < 1099511627776) = mayB u by unfold mayB; rw [Bool.eq_iff_iff, decide_eq_true_iff, decide_eq_true_iff]; omega)
  go_enter Tryz.func124, Tryz.ntmps124
  go_wp2_with fail
  go_ret
  exact ⟨by rw [← HE.out]; rfl, rfl⟩
theorem refquo_any (u k : Nat) (hk : k ≤ 30) (w : World) : Calls Tryz.prog 125 #[.int .u64 (u : Int), .int .i64 (k : Int)] w fun e w' => e = .returned (.int .u64 (u / 2 ^ k : Nat)) ∧ w = w' := by
  have hsh := shr_rule u k
  obtain ⟨q, hqe⟩ : ∃ q, u / 2 ^ k = q := ⟨_, rfl⟩
  rw [hqe] at hsh ⊢
  clear hqe
  go_enter Tryz.func125, Tryz.ntmps125
  go_wp2_with fail
  go_ret
  exact ⟨rfl, rfl⟩

theorem refcost_any (u : Nat) (k : Int) (w : World) : Calls Tryz.prog 136 #[.int .u64 (u : Int), .int .i64 k] w fun e w' => e = .returned (.int .i64 (costR u k : Nat)) ∧ w = w' := by
  have HP := hid (refparam_any k w)
  have HM := hid (refmay_any u w)
  obtain ⟨b, hb⟩ : ∃ b, paramB k = b := ⟨_, rfl⟩
  obtain ⟨c, hc⟩ : ∃ c, mayB u = c := ⟨_, rfl⟩
  rw [hb] at HP
  rw [hc] at HM
  have HB := hid (And.intro hb hc)
  clear hb hc
  cases b
  · have HE := hid (show costR u k = 0 by simp [costR, HB.out.1])
    go_enter Tryz.func136, Tryz.ntmps136
    go_wp2_with fail
    with_reducible refine HP.out.mono ?_
    rintro e w1 ⟨rfl, rfl⟩
    go_wp2_with fail
    go_ret
    exact ⟨by rw [HE.out]; rfl, rfl⟩
  cases c
  · have HE := hid (show costR u k = 0 by simp [costR, HB.out.2])
    go_enter Tryz.func136, Tryz.ntmps136
    go_wp2_with fail
    with_reducible refine HP.out.mono ?_
    rintro e w1 ⟨rfl, rfl⟩
    go_wp2_with fail
    with_reducible refine HM.out.mono ?_
    rintro e w1 ⟨rfl, rfl⟩
    go_wp2_with fail
    go_ret
    exact ⟨by rw [HE.out]; rfl, rfl⟩
  · have hk := (paramB_iff k).1 HB.out.1
    have hu := (mayB_iff u).1 HB.out.2
    obtain ⟨m, rfl⟩ := Int.eq_ofNat_of_zero_le hk.1
    have HQ := refquo_any u m (by omega) w
    have hq := Nat.div_le_self u (2 ^ m)
    obtain ⟨q, hqe⟩ : ∃ q, u / 2 ^ m = q := ⟨_, rfl⟩
    rw [hqe] at HQ hq
    have HE := hid (show costR u (m : Int) = if q < 24 then q + 1 + m else 64 by simp [costR, HB.out.1, HB.out.2, costK, hqe])
    have HQQ := hid HQ
    clear HQ hqe
    by_cases hlt : q < 24
    · have h' : (q : Int) < 24 := by omega
      go_enter Tryz.func136, Tryz.ntmps136
      go_wp2_with fail
      with_reducible refine HP.out.mono ?_
      rintro e w1 ⟨rfl, rfl⟩
      go_wp2_with fail
      with_reducible refine HM.out.mono ?_
      rintro e w1 ⟨rfl, rfl⟩
      go_wp2_with fail
      with_reducible refine HQQ.out.mono ?_
      rintro e w1 ⟨rfl, rfl⟩
      go_wp2_with fail
      go_ret
      exact ⟨by rw [HE.out, if_pos hlt]; rfl, rfl⟩
    · have h' : ¬ (q : Int) < 24 := by omega
      go_enter Tryz.func136, Tryz.ntmps136
      go_wp2_with fail
      with_reducible refine HP.out.mono ?_
      rintro e w1 ⟨rfl, rfl⟩
      go_wp2_with fail
      with_reducible refine HM.out.mono ?_
      rintro e w1 ⟨rfl, rfl⟩
      go_wp2_with fail
      with_reducible refine HQQ.out.mono ?_
      rintro e w1 ⟨rfl, rfl⟩
      go_wp2_with fail
      go_ret
      exact ⟨by rw [HE.out, if_neg hlt]; rfl, rfl⟩

theorem reftotal_any (l : Value) (xs : List Nat) (k : Int) (w : World) (hl : Sl w l (u64s xs)) (hn : xs.length ≤ 1048576) :
    Calls Tryz.prog 120 #[l, .int .i64 k] w fun e w' => e = .returned (.int .i64 (totalR xs k : Nat)) ∧ w = w' := by
  obtain ⟨A, c, rfl, hm⟩ := u64s_form hl
  have H := hid hl
  clear hl
  go_enter Tryz.func120, Tryz.ntmps120
  go_wp2_with fail
  go_loop [5, 6] (fun s i => ∃ k' t : Nat, k' ≤ xs.length ∧ i = .int .i64 k' ∧ s = .int .i64 t ∧ t ≤ 67108864 ∧ Hid (t = totalR (xs.take k') k)) (fun _ i => xs.length - (intOf i).toNat)
  case atStart => exact ⟨0, 0, by omega, rfl, rfl, by omega, by simp [Hid, totalR, sumN]⟩
  case round =>
    obtain ⟨j, t, hj, rfl, rfl, ht, hd⟩ := hrel
    by_cases hjm : j < xs.length
    · have hin : (j : Int) < xs.length := by omega
      obtain ⟨ad, rfl, hc⟩ := u64s_at H.out hjm
      obtain ⟨x, hx⟩ : ∃ x, xs[j] = x := ⟨_, rfl⟩
      rw [hx] at hc
      have HX := hid hx
      clear hx
      have HC := refcost_any x k w
      have h64 := costR_le x k
      obtain ⟨y, hy⟩ : ∃ y, costR x k = y := ⟨_, rfl⟩
      rw [hy] at HC h64
      have HY := hid hy
      have HCC := hid HC
      clear hy HC
      go_wp2_with fail
      with_reducible refine HCC.out.mono ?_
      rintro e w1 ⟨rfl, rfl⟩
      go_wp2_with fail
      go_round
      case rel =>
        have hs : t + y = totalR (xs.take (j + 1)) k := by unfold totalR; rw [take_snocI xs j hjm, sumN_snoc, HX.out, HY.out, hd.out]; rfl
        have hle := totalR_le (xs.take (j + 1)) k
        rw [List.length_take] at hle
        exact ⟨j + 1, t + y, by omega, by go_num, by go_num, by omega, hs⟩
      case measure => simp [intOf]; omega
    · have hin : ¬ (j : Int) < xs.length := by omega
      obtain rfl : j = xs.length := by omega
      go_wp2_with fail
      go_ret
      have h := hd.out
      rw [List.take_length] at h
      exact ⟨by rw [← h]; rfl, rfl⟩

theorem refbest_any (l : Value) (xs : List Nat) (most : Int) (w : World) (hl : Sl w l (u64s xs)) (hn : xs.length ≤ 1048576) :
    Calls Tryz.prog 105 #[l, .int .i64 most] w (BestPost w xs (mostK most)) := by
  obtain ⟨hm30, hmc⟩ := mostK_spec most
  have HT := hid (fun (k : Int) => reftotal_any l xs k w hl hn)
  obtain ⟨m, hm⟩ : ∃ m, mostK most = m := ⟨_, rfl⟩
  rw [hm] at hm30 hmc
  have hmm : ∀ k : Nat, k < m → (k : Int) + 1 ≤ 30 ∧ (k : Int) + 1 ≤ most := fun k hk => by
    unfold clampI at hmc
    split at hmc
    · omega
    · split at hmc <;> omega
  have hme : ¬ ((m : Int) + 1 ≤ 30 ∧ (m : Int) + 1 ≤ most) := by
    unfold clampI at hmc
    split at hmc
    · omega
    · split at hmc <;> omega
  have HM := hid (And.intro hm (And.intro hmm hme))
  clear hl hmc hm hmm hme
  obtain ⟨c, hc⟩ : ∃ c : Nat → Nat, (fun k : Nat => totalR xs (k : Int)) = c := ⟨_, rfl⟩
  have hcb : ∀ k : Nat, totalR xs (k : Int) = c k := fun k => by rw [← hc]
  have HCB := hid (And.intro hcb hc)
  clear hcb hc
  go_enter Tryz.func105, Tryz.ntmps105
  go_wp2_with fail
  go_loop [6, 7] (fun b i => ∃ (k bb : Nat), k ≤ m ∧ i = .int .i64 ((k : Int) + 1) ∧ b = .int .i64 bb ∧ Hid (bb = bestTo c k)) (fun _ i => (m + 1) - (intOf i).toNat)
  case atStart => exact ⟨0, 0, by omega, rfl, rfl, rfl⟩
  case round =>
    obtain ⟨k, bb, hk, rfl, rfl, hd⟩ := hrel
    by_cases hkm : k < m
    · obtain ⟨g1, g2⟩ := HM.out.2.1 k hkm
      have HC1 := HT.out ((k : Int) + 1)
      rw [show totalR xs ((k : Int) + 1) = c (k + 1) from HCB.out.1 (k + 1)] at HC1
      have HC2 := HT.out (bb : Int)
      rw [HCB.out.1 bb] at HC2
      obtain ⟨y, hy⟩ : ∃ y, c (k + 1) = y := ⟨_, rfl⟩
      obtain ⟨z, hz⟩ : ∃ z, c bb = z := ⟨_, rfl⟩
      rw [hy] at HC1
      rw [hz] at HC2
      have HY := hid (And.intro hy (And.intro hz (And.intro HC1 HC2)))
      clear hy hz HC1 HC2
      go_wp2_with fail
      with_reducible refine HY.out.2.2.1.mono ?_
      rintro e w3 ⟨rfl, rfl⟩
      go_wp2_with fail
      with_reducible refine HY.out.2.2.2.mono ?_
      rintro e w3 ⟨rfl, rfl⟩
      by_cases hlt : y < z
      · have hlt' : (y : Int) < z := by omega
        go_wp2_with fail
        go_round
        case rel => exact ⟨k + 1, k + 1, by omega, by go_num, by go_num, by show _ = _; rw [bestTo, if_pos (by rw [HY.out.1, ← hd.out, HY.out.2.1]; exact hlt)]⟩
        case measure => simp [intOf]; omega
      · have hlt' : ¬ (y : Int) < z := by omega
        go_wp2_with fail
        go_round
        case rel => exact ⟨k + 1, bb, by omega, by go_num, rfl, by show _ = _; rw [bestTo, if_neg (by rw [HY.out.1, ← hd.out, HY.out.2.1]; exact hlt)]; exact hd.out⟩
        case measure => simp [intOf]; omega
    · obtain rfl : k = m := by omega
      have HC2 := HT.out (bb : Int)
      rw [HCB.out.1 bb] at HC2
      have HCC := hid HC2
      clear HC2
      by_cases g1 : (k : Int) + 1 ≤ 30
      · have g2 : ¬ (k : Int) + 1 ≤ most := fun h => HM.out.2.2 ⟨g1, h⟩
        go_wp2_with fail
        with_reducible refine HCC.out.mono ?_
        rintro e w3 ⟨rfl, rfl⟩
        go_wp2_with fail
        go_ret2
        refine ⟨?_, .refl _ _⟩
        rw [HM.out.1, HCB.out.2, HCB.out.1, ← hd.out]
        rfl
      · go_wp2_with fail
        with_reducible refine HCC.out.mono ?_
        rintro e w3 ⟨rfl, rfl⟩
        go_wp2_with fail
        go_ret2
        refine ⟨?_, .refl _ _⟩
        rw [HM.out.1, HCB.out.2, HCB.out.1, ← hd.out]
        rfl
end Go.Proofs.YtjboboaccjbebaaGreat
/- (*Reader).Get: the number that the next bits are. -/
namespace Go.Proofs.YtjboboaccjbebaaGreat
open Go.RowKit

theorem get_nil (n : Int) (w : World) : Calls Tryz.prog 32 #[.pointer none, .int .i64 n] w fun e w' => e = .returned (.tuple #[.int .u64 0, .int .i64 2]) ∧ w = w' := by
  go_enter Tryz.func32, Tryz.ntmps32
  go_wp2_with fail
  go_ret2
  exact ⟨rfl, rfl⟩
theorem get_arg (p : Nat) (n : Int) (w : World) (hn : n < 0 ∨ 64 < n) : Calls Tryz.prog 32 #[.pointer (some ⟨p, 0, none⟩), .int .i64 n] w fun e w' => e = .returned (.tuple #[.int .u64 0, .int .i64 1]) ∧ w = w' := by
  rcases hn with hn | hn
  · go_enter Tryz.func32, Tryz.ntmps32
    go_wp2_with fail
    go_ret2
    exact ⟨rfl, rfl⟩
  · have h0 : ¬ n < 0 := by omega
    go_enter Tryz.func32, Tryz.ntmps32
    go_wp2_with fail
    go_ret2
    exact ⟨rfl, rfl⟩
set_option maxRecDepth 100000 in
theorem get_end (w : World) (p : Nat) (v : Value) (F : List Nat) (i n : Nat) (h : Rd w p v F i) (hn : n ≤ 64) (hi : 8 * F.length < i + n) : Calls Tryz.prog 32 #[.pointer (some ⟨p, 0, none⟩), .int .i64 (n : Int)] w fun e w' => e = .returned (.tuple #[.int .u64 0, .int .i64 10]) ∧ ∃ k, w' = w.drewN k := by
  have h0 : ¬ (n : Int) < 0 := by omega
  have h1 : ¬ (64 : Int) < n := by omega
  have h2 : 8 * (F.length : Int) - (i : Int) < n := by omega
  have H := hid h
  clear h
  go_enter Tryz.func32, Tryz.ntmps32
  go_wp2_with fail
  with_reducible refine (left_any w p v F i H.out).mono ?_
  rintro e w1 ⟨rfl, k, rfl⟩
  go_wp2_with fail
  go_ret2
  exact ⟨rfl, k, rfl⟩

theorem take_more (l : List Bool) (a j : Nat) (b : Bool) (h : l[a + j]? = some b) : (l.drop a).take (j + 1) = (l.drop a).take j ++ [b] := by
  rw [List.take_add_one, List.getElem?_drop, h]
  rfl

theorem flat_drop8 (F : List Nat) (q : Nat) (hq : q ≤ F.length) : (flat F).drop (8 * q) = flat (F.drop q) := by
  have e : flat F = flat (F.take q) ++ flat (F.drop q) := by rw [← flat_append, List.take_append_drop]
  rw [e, List.drop_left' (by rw [flat_length, List.length_take, Nat.min_eq_left hq])]
theorem take_byte (F : List Nat) (a : Nat) (h8 : a % 8 = 0) (hd : a / 8 < F.length) : ((flat F).drop a).take 8 = bitsOf F[a / 8] 8 := by
  have e : a = 8 * (a / 8) := by omega
  have h := flat_drop8 F (a / 8) (by omega)
  rw [← e] at h
  rw [h, List.drop_eq_getElem_cons hd]
  have e2 : flat (F[a / 8] :: F.drop (a / 8 + 1)) = bitsOf F[a / 8] 8 ++ flat (F.drop (a / 8 + 1)) := rfl
  rw [e2, List.take_left' (bitsOf_length _ _)]
theorem or_add (V x k : Nat) (hx : x < 2 ^ k) (hk : V * 2 ^ k + x < 18446744073709551616) : bits BinOp.or IntKind.u64 (IntKind.u64.wrap ((V : Int) * ((2 ^ k : Nat) : Int))) (x : Int) = ((V * 2 ^ k + x : Nat) : Int) := by
  have e : ((V : Int) * ((2 ^ k : Nat) : Int)) = ((V * 2 ^ k : Nat) : Int) := by simp
  have h1 : V * 2 ^ k < 18446744073709551616 := by omega
  have h2 : x < 18446744073709551616 := by omega
  have hw : IntKind.u64.wrap ((V * 2 ^ k : Nat) : Int) = ((V * 2 ^ k : Nat) : Int) := by
    generalize V * 2 ^ k = y at *
    exact IntWalk.u64_in _ (by omega)
  rw [e, hw, u64_or_nat _ _ h1 h2]
  congr 1
  rw [Nat.mul_comm, ← Nat.two_pow_add_eq_or_of_lt hx]
theorem get_byte {F : List Nat} {i j V x : Nat} (hV : V < 2 ^ j) (hj : j + 8 ≤ 64) (hVe : valOf (((flat F).drop i).take j) = V) (h8 : (i + j) % 8 = 0) (hd : (i + j) / 8 < F.length) (hx : F[(i + j) / 8] = x) (hx8 : x < 256) :
    bits BinOp.or IntKind.u64 (IntKind.u64.wrap ((V : Int) * 256)) (x : Int) = ((valOf (((flat F).drop i).take (j + 8)) : Nat) : Int) := by
  have hp : 2 ^ (j + 8) ≤ 2 ^ 64 := Nat.pow_le_pow_right (by omega) hj
  rw [Nat.pow_add] at hp
  have hlt : V * 2 ^ 8 + x < 18446744073709551616 := by
    have : (V + 1) * 2 ^ 8 ≤ 2 ^ j * 2 ^ 8 := Nat.mul_le_mul_right _ hV
    omega
  have h := or_add V x 8 (by omega) hlt
  have e : ((flat F).drop i).take (j + 8) = ((flat F).drop i).take j ++ bitsOf F[(i + j) / 8] 8 := by
    rw [List.take_add, List.drop_drop, take_byte F (i + j) h8 hd]
  rw [e, valOf_app, bitsOf_length, hVe, valOf_bitsOf, hx, Nat.mod_eq_of_lt (show x < 2 ^ 8 from hx8)]
  exact h
theorem get_bit {F : List Nat} {i j V : Nat} {b : Bool} (hV : V < 2 ^ j) (hj : j + 1 ≤ 64) (hVe : valOf (((flat F).drop i).take j) = V) (hb : (flat F)[i + j]? = some b) :
    bits BinOp.or IntKind.u64 (IntKind.u64.wrap ((V : Int) * 2)) (bN b) = ((valOf (((flat F).drop i).take (j + 1)) : Nat) : Int) := by
  have hp : 2 ^ (j + 1) ≤ 2 ^ 64 := Nat.pow_le_pow_right (by omega) hj
  rw [Nat.pow_succ] at hp
  have hb2 : b.toNat < 2 ^ 1 := by cases b <;> decide
  have hlt : V * 2 ^ 1 + b.toNat < 18446744073709551616 := by omega
  have h := or_add V b.toNat 1 hb2 hlt
  have e : (bN b) = ((b.toNat : Nat) : Int) := by cases b <;> rfl
  rw [take_more _ _ _ _ hb, valOf_append, hVe, e, Nat.mul_comm 2 V]
  exact h

set_option maxRecDepth 100000 in
set_option maxHeartbeats 1600000 in
theorem get_ok (w : World) (p : Nat) (v : Value) (F : List Nat) (i n : Nat) (h : Rd w p v F i) (hn : n ≤ 64) (hi : i + n ≤ 8 * F.length) : Calls Tryz.prog 32 #[.pointer (some ⟨p, 0, none⟩), .int .i64 (n : Int)] w fun e w' =>
    e = .returned (.tuple #[.int .u64 ((valOf (((flat F).drop i).take n) : Nat) : Int), .int .i64 0]) ∧ RI w p v F (i + n) w' := by
  have h0 : ¬ (n : Int) < 0 := by omega
  have h1 : ¬ (64 : Int) < n := by omega
  have h2 : ¬ 8 * (F.length : Int) - (i : Int) < n := by omega
  have H := hid h
  clear h
  go_enter Tryz.func32, Tryz.ntmps32
  go_wp2_with fail
  with_reducible refine (left_any w p v F i H.out).mono ?_
  rintro e w1 ⟨rfl, k, rfl⟩
  go_wp2_with fail
  go_loopw [1, 6] (fun m x wr => ∃ j k : Nat, j + k = n ∧ m = .int .i64 k ∧ x = .int .u64 ((valOf (((flat F).drop i).take j) : Nat) : Int) ∧ RI w p v F (i + j) wr) (fun m _ _ => (intOf m).toNat)
  case atStart => exact ⟨0, n, by omega, rfl, rfl, H.out.drewN _, (Kept.refl _ _).drewN _⟩
  case round =>
    obtain ⟨j, m, hjm, rfl, rfl, hrd, hkp⟩ := hrel
    obtain ⟨A, c, rfl⟩ := hrd.slice
    have c0 := hrd.blk.cell 0
    have c1 := hrd.blk.cell 1
    have f1 := hrd.blk.frozen 1
    simp at c0 c1
    have hlen := hrd.len
    have hV : valOf (((flat F).drop i).take j) < 2 ^ j := by
      have h := valOf_lt (((flat F).drop i).take j)
      rwa [List.length_take, List.length_drop, flat_length, Nat.min_eq_left (by omega)] at h
    obtain ⟨V, hVe⟩ : ∃ V, valOf (((flat F).drop i).take j) = V := ⟨_, rfl⟩
    rw [hVe] at hV ⊢
    have HH := hid (And.intro hjm (And.intro hrd (And.intro hkp (And.intro hV hVe))))
    have hm64 : (m : Int) ≤ 64 := by omega
    have hij : (i : Int) + (j : Int) ≤ 137438953472 := by omega
    by_cases hm0 : m = 0
    · have hm1 : ¬ (0 : Int) < m := by omega
      clear hjm hrd hkp hV hVe
      go_wp2_with fail
      go_ret2
      obtain ⟨hjm, hrd, hkp, hV, hVe⟩ := HH.out
      obtain rfl : j = n := by omega
      exact ⟨by rw [hVe]; rfl, hrd, hkp⟩
    · have hm1 : (0 : Int) < m := by omega
      by_cases h8 : (i + j) % 8 = 0
      · have h8' : (((i : Int) + (j : Int)) % 8 == 0) = true := by simp; omega
        by_cases hm8 : 8 ≤ m
        · have hm8' : (8 : Int) ≤ m := by omega
          have hd : (i + j) / 8 < F.length := by omega
          have hd' : (((i + j) / 8 : Nat) : Int) < F.length := by omega
          obtain ⟨ad, rfl, hc⟩ := hrd.sl.at_ (show (i + j) / 8 < (u8s F).length by rw [u8s_length]; exact hd)
          have hx := hrd.by_ F[(i + j) / 8] (List.getElem_mem _)
          have e : (u8s F)[(i + j) / 8]'(by rw [u8s_length]; exact hd) = .int .u8 (F[(i + j) / 8] : Int) := by simp [u8s]
          rw [e] at hc
          obtain ⟨x, hxe⟩ : ∃ x, F[(i + j) / 8] = x := ⟨_, rfl⟩
          rw [hxe] at hc hx
          have HX := hid hxe
          have hx0 : (x : Int) < 256 := by omega
          have hq : IntKind.i64.wrap (((i : Int) + (j : Int)).tdiv 8) = (((i + j) / 8 : Nat) : Int) := by
            rw [Int.tdiv_eq_ediv_of_nonneg (by omega), IntWalk.i64_in _ (by omega)]; omega
          clear hjm hrd hkp hV hVe e hxe hx
          go_wp2_with fail
          go_quiet (fail)
          go_wp2_with fail
          go_roundw
          case rel =>
            obtain ⟨hjm, hrd, hkp, hV, hVe⟩ := HH.out
            refine ⟨j + 8, m - 8, by omega, by go_num, congrArg (Value.int .u64) (get_byte hV (by omega) hVe h8 hd HX.out (by omega)), ?_⟩
            have e : (i : Int) + (j : Int) + 8 = ((i + (j + 8) : Nat) : Int) := by omega
            rw [e]
            exact ⟨(hrd.drewN _).move _ (by omega), (hkp.drewN _).setCell (by simp) _⟩
          case measure => simp [intOf]; omega
        · have hm8' : (m : Int) < 8 := by omega
          obtain ⟨b, hb⟩ : ∃ b, (flat F)[i + j]? = some b := ⟨_, List.getElem?_eq_getElem (by rw [flat_length]; omega)⟩
          have HB := hid hb
          clear hjm hrd hkp hV hVe hb
          go_wp2_with fail
          with_reducible refine (peek_at wr p _ F (i + j) _ (i + j) (by omega) HH.out.2.1 b HB.out).mono ?_
          rintro e w2 ⟨rfl, rfl⟩
          go_wp2_with fail
          go_roundw
          case rel =>
            obtain ⟨hjm, hrd, hkp, hV, hVe⟩ := HH.out
            refine ⟨j + 1, m - 1, by omega, by go_num, congrArg (Value.int .u64) (get_bit hV (by omega) hVe HB.out), ?_⟩
            have e : (i : Int) + (j : Int) + 1 = ((i + (j + 1) : Nat) : Int) := by omega
            rw [e]
            exact ⟨hrd.move _ (by omega), hkp.setCell (by simp) _⟩
          case measure => simp [intOf]; omega
      · obtain ⟨b, hb⟩ : ∃ b, (flat F)[i + j]? = some b := ⟨_, List.getElem?_eq_getElem (by rw [flat_length]; omega)⟩
        have h8' : (((i : Int) + (j : Int)) % 8 == 0) = false := by simp; omega
        have HB := hid hb
        clear hjm hrd hkp hV hVe hb
        go_wp2_with fail
        with_reducible refine (peek_at wr p _ F (i + j) _ (i + j) (by omega) HH.out.2.1 b HB.out).mono ?_
        rintro e w2 ⟨rfl, rfl⟩
        go_wp2_with fail
        go_roundw
        case rel =>
          obtain ⟨hjm, hrd, hkp, hV, hVe⟩ := HH.out
          refine ⟨j + 1, m - 1, by omega, by go_num, congrArg (Value.int .u64) (get_bit hV (by omega) hVe HB.out), ?_⟩
          have e : (i : Int) + (j : Int) + 1 = ((i + (j + 1) : Nat) : Int) := by omega
          rw [e]
          exact ⟨hrd.move _ (by omega), hkp.setCell (by simp) _⟩
        case measure => simp [intOf]; omega

/-- What Get answers of bits L at i: the number, the error, where the reader stands then. -/
def getVal (L : List Bool) (i : Nat) (n : Int) : Nat := if n < 0 ∨ 64 < n ∨ (L.length : Int) < i + n then 0 else valOf ((L.drop i).take n.toNat)
def getErr (L : List Bool) (i : Nat) (n : Int) : Int := if n < 0 ∨ 64 < n then 1 else if (L.length : Int) < i + n then 10 else 0
def getAt (L : List Bool) (i : Nat) (n : Int) : Nat := if n < 0 ∨ 64 < n ∨ (L.length : Int) < i + n then i else i + n.toNat

theorem get_any (w : World) (p : Nat) (v : Value) (F : List Nat) (i : Nat) (n : Int) (h : Rd w p v F i) : Calls Tryz.prog 32 #[.pointer (some ⟨p, 0, none⟩), .int .i64 n] w fun e w' =>
    e = .returned (.tuple #[.int .u64 ((getVal (flat F) i n : Nat) : Int), .int .i64 (getErr (flat F) i n)]) ∧ RI w p v F (getAt (flat F) i n) w' := by
  by_cases h1 : n < 0 ∨ 64 < n
  · have e1 : getErr (flat F) i n = 1 := by simp [getErr, h1]
    have e2 : getVal (flat F) i n = 0 := by unfold getVal; rw [if_pos (by omega)]
    have e3 : getAt (flat F) i n = i := by unfold getAt; rw [if_pos (by omega)]
    rw [e1, e2, e3]
    refine (get_arg p n w h1).mono ?_
    rintro e' w' ⟨rfl, rfl⟩
    exact ⟨rfl, .refl h⟩
  · obtain ⟨m, rfl⟩ := Int.eq_ofNat_of_zero_le (show 0 ≤ n by omega)
    by_cases h2 : 8 * F.length < i + m
    · have e1 : getErr (flat F) i m = 10 := by unfold getErr; rw [if_neg (by omega), if_pos (by rw [flat_length]; omega)]
      have e2 : getVal (flat F) i m = 0 := by unfold getVal; rw [if_pos (by rw [flat_length]; omega)]
      have e3 : getAt (flat F) i m = i := by unfold getAt; rw [if_pos (by rw [flat_length]; omega)]
      rw [e1, e2, e3]
      refine (get_end w p v F i m h (by omega) h2).mono ?_
      rintro e' w' ⟨rfl, k, rfl⟩
      exact ⟨rfl, h.drewN k, (Kept.refl _ _).drewN k⟩
    · have e1 : getErr (flat F) i m = 0 := by unfold getErr; rw [if_neg (by omega), if_neg (by rw [flat_length]; omega)]
      have e2 : getVal (flat F) i m = valOf (((flat F).drop i).take m) := by unfold getVal; rw [if_neg (by rw [flat_length]; omega)]; simp
      have e3 : getAt (flat F) i m = i + m := by unfold getAt; rw [if_neg (by rw [flat_length]; omega)]; simp
      rw [e1, e2, e3]
      exact get_ok w p v F i m h (by omega) (by omega)
end Go.Proofs.YtjboboaccjbebaaGreat
/- (*Reader).Ones and Align. -/
namespace Go.Proofs.YtjboboaccjbebaaGreat
open Go.RowKit

/-- How many bits 1 stand ahead, m at the most. -/
def ones (l : List Bool) (m : Nat) : Nat := ((l.take m).takeWhile id).length
theorem ones_is {l : List Bool} {m k : Nat} (hk : k ≤ m) (h1 : ∀ j, j < k → l[j]? = some true) (h2 : k = m ∨ l[k]? ≠ some true) : ones l m = k := by
  induction k generalizing l m with
  | zero =>
    unfold ones
    rcases h2 with h2 | h2
    · subst h2; simp
    · rcases l with _ | ⟨b, l⟩
      · simp
      · rcases m with _ | m
        · simp
        · cases b <;> simp_all
  | succ k ih =>
    obtain ⟨m, rfl⟩ : ∃ n, m = n + 1 := ⟨m - 1, by omega⟩
    rcases l with _ | ⟨b, l⟩
    · have := h1 0 (by omega); simp at this
    · have hb : b = true := by simpa using h1 0 (by omega)
      subst hb
      have h := ih (l := l) (m := m) (by omega) (fun j hj => by simpa using h1 (j + 1) (by omega)) (by
        rcases h2 with h2 | h2
        · exact .inl (by omega)
        · exact .inr (by simpa using h2))
      unfold ones at h ⊢
      simp [h]

/-- What Ones answers of bits L at i. -/
def onesVal (L : List Bool) (i : Nat) (m : Int) : Nat := if m < 0 then 0 else if ones (L.drop i) m.toNat = m.toNat then m.toNat else if L.length ≤ i + ones (L.drop i) m.toNat then 0 else ones (L.drop i) m.toNat
def onesErr (L : List Bool) (i : Nat) (m : Int) : Int := if m < 0 then 1 else if ones (L.drop i) m.toNat = m.toNat then 0 else if L.length ≤ i + ones (L.drop i) m.toNat then 10 else 0
def onesAt (L : List Bool) (i : Nat) (m : Int) : Nat := if m < 0 then i else if ones (L.drop i) m.toNat = m.toNat then i + m.toNat else if L.length ≤ i + ones (L.drop i) m.toNat then i else i + ones (L.drop i) m.toNat + 1

theorem rones_nil (n : Int) (w : World) : Calls Tryz.prog 138 #[.pointer none, .int .i64 n] w fun e w' => e = .returned (.tuple #[.int .i64 0, .int .i64 2]) ∧ w = w' := by
  go_enter Tryz.func138, Tryz.ntmps138
  go_wp2_with fail
  go_ret2
  exact ⟨rfl, rfl⟩
theorem rones_arg (p : Nat) (n : Int) (w : World) (hn : n < 0) : Calls Tryz.prog 138 #[.pointer (some ⟨p, 0, none⟩), .int .i64 n] w fun e w' => e = .returned (.tuple #[.int .i64 0, .int .i64 1]) ∧ w = w' := by
  go_enter Tryz.func138, Tryz.ntmps138
  go_wp2_with fail
  go_ret2
  exact ⟨rfl, rfl⟩

def OnesPost (w : World) (p : Nat) (v : Value) (F : List Nat) (i m : Nat) (e : Ending) (w' : World) : Prop :=
  e = .returned (.tuple #[.int .i64 ((onesVal (flat F) i m : Nat) : Int), .int .i64 (onesErr (flat F) i m)]) ∧ RI w p v F (onesAt (flat F) i m) w'

theorem drop_get (L : List Bool) (i j : Nat) : (L.drop i)[j]? = L[i + j]? := List.getElem?_drop

set_option maxRecDepth 100000 in
set_option maxHeartbeats 1600000 in
theorem rones_ok (w : World) (p : Nat) (v : Value) (F : List Nat) (i m : Nat) (h : Rd w p v F i) : Calls Tryz.prog 138 #[.pointer (some ⟨p, 0, none⟩), .int .i64 (m : Int)] w (OnesPost w p v F i m) := by
  have h0 : ¬ (m : Int) < 0 := by omega
  have H := hid h
  clear h
  go_enter Tryz.func138, Tryz.ntmps138
  go_wp2_with fail
  go_loopw [6] (fun n wr => ∃ k : Nat, k ≤ m ∧ i + k ≤ 8 * F.length ∧ n = .int .i64 k ∧ (∀ j, j < k → (flat F)[i + j]? = some true) ∧ RI w p v F i wr) (fun n _ => 8 * F.length + 1 - (intOf n).toNat)
  case atStart => exact ⟨0, Nat.zero_le _, H.out.at_, rfl, by omega, .refl H.out⟩
  case round =>
    obtain ⟨k, hkm, hik, rfl, hones, hrd, hkp⟩ := hrel
    obtain ⟨A, c, rfl⟩ := hrd.slice
    have c0 := hrd.blk.cell 0
    have c1 := hrd.blk.cell 1
    have f1 := hrd.blk.frozen 1
    simp at c0 c1
    have hlen := hrd.len
    have HH := hid (And.intro hones (And.intro hrd hkp))
    clear hones hrd hkp
    by_cases hkm' : k = m
    · have hin : ¬ (k : Int) < m := by omega
      have HM := hid hkm'
      clear hkm'
      go_wp2_with fail
      go_ret2
      obtain ⟨hones, hrd, hkp⟩ := HH.out
      have ho : ones ((flat F).drop i) m = m := by
        obtain rfl := HM.out
        exact ones_is (Nat.le_refl _) (fun j hj => by rw [drop_get]; exact hones j hj) (.inl rfl)
      have e1 : onesVal (flat F) i m = m := by unfold onesVal; rw [if_neg (by omega), Int.toNat_natCast, if_pos ho]
      have e2 : onesErr (flat F) i m = 0 := by unfold onesErr; rw [if_neg (by omega), Int.toNat_natCast, if_pos ho]
      have e3 : onesAt (flat F) i m = i + m := by unfold onesAt; rw [if_neg (by omega), Int.toNat_natCast, if_pos ho]
      unfold OnesPost
      rw [e1, e2, e3]
      obtain rfl := HM.out
      refine ⟨rfl, ?_⟩
      have e : (i : Int) + (k : Int) = ((i + k : Nat) : Int) := by omega
      rw [e]
      exact ⟨hrd.move _ hik, hkp.setCell (by simp) _⟩
    · have hin : (k : Int) < m := by omega
      have hw8 : IntKind.i64.wrap (8 * (F.length : Int)) = 8 * (F.length : Int) := IntWalk.i64_in _ (by omega)
      have hw9 : IntKind.i64.wrap ((i : Int) + (k : Int)) = (i : Int) + (k : Int) := IntWalk.i64_in _ (by omega)
      by_cases hend : i + k < 8 * F.length
      · have hend' : ¬ 8 * (F.length : Int) ≤ (i : Int) + (k : Int) := by omega
        have hend2 : decide (8 * (F.length : Int) ≤ (i : Int) + (k : Int)) = false := by simpa using hend'
        obtain ⟨b, hb⟩ : ∃ b, (flat F)[i + k]? = some b := ⟨_, List.getElem?_eq_getElem (by rw [flat_length]; omega)⟩
        have HB := hid hb
        clear hb
        go_wp2_with fail
        go_quiet (fail)
        go_wp2_with fail
        with_reducible refine (peek_at _ p _ F i _ (i + k) (by omega) (HH.out.2.1.drewN _) b HB.out).mono ?_
        rintro e w2 ⟨rfl, rfl⟩
        cases b
        · have hbn : (bN false == 0) = true := rfl
          go_wp2_with fail
          go_ret2
          obtain ⟨hones, hrd, hkp⟩ := HH.out
          have ho : ones ((flat F).drop i) m = k := ones_is hkm (fun j hj => by rw [drop_get]; exact hones j hj) (.inr (by rw [drop_get, HB.out]; simp))
          have e1 : onesVal (flat F) i m = k := by unfold onesVal; rw [if_neg (by omega), Int.toNat_natCast, ho, if_neg hkm', if_neg (by rw [flat_length]; omega)]
          have e2 : onesErr (flat F) i m = 0 := by unfold onesErr; rw [if_neg (by omega), Int.toNat_natCast, ho, if_neg hkm', if_neg (by rw [flat_length]; omega)]
          have e3 : onesAt (flat F) i m = i + k + 1 := by unfold onesAt; rw [if_neg (by omega), Int.toNat_natCast, ho, if_neg hkm', if_neg (by rw [flat_length]; omega)]
          unfold OnesPost
          rw [e1, e2, e3]
          refine ⟨rfl, ?_⟩
          have e : (i : Int) + ((k : Int) + 1) = ((i + k + 1 : Nat) : Int) := by omega
          rw [e]
          exact ⟨(hrd.drewN _).move _ (by omega), (hkp.drewN _).setCell (by simp) _⟩
        · have hbn : (bN true == 0) = false := rfl
          go_wp2_with fail
          go_roundw
          case rel =>
            obtain ⟨hones, hrd, hkp⟩ := HH.out
            refine ⟨k + 1, by omega, by omega, by go_num, fun j hj => ?_, hrd.drewN _, hkp.drewN _⟩
            by_cases hjk : j < k
            · exact hones j hjk
            · obtain rfl : j = k := by omega
              exact HB.out
          case measure => simp [intOf]; omega
      · have hend' : 8 * (F.length : Int) ≤ (i : Int) + (k : Int) := by omega
        have hend2 : decide (8 * (F.length : Int) ≤ (i : Int) + (k : Int)) = true := by simpa using hend'
        go_wp2_with fail
        go_quiet (fail)
        go_wp2_with fail
        go_ret2
        obtain ⟨hones, hrd, hkp⟩ := HH.out
        have ho : ones ((flat F).drop i) m = k := ones_is hkm (fun j hj => by rw [drop_get]; exact hones j hj) (.inr (by rw [drop_get, List.getElem?_eq_none (by rw [flat_length]; omega)]; simp))
        have e1 : onesVal (flat F) i m = 0 := by unfold onesVal; rw [if_neg (by omega), Int.toNat_natCast, ho, if_neg hkm', if_pos (by rw [flat_length]; omega)]
        have e2 : onesErr (flat F) i m = 10 := by unfold onesErr; rw [if_neg (by omega), Int.toNat_natCast, ho, if_neg hkm', if_pos (by rw [flat_length]; omega)]
        have e3 : onesAt (flat F) i m = i := by unfold onesAt; rw [if_neg (by omega), Int.toNat_natCast, ho, if_neg hkm', if_pos (by rw [flat_length]; omega)]
        unfold OnesPost
        rw [e1, e2, e3]
        exact ⟨rfl, hrd.drewN _, hkp.drewN _⟩

theorem rones_any (w : World) (p : Nat) (v : Value) (F : List Nat) (i : Nat) (m : Int) (h : Rd w p v F i) : Calls Tryz.prog 138 #[.pointer (some ⟨p, 0, none⟩), .int .i64 m] w fun e w' =>
    e = .returned (.tuple #[.int .i64 ((onesVal (flat F) i m : Nat) : Int), .int .i64 (onesErr (flat F) i m)]) ∧ RI w p v F (onesAt (flat F) i m) w' := by
  by_cases h0 : m < 0
  · have e1 : onesVal (flat F) i m = 0 := by unfold onesVal; rw [if_pos h0]
    have e2 : onesErr (flat F) i m = 1 := by unfold onesErr; rw [if_pos h0]
    have e3 : onesAt (flat F) i m = i := by unfold onesAt; rw [if_pos h0]
    rw [e1, e2, e3]
    refine (rones_arg p m w h0).mono ?_
    rintro e' w' ⟨rfl, rfl⟩
    exact ⟨rfl, .refl h⟩
  · obtain ⟨m, rfl⟩ := Int.eq_ofNat_of_zero_le (show 0 ≤ m by omega)
    exact rones_ok w p v F i m h

/-- Where the byte ends in which bit i stands. -/
def up8 (i : Nat) : Nat := (i + 7) / 8 * 8
/-- Are all bits up to there 0? -/
def alignOk (L : List Bool) (i : Nat) : Bool := ((L.drop i).take (up8 i - i)).all fun b => !b
def alignErr (L : List Bool) (i : Nat) : Int := if alignOk L i then 0 else 11
def alignAt (L : List Bool) (i : Nat) : Nat := if alignOk L i then up8 i else i
theorem alignOk_yes {L : List Bool} {i : Nat} (h : ∀ j, i ≤ j → j < up8 i → L[j]? = some false) : alignOk L i = true := by
  unfold alignOk
  rw [List.all_eq_true]
  intro b hb
  obtain ⟨k, hk, rfl⟩ := List.getElem_of_mem hb
  rw [List.length_take] at hk
  rw [List.getElem_take, List.getElem_drop]
  have := h (i + k) (by omega) (by omega)
  rw [List.getElem?_eq_some_iff] at this
  obtain ⟨_, e⟩ := this
  rw [e]; rfl
theorem alignOk_no {L : List Bool} {i j : Nat} (h1 : i ≤ j) (h2 : j < up8 i) (h : L[j]? = some true) : alignOk L i = false := by
  unfold alignOk
  rw [List.all_eq_false]
  refine ⟨true, ?_, by simp⟩
  rw [List.mem_iff_getElem?]
  refine ⟨j - i, ?_⟩
  rw [List.getElem?_take_of_lt (by omega), List.getElem?_drop, show i + (j - i) = j from by omega]
  exact h

def RAlignPost (w : World) (p : Nat) (v : Value) (F : List Nat) (i : Nat) (e : Ending) (w' : World) : Prop :=
  e = .returned (.int .i64 (alignErr (flat F) i)) ∧ RI w p v F (alignAt (flat F) i) w'

end Go.Proofs.YtjboboaccjbebaaGreat
