/- Layer 12: the code of a predictor: width, Cost, Put. -/
import Derived.Test.YtfbccmogiafgfaaCoefR
import Derived.Test.YtfbccmogiafgfaaNumW
import Derived.Test.YtfbccmogiafgfaaWPut
import Derived.Deep.RegionHeld3
namespace Go.Proofs.Ytfbccmogiafgfaa
open Go.RowKit

/-- How many bits a coefficient of a list takes. -/
def widN (xs : List Int) : Nat := xs.foldl (fun m x => max m (needN x)) 1
theorem widN_top (xs : List Int) : topI (fun x => (needN x : Int)) 1 xs = ((widN xs : Nat) : Int) := by
  suffices h : ∀ (xs : List Int) (m : Nat), xs.foldl (fun (m : Int) x => max m ((needN x : Nat) : Int)) (m : Int) = ((xs.foldl (fun m x => max m (needN x)) m : Nat) : Int) from h xs 1
  intro xs
  induction xs with
  | nil => intro m; rfl
  | cons x xs ih =>
    intro m
    rw [List.foldl_cons, List.foldl_cons, ← ih]
    congr 1
    omega
theorem widN_snoc (xs : List Int) (x : Int) : widN (xs ++ [x]) = max (widN xs) (needN x) := by simp [widN]
theorem widN_ge (xs : List Int) : 1 ≤ widN xs ∧ ∀ x ∈ xs, needN x ≤ widN xs := by
  suffices h : ∀ ys : List Int, 1 ≤ widN ys.reverse ∧ ∀ x ∈ ys.reverse, needN x ≤ widN ys.reverse by
    have := h xs.reverse
    rwa [List.reverse_reverse] at this
  intro ys
  induction ys with
  | nil => simp [widN]
  | cons y ys ih =>
    rw [List.reverse_cons, widN_snoc]
    refine ⟨by omega, fun x hx => ?_⟩
    rcases List.mem_append.1 hx with hx | hx
    · have := ih.2 x hx; omega
    · simp at hx; rw [hx]; omega
theorem widN_le (xs : List Int) (k : Nat) (hk : 1 ≤ k) (h : ∀ x ∈ xs, needN x ≤ k) : widN xs ≤ k := by
  suffices hh : ∀ ys : List Int, (∀ x ∈ ys.reverse, needN x ≤ k) → widN ys.reverse ≤ k by
    have := hh xs.reverse
    rw [List.reverse_reverse] at this
    exact this h
  intro ys
  induction ys with
  | nil => intro _; simpa [widN] using hk
  | cons y ys ih =>
    rw [List.reverse_cons, widN_snoc]
    intro h
    have h1 := ih fun x hx => h x (List.mem_append_left _ hx)
    have h2 := h y (by simp)
    omega
theorem needN_okC (x : Int) (h : okC x = true) : needN x ≤ 16 := by
  unfold okC at h
  rw [decide_eq_true_iff] at h
  unfold needN
  have := wid_le (if x < 0 then (-x - 1).toNat else x.toNat) 15 (by omega) (by split <;> omega)
  omega
theorem widN_right (xs : List Int) (s : Int) (h : rightB xs s = true) : xs.length ≤ 32 ∧ 0 ≤ s ∧ s ≤ 15 ∧ 1 ≤ widN xs ∧ widN xs ≤ 16 := by
  unfold rightB at h
  rw [Bool.and_eq_true, decide_eq_true_iff, List.all_eq_true] at h
  exact ⟨h.1.1, h.1.2.1, h.1.2.2, (widN_ge xs).1, widN_le xs 16 (by omega) fun x hx => needN_okC x (h.2 x hx)⟩

theorem enters_need : ∀ args w, (callFunc 85 args).run Try.prog w = .ok (.enter 85 args) w := enters_of Try.func85 (by kernel_rfl) rfl
def In64 (xs : List Int) : Prop := ∀ x ∈ xs, -9223372036854775808 ≤ x ∧ x ≤ 9223372036854775807

set_option maxRecDepth 100000 in
theorem cwidth_any (l : Value) (xs : List Int) (s : Int) (w : World) (hl : Sl w l (i64s xs)) (hx : In64 xs) :
    Calls Try.prog 71 #[.agg #[l, .int .i64 s]] w fun e w' => e = .returned (.int .i64 (widN xs : Nat)) ∧ Below w.heap.size w w' := by
  obtain ⟨A, c, rfl, _⟩ := i64s_form hl
  have H := hid (And.intro hl hx)
  clear hl hx
  go_enter Try.func71, Try.ntmps71
  go_wp2_with fail
  have HC := top_any 85 #[] enters_need (fun x => (needN x : Int)) (fun x => -9223372036854775808 ≤ x ∧ x ≤ 9223372036854775807) (.slice A xs.length c) xs 1 (w.alloc (.cells #[.slice A xs.length c, .int .i64 s] 25)) (H.out.1.alloc _) H.out.2 (fun x n hx => (need_any x _ hx.1 hx.2).mono fun _ _ ⟨he, hw⟩ => ⟨he, 0, hw.symm⟩)
  rw [widN_top] at HC
  with_reducible refine HC.mono ?_
  clear HC
  rintro e w1 ⟨rfl, n, rfl⟩
  go_wp2_with fail
  go_ret
  exact ⟨rfl, below_drewN' ((Below.refl _ _).alloc (Nat.le_refl _) _) n⟩

/-- What a predictor's code costs. -/
def costC (xs : List Int) (s : Int) : Nat := if rightB xs s = true then 14 + xs.length * widN xs else 0

set_option maxRecDepth 100000 in
theorem ccost_any (l : Value) (xs : List Int) (s : Int) (w : World) (hl : Sl w l (i64s xs)) (hx : In64 xs) :
    Calls Try.prog 46 #[.agg #[l, .int .i64 s]] w fun e w' => e = .returned (.int .i64 (costC xs s : Nat)) ∧ Below w.heap.size w w' := by
  obtain ⟨A, c, rfl, _⟩ := i64s_form hl
  have hb0 := hid (show Below w.heap.size w (w.alloc (.cells #[.slice A xs.length c, .int .i64 s] 25)) from (Below.refl _ _).alloc (Nat.le_refl _) _)
  have HB := hid (Blk.new w 25 #[.slice A xs.length c, .int .i64 s])
  have H := hid (And.intro hl hx)
  clear hl hx
  obtain ⟨b, hb⟩ : ∃ b, rightB xs s = b := ⟨_, rfl⟩
  have HR := hid hb
  clear hb
  go_enter Try.func46, Try.ntmps46
  go_wp2_with fail
  have HC := right_any (.slice A xs.length c) xs s (w.alloc (.cells #[.slice A xs.length c, .int .i64 s] 25)) (H.out.1.alloc _)
  rw [HR.out] at HC
  with_reducible refine HC.mono ?_
  clear HC
  rintro e w1 ⟨rfl, hb1⟩
  have hB1 : Blk w1 w.heap.size 25 #[.slice A xs.length c, .int .i64 s] := (hb1.block _ HB.out.lt).trans HB.out
  have hbel : Below w.heap.size w w1 := hb0.out.trans (hb1.mono (by simp))
  have H1 := hid (And.intro hB1 (And.intro hbel (H.out.1.below hbel)))
  clear hb1 hbel
  have p0 := hB1.cell 0
  have p1 := hB1.cell 1
  simp at p0 p1
  clear hB1
  cases b
  · have HF := hid (show costC xs s = 0 by simp [costC, HR.out])
    go_wp2_with fail
    go_ret
    exact ⟨by rw [HF.out]; rfl, H1.out.2.1⟩
  · obtain ⟨r1, r2, r3, r4, r5⟩ := widN_right xs s HR.out
    have HF := hid (show costC xs s = 14 + xs.length * widN xs by simp [costC, HR.out])
    obtain ⟨n, hn⟩ : ∃ n, widN xs = n := ⟨_, rfl⟩
    have HN := hid hn
    rw [hn] at r4 r5
    clear hn
    have hm1 : xs.length * n ≤ 32 * 16 := Nat.mul_le_mul r1 r5
    have hm2 : IntKind.i64.wrap ((xs.length : Int) * (n : Int)) = ((xs.length * n : Nat) : Int) := by rw [← Int.natCast_mul]; exact IntWalk.i64_in _ (by omega)
    have HW := hid (show IntKind.i64.wrap (14 + (xs.length : Int) * (n : Int)) = ((14 + xs.length * n : Nat) : Int) by rw [← Int.natCast_mul, IntWalk.i64_in _ (by omega)]; omega)
    go_wp2_with fail
    go_region_held3 (fun w' => w'.cell? ⟨w.heap.size, 0, none⟩ = some (.slice A xs.length c) ∧ w'.cell? ⟨w.heap.size, 1, none⟩ = some (.int .i64 s)) (first | exact ⟨k0, k1⟩ | go_keep)
      (first | (go_at_call 71; go_must (refine (cwidth_any _ xs s _ ((H1.out.2.2).drew) H.out.2).mono ?_); rintro e w2 ⟨he2, hb2⟩; rw [HN.out] at he2; subst he2; have k0 := (hb2.cell (p := ⟨w.heap.size, 0, none⟩) H1.out.1.drew.lt).trans p0; have k1 := (hb2.cell (p := ⟨w.heap.size, 1, none⟩) H1.out.1.drew.lt).trans p1; have H2 := hid (show Below w.heap.size w w2 from H1.out.2.1.drew.trans (hb2.mono H1.out.2.1.drew.size)); clear hb2))
    all_goals (go_wp2_with fail)
    all_goals (go_ret)
    all_goals (refine ⟨?_, H2.out⟩; rw [HF.out, HN.out, HW.out]; rfl)

/-- A coefficient's bits. -/
def cbits (n : Nat) (c : Int) : List Bool := bitsOf (c % 2 ^ n).toNat n
/-- The code of a right predictor. -/
def codeC (xs : List Int) (s : Int) : List Bool := bitsOf xs.length 6 ++ bitsOf s.toNat 4 ++ bitsOf (widN xs - 1) 4 ++ xs.flatMap (cbits (widN xs))
theorem codeC_length (xs : List Int) (s : Int) : (codeC xs s).length = 14 + xs.length * widN xs := by
  have e : ∀ n, (xs.flatMap (cbits n)).length = xs.length * n := by
    intro n
    induction xs with
    | nil => simp
    | cons x xs ih => rw [List.flatMap_cons, List.length_append, ih, cbits, bitsOf_length, List.length_cons, Nat.add_mul]; omega
  unfold codeC
  simp only [List.length_append, bitsOf_length, e]

/-- A number that fits is put. -/
theorem put_fit (w : World) (p : Nat) (v : Value) (L : List Bool) (xi ni : Int) (x n : Nat) (hxi : xi = (x : Int)) (hni : ni = (n : Int)) (h : Wr w p v L) (hL : L.length + 64 ≤ 68719476736) (hn : n ≤ 64) (hx : x < 2 ^ n) :
    Calls Try.prog 22 #[.pointer (some ⟨p, 0, none⟩), .int .u64 xi, .int .i64 ni] w fun e w' => e = .returned (.int .i64 0) ∧ WI w p v (L ++ bitsOf x n) w' := by
  subst hxi hni
  exact put_ok w p v L x n h hL hn hx (Nat.lt_of_lt_of_le hx (Nat.pow_le_pow_right (by omega) hn))

/-- Behind a step that only made memory. -/
theorem WI.after_below {w w0 w1 : World} {p : Nat} {v : Value} {L : List Bool} (hb : Below w.heap.size w w0) (h : WI w0 p v L w1) : WI w p v L w1 := by
  obtain ⟨v1, h1, hm, hk⟩ := h
  refine ⟨v1, h1, ?_, (Kept.of_below' (S := Foot p v) hb).trans hk fun i hi hf => hf⟩
  rcases hm with e | ⟨g, e, hg⟩
  · exact .inl e
  · exact .inr ⟨g, e, Nat.le_trans hb.size hg⟩
theorem WI.then_below {w w1 w2 : World} {p : Nat} {v : Value} {L : List Bool} (h : WI w p v L w1) (hb : Below w1.heap.size w1 w2) : WI w p v L w2 := by
  obtain ⟨v1, h1, hm, hk⟩ := h
  exact ⟨v1, h1.below hb, hm, hk.then_below hb⟩

/-- An empty list needs no memory. -/
theorem Sl.kept' {w w' : World} {v : Value} {xs : List Value} {S : Nat → Prop} (h : Sl w v xs) (hk : Kept S w w') (hS : xs ≠ [] → ∀ g, v.ownBlock = some g → ¬ S g) : Sl w' v xs := by
  by_cases he : xs = []
  · subst he
    rcases h with h | ⟨ad, c, rfl, hc, hm, _⟩
    · exact .inl h
    · exact .inr ⟨ad, c, rfl, hc, hm, fun j u hu => by simp at hu⟩
  · exact h.kept hk (hS he)
theorem i64s_ne {xs : List Int} (h : i64s xs ≠ []) : xs ≠ [] := fun e => h (by rw [e]; rfl)

/-- The predictor in its variable (block b), its coefficients, and the writer; since w2. -/
structure CP (w2 : World) (p b : Nat) (v l : Value) (xs : List Int) (s : Int) (L : List Bool) (wr : World) : Prop where
  wi : WI w2 p v L wr
  bx : Blk wr b 25 #[l, .int .i64 s]
  sl : Sl wr l (i64s xs)
  lt : b < w2.heap.size
  nb : ¬ Foot p v b
  ap : xs ≠ [] → ∀ g, l.ownBlock = some g → ¬ Foot p v g ∧ g < w2.heap.size
theorem CP.calls {w2 wr : World} {p b : Nat} {v l : Value} {xs : List Int} {s : Int} {L L' : List Bool} {f : FuncId} {args : Array Value} {R : Ending → Prop} (h : CP w2 p b v l xs s L wr)
    (k : ∀ v1, Wr wr p v1 L → Calls Try.prog f args wr fun e w3 => R e ∧ WI wr p v1 L' w3) : Calls Try.prog f args wr fun e w3 => R e ∧ CP w2 p b v l xs s L' w3 := by
  obtain ⟨v1, h1, hm, hk⟩ := h.wi
  refine (k v1 h1).mono ?_
  rintro e w3 ⟨he, v3, h3, hm3, hk3⟩
  exact ⟨he, ⟨v3, h3, hm.trans hk.size hm3, hk.trans hk3 fun i hi hf => hm.foot hi hf⟩, h.bx.kept hk3 (fun hf => h.nb (hm.foot h.lt hf)), h.sl.kept' hk3 (fun hne g hg hf => (h.ap (i64s_ne hne) g hg).1 (hm.foot (h.ap (i64s_ne hne) g hg).2 hf)), h.lt, h.nb, h.ap⟩

theorem cput_nil (l : Value) (s : Int) (w : World) : Calls Try.prog 45 #[.pointer none, .agg #[l, .int .i64 s]] w fun e w' => e = .returned (.int .i64 2) ∧ Below w.heap.size w w' := by
  go_enter Try.func45, Try.ntmps45
  go_wp2_with fail
  go_ret
  exact ⟨rfl, (Below.refl _ _).alloc (Nat.le_refl _) _⟩

set_option maxRecDepth 100000 in
theorem cput_bad (p : Nat) (l : Value) (xs : List Int) (s : Int) (w : World) (hl : Sl w l (i64s xs)) (hr : rightB xs s = false) :
    Calls Try.prog 45 #[.pointer (some ⟨p, 0, none⟩), .agg #[l, .int .i64 s]] w fun e w' => e = .returned (.int .i64 1) ∧ Below w.heap.size w w' := by
  obtain ⟨A, c, rfl, _⟩ := i64s_form hl
  have H := hid (And.intro hl hr)
  clear hl hr
  have hb0 := hid (show Below w.heap.size w (w.alloc (.cells #[.slice A xs.length c, .int .i64 s] 25)) from (Below.refl _ _).alloc (Nat.le_refl _) _)
  go_enter Try.func45, Try.ntmps45
  go_wp2_with fail
  have HC := right_any (.slice A xs.length c) xs s (w.alloc (.cells #[.slice A xs.length c, .int .i64 s] 25)) (H.out.1.alloc _)
  rw [H.out.2] at HC
  with_reducible refine HC.mono ?_
  clear HC
  rintro e w1 ⟨rfl, hb1⟩
  have HB := hid (hb0.out.trans (hb1.mono (by simp)))
  clear hb1
  go_wp2_with fail
  go_ret
  exact ⟨rfl, HB.out⟩

theorem cmask (c : Int) (n : Nat) (hn : n ≤ 32) : bits BinOp.and IntKind.u64 (IntKind.u64.wrap c) (2 ^ n - 1) = ((c % 2 ^ n).toNat : Int) := by
  have hp : (2 : Nat) ^ n ≤ 2 ^ 32 := Nat.pow_le_pow_right (by omega) hn
  have hp0 := Nat.two_pow_pos n
  have e1 : ((2 : Int) ^ n - 1) = ((2 ^ n - 1 : Nat) : Int) := by
    have : ((2 ^ n : Nat) : Int) = (2 : Int) ^ n := Int.natCast_pow 2 n
    omega
  have e2 : IntKind.u64.wrap c = ((c % 18446744073709551616).toNat : Int) := by rw [IntKind.wrap_u64]; omega
  rw [e1, e2, u64_and_nat _ _ (by omega) (by omega), Nat.and_two_pow_sub_one_eq_mod]
  have e3 : (2 : Int) ^ n = ((2 ^ n : Nat) : Int) := (Int.natCast_pow 2 n).symm
  rw [e3]
  have hd : (2 : Nat) ^ n ∣ 18446744073709551616 := by
    rw [show (18446744073709551616 : Nat) = 2 ^ 64 from rfl]
    exact Nat.pow_dvd_pow 2 (by omega)
  have hdi : ((2 ^ n : Nat) : Int) ∣ (18446744073709551616 : Int) := Int.natCast_dvd_natCast.2 hd
  have e4 : c % 18446744073709551616 % ((2 ^ n : Nat) : Int) = c % ((2 ^ n : Nat) : Int) := Int.emod_emod_of_dvd c hdi
  have h0 : 0 ≤ c % 18446744073709551616 := by omega
  have h1 : 0 ≤ c % ((2 ^ n : Nat) : Int) := Int.emod_nonneg _ (by omega)
  rw [← e4] at h1 ⊢
  generalize c % 18446744073709551616 = d at *
  obtain ⟨k, rfl⟩ := Int.eq_ofNat_of_zero_le h0
  rw [Int.toNat_natCast, ← Int.natCast_emod, Int.toNat_natCast]

theorem cmask2 (c : Int) (n : Nat) (hn : n ≤ 32) : bits BinOp.and IntKind.u64 (IntKind.u64.wrap c) (IntKind.u64.wrap (IntKind.u64.wrap (2 ^ n) - 1)) = ((c % 2 ^ n).toNat : Int) := by
  have hp : (2 : Int) ^ n ≤ 2 ^ 32 := pow_le_int hn
  have hp' : (2 : Int) ^ n ≤ 4294967296 := hp
  have hp0 := pow_pos_int n
  rw [IntWalk.u64_in (2 ^ n) (by omega), IntWalk.u64_in (2 ^ n - 1) (by omega)]
  exact cmask c n hn
theorem cmask_lt (c : Int) (n : Nat) : (c % 2 ^ n).toNat < 2 ^ n := by
  have hp0 := pow_pos_int n
  have h1 := Int.emod_nonneg c (show (2 : Int) ^ n ≠ 0 by omega)
  have h2 := Int.emod_lt_of_pos c hp0
  have e3 : (2 : Int) ^ n = ((2 ^ n : Nat) : Int) := (Int.natCast_pow 2 n).symm
  omega

set_option maxRecDepth 100000 in
set_option maxHeartbeats 1600000 in
theorem cput_ok (p : Nat) (v : Value) (L : List Bool) (l : Value) (xs : List Int) (s : Int) (w : World) (hw : Wr w p v L) (hL : L.length ≤ 1000000000) (hl : Sl w l (i64s xs)) (hap : xs ≠ [] → ∀ g, l.ownBlock = some g → ¬ Foot p v g ∧ g < w.heap.size) (hx : In64 xs) (hr : rightB xs s = true) :
    Calls Try.prog 45 #[.pointer (some ⟨p, 0, none⟩), .agg #[l, .int .i64 s]] w fun e w' => e = .returned (.int .i64 0) ∧ WI w p v (L ++ codeC xs s) w' := by
  obtain ⟨A, c, rfl, _⟩ := i64s_form hl
  obtain ⟨r1, r2, r3, r4, r5⟩ := widN_right xs s hr
  have hb0 := hid (show Below w.heap.size w (w.alloc (.cells #[.slice A xs.length c, .int .i64 s] 25)) from (Below.refl _ _).alloc (Nat.le_refl _) _)
  have HB := hid (Blk.new w 25 #[.slice A xs.length c, .int .i64 s])
  have H := hid (And.intro hl (And.intro hr (And.intro hx (And.intro hw hap))))
  clear hl hr hx hw hap
  go_enter Try.func45, Try.ntmps45
  go_wp2_with fail
  have HC := right_any (.slice A xs.length c) xs s (w.alloc (.cells #[.slice A xs.length c, .int .i64 s] 25)) (H.out.1.alloc _)
  rw [H.out.2.1] at HC
  with_reducible refine HC.mono ?_
  clear HC
  rintro e w1 ⟨rfl, hb1⟩
  have hB1 : Blk w1 w.heap.size 25 #[.slice A xs.length c, .int .i64 s] := (hb1.block _ HB.out.lt).trans HB.out
  have hbel : Below w.heap.size w w1 := hb0.out.trans (hb1.mono (by simp))
  have H1 := hid (And.intro hB1 (And.intro hbel (H.out.1.below hbel)))
  have p0 := hB1.cell 0
  have p1 := hB1.cell 1
  simp at p0 p1
  clear hb1 hbel hB1
  go_wp2_with fail
  have HC := cwidth_any (.slice A xs.length c) xs s w1 H1.out.2.2 H.out.2.2.1
  obtain ⟨n, hn⟩ : ∃ n, widN xs = n := ⟨_, rfl⟩
  have HN := hid hn
  rw [hn] at r4 r5 HC
  clear hn
  with_reducible refine HC.mono ?_
  clear HC
  rintro e w2 ⟨rfl, hb2⟩
  have hb02 : Below w.heap.size w w2 := H1.out.2.1.trans (hb2.mono H1.out.2.1.size)
  have H2 := hid (And.intro hb02 (show CP w2 p w.heap.size v (.slice A xs.length c) xs s L w2 from
    ⟨(H.out.2.2.2.1.below hb02).refl, (hb2.block _ H1.out.1.lt).trans H1.out.1, H1.out.2.2.below hb2, Nat.lt_of_lt_of_le H1.out.1.lt hb2.size, fun hf => by have := H.out.2.2.2.1.footlt hf; omega, fun hne g hg => ⟨(H.out.2.2.2.2 hne g hg).1, Nat.lt_of_lt_of_le (H.out.2.2.2.2 hne g hg).2 hb02.size⟩⟩))
  clear hb02 hb2 p0 p1
  have p0 := H2.out.2.bx.cell 0
  simp at p0
  go_wp2_with fail
  have HC := H2.out.2.calls (R := fun e => e = .returned (.int .i64 0)) fun v1 h1 => put_fit w2 p v1 L (xs.length : Int) 6 xs.length 6 rfl rfl h1 (by omega) (by omega) (by omega)
  with_reducible refine HC.mono ?_
  clear HC p0
  rintro e w3 ⟨rfl, h3⟩
  have H3 := hid h3
  have p1 := h3.bx.cell 1
  simp at p1
  clear h3
  go_wp2_with fail
  have HC := H3.out.calls (R := fun e => e = .returned (.int .i64 0)) fun v1 h1 => put_fit w3 p v1 (L ++ bitsOf xs.length 6) s 4 s.toNat 4 (by omega) rfl h1 (by rw [List.length_append, bitsOf_length]; omega) (by omega) (by omega)
  with_reducible refine HC.mono ?_
  clear HC p1
  rintro e w4 ⟨rfl, h4⟩
  have H4 := hid h4
  clear h4
  go_wp2_with fail
  have HC := H4.out.calls (R := fun e => e = .returned (.int .i64 0)) fun v1 h1 => put_fit w4 p v1 (L ++ bitsOf xs.length 6 ++ bitsOf s.toNat 4) ((n : Int) - 1) 4 (n - 1) 4 (by omega) rfl h1 (by simp only [List.length_append, bitsOf_length]; omega) (by omega) (by omega)
  with_reducible refine HC.mono ?_
  clear HC
  rintro e w5 ⟨rfl, h5⟩
  have H5 := hid h5
  have p0 := h5.bx.cell 0
  simp at p0
  clear h5
  go_wp2_with fail
  obtain ⟨M, hM⟩ : ∃ M, L ++ bitsOf xs.length 6 ++ bitsOf s.toNat 4 ++ bitsOf (n - 1) 4 = M := ⟨_, rfl⟩
  rw [hM] at H5
  have hMl : M.length = L.length + 14 := by rw [← hM]; simp only [List.length_append, bitsOf_length]
  have HM := hid hM
  clear hM
  go_loopw [7, 36] (fun _ i wr => ∃ k : Nat, k ≤ xs.length ∧ i = .int .i64 k ∧ CP w2 p w.heap.size v (.slice A xs.length c) xs s (M ++ (xs.take k).flatMap (cbits n)) wr) (fun _ i _ => xs.length - (intOf i).toNat)
  case atStart => exact ⟨0, by omega, rfl, by simpa using H5.out⟩
  case round =>
    obtain ⟨k, hk, rfl, hcp⟩ := hrel
    have hlen : ((xs.take k).flatMap (cbits n)).length ≤ 512 := by
      have e : ∀ ys : List Int, (ys.flatMap (cbits n)).length = ys.length * n := by
        intro ys
        induction ys with
        | nil => simp
        | cons x ys ih => rw [List.flatMap_cons, List.length_append, ih, cbits, bitsOf_length, List.length_cons, Nat.add_mul]; omega
      rw [e, List.length_take]
      have := Nat.mul_le_mul (show min k xs.length ≤ 32 by omega) r5
      omega
    have HP := hid hcp
    clear hcp
    by_cases hkm : k < xs.length
    · have hin : (k : Int) < xs.length := by omega
      obtain ⟨ad, rfl, hc⟩ := i64s_at HP.out.sl hkm
      obtain ⟨x, hx⟩ : ∃ x, xs[k] = x := ⟨_, rfl⟩
      rw [hx] at hc
      have HX := hid hx
      clear hx
      go_wp2_with fail
      have HC := HP.out.calls (R := fun e => e = .returned (.int .i64 0)) fun v1 h1 => put_fit wr p v1 (M ++ (xs.take k).flatMap (cbits n)) (bits BinOp.and IntKind.u64 (IntKind.u64.wrap x) (IntKind.u64.wrap (IntKind.u64.wrap (2 ^ n) - 1))) (n : Int) (x % 2 ^ n).toNat n (cmask2 x n (by omega)) rfl h1 (by rw [List.length_append]; omega) (by omega) (cmask_lt x n)
      with_reducible refine HC.mono ?_
      clear HC
      rintro e w6 ⟨rfl, h6⟩
      have H6 := hid (show CP w2 p w.heap.size v (.slice (some ad) xs.length c) xs s (M ++ (xs.take (k + 1)).flatMap (cbits n)) w6 by
        rw [take_snocI xs k hkm, HX.out, List.flatMap_append, ← List.append_assoc]
        simpa [cbits] using h6)
      clear h6
      go_wp2_with fail
      go_roundw
      case rel => exact ⟨k + 1, by omega, by go_num, H6.out⟩
      case measure => simp [intOf]; omega
    · have hin : ¬ (k : Int) < xs.length := by omega
      obtain rfl : k = xs.length := by omega
      go_wp2_with fail
      go_ret
      have h := HP.out.wi
      rw [List.take_length] at h
      have e : L ++ codeC xs s = M ++ xs.flatMap (cbits n) := by
        unfold codeC
        rw [HN.out, ← HM.out]
        simp only [List.append_assoc]
      rw [e]
      exact ⟨rfl, h.after_below H2.out.1⟩
end Go.Proofs.Ytfbccmogiafgfaa
