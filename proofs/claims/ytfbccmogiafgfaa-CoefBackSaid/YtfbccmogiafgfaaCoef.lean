/- Layer 12: the walks of what Quant calls. -/
import Derived.Test.YtfbccmogiafgfaaNum
import Derived.Test.YtfbccmogiafgfaaRef02
namespace Go.Proofs.Ytfbccmogiafgfaa
open Go.RowKit

/-- A function value that only reads: called at x it hands back f x. -/
def Quiet1 (g : Nat) (cap : Array Value) (f : Int → Int) (P : Int → Prop) (w : World) : Prop :=
  ∀ x n, P x → Calls Try.prog g (#[.int .i64 x] ++ cap) (w.drewN n) fun e w' => e = .returned (.int .i64 (f x)) ∧ ∃ m, w' = (w.drewN n).drewN m

theorem quietD {P : Program} {f : FuncId} {args : Array Value} {w : World} {n : Nat} {v : Value} (h : Calls P f args (w.drewN n) fun e w' => e = .returned v ∧ w.drewN n = w') :
    Calls P f args (w.drewN n) fun e w'' => e = .returned v ∧ ∃ m, w'' = w.drewN m := h.mono fun _ _ ⟨he, hm⟩ => ⟨he, n, hm.symm⟩

def Drawn (w : World) (v : Value) (e : Ending) (w' : World) : Prop := e = .returned v ∧ ∃ n, w' = w.drewN n

/-- The greatest of what f says of a list's members. -/
def topI (f : Int → Int) (least : Int) (xs : List Int) : Int := xs.foldl (fun m x => max m (f x)) least
theorem topI_snoc (f : Int → Int) (least : Int) (xs : List Int) (x : Int) : topI f least (xs ++ [x]) = max (topI f least xs) (f x) := by simp [topI]
theorem take_snoc {α : Type} (xs : List α) (k : Nat) (h : k < xs.length) : xs.take (k + 1) = xs.take k ++ [xs[k]] := List.take_succ_eq_append_getElem h

set_option maxRecDepth 100000 in
theorem top_any (g : Nat) (cap : Array Value) (eg : ∀ args w, (callFunc g args).run Try.prog w = .ok (.enter g args) w) (f : Int → Int) (P : Int → Prop) (l : Value) (xs : List Int) (least : Int) (w : World) (hl : Sl w l (i64s xs)) (hP : ∀ x ∈ xs, P x) (hf : Quiet1 g cap f P w) :
    Calls Try.prog 75 #[l, .int .i64 least, .func (.func g) #[] cap] w (Drawn w (.int .i64 (topI f least xs))) := by
  obtain ⟨A, c, e, _⟩ := hl.form
  rw [i64s_length] at e
  subst e
  have hm := hl.max
  rw [i64s_length] at hm
  have H := hid (And.intro hl (And.intro hP hf))
  clear hl hP hf
  go_enter Try.func75, Try.ntmps75
  go_wp2_with fail
  go_loopw [1, 8, 11] (fun m y i wr => ∃ (k : Nat) (m0 : Int) (n : Nat), k ≤ xs.length ∧ i = .int .i64 k ∧ m = .int .i64 m0 ∧ m0 = topI f least (xs.take k) ∧ wr = w.drewN n) (fun _ _ i _ => xs.length - (intOf i).toNat)
  case atStart => exact ⟨0, least, 0, by omega, rfl, rfl, by simp [topI], rfl⟩
  case round =>
    obtain ⟨k, m0, n, hk, rfl, rfl, hm0, rfl⟩ := hrel
    have HM := hid hm0
    clear hm0
    by_cases hkm : k < xs.length
    · have hin : (k : Int) < xs.length := by omega
      obtain ⟨ad, rfl, hc⟩ := (H.out.1.drewN n).at_ (show k < (i64s xs).length by rw [i64s_length]; exact hkm)
      have e : (i64s xs)[k]'(by rw [i64s_length]; exact hkm) = .int .i64 xs[k] := by simp [i64s]
      rw [e] at hc
      clear e
      have hcall := H.out.2.2 xs[k] n (H.out.2.1 _ (List.getElem_mem _))
      obtain ⟨x, hx⟩ : ∃ x, xs[k] = x := ⟨_, rfl⟩
      rw [hx] at hc hcall
      have HX := hid (And.intro hx hcall)
      clear hx hcall
      go_wp2_with (go_at_fn g; refine HX.out.2.mono ?_; rintro e w' ⟨rfl, m1, rfl⟩)
      go_roundw
      case rel =>
        refine ⟨k + 1, _, n + m1, by omega, by go_num, rfl, ?_, rfl⟩
        rw [take_snoc xs k hkm, topI_snoc, HX.out.1, ← HM.out]
      case measure => simp [intOf]; omega
    · have hin : ¬ (k : Int) < xs.length := by omega
      obtain rfl : k = xs.length := by omega
      go_wp2_with fail
      go_ret
      refine ⟨?_, n, rfl⟩
      have h := HM.out
      rw [List.take_length] at h
      rw [h]
      rfl

/-- Not too far from 0. -/
def nearI (c : Int) : Int := clampI c (-1099511627776) 1099511627776
theorem nearI_bd (c : Int) : -1099511627776 ≤ nearI c ∧ nearI c ≤ 1099511627776 := clampI_bd c _ _ (by omega)

theorem near_any (c : Int) (w : World) : Calls Try.prog 51 #[.int .i64 c] w fun e w' => e = .returned (.int .i64 (nearI c)) ∧ w = w' := by
  go_enter Try.func51, Try.ntmps51
  go_wp2_with fail
  have HC := clamp_any c (-1099511627776) 1099511627776 w
  with_reducible refine HC.mono ?_
  clear HC
  rintro e w1 ⟨rfl, rfl⟩
  go_wp2_with fail
  go_ret
  exact ⟨rfl, rfl⟩

/-- How far a number is from 0. -/
def sizeI (x : Int) : Int := max x (-x)
theorem size_any (x : Int) (w : World) (h : -9223372036854775807 ≤ x) (h' : x ≤ 9223372036854775807) : Calls Try.prog 77 #[.int .i64 x] w fun e w' => e = .returned (.int .i64 (sizeI x)) ∧ w = w' := by
  go_enter Try.func77, Try.ntmps77
  go_wp2_with fail
  go_ret
  refine ⟨?_, rfl⟩
  unfold sizeI
  first | rfl | rw [IntWalk.wrap64_in _ (by omega)]

theorem enters_lit : ∀ args w, (callFunc 76 args).run Try.prog w = .ok (.enter 76 args) w := enters_of Try.func76 (by kernel_rfl) rfl

/-- What the closure of shiftOf says. -/
def offI (s : Nat) (x : Int) : Int := sizeI (rnd (nearI x) (24 - s))

theorem round_near (x ni : Int) (n : Nat) (hni : ni = (n : Int)) (w : World) (h1 : 1 ≤ n) (hn : n ≤ 62) : Calls Try.prog 53 #[.int .i64 (nearI x), .int .i64 ni] w fun e w' => e = .returned (.int .i64 (rnd (nearI x) n)) ∧ w = w' := by
  have h := round_at (nearI x) ni n hni w h1 hn
  have hb := nearI_bd x
  rwa [holdI_id _ (by omega) (by omega)] at h

theorem lit_any (b s : Nat) (x : Int) (w : World) (hs : 1 ≤ s) (hs' : s ≤ 15) (hc : w.cell? ⟨b, 0, none⟩ = some (.int .i64 (s : Int))) :
    Calls Try.prog 76 #[.int .i64 x, .pointer (some ⟨b, 0, none⟩)] w (Drawn w (.int .i64 (offI s x))) := by
  have hn := nearI_bd x
  have hr := rnd_bd (nearI x) 1099511627776 (24 - s) hn.1 hn.2 (by omega)
  have hws : IntKind.i64.wrap (24 - (s : Int)) = 24 - (s : Int) := IntWalk.i64_in _ (by omega)
  have HR := hid hr
  clear hn hr
  go_enter Try.func76, Try.ntmps76
  go_wp2_with fail
  go_quiet (first | (go_at_call 51; exact quietD (near_any x _)) | (go_at_call 53; exact quietD (round_near x _ (24 - s) (by omega) _ (by omega) (by omega))) | (go_at_call 77; exact quietD (size_any _ _ (by have := HR.out; omega) (by have := HR.out; omega))))
  go_wp2_with fail
  go_ret
  exact ⟨rfl, _, rfl⟩
end Go.Proofs.Ytfbccmogiafgfaa
