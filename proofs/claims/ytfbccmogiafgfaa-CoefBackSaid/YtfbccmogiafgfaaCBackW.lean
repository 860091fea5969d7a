/- The walk of CoefBack. -/
import Derived.Test.YtfbccmogiafgfaaCPutsW
import Derived.Test.YtfbccmogiafgfaaCGet2
import Derived.Test.YtfbccmogiafgfaaSame12
namespace Go.Proofs.Ytfbccmogiafgfaa
open Go.RowKit

/-- A predictor, a writer that has its code, a reader behind it, and what was got (in block b). -/
structure CB (w : World) (p : Nat) (u l : Value) (xs : List Int) (s : Int) (L : List Bool) (q : Nat) (vR : Value) (F : List Nat) (j b : Nat) (v2 : Value) (wr : World) : Prop where
  cw : CW w p u l xs s L wr
  rd : Rd wr q vR F j
  bx : Blk wr b 25 #[v2, .int .i64 s]
  sl : Sl wr v2 (i64s xs)
section
variable {w wr w1 : World} {p q j b : Nat} {u l vR v2 : Value} {xs : List Int} {s : Int} {L : List Bool} {F : List Nat}
theorem CB.later (h : CB w p u l xs s L q vR F j b v2 wr) (hb : Below wr.heap.size wr w1) : CB w p u l xs s L q vR F j b v2 w1 :=
  ⟨h.cw.later hb, h.rd.below hb, (hb.block _ h.bx.lt).trans h.bx, h.sl.below hb⟩
theorem CB.drew (h : CB w p u l xs s L q vR F j b v2 wr) : CB w p u l xs s L q vR F j b v2 wr.drew := h.later (Below.refl _ _).drew
theorem CB.cells (h : CB w p u l xs s L q vR F j b v2 wr) : (wr.cell? ⟨w.heap.size, 0, none⟩ = some l ∧ wr.cell? ⟨w.heap.size, 1, none⟩ = some (.int .i64 s)) ∧ wr.cell? ⟨b, 0, none⟩ = some v2 ∧ wr.cell? ⟨b, 1, none⟩ = some (.int .i64 s) := by
  have h0 := h.bx.cell 0
  have h1 := h.bx.cell 1
  simp at h0 h1
  exact ⟨h.cw.pv.cells, h0, h1⟩
/-- A reader's step leaves the others. -/
theorem CW.kept {q : Nat} (h : CW w p u l xs s L wr) (hk : Kept (fun k => k = q) wr w1) (hq : w.heap.size < q) (hf : ¬ Foot p u q) : CW w p u l xs s L w1 :=
  ⟨⟨Kept.after h.pv.bel (Nat.le_refl _) hk fun i hi => by omega, h.pv.bx.kept hk (by omega), h.pv.old⟩, h.wr.keep hk fun k hfk e => hf (e ▸ hfk), h.low⟩
end

namespace coefBack
set_option maxRecDepth 100000 in
set_option maxHeartbeats 4000000 in
theorem walk_long (A : Option Addr) (c : Nat) (xs : List Int) (s : Int) (w : World) (h1 : 100 < xs.length) :
    Calls Try.prog 13 #[.agg #[.slice A xs.length c, .int .i64 s]] w fun e w' => e = .returned (.bool true) ∧ Below w.heap.size w w' := by
  have h1' : (100 : Int) < xs.length := by omega
  go_enter Try.func13, Try.ntmps13
  go_wp2_with fail
  with_reducible refine (known12 _).mono ?_
  rintro e w1 ⟨rfl, hb⟩
  replace hb := hid hb
  go_wp2_with fail
  go_ret
  exact ⟨rfl, ((Below.refl _ w).alloc (Nat.le_refl _) _).trans (hb.out.mono (by simp))⟩

set_option maxRecDepth 100000 in
set_option maxHeartbeats 4000000 in
theorem walk_bad (l : Value) (xs : List Int) (s : Int) (w : World) (hl : Sl w l (i64s xs)) (hm : xs.length ≤ 100) (hr : rightB xs s = false) :
    Calls Try.prog 13 #[.agg #[l, .int .i64 s]] w fun e w' => e = .returned (.bool true) ∧ Below w.heap.size w w' := by
  obtain ⟨A, c, rfl, _⟩ := i64s_form hl
  have h1' : ¬ (100 : Int) < xs.length := by omega
  have HR := hid hr
  have H0 := hid (CW.new (s := s) hl)
  clear hl hr
  go_enter Try.func13, Try.ntmps13
  go_wp2_with fail
  have HC := cput_bad (w.heap.size + 1) (.slice A xs.length c) xs s _ H0.out.pv.sl HR.out
  with_reducible refine HC.mono ?_
  clear HC
  rintro e w1 ⟨rfl, hb1⟩
  have H1 := hid (H0.out.later hb1)
  clear hb1
  go_wp2_with fail
  have HC := H1.out.len (by simp)
  with_reducible refine HC.mono ?_
  clear HC
  rintro e w3 ⟨rfl, hb3⟩
  have H3 := hid (H1.out.later hb3)
  clear hb3
  go_wp2_with fail
  with_reducible refine (known12 _).mono ?_
  rintro e w5 ⟨rfl, hb5⟩
  have H5 := hid (H3.out.later hb5)
  clear hb5
  go_wp2_with fail
  go_ret
  exact ⟨rfl, H5.out.pv.bel⟩

set_option maxRecDepth 100000 in
set_option maxHeartbeats 4000000 in
theorem walk_main (l : Value) (xs : List Int) (s : Int) (w : World) (hl : Sl w l (i64s xs)) (hx : In64 xs) (hm : xs.length ≤ 100) (hr : rightB xs s = true) :
    Calls Try.prog 13 #[.agg #[l, .int .i64 s]] w fun e w' => e = .returned (.bool true) ∧ Below w.heap.size w w' := by
  obtain ⟨A, c, rfl, _⟩ := i64s_form hl
  have h1' : ¬ (100 : Int) < xs.length := by omega
  have hcl := codeC_length xs s
  obtain ⟨r1, _, _, _, r5⟩ := widN_right xs s hr
  have hcl2 : (codeC xs s).length ≤ 526 := by have := Nat.mul_le_mul r1 r5; omega
  have hcost : costC xs s = (codeC xs s).length := by rw [hcl]; simp [costC, hr]
  have HR := hid (And.intro hx hcost)
  have H0 := hid (CW.new (s := s) hl)
  have HCP := hid (fun p u W (h : CW w p u (.slice A xs.length c) xs s [] W) => cput_ok p u [] (.slice A xs.length c) xs s W h.wr (by simp) h.pv.sl h.apart hx hr)
  have HCG := hid (fun W q v F T (h : Rd W q v F 0) (hb : (flat F).drop 0 = codeC xs s ++ T) => cget_ok W q v F 0 xs s T h hx hr hb)
  rw [List.nil_append] at HCP
  obtain ⟨B, hB⟩ : ∃ B, codeC xs s = B := ⟨_, rfl⟩
  rw [hB] at HR hcl2 HCP HCG
  clear hl hr hx hcl hcost hB r1 r5
  go_enter Try.func13, Try.ntmps13
  go_wp2_with fail
  have HC := HCP.out _ _ _ H0.out
  with_reducible refine HC.mono ?_
  clear HC
  rintro e w1 ⟨rfl, hw1⟩
  obtain ⟨u, h1⟩ := H0.out.step hw1
  have H1 := hid h1
  clear hw1 h1
  go_wp2_with fail
  have HC := bytes_any w1 _ u B H1.out.wr (by omega)
  with_reducible refine HC.mono ?_
  clear HC
  rintro e w2 ⟨F, A2, c2, rfl, hf, hfl, hby⟩
  have hlen : F.length ≤ 1000 := by
    have h := congrArg List.length hfl
    rw [flat_length] at h
    unfold padded at h
    rw [List.length_append, List.length_replicate] at h
    omega
  have H2 := hid (And.intro (H1.out.later hf.2.1) (And.intro (Sl.of_own hf.1) (And.intro hfl hby)))
  clear hf hfl hby
  go_wp2_with fail
  have HC := read_any w2 (.slice A2 F.length c2) F H2.out.2.1 (by omega) H2.out.2.2.2
  with_reducible refine HC.mono ?_
  clear HC
  rintro e w3 ⟨q, vR, rfl, hrd, hbel, hq, _⟩
  have hql : w.heap.size < q := by have := H2.out.1.pv.bx.lt; omega
  have hnf : ¬ Foot (w.heap.size + 1) u q := fun hf => by have := H2.out.1.wr.footlt hf; omega
  have H3 := hid (And.intro (H2.out.1.later hbel) hrd)
  clear hrd hbel hq
  go_wp2_with fail
  have HC := HCG.out w3 q vR F (List.replicate ((8 - B.length % 8) % 8) false) H3.out.2 (by rw [List.drop_zero, H2.out.2.2.1]; rfl)
  with_reducible refine HC.mono ?_
  clear HC
  rintro e w4 ⟨v2, rfl, hs4, hri⟩
  obtain ⟨A4, c4, rfl, _⟩ := i64s_form hs4
  have H4 := hid (show CB w (w.heap.size + 1) u (.slice A xs.length c) xs s B q vR F (0 + B.length) w4.heap.size (.slice A4 xs.length c4) (w4.alloc (.cells #[.slice A4 xs.length c4, .int .i64 s] 25)) from by
    have hb := (Below.refl _ w4).alloc (Nat.le_refl _) (.cells #[.slice A4 xs.length c4, .int .i64 s] 25)
    exact ⟨(H3.out.1.kept hri.2 hql hnf).later hb, hri.1.below hb, Blk.new _ _ _, hs4.below hb⟩)
  rw [Nat.zero_add] at H4
  clear hs4 hri
  obtain ⟨⟨p0, p1⟩, p2, p3⟩ := H4.out.cells
  have hbb : ((B.length : Int) == (B.length : Int)) = true := by simp
  go_wp2_with fail
  go_region_with
    (first
      | (go_at_call 16; (with_reducible refine (refsame_same _ _ xs s _ H4.out.drew.cw.pv.sl H4.out.drew.sl).mono ?_); rintro e w5 ⟨rfl, hb⟩; have h5 := H4.out.drew.later hb; obtain ⟨⟨k0, k1⟩, k2, k3⟩ := h5.cells; have H5 := hid h5; clear hb h5)
      | (go_at_call 33; (with_reducible refine (at_any _ _ _ _ _ H5.out.rd).mono ?_); rintro e w6 ⟨rfl, rfl⟩)
      | (go_at_call 23; (with_reducible refine (H5.out.cw.len (by omega)).mono ?_); rintro e w7 ⟨rfl, hb⟩; have h7 := H5.out.later hb; obtain ⟨⟨m0, m1⟩, m2, m3⟩ := h7.cells; have H7 := hid h7; clear hb h7)
      | (go_at_call 23; (with_reducible refine (H7.out.cw.len (by omega)).mono ?_); rintro e w8 ⟨rfl, hb⟩; have h8 := H7.out.later hb; obtain ⟨⟨n0, n1⟩, n2, n3⟩ := h8.cells; have H8 := hid h8; clear hb h8)
      | (go_at_call 46; (with_reducible refine (ccost_any _ xs s _ H8.out.cw.pv.sl HR.out.1).mono ?_); rintro e w9 ⟨he9, hb⟩; rw [HR.out.2] at he9; subst he9; have h9 := H8.out.later hb; obtain ⟨⟨o0, o1⟩, o2, o3⟩ := h9.cells; have H9 := hid h9; clear hb h9)
      | (go_at_call 14; (with_reducible refine (known12 _).mono ?_); rintro e w10 ⟨rfl, hb⟩; have h10 := H9.out.later hb; have H10 := hid h10.cw.pv.bel; clear hb h10))
  all_goals (go_wp2_with fail)
  all_goals (go_ret)
  all_goals exact ⟨rfl, H10.out⟩

theorem walk {l : Value} {xs : List Int} {s : Int} {w : World} (hl : Sl w l (i64s xs)) (hx : In64 xs) :
    Calls Try.prog 13 #[.agg #[l, .int .i64 s]] w fun e w' => e = .returned (.bool true) ∧ Below w.heap.size w w' := by
  by_cases h : 100 < xs.length
  · obtain ⟨A, c, rfl, _⟩ := i64s_form hl
    exact walk_long A c xs s w h
  cases hr : rightB xs s
  · exact walk_bad l xs s w hl (by omega) hr
  · exact walk_main l xs s w hl hx (by omega) hr
end coefBack
end Go.Proofs.Ytfbccmogiafgfaa
