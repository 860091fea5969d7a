/- Layer 8: the reference's GetAll. -/
import Derived.Test.YtgjiffpiffphfaaRefG08
namespace Go.Proofs.Ytgjiffpiffphfaa
open Go.RowKit

set_option maxRecDepth 100000 in
set_option maxHeartbeats 4000000 in
theorem refgetall08_any (w : World) (p : Nat) (v : Value) (L : List Bool) (i k n : Nat) (h : RefRd w p v L i) (k1 : 1 ≤ k) (k2 : k ≤ 1099511627776) (hn : n ≤ 1048576) (hv : ∀ g, v.ownBlock = some g → g < w.heap.size) :
    Calls Try.prog 48 #[.pointer (some ⟨p, 0, none⟩), .int .i64 (n : Int), .int .u64 (k : Int)] w (GAPost (fun w' j => RefRd w' p v L j) w p (egS L k i n) n) := by
  have HG := hid (fun w' j (h : RefRd w' p v L j) => refget08_any w' p v L j k h k1 k2)
  have HL := hid (fun j => egT_lt L j k k1 k2)
  have HV := hid hv
  have G0 := hid (show GU (fun w' j => RefRd w' p v L j) w p i [] (.slice none 0 0) w from ⟨h, .refl _ _, World.ownsRow_nil _ _ _ _, by simp [Value.ownBlock], h.blk.lt⟩)
  clear h hv
  go_enter Try.func48, Try.ntmps48
  go_wp2_with fail
  go_loopw [8, 9] (fun o c wr => ∃ (m : Nat) (l : List Nat) (j : Nat) (A : Option Addr) (cc : Nat), m ≤ n ∧ c = .int .i64 m ∧ o = .slice A m cc ∧ Hid (egS L k i m = .ok (l, j)) ∧ Hid (GU (fun w' j => RefRd w' p v L j) w p j l (.slice A m cc) wr)) (fun _ c _ => n - (intOf c).toNat)
  case atStart => exact ⟨0, [], i, none, 0, by omega, rfl, rfl, rfl, G0.out⟩
  case round =>
    obtain ⟨m, l, j, A, cc, hm, rfl, rfl, hS, hG⟩ := hrel
    by_cases hmn : m < n
    · have hin : (m : Int) < n := by omega
      have hC := HG.out wr j hG.out.rd
      have hxl := HL.out j
      have hR := hid (egS_step hS.out)
      obtain ⟨r, hr⟩ : ∃ r, egT L j k = r := ⟨_, rfl⟩
      rw [hr] at hC hxl hR
      clear hr
      obtain ⟨x, e1, a⟩ := r
      replace hC := hid hC
      simp only at hxl
      by_cases he : e1 = 0
      · subst he
        go_wp2_with fail
        with_reducible refine hC.out.mono ?_
        rintro e w2 ⟨rfl, hr2⟩
        have G2 := hid (hG.out.get (RRI.rd hr2) hr2.2)
        clear hr2
        go_wp2_with (at_builtin; go_must (refine wpList_app1 _ rfl (.tmp 26) (.tmp 28) 23 rfl 22 .u64 8 Try.underlying23 Try.info_uint (.slice A m cc) (u64s l) m rfl ?d1 ⟨w2.heap.size, 0, none⟩ (x : Int) rfl ?d3 (by decide) ?d4 (w2.heap.size + 1) ?d5 ?_); rotate_right; intro g cap w3 hown3 hg3 hat hlt; replace hown3 := hid hown3; replace hg3 := hid hg3; replace hat := hid hat)
        case d1 => exact (G2.out.own_n (egS_len hS.out)).alloc _
        case d3 => exact World.cell?_alloc_at _ _ _ _ rfl
        case d4 => omega
        case d5 => simp
        have hgr := G2.out.grow (egS_len hS.out) (fun w4 hk4 => G2.out.rd.keep hk4 (fun e => by have := G2.out.new _ e; have := G2.out.lt; omega) fun g' hg' e => by have := G2.out.new _ e; have := HV.out _ hg'; omega) hown3.out hg3.out hat.out
        have hst := hR.out
        rw [if_pos trivial] at hst
        go_roundw
        case rel => exact ⟨m + 1, _, _, _, _, by omega, by go_num, rfl, hst, hgr⟩
        case measure => simp [intOf]; omega
      · have he' : (e1 == 0) = false := by rw [beq_eq_false_iff_ne]; exact he
        have HE := hid he
        clear he
        go_wp2_with fail
        with_reducible refine hC.out.mono ?_
        rintro e w2 ⟨rfl, hr2⟩
        have G2 := hid (hG.out.get (RRI.rd hr2) hr2.2)
        clear hr2
        go_wp2_with fail
        go_ret2
        have hst := hR.out
        rw [if_neg HE.out] at hst
        unfold GAPost
        rw [egS_err' hst (by omega)]
        exact ⟨rfl, G2.out.kp, HE.out, _, G2.out.rd⟩
    · have hin : ¬ (m : Int) < n := by omega
      obtain rfl : m = n := by omega
      go_wp2_with fail
      go_ret2
      unfold GAPost
      rw [hS.out]
      exact ⟨A, cc, rfl, hG.out⟩
end Go.Proofs.Ytgjiffpiffphfaa
