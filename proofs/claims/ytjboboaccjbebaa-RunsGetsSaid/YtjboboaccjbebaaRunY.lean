/- The reference of layer 7: Get. -/
import Derived.Test.YtjboboaccjbebaaRunX
namespace Go.Proofs.Ytjboboaccjbebaa
open Go.RowKit

set_option maxRecDepth 100000 in
set_option maxHeartbeats 8000000 in
theorem refgetl_any (w : World) (p : Nat) (v : Value) (L : List Bool) (i k n : Nat) (h : RefRd w p v L i) (hk : k ≤ 30) (hn : n ≤ 1048576) (hv : ∀ g, v.ownBlock = some g → g < w.heap.size) :
    Calls Try.prog 40 #[.pointer (some ⟨p, 0, none⟩), .int .i64 (n : Int), .int .i64 (k : Int)] w (LPost (fun w' j => RefRd w' p v L j) w p (rnT L k n i) n) := by
  have HG := hid (fun w' j (h : RefRd w' p v L j) => refgetgamma_any w' p v L j h)
  have HRG := hid (fun w' j (h : RefRd w' p v L j) => refget06_any w' p v L j k h hk)
  have HV := hid hv
  have G0 := hid (show GI (fun w' j => RefRd w' p v L j) w p i [] (.slice none 0 0) w from ⟨h, .refl _ _, World.ownsRow_nil _ _ _ _, by simp [Value.ownBlock], h.blk.lt⟩)
  clear h hv
  have H40 := hid (fun j => @rgT_40 L j k hk)
  obtain ⟨S, hS⟩ : ∃ S, rnT L k n i = S := ⟨_, rfl⟩
  rw [hS]
  have HS0 := hid (show rnF L k n (n + 1) [] i = S from hS)
  clear hS
  go_enter Try.func40, Try.ntmps40
  go_wp2_with fail
  go_loopw [8, 9] (fun o c wr => ∃ (l : List Int) (m f j d : Nat) (A : Option Addr) (cc : Nat), m ≤ n ∧ o = .slice A m cc ∧ c = .int .i64 d ∧ d ≤ m ∧ Hid (l.length = m ∧ n - m ≤ f ∧ rnF L k n (f + 1) l j = S) ∧ Hid (GI (fun w' j => RefRd w' p v L j) w p j l (.slice A m cc) wr)) (fun o _ _ => n - (match o with | .slice _ m _ => m | _ => 0))
  case atStart => exact ⟨[], 0, n, i, 0, none, 0, by omega, rfl, rfl, by omega, ⟨rfl, by omega, HS0.out⟩, G0.out⟩
  case round =>
    obtain ⟨l, m, f, j, d, A, cc, hm, rfl, rfl, hdm, hS, hG⟩ := hrel
    have hdn : (d : Int) ≤ n := by omega
    by_cases hmn : m < n
    · have hin : (m : Int) < n := by omega
      have hC := HG.out wr j hG.out.rd
      have hT := (rnF_step (L := L) (k := k) (N := n) (f := f) (i := j) (out := l) (by rw [hS.out.1]; exact hmn)).symm.trans hS.out.2.2
      rw [hS.out.1] at hT
      have hbd := @ggT_bd L j
      obtain ⟨r, hr⟩ : ∃ r, ggT L j = r := ⟨_, rfl⟩
      rw [hr] at hC hT hbd
      clear hr
      obtain ⟨g, e1, a⟩ := r
      simp only at hT hbd
      replace hC := hid hC
      by_cases he : e1 = 0
      · subst he
        rw [if_neg (by simp)] at hT
        obtain ⟨g1, g2⟩ := hbd rfl
        have hw0 : IntKind.i64.wrap (g : Int) = (g : Int) := IntWalk.i64_in _ (by omega)
        have hw1 : IntKind.i64.wrap ((g : Int) - 1) = ((g - 1 : Nat) : Int) := by rw [IntWalk.i64_in _ (by omega)]; omega
        have hw2 : IntKind.i64.wrap ((n : Int) - (m : Int)) = ((n - m : Nat) : Int) := by rw [IntWalk.i64_in _ (by omega)]; omega
        obtain ⟨z, hz⟩ : ∃ z, g - 1 = z := ⟨_, rfl⟩
        rw [hz] at hw1 hT
        obtain ⟨y, hy⟩ : ∃ y, n - m = y := ⟨_, rfl⟩
        rw [hy] at hw2 hT
        have hw3 : IntKind.u64.wrap (y : Int) = (y : Int) := IntWalk.u64_in _ (by omega)
        have hw4 : IntKind.u64.wrap ((y : Int) + 1) = ((y + 1 : Nat) : Int) := by rw [IntWalk.u64_in _ (by omega)]; omega
        obtain ⟨y1, hy1⟩ : ∃ y1, y + 1 = y1 := ⟨_, rfl⟩
        rw [hy1] at hw4 hT
        by_cases hbig : y1 < g
        · have hb : (y1 : Int) < g := by omega
          rw [if_pos hbig] at hT
          have HT := hid hT
          clear hT hbd hz hy hy1 hbig
          go_wp2_with fail
          with_reducible refine (hC.out).mono ?_
          rintro e w2 ⟨rfl, hr2⟩
          have G2 := hid (hG.out.get (RRI.rd hr2) hr2.2)
          clear hr2
          go_wp2_with fail
          go_ret2
          unfold LPost
          rw [← HT.out]
          exact ⟨rfl, G2.out.kp, by decide, _, G2.out.rd⟩
        · have hb : ¬ (y1 : Int) < g := by omega
          rw [if_neg hbig] at hT
          have hwz : IntKind.i64.wrap (z : Int) = (z : Int) := IntWalk.i64_in _ (by omega)
          have hzb : m + z ≤ n := by omega
          have HZ := hid (And.intro hz (And.intro hy hwz))
          by_cases hend : m + z = n
          · rw [if_pos hend] at hT
            have hbe : (((m + z : Nat) : Int) == (n : Int)) = true := by rw [beq_iff_eq]; omega
            have HT := hid hT
            have HEND := hid hend
            obtain ⟨mz, hmz⟩ : ∃ mz, m + z = mz := ⟨_, rfl⟩
            rw [hmz] at hbe HEND
            have HMZ := hid hmz
            have HL3 := hid (show (l ++ List.replicate z (0 : Int)).length = mz by rw [List.length_append, List.length_replicate, hS.out.1, hmz])
            clear hT hbd hz hy hy1 hbig hend hmz hwz
            go_wp2_with fail
            with_reducible refine (hC.out).mono ?_
            rintro e w2 ⟨rfl, hr2⟩
            have G2 := hid (hG.out.get (RRI.rd hr2) hr2.2)
            clear hr2
            go_wp2_with (at_builtin; refine wpList_appz _ rfl (.tmp 41) (.tmp 44) 22 3 rfl 3 .i64 Try.underlying3 .i64 8 Try.underlying22 Try.info_int (.slice A m cc) m (i64s l) rfl ?d1 (z : Int) z rfl ?d2 (by decide) ?d3 ?_; rotate_right; intro v3 w3 hown hg hmv; have hgr := G2.out.growz hS.out.1 (fun w4 hk4 => G2.out.rd.keep hk4 (fun e => by have := G2.out.new _ e; have := G2.out.lt; omega) fun g' hg' e => by have := G2.out.new _ e; have := HV.out _ hg'; omega) hown hg hmv; obtain ⟨A3, c3, rfl⟩ := hgr.form; rw [HL3.out] at hgr ⊢; have G3 := hid hgr; clear hgr hown hg hmv)
            case d1 => exact G2.out.own_n hS.out.1
            case d2 => exact HZ.out.2.2
            case d3 => omega
            go_wp2_with fail
            go_ret2
            unfold LPost
            rw [← HT.out]
            obtain rfl := HEND.out
            exact ⟨A3, c3, rfl, G3.out⟩
          · rw [if_neg hend] at hT
            have hbe : (((m + z : Nat) : Int) == (n : Int)) = false := by rw [beq_eq_false_iff_ne]; omega
            have hmz2 : m + z < n := by omega
            obtain ⟨mz, hmz⟩ : ∃ mz, m + z = mz := ⟨_, rfl⟩
            rw [hmz] at hbe hmz2
            have hC2 := fun w' (hw : RefRd w' p v L a) => HRG.out w' a hw
            have h40 := H40.out a
            obtain ⟨r2, hr2⟩ : ∃ r2, rgT L a k = r2 := ⟨_, rfl⟩
            rw [hr2] at hT h40
            simp only [hr2] at hC2
            clear hr2
            obtain ⟨x, e2, b⟩ := r2
            simp only at hT h40
            have HMZ := hid hmz
            have HL3 := hid (show (l ++ List.replicate z (0 : Int)).length = mz by rw [List.length_append, List.length_replicate, hS.out.1, hmz])
            replace hC2 := hid hC2
            clear hbd hz hy hy1 hbig hend hmz hwz
            by_cases he2 : e2 = 0
            · subst he2
              rw [if_neg (by simp)] at hT
              have hwx : IntKind.u64.wrap ((x : Int) + 1) = ((x + 1 : Nat) : Int) := by rw [IntWalk.u64_in _ (by omega)]; omega
              by_cases hx : x = 1099511627775
              · rw [if_pos hx] at hT
                have hb4 : ((x : Int) == 1099511627775) = true := by rw [beq_iff_eq]; omega
                obtain ⟨x1, hx1⟩ : ∃ x1, x + 1 = x1 := ⟨_, rfl⟩
                rw [hx1] at hwx
                have HT := hid hT
                clear hT hx hx1 h40
                go_wp2_with fail
                with_reducible refine (hC.out).mono ?_
                rintro e w2 ⟨rfl, hr2⟩
                have G2 := hid (hG.out.get (RRI.rd hr2) hr2.2)
                clear hr2
                go_wp2_with (at_builtin; refine wpList_appz _ rfl (.tmp 41) (.tmp 44) 22 3 rfl 3 .i64 Try.underlying3 .i64 8 Try.underlying22 Try.info_int (.slice A m cc) m (i64s l) rfl ?d1 (z : Int) z rfl ?d2 (by decide) ?d3 ?_; rotate_right; intro v3 w3 hown hg hmv; have hgr := G2.out.growz hS.out.1 (fun w4 hk4 => G2.out.rd.keep hk4 (fun e => by have := G2.out.new _ e; have := G2.out.lt; omega) fun g' hg' e => by have := G2.out.new _ e; have := HV.out _ hg'; omega) hown hg hmv; obtain ⟨A3, c3, rfl⟩ := hgr.form; rw [HL3.out] at hgr ⊢; have G3 := hid hgr; clear hgr hown hg hmv)
                case d1 => exact G2.out.own_n hS.out.1
                case d2 => exact HZ.out.2.2
                case d3 => omega
                go_wp2_with fail
                with_reducible refine (hC2.out _ G3.out.rd).mono ?_
                rintro e w4 ⟨rfl, hr4⟩
                have G4 := hid (G3.out.get (RRI.rd hr4) hr4.2)
                clear hr4
                go_wp2_with fail
                go_ret2
                unfold LPost
                rw [← HT.out]
                exact ⟨rfl, G4.out.kp, by decide, _, G4.out.rd⟩
              · rw [if_neg hx] at hT
                have hb4 : ((x : Int) == 1099511627775) = false := by rw [beq_eq_false_iff_ne]; omega
                have HZG := hid (fun W => refzag_any (x + 1) W (by omega))
                obtain ⟨x1, hx1⟩ : ∃ x1, x + 1 = x1 := ⟨_, rfl⟩
                rw [hx1] at hwx hT
                simp only [hx1] at HZG
                obtain ⟨q, hq⟩ : ∃ q, zagN x1 = q := ⟨_, rfl⟩
                rw [hq] at HZG hT
                have HT := hid hT
                clear hT hx hx1 h40 hq
                go_wp2_with fail
                with_reducible refine (hC.out).mono ?_
                rintro e w2 ⟨rfl, hr2⟩
                have G2 := hid (hG.out.get (RRI.rd hr2) hr2.2)
                clear hr2
                go_wp2_with (at_builtin; refine wpList_appz _ rfl (.tmp 41) (.tmp 44) 22 3 rfl 3 .i64 Try.underlying3 .i64 8 Try.underlying22 Try.info_int (.slice A m cc) m (i64s l) rfl ?d1 (z : Int) z rfl ?d2 (by decide) ?d3 ?_; rotate_right; intro v3 w3 hown hg hmv; have hgr := G2.out.growz hS.out.1 (fun w4 hk4 => G2.out.rd.keep hk4 (fun e => by have := G2.out.new _ e; have := G2.out.lt; omega) fun g' hg' e => by have := G2.out.new _ e; have := HV.out _ hg'; omega) hown hg hmv; obtain ⟨A3, c3, rfl⟩ := hgr.form; rw [HL3.out] at hgr ⊢; have G3 := hid hgr; clear hgr hown hg hmv)
                case d1 => exact G2.out.own_n hS.out.1
                case d2 => exact HZ.out.2.2
                case d3 => omega
                go_wp2_with fail
                with_reducible refine (hC2.out _ G3.out.rd).mono ?_
                rintro e w4 ⟨rfl, hr4⟩
                have G4 := hid (G3.out.get (RRI.rd hr4) hr4.2)
                clear hr4
                go_wp2_with fail
                with_reducible refine (HZG.out _).mono ?_
                rintro e w5 ⟨rfl, rfl⟩
                go_wp2_with (at_builtin; refine wpList_app1 _ rfl (.tmp 62) (.tmp 66) 22 rfl 3 .i64 8 Try.underlying22 Try.info_int (.slice A3 mz c3) (i64s (l ++ List.replicate z 0)) mz rfl ?d1 ⟨w4.heap.size, 0, none⟩ q rfl ?d3 (by decide) ?d4 (w4.heap.size + 1) ?d5 ?_; rotate_right; intro g' cap w6 hown6 hg6 hat6 hlt6; replace hown6 := hid hown6; replace hg6 := hid hg6; replace hat6 := hid hat6)
                case d1 => exact (G4.out.own_n HL3.out).alloc _
                case d3 => exact World.cell?_alloc_at _ _ _ _ rfl
                case d4 => omega
                case d5 => simp
                have hgr := G4.out.grow HL3.out (fun w4 hk4 => G4.out.rd.keep hk4 (fun e => by have := G4.out.new _ e; have := G4.out.lt; omega) fun g' hg' e => by have := G4.out.new _ e; have := HV.out _ hg'; omega) hown6.out hg6.out hat6.out
                go_roundw
                case rel =>
                  obtain ⟨f', rfl⟩ : ∃ f', f = f' + 1 := ⟨f - 1, by have := hS.out.2.1; omega⟩
                  refine ⟨_, mz + 1, f', b, d + 1, _, _, by omega, rfl, by go_num, by have := HMZ.out; omega, ⟨?_, ?_, HT.out⟩, hgr⟩
                  · rw [List.length_append, HL3.out]; rfl
                  · have := hS.out.2.1; have := HMZ.out; omega
                case measure => have := HMZ.out; simp; omega
            · have he2' : (e2 == 0) = false := by rw [beq_eq_false_iff_ne]; exact he2
              rw [if_pos he2] at hT
              have HT := hid hT
              have HE2 := hid he2
              clear hT he2 h40
              go_wp2_with fail
              with_reducible refine (hC.out).mono ?_
              rintro e w2 ⟨rfl, hr2⟩
              have G2 := hid (hG.out.get (RRI.rd hr2) hr2.2)
              clear hr2
              go_wp2_with (at_builtin; refine wpList_appz _ rfl (.tmp 41) (.tmp 44) 22 3 rfl 3 .i64 Try.underlying3 .i64 8 Try.underlying22 Try.info_int (.slice A m cc) m (i64s l) rfl ?d1 (z : Int) z rfl ?d2 (by decide) ?d3 ?_; rotate_right; intro v3 w3 hown hg hmv; have hgr := G2.out.growz hS.out.1 (fun w4 hk4 => G2.out.rd.keep hk4 (fun e => by have := G2.out.new _ e; have := G2.out.lt; omega) fun g' hg' e => by have := G2.out.new _ e; have := HV.out _ hg'; omega) hown hg hmv; obtain ⟨A3, c3, rfl⟩ := hgr.form; rw [HL3.out] at hgr ⊢; have G3 := hid hgr; clear hgr hown hg hmv)
              case d1 => exact G2.out.own_n hS.out.1
              case d2 => exact HZ.out.2.2
              case d3 => omega
              go_wp2_with fail
              with_reducible refine (hC2.out _ G3.out.rd).mono ?_
              rintro e w4 ⟨rfl, hr4⟩
              have G4 := hid (G3.out.get (RRI.rd hr4) hr4.2)
              clear hr4
              go_wp2_with fail
              go_ret2
              unfold LPost
              rw [← HT.out]
              exact ⟨rfl, G4.out.kp, HE2.out, _, G4.out.rd⟩
      · have he' : (e1 == 0) = false := by rw [beq_eq_false_iff_ne]; exact he
        rw [if_pos he] at hT
        have HT := hid hT
        have HE := hid he
        clear hT he hbd
        go_wp2_with fail
        with_reducible refine (hC.out).mono ?_
        rintro e w2 ⟨rfl, hr2⟩
        have G2 := hid (hG.out.get (RRI.rd hr2) hr2.2)
        clear hr2
        go_wp2_with fail
        go_ret2
        unfold LPost
        rw [← HT.out]
        exact ⟨rfl, G2.out.kp, HE.out, _, G2.out.rd⟩
    · have hin : ¬ (m : Int) < n := by omega
      obtain rfl : m = n := by omega
      go_wp2_with fail
      go_ret2
      have h := hS.out.2.2
      rw [rnF_end (by rw [hS.out.1]; exact Nat.le_refl _)] at h
      unfold LPost
      rw [← h]
      exact ⟨A, cc, rfl, hG.out⟩
end Go.Proofs.Ytjboboaccjbebaa
