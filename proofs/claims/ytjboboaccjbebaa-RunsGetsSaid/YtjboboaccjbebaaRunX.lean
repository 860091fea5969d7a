/- Layer 7: Get. -/
import Derived.Test.YtjboboaccjbebaaRunG
import Derived.Test.YtjboboaccjbebaaRiceGA
import Derived.Test.YtjboboaccjbebaaAppZ
import Derived.Test.YtjboboaccjbebaaRunQ
namespace Go.Proofs.Ytjboboaccjbebaa
open Go.RowKit

theorem ggF_bd {L : List Bool} : ∀ f i, f ≤ 32 → (ggF L f i).2.1 = 0 → 1 ≤ (ggF L f i).1 ∧ (ggF L f i).1 < 4294967296
  | 0, i, _, h => by rw [ggF] at h; exact absurd h (by simp)
  | f + 1, i, hf, h => by
    rw [ggF] at h ⊢
    split at h
    · exact absurd h (by assumption)
    · rename_i h1
      rw [if_neg h1]
      split at h
      · rename_i h2
        rw [if_pos h2]
        split at h
        · exact absurd h (by assumption)
        · rename_i h3
          rw [if_neg h3]
          have h4 := getVal_lt L (getAt L i 1) (31 - f)
          have h5 : 2 ^ (31 - f) ≤ 2 ^ 31 := Nat.pow_le_pow_right (by omega) (by omega)
          have h6 := Nat.two_pow_pos (31 - f)
          show 1 ≤ _ + _ ∧ _ + _ < _
          omega
      · rename_i h2
        rw [if_neg h2]
        exact ggF_bd f _ (by omega) h
theorem ggT_bd {L : List Bool} {i : Nat} (h : (ggT L i).2.1 = 0) : 1 ≤ (ggT L i).1 ∧ (ggT L i).1 < 4294967296 := ggF_bd 32 i (Nat.le_refl _) h
theorem rgT_40 {L : List Bool} {i k : Nat} (hk : k ≤ 30) : (rgT L i k).1 < 1099511627776 := by
  rw [rgT]
  have h1 := onesVal_le L i 24
  have h2 := getVal_lt L (onesAt L i 24) k
  have h3 := getVal_lt L (onesAt L i 24) 40
  rw [show ((24 : Nat) : Int) = 24 from rfl] at h1
  rw [show ((40 : Nat) : Int) = 40 from rfl] at h3
  have h4 : 2 ^ k ≤ 2 ^ 30 := Nat.pow_le_pow_right (by omega) hk
  have h5 := Nat.mul_le_mul h1 h4
  split
  · show 0 < _; omega
  · split
    · split
      · show 0 < _; omega
      · show _ + _ < _; omega
    · split
      · show 0 < _; omega
      · split
        · show 0 < _; omega
        · show getVal L (onesAt L i 24) 40 < _; omega

/-- One more round of Get. -/
theorem rnF_end {L : List Bool} {k N f i : Nat} {out : List Int} (h : N ≤ out.length) : rnF L k N (f + 1) out i = .ok (out, i) := by rw [rnF, if_pos h]
theorem rnF_step {L : List Bool} {k N f i : Nat} {out : List Int} (h : out.length < N) : rnF L k N (f + 1) out i =
    if (ggT L i).2.1 ≠ 0 then .error (ggT L i).2.1
    else if N - out.length + 1 < (ggT L i).1 then .error 12
    else if out.length + ((ggT L i).1 - 1) = N then .ok (out ++ List.replicate ((ggT L i).1 - 1) 0, (ggT L i).2.2)
    else if (rgT L (ggT L i).2.2 k).2.1 ≠ 0 then .error (rgT L (ggT L i).2.2 k).2.1
    else if (rgT L (ggT L i).2.2 k).1 = 1099511627775 then .error 12
    else rnF L k N f (out ++ List.replicate ((ggT L i).1 - 1) 0 ++ [zagN ((rgT L (ggT L i).2.2 k).1 + 1)]) (rgT L (ggT L i).2.2 k).2.2 := by
  rw [rnF, if_neg (by omega)]

/-- The state of Get: a reader (of any sort R) and what was got. -/
structure GI (R : World → Nat → Prop) (w : World) (p : Nat) (j : Nat) (l : List Int) (u : Value) (wr : World) : Prop where
  rd : R wr j
  kp : Kept (fun k => k = p) w wr
  own : wr.ownsRow 0 3 1 u l.length (i64s l)
  new : ∀ g, u.ownBlock = some g → w.heap.size ≤ g
  lt : p < w.heap.size
section
variable {R : World → Nat → Prop} {w wr w1 w2 : World} {p j j' : Nat} {u u' : Value} {l : List Int}
theorem GI.get (h : GI R w p j l u wr) (h1 : R w1 j') (k : Kept (fun k => k = p) wr w1) : GI R w p j' l u w1 :=
  ⟨h1, h.kp.trans k fun _ _ e => e, own_kept h.own k fun g hg e => by have := h.new g hg; have := h.lt; omega, h.new, h.lt⟩
theorem GI.grow {x : Int} {n g cap : Nat} {o : Obj} (h : GI R w p j l u wr) (hn : l.length = n)
    (hR : ∀ w2, Kept (fun k => u.ownBlock = some k) wr w2 → R w2 j)
    (hown : w2.ownsRow 0 3 1 (.slice (some ⟨g, 0, none⟩) (n + 1) cap) (n + 1) (i64s l ++ [.int .i64 x])) (hg : (wr.alloc o).grownBy w2 u.ownBlock) (hm : u.ownBlock = some g ∨ g = wr.heap.size + 1) :
    GI R w p j (l ++ [x]) (.slice (some ⟨g, 0, none⟩) (n + 1) cap) w2 := by
  subst hn
  rw [i64s_append_one] at hown
  have hs := h.kp.size
  have hk : Kept (fun k => u.ownBlock = some k) wr w2 := ((Kept.refl _ wr).alloc o).grown hg fun k hk _ => hk
  refine ⟨hR w2 hk, (h.kp.alloc o).grown hg fun k hk hl => by have := h.new k hk; omega, by rw [List.length_append]; exact hown, fun k hk => ?_, h.lt⟩
  simp [Value.ownBlock] at hk
  subst hk
  rcases hm with e | e
  · exact h.new g e
  · omega
theorem GI.growz {n m : Nat} (h : GI R w p j l u wr) (hn : l.length = n)
    (hR : ∀ w2, Kept (fun k => u.ownBlock = some k) wr w2 → R w2 j)
    (hown : w2.ownsRow 0 3 1 u' (n + m) (i64s l ++ List.replicate m (.int .i64 0))) (hg : wr.grownBy w2 u.ownBlock) (hm : Moved wr u u') :
    GI R w p j (l ++ List.replicate m 0) u' w2 := by
  subst hn
  have e : i64s l ++ List.replicate m (.int .i64 0) = i64s (l ++ List.replicate m 0) := by simp [i64s]
  rw [e] at hown
  have hs := h.kp.size
  have hk : Kept (fun k => u.ownBlock = some k) wr w2 := (Kept.refl _ wr).grown hg fun k hk _ => hk
  refine ⟨hR w2 hk, h.kp.grown hg fun k hk hl => by have := h.new k hk; omega, by rw [List.length_append, List.length_replicate]; exact hown, fun k hk => ?_, h.lt⟩
  rcases hm with e | ⟨g, e, hge⟩
  · exact h.new k (e ▸ hk)
  · rw [hk] at e
    injection e with e
    omega
theorem GI.own_n {n : Nat} (h : GI R w p j l u wr) (hn : l.length = n) : wr.ownsRow 0 3 1 u n (i64s l) := hn ▸ h.own
theorem GI.form (h : GI R w p j l u wr) : ∃ A c, u = .slice A l.length c := by
  obtain ⟨A, c, e, _⟩ := (Sl.of_own h.own).form
  rw [i64s_length] at e
  exact ⟨A, c, e⟩
end

/-- What Get hands back. -/
def LPost (R : World → Nat → Prop) (w : World) (p : Nat) (S : Except Int (List Int × Nat)) (n : Nat) (e : Ending) (w' : World) : Prop :=
  match S with
  | .ok (l, j) => ∃ A c, e = .returned (.tuple #[.slice A n c, .int .i64 0]) ∧ GI R w p j l (.slice A n c) w'
  | .error x => e = .returned (.tuple #[.slice none 0 0, .int .i64 x]) ∧ Kept (fun k => k = p) w w' ∧ x ≠ 0 ∧ ∃ j, R w' j

theorem getl_arg (p : Nat) (n k : Int) (w : World) (h : paramB k = false ∨ n < 0 ∨ 1048576 < n) : Calls Try.prog 38 #[.pointer (some ⟨p, 0, none⟩), .int .i64 n, .int .i64 k] w fun e w' => e = .returned (.tuple #[.slice none 0 0, .int .i64 1]) ∧ w = w' := by
  by_cases h1 : k < 0
  · go_enter Try.func38, Try.ntmps38
    go_wp2_with fail
    go_ret2
    exact ⟨rfl, rfl⟩
  by_cases h2 : 30 < k
  · go_enter Try.func38, Try.ntmps38
    go_wp2_with fail
    go_ret2
    exact ⟨rfl, rfl⟩
  by_cases h3 : n < 0
  · go_enter Try.func38, Try.ntmps38
    go_wp2_with fail
    go_ret2
    exact ⟨rfl, rfl⟩
  have h4 : 1048576 < n := by
    rcases h with h | h | h
    · have := (paramB_iff k).2 ⟨by omega, by omega⟩
      rw [this] at h
      cases h
    · omega
    · exact h
  clear h
  go_enter Try.func38, Try.ntmps38
  go_wp2_with fail
  go_ret2
  exact ⟨rfl, rfl⟩

set_option maxRecDepth 100000 in
set_option maxHeartbeats 8000000 in
theorem getl_any (w : World) (p : Nat) (v : Value) (F : List Nat) (i k n : Nat) (h : Rd w p v F i) (hk : k ≤ 30) (hn : n ≤ 1048576) (hv : ∀ g, v.ownBlock = some g → g < w.heap.size) :
    Calls Try.prog 38 #[.pointer (some ⟨p, 0, none⟩), .int .i64 (n : Int), .int .i64 (k : Int)] w (LPost (fun w' j => Rd w' p v F j) w p (rnT (flat F) k n i) n) := by
  have HG := hid (fun w' j (h : Rd w' p v F j) => getgamma_any w' p v F j h)
  have HRG := hid (fun w' j (h : Rd w' p v F j) => rget_any w' p v F j k h hk)
  have HV := hid hv
  have G0 := hid (show GI (fun w' j => Rd w' p v F j) w p i [] (.slice none 0 0) w from ⟨h, .refl _ _, World.ownsRow_nil _ _ _ _, by simp [Value.ownBlock], h.blk.lt⟩)
  clear h hv
  obtain ⟨L, hL⟩ : ∃ L, flat F = L := ⟨_, rfl⟩
  rw [hL] at HG HRG ⊢
  clear hL
  have H40 := hid (fun j => @rgT_40 L j k hk)
  obtain ⟨S, hS⟩ : ∃ S, rnT L k n i = S := ⟨_, rfl⟩
  rw [hS]
  have HS0 := hid (show rnF L k n (n + 1) [] i = S from hS)
  clear hS
  have qq1 : ¬ (k : Int) < 0 := by omega
  have qq2 : ¬ (30 : Int) < k := by omega
  have qq3 : ¬ (n : Int) < 0 := by omega
  have qq4 : ¬ (1048576 : Int) < n := by omega
  go_enter Try.func38, Try.ntmps38
  go_wp2_with fail
  go_loopw [8] (fun o wr => ∃ (l : List Int) (m f j : Nat) (A : Option Addr) (cc : Nat), m ≤ n ∧ o = .slice A m cc ∧ Hid (l.length = m ∧ n - m ≤ f ∧ rnF L k n (f + 1) l j = S) ∧ Hid (GI (fun w' j => Rd w' p v F j) w p j l (.slice A m cc) wr)) (fun o _ => n - (match o with | .slice _ m _ => m | _ => 0))
  case atStart => exact ⟨[], 0, n, i, none, 0, by omega, rfl, ⟨rfl, by omega, HS0.out⟩, G0.out⟩
  case round =>
    obtain ⟨l, m, f, j, A, cc, hm, rfl, hS, hG⟩ := hrel
    by_cases hmn : m < n
    · have hin : (m : Int) < n := by omega
      have hC := HG.out wr j hG.out.rd
      have hT := (rnF_step (L := L) (k := k) (N := n) (f := f) (i := j) (out := l) (by rw [hS.out.1]; exact hmn)).symm.trans hS.out.2.2
      rw [hS.out.1] at hT
      have hbd := @ggT_bd L j
      obtain ⟨r, hr⟩ : ∃ r, ggT L j = r := ⟨_, rfl⟩
      rw [hr] at hC hT hbd
      clear hr
      obtain ⟨g, e1, a⟩ := r
      simp only at hT hbd
      replace hC := hid hC
      by_cases he : e1 = 0
      · subst he
        rw [if_neg (by simp)] at hT
        obtain ⟨g1, g2⟩ := hbd rfl
        have hw1 : IntKind.u64.wrap ((g : Int) - 1) = ((g - 1 : Nat) : Int) := by rw [IntWalk.u64_in _ (by omega)]; omega
        have hw2 : IntKind.i64.wrap ((n : Int) - (m : Int)) = ((n - m : Nat) : Int) := by rw [IntWalk.i64_in _ (by omega)]; omega
        obtain ⟨z, hz⟩ : ∃ z, g - 1 = z := ⟨_, rfl⟩
        rw [hz] at hw1 hT
        obtain ⟨y, hy⟩ : ∃ y, n - m = y := ⟨_, rfl⟩
        rw [hy] at hw2 hT
        have hw3 : IntKind.u64.wrap (y : Int) = (y : Int) := IntWalk.u64_in _ (by omega)
        by_cases hbig : y + 1 < g
        · have hb : (y : Int) < z := by omega
          rw [if_pos hbig] at hT
          have HT := hid hT
          clear hT hbd hz hy hbig
          go_wp2_with fail
          with_reducible refine (hC.out).mono ?_
          rintro e w2 ⟨rfl, hr2⟩
          have G2 := hid (hG.out.get (RI.rd hr2) hr2.2)
          clear hr2
          go_wp2_with fail
          go_ret2
          unfold LPost
          rw [← HT.out]
          exact ⟨rfl, G2.out.kp, by decide, _, G2.out.rd⟩
        · have hb : ¬ (y : Int) < z := by omega
          rw [if_neg hbig] at hT
          have hwz : IntKind.i64.wrap (z : Int) = (z : Int) := IntWalk.i64_in _ (by omega)
          have hzb : m + z ≤ n := by omega
          have HZ := hid (And.intro hz (And.intro hy hwz))
          by_cases hend : m + z = n
          · rw [if_pos hend] at hT
            have hbe : (((m + z : Nat) : Int) == (n : Int)) = true := by rw [beq_iff_eq]; omega
            have HT := hid hT
            have HEND := hid hend
            obtain ⟨mz, hmz⟩ : ∃ mz, m + z = mz := ⟨_, rfl⟩
            rw [hmz] at hbe HEND
            have HMZ := hid hmz
            have HL3 := hid (show (l ++ List.replicate z (0 : Int)).length = mz by rw [List.length_append, List.length_replicate, hS.out.1, hmz])
            clear hT hbd hz hy hbig hend hmz hwz
            go_wp2_with fail
            with_reducible refine (hC.out).mono ?_
            rintro e w2 ⟨rfl, hr2⟩
            have G2 := hid (hG.out.get (RI.rd hr2) hr2.2)
            clear hr2
            go_wp2_with (at_builtin; refine wpList_appz _ rfl (.tmp 52) (.tmp 54) 22 42 rfl 3 .u64 Try.underlying42 .i64 8 Try.underlying22 Try.info_int (.slice A m cc) m (i64s l) rfl ?d1 (z : Int) z rfl ?d2 (by decide) ?d3 ?_; rotate_right; intro v3 w3 hown hg hmv; have hgr := G2.out.growz hS.out.1 (fun w4 hk4 => G2.out.rd.keep hk4 (fun e => by have := G2.out.new _ e; have := G2.out.lt; omega) fun g' hg' e => by have := G2.out.new _ e; have := HV.out _ hg'; omega) hown hg hmv; obtain ⟨A3, c3, rfl⟩ := hgr.form; rw [HL3.out] at hgr ⊢; have G3 := hid hgr; clear hgr hown hg hmv)
            case d1 => exact G2.out.own_n hS.out.1
            case d2 => exact HZ.out.2.2
            case d3 => omega
            go_wp2_with fail
            go_ret2
            unfold LPost
            rw [← HT.out]
            obtain rfl := HEND.out
            exact ⟨A3, c3, rfl, G3.out⟩
          · rw [if_neg hend] at hT
            have hbe : (((m + z : Nat) : Int) == (n : Int)) = false := by rw [beq_eq_false_iff_ne]; omega
            have hmz2 : m + z < n := by omega
            obtain ⟨mz, hmz⟩ : ∃ mz, m + z = mz := ⟨_, rfl⟩
            rw [hmz] at hbe hmz2
            have hC2 := fun w' (hw : Rd w' p v F a) => HRG.out w' a hw
            have h40 := H40.out a
            obtain ⟨r2, hr2⟩ : ∃ r2, rgT L a k = r2 := ⟨_, rfl⟩
            rw [hr2] at hT h40
            simp only [hr2] at hC2
            clear hr2
            obtain ⟨x, e2, b⟩ := r2
            simp only at hT h40
            have HMZ := hid hmz
            have HL3 := hid (show (l ++ List.replicate z (0 : Int)).length = mz by rw [List.length_append, List.length_replicate, hS.out.1, hmz])
            replace hC2 := hid hC2
            clear hbd hz hy hbig hend hmz hwz
            by_cases he2 : e2 = 0
            · subst he2
              rw [if_neg (by simp)] at hT
              have hwx : IntKind.u64.wrap ((x : Int) + 1) = ((x + 1 : Nat) : Int) := by rw [IntWalk.u64_in _ (by omega)]; omega
              by_cases hx : x = 1099511627775
              · rw [if_pos hx] at hT
                have hb4 : (((x + 1 : Nat) : Int) / 1099511627776 != 0) = true := by rw [bne_iff_ne]; omega
                obtain ⟨x1, hx1⟩ : ∃ x1, x + 1 = x1 := ⟨_, rfl⟩
                rw [hx1] at hwx hb4
                have HT := hid hT
                clear hT hx hx1 h40
                go_wp2_with fail
                with_reducible refine (hC.out).mono ?_
                rintro e w2 ⟨rfl, hr2⟩
                have G2 := hid (hG.out.get (RI.rd hr2) hr2.2)
                clear hr2
                go_wp2_with (at_builtin; refine wpList_appz _ rfl (.tmp 52) (.tmp 54) 22 42 rfl 3 .u64 Try.underlying42 .i64 8 Try.underlying22 Try.info_int (.slice A m cc) m (i64s l) rfl ?d1 (z : Int) z rfl ?d2 (by decide) ?d3 ?_; rotate_right; intro v3 w3 hown hg hmv; have hgr := G2.out.growz hS.out.1 (fun w4 hk4 => G2.out.rd.keep hk4 (fun e => by have := G2.out.new _ e; have := G2.out.lt; omega) fun g' hg' e => by have := G2.out.new _ e; have := HV.out _ hg'; omega) hown hg hmv; obtain ⟨A3, c3, rfl⟩ := hgr.form; rw [HL3.out] at hgr ⊢; have G3 := hid hgr; clear hgr hown hg hmv)
                case d1 => exact G2.out.own_n hS.out.1
                case d2 => exact HZ.out.2.2
                case d3 => omega
                go_wp2_with fail
                with_reducible refine (hC2.out _ G3.out.rd).mono ?_
                rintro e w4 ⟨rfl, hr4⟩
                have G4 := hid (G3.out.get (RI.rd hr4) hr4.2)
                clear hr4
                go_wp2_with fail
                go_ret2
                unfold LPost
                rw [← HT.out]
                exact ⟨rfl, G4.out.kp, by decide, _, G4.out.rd⟩
              · rw [if_neg hx] at hT
                have hb4 : (((x + 1 : Nat) : Int) / 1099511627776 != 0) = false := by rw [bne_eq_false_iff_eq]; omega
                have HZG := hid (fun W => zag_any (x + 1) W (by omega))
                obtain ⟨x1, hx1⟩ : ∃ x1, x + 1 = x1 := ⟨_, rfl⟩
                rw [hx1] at hwx hb4 hT
                simp only [hx1] at HZG
                obtain ⟨q, hq⟩ : ∃ q, zagN x1 = q := ⟨_, rfl⟩
                rw [hq] at HZG hT
                have HT := hid hT
                clear hT hx hx1 h40 hq
                go_wp2_with fail
                with_reducible refine (hC.out).mono ?_
                rintro e w2 ⟨rfl, hr2⟩
                have G2 := hid (hG.out.get (RI.rd hr2) hr2.2)
                clear hr2
                go_wp2_with (at_builtin; refine wpList_appz _ rfl (.tmp 52) (.tmp 54) 22 42 rfl 3 .u64 Try.underlying42 .i64 8 Try.underlying22 Try.info_int (.slice A m cc) m (i64s l) rfl ?d1 (z : Int) z rfl ?d2 (by decide) ?d3 ?_; rotate_right; intro v3 w3 hown hg hmv; have hgr := G2.out.growz hS.out.1 (fun w4 hk4 => G2.out.rd.keep hk4 (fun e => by have := G2.out.new _ e; have := G2.out.lt; omega) fun g' hg' e => by have := G2.out.new _ e; have := HV.out _ hg'; omega) hown hg hmv; obtain ⟨A3, c3, rfl⟩ := hgr.form; rw [HL3.out] at hgr ⊢; have G3 := hid hgr; clear hgr hown hg hmv)
                case d1 => exact G2.out.own_n hS.out.1
                case d2 => exact HZ.out.2.2
                case d3 => omega
                go_wp2_with fail
                with_reducible refine (hC2.out _ G3.out.rd).mono ?_
                rintro e w4 ⟨rfl, hr4⟩
                have G4 := hid (G3.out.get (RI.rd hr4) hr4.2)
                clear hr4
                go_wp2_with fail
                with_reducible refine (HZG.out _).mono ?_
                rintro e w5 ⟨rfl, rfl⟩
                go_wp2_with (at_builtin; refine wpList_app1 _ rfl (.tmp 75) (.tmp 79) 22 rfl 3 .i64 8 Try.underlying22 Try.info_int (.slice A3 mz c3) (i64s (l ++ List.replicate z 0)) mz rfl ?d1 ⟨w4.heap.size, 0, none⟩ q rfl ?d3 (by decide) ?d4 (w4.heap.size + 1) ?d5 ?_; rotate_right; intro g' cap w6 hown6 hg6 hat6 hlt6; replace hown6 := hid hown6; replace hg6 := hid hg6; replace hat6 := hid hat6)
                case d1 => exact (G4.out.own_n HL3.out).alloc _
                case d3 => exact World.cell?_alloc_at _ _ _ _ rfl
                case d4 => omega
                case d5 => simp
                have hgr := G4.out.grow HL3.out (fun w4 hk4 => G4.out.rd.keep hk4 (fun e => by have := G4.out.new _ e; have := G4.out.lt; omega) fun g' hg' e => by have := G4.out.new _ e; have := HV.out _ hg'; omega) hown6.out hg6.out hat6.out
                go_roundw
                case rel =>
                  obtain ⟨f', rfl⟩ : ∃ f', f = f' + 1 := ⟨f - 1, by have := hS.out.2.1; omega⟩
                  refine ⟨_, mz + 1, f', b, _, _, by omega, rfl, ⟨?_, ?_, HT.out⟩, hgr⟩
                  · rw [List.length_append, HL3.out]; rfl
                  · have := hS.out.2.1; have := HMZ.out; omega
                case measure => have := HMZ.out; simp; omega
            · have he2' : (e2 == 0) = false := by rw [beq_eq_false_iff_ne]; exact he2
              rw [if_pos he2] at hT
              have HT := hid hT
              have HE2 := hid he2
              clear hT he2 h40
              go_wp2_with fail
              with_reducible refine (hC.out).mono ?_
              rintro e w2 ⟨rfl, hr2⟩
              have G2 := hid (hG.out.get (RI.rd hr2) hr2.2)
              clear hr2
              go_wp2_with (at_builtin; refine wpList_appz _ rfl (.tmp 52) (.tmp 54) 22 42 rfl 3 .u64 Try.underlying42 .i64 8 Try.underlying22 Try.info_int (.slice A m cc) m (i64s l) rfl ?d1 (z : Int) z rfl ?d2 (by decide) ?d3 ?_; rotate_right; intro v3 w3 hown hg hmv; have hgr := G2.out.growz hS.out.1 (fun w4 hk4 => G2.out.rd.keep hk4 (fun e => by have := G2.out.new _ e; have := G2.out.lt; omega) fun g' hg' e => by have := G2.out.new _ e; have := HV.out _ hg'; omega) hown hg hmv; obtain ⟨A3, c3, rfl⟩ := hgr.form; rw [HL3.out] at hgr ⊢; have G3 := hid hgr; clear hgr hown hg hmv)
              case d1 => exact G2.out.own_n hS.out.1
              case d2 => exact HZ.out.2.2
              case d3 => omega
              go_wp2_with fail
              with_reducible refine (hC2.out _ G3.out.rd).mono ?_
              rintro e w4 ⟨rfl, hr4⟩
              have G4 := hid (G3.out.get (RI.rd hr4) hr4.2)
              clear hr4
              go_wp2_with fail
              go_ret2
              unfold LPost
              rw [← HT.out]
              exact ⟨rfl, G4.out.kp, HE2.out, _, G4.out.rd⟩
      · have he' : (e1 == 0) = false := by rw [beq_eq_false_iff_ne]; exact he
        rw [if_pos he] at hT
        have HT := hid hT
        have HE := hid he
        clear hT he hbd
        go_wp2_with fail
        with_reducible refine (hC.out).mono ?_
        rintro e w2 ⟨rfl, hr2⟩
        have G2 := hid (hG.out.get (RI.rd hr2) hr2.2)
        clear hr2
        go_wp2_with fail
        go_ret2
        unfold LPost
        rw [← HT.out]
        exact ⟨rfl, G2.out.kp, HE.out, _, G2.out.rd⟩
    · have hin : ¬ (m : Int) < n := by omega
      obtain rfl : m = n := by omega
      go_wp2_with fail
      go_ret2
      have h := hS.out.2.2
      rw [rnF_end (by rw [hS.out.1]; exact Nat.le_refl _)] at h
      unfold LPost
      rw [← h]
      exact ⟨A, cc, rfl, hG.out⟩
end Go.Proofs.Ytjboboaccjbebaa
