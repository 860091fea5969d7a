/- Plain law of layer 7: noughts and what comes behind them: codes, costs, and what codes are read as. -/
import Derived.Test.YtjboboaccjbebaaRBackP
namespace Go.Proofs.Ytjboboaccjbebaa
open Go.RowKit

/-- Numbers below 0 folded between the others, and back. -/
def zigN (x : Int) : Nat := if 0 ≤ x then 2 * x.toNat else 2 * (-(x + 1)).toNat + 1
def zagN (u : Nat) : Int := if u % 2 = 0 then ((u / 2 : Nat) : Int) else -((u / 2 : Nat) : Int) - 1
theorem zag_zig (x : Int) : zagN (zigN x) = x := by
  unfold zagN zigN
  split <;> split <;> omega
theorem zig_zag (u : Nat) : zigN (zagN u) = u := by
  unfold zagN zigN
  split <;> split <;> omega
theorem zig_zero {x : Int} (h : x ≠ 0) : 1 ≤ zigN x := by
  unfold zigN
  split <;> omega
theorem zig_lt {x : Int} (h1 : -9223372036854775808 ≤ x) (h2 : x ≤ 9223372036854775807) : zigN x < 18446744073709551616 := by
  unfold zigN
  split <;> omega

/-- The gamma code. -/
def gamB (v : Nat) : Bool := decide (1 ≤ v ∧ v ≤ 4294967295)
def gamC (v : Nat) : List Bool := if gamB v = true then List.replicate (wid v - 1) false ++ bitsOf v (wid v) else []
def gamCost (v : Nat) : Nat := if gamB v = true then 2 * wid v - 1 else 0
theorem gamB_iff (v : Nat) : gamB v = true ↔ 1 ≤ v ∧ v ≤ 4294967295 := by unfold gamB; rw [decide_eq_true_iff]
theorem gam_wid {v : Nat} (h : gamB v = true) : 1 ≤ wid v ∧ wid v ≤ 32 ∧ 2 ^ (wid v - 1) ≤ v ∧ v < 2 ^ wid v := by
  have h := (gamB_iff v).1 h
  have h1 := wid_ge v (by omega) (by omega)
  exact ⟨h1.2, wid_le v 32 (by omega) (by omega), h1.1, wid_lt v (by omega)⟩
theorem gamC_length (v : Nat) : (gamC v).length = gamCost v := by
  unfold gamC gamCost
  split
  · rename_i h
    have := gam_wid h
    rw [List.length_append, List.length_replicate, bitsOf_length]
    omega
  · rfl
theorem gamCost_le (v : Nat) : gamCost v ≤ 63 := by
  unfold gamCost
  split
  · rename_i h
    have := gam_wid h
    omega
  · omega

/-- How many noughts stand ahead. -/
def lz : List Int → Nat
  | [] => 0
  | x :: xs => if x = 0 then lz xs + 1 else 0
theorem lz_le (l : List Int) : lz l ≤ l.length := by
  induction l with
  | nil => exact Nat.le_refl _
  | cons x xs ih => rw [lz]; split <;> simp <;> omega
theorem lz_take (l : List Int) : l = List.replicate (lz l) 0 ++ l.drop (lz l) := by
  induction l with
  | nil => rfl
  | cons x xs ih =>
    rw [lz]
    split
    · rename_i h
      rw [List.replicate_succ, List.cons_append, List.drop_succ_cons, ← ih, h]
    · simp
theorem lz_at {l : List Int} (h : lz l < l.length) : l[lz l] ≠ 0 := by
  induction l with
  | nil => simp at h
  | cons x xs ih =>
    by_cases hx : x = 0
    · have e : lz (x :: xs) = lz xs + 1 := by rw [lz, if_pos hx]
      have h' : lz xs < xs.length := by rw [e] at h; simpa using h
      have := ih h'
      simpa [e] using this
    · have e : lz (x :: xs) = 0 := by rw [lz, if_neg hx]
      simpa [e] using hx
/-- Noughts, and the number behind them, if there is one. -/
def items (n : Nat) : List Int → List (Nat × Option Int)
  | [] => if 0 < n then [(n, none)] else []
  | x :: xs => if x = 0 then items (n + 1) xs else (n, some x) :: items 0 xs
theorem items_eq (n : Nat) (l : List Int) : items n l = if h : lz l < l.length then (n + lz l, some l[lz l]) :: items 0 (l.drop (lz l + 1)) else if 0 < n + lz l then [(n + lz l, none)] else [] := by
  induction l generalizing n with
  | nil => rw [items, dif_neg (by simp [lz])]; rfl
  | cons x xs ih =>
    rw [items]
    by_cases hx : x = 0
    · rw [if_pos hx, ih (n + 1)]
      have e : lz (x :: xs) = lz xs + 1 := by rw [lz, if_pos hx]
      by_cases h : lz xs < xs.length
      · have h' : lz (x :: xs) < (x :: xs).length := by rw [e]; simpa using h
        rw [dif_pos h, dif_pos h']
        simp only [e, List.getElem_cons_succ, List.drop_succ_cons]
        rw [show n + (lz xs + 1) = n + 1 + lz xs by omega]
      · have h' : ¬ lz (x :: xs) < (x :: xs).length := by rw [e]; simpa using h
        rw [dif_neg h, dif_neg h', e, show n + (lz xs + 1) = n + 1 + lz xs by omega]
    · have e : lz (x :: xs) = 0 := by rw [lz, if_neg hx]
      rw [if_neg hx]
      rw [dif_pos (by rw [e]; simp)]
      simp [e]

/-- What stands for noughts, and for the number behind them. -/
def codeI (k : Int) (a : Nat × Option Int) : List Bool := gamC (a.1 + 1) ++ (match a.2 with | none => [] | some x => codeR (zigN x - 1) k)
def costI (k : Int) (a : Nat × Option Int) : Nat := gamCost (a.1 + 1) + (match a.2 with | none => 0 | some x => costR (zigN x - 1) k)
theorem codeI_length (k : Int) (a : Nat × Option Int) : (codeI k a).length = costI k a := by
  obtain ⟨n, o⟩ := a
  cases o with
  | none => unfold codeI costI; rw [List.length_append, gamC_length]; rfl
  | some x => unfold codeI costI; rw [List.length_append, gamC_length, codeR_length]
theorem costI_le (k : Int) (a : Nat × Option Int) : costI k a ≤ 127 := by
  obtain ⟨n, o⟩ := a
  have := gamCost_le (n + 1)
  cases o with
  | none => unfold costI; simp; omega
  | some x => unfold costI; have := costR_le (zigN x - 1) k; simp; omega
def codeL (l : List Int) (k : Int) : List Bool := (items 0 l).flatMap (codeI k)
def sumI (k : Int) (P : List (Nat × Option Int)) : Nat := (P.map (costI k)).sum
theorem sumI_snoc (k : Int) (P : List (Nat × Option Int)) (a : Nat × Option Int) : sumI k (P ++ [a]) = sumI k P + costI k a := by simp [sumI]
theorem sumI_le (k : Int) (P : List (Nat × Option Int)) : sumI k P ≤ P.length * 127 := by
  induction P with
  | nil => simp [sumI]
  | cons a P ih =>
    have e : sumI k (a :: P) = costI k a + sumI k P := by simp [sumI]
    have := costI_le k a
    rw [e, List.length_cons]
    omega
theorem codeI_sum (k : Int) (P : List (Nat × Option Int)) : (P.flatMap (codeI k)).length = sumI k P := by
  induction P with
  | nil => rfl
  | cons a P ih =>
    rw [List.flatMap_cons, List.length_append, ih, codeI_length]
    simp [sumI]
theorem items_length (n : Nat) (l : List Int) : (items n l).length ≤ l.length + 1 := by
  induction l generalizing n with
  | nil => rw [items]; split <;> simp
  | cons x xs ih =>
    rw [items]
    split
    · have := ih (n + 1); simp; omega
    · have := ih 0; simp; omega
theorem codeL_length (l : List Int) (k : Int) : (codeL l k).length = sumI k (items 0 l) := codeI_sum k _
theorem codeL_le (l : List Int) (k : Int) : (codeL l k).length ≤ (l.length + 1) * 127 := by
  rw [codeL_length]
  exact Nat.le_trans (sumI_le _ _) (Nat.mul_le_mul_right _ (items_length 0 l))
def codedB (l : List Int) : Bool := l.all fun x => decide (zigN x < 1099511627776)
def costL (l : List Int) (k : Int) : Nat := if paramB k = true ∧ codedB l = true then (codeL l k).length else 0

/-- What Gamma is read as: fuel f, 32 - f noughts so far. -/
def ggF (L : List Bool) : Nat → Nat → Nat × Int × Nat
  | 0, i => (0, 12, i)
  | f + 1, i =>
    if getErr L i 1 ≠ 0 then (0, getErr L i 1, getAt L i 1)
    else if getVal L i 1 = 1 then
      (if getErr L (getAt L i 1) ((31 - f : Nat) : Int) ≠ 0 then (0, getErr L (getAt L i 1) ((31 - f : Nat) : Int), getAt L (getAt L i 1) ((31 - f : Nat) : Int))
       else (2 ^ (31 - f) + getVal L (getAt L i 1) ((31 - f : Nat) : Int), 0, getAt L (getAt L i 1) ((31 - f : Nat) : Int)))
    else ggF L f (getAt L i 1)
def ggT (L : List Bool) (i : Nat) : Nat × Int × Nat := ggF L 32 i
theorem ggF_code {L T : List Bool} {x : Nat} : ∀ (m f i : Nat), m ≤ f → f ≤ 31 → L.drop i = List.replicate m false ++ (true :: (bitsOf x (31 - f + m) ++ T)) → x < 2 ^ (31 - f + m) → i ≤ L.length →
    ggF L (f + 1) i = (2 ^ (31 - f + m) + x, 0, i + m + 1 + (31 - f + m))
  | 0, f, i, hm, hf, h, hx, hi => by
    have h1 : L.drop i = bitsOf 1 1 ++ (bitsOf x (31 - f) ++ T) := by rw [h]; rfl
    obtain ⟨g1, g2, g3, g4, g5⟩ := get_seg h1 (by decide) (by omega) hi
    rw [show ((1 : Nat) : Int) = 1 from rfl] at g1 g2 g3
    obtain ⟨k1, k2, k3, _, _⟩ := get_seg g4 hx (by omega) g5
    rw [ggF, g1, g2, g3, k1, k2, k3]
    simp
  | m + 1, f, i, hm, hf, h, hx, hi => by
    obtain ⟨f', rfl⟩ : ∃ f', f = f' + 1 := ⟨f - 1, by omega⟩
    have h1 : L.drop i = bitsOf 0 1 ++ (List.replicate m false ++ (true :: (bitsOf x (31 - (f' + 1) + (m + 1)) ++ T))) := by rw [h, List.replicate_succ]; rfl
    obtain ⟨g1, g2, g3, g4, g5⟩ := get_seg h1 (by decide) (by omega) hi
    rw [show ((1 : Nat) : Int) = 1 from rfl] at g1 g2 g3
    have e : 31 - (f' + 1) + (m + 1) = 31 - f' + m := by omega
    rw [e] at g4 hx ⊢
    have ih := ggF_code m f' (i + 1) (by omega) (by omega) g4 hx g5
    rw [ggF, g1, g2, g3, ih]
    simp
    omega
theorem gg_code {L T : List Bool} {i v : Nat} (hv : gamB v = true) (h : L.drop i = gamC v ++ T) (hi : i ≤ L.length) : ggT L i = (v, 0, i + gamCost v) := by
  obtain ⟨w1, w2, w3, w4⟩ := gam_wid hv
  unfold gamC at h
  rw [if_pos hv, List.append_assoc] at h
  have e2 : 2 ^ wid v = 2 * 2 ^ (wid v - 1) := by
    rw [show 2 * 2 ^ (wid v - 1) = 2 ^ (wid v - 1 + 1) from by rw [Nat.pow_succ]; omega, show wid v - 1 + 1 = wid v by omega]
  have hb : bitsOf v (wid v) = true :: bitsOf (v - 2 ^ (wid v - 1)) (wid v - 1) := by
    rw [bitsOf_bit v (wid v) w1]
    congr 1
    · obtain ⟨q, hq⟩ : ∃ q, wid v - 1 = q := ⟨_, rfl⟩
      rw [hq] at w3 e2 ⊢
      obtain ⟨y, hy⟩ : ∃ y, v = 2 ^ q * 1 + y := ⟨v - 2 ^ q, by omega⟩
      rw [hy, Nat.testBit_two_pow_mul_add _ (by omega)]
      simp
    · have e : v % 2 ^ (wid v - 1) = v - 2 ^ (wid v - 1) := by rw [Nat.mod_eq_sub_mod (by omega), Nat.mod_eq_of_lt (by omega)]
      rw [← bitsOf_mod v _ _ (Nat.le_refl _), e]
  rw [hb, List.cons_append] at h
  have := ggF_code (L := L) (T := T) (x := v - 2 ^ (wid v - 1)) (wid v - 1) 31 i (by omega) (by omega) (by simpa using h) (by simp; omega) hi
  unfold ggT
  rw [this]
  unfold gamCost
  rw [if_pos hv]
  simp
  omega

/-- What a list's code is read as, so many numbers: what was got so far, the place. -/
def rnF (L : List Bool) (k N : Nat) : Nat → List Int → Nat → Except Int (List Int × Nat)
  | 0, out, i => .ok (out, i)
  | f + 1, out, i =>
    if N ≤ out.length then .ok (out, i)
    else if (ggT L i).2.1 ≠ 0 then .error (ggT L i).2.1
    else if N - out.length + 1 < (ggT L i).1 then .error 12
    else if out.length + ((ggT L i).1 - 1) = N then .ok (out ++ List.replicate ((ggT L i).1 - 1) 0, (ggT L i).2.2)
    else if (rgT L (ggT L i).2.2 k).2.1 ≠ 0 then .error (rgT L (ggT L i).2.2 k).2.1
    else if (rgT L (ggT L i).2.2 k).1 = 1099511627775 then .error 12
    else rnF L k N f (out ++ List.replicate ((ggT L i).1 - 1) 0 ++ [zagN ((rgT L (ggT L i).2.2 k).1 + 1)]) (rgT L (ggT L i).2.2 k).2.2
def rnT (L : List Bool) (k N i : Nat) : Except Int (List Int × Nat) := rnF L k N (N + 1) [] i
theorem rnF_code {L T : List Bool} {k : Nat} {l : List Int} (hk : k ≤ 30) (hl : l.length ≤ 1048576) (hc : codedB l = true) : ∀ (r a f i : Nat), l.length - a ≤ r → a ≤ l.length → l.length + 1 ≤ f + a → L.drop i = codeL (l.drop a) k ++ T → i ≤ L.length →
    rnF L k l.length f (l.take a) i = .ok (l, i + (codeL (l.drop a) k).length)
  | r, a, f, i, hr, ha, hf, h, hi => by
    obtain ⟨f, rfl⟩ : ∃ f', f = f' + 1 := ⟨f - 1, by omega⟩
    have hlt : (l.take a).length = a := by rw [List.length_take]; omega
    rw [rnF, hlt]
    by_cases hend : a = l.length
    · rw [if_pos (by omega)]
      have e : codeL (l.drop a) k = [] := by rw [List.drop_of_length_le (by omega)]; rfl
      rw [e, List.take_of_length_le (by omega)]
      rfl
    rw [if_neg (by omega)]
    have hz := lz_le (l.drop a)
    have hdl : (l.drop a).length = l.length - a := List.length_drop
    have hcode : codeL (l.drop a) k = (items 0 (l.drop a)).flatMap (codeI k) := rfl
    rw [items_eq] at hcode
    obtain ⟨z, hzz⟩ : ∃ z, lz (l.drop a) = z := ⟨_, rfl⟩
    have htk := lz_take (l.drop a)
    rw [hzz] at hz htk
    have hgam : gamB (z + 1) = true := (gamB_iff _).2 (by omega)
    by_cases hlz : z < (l.drop a).length
    · have hlz' : lz (l.drop a) < (l.drop a).length := by rw [hzz]; exact hlz
      rw [dif_pos hlz'] at hcode
      have hne := lz_at hlz'
      obtain ⟨x, hx⟩ : ∃ x, (l.drop a)[lz (l.drop a)] = x := ⟨_, rfl⟩
      rw [hx] at hcode hne
      have hxz : (l.drop a)[z] = x := by rw [← hx]; simp [hzz]
      rw [hzz, Nat.zero_add, List.flatMap_cons] at hcode
      have hdd : (l.drop a).drop (z + 1) = l.drop (a + z + 1) := by rw [List.drop_drop, Nat.add_assoc]
      rw [hdd] at hcode
      have hci : codeI k (z, some x) = gamC (z + 1) ++ codeR (zigN x - 1) k := rfl
      have hcl : (items 0 (l.drop (a + z + 1))).flatMap (codeI k) = codeL (l.drop (a + z + 1)) k := rfl
      rw [hci, hcl] at hcode
      have hxm : x ∈ l := List.mem_of_mem_drop (hxz ▸ List.getElem_mem _)
      have hzx : zigN x < 1099511627776 := by
        unfold codedB at hc
        rw [List.all_eq_true] at hc
        simpa using hc x hxm
      have hz1 := zig_zero hne
      rw [codeR_ok hk (show zigN x - 1 < 1099511627776 by omega)] at hcode
      have h1 : L.drop i = gamC (z + 1) ++ (codeK (zigN x - 1) k ++ (codeL (l.drop (a + z + 1)) k ++ T)) := by rw [h, hcode]; simp
      have g := gg_code hgam h1 hi
      obtain ⟨_, h2⟩ := drop_seg h1 (gamC_length _)
      have hi2 : i + gamCost (z + 1) ≤ L.length := by
        have := congrArg List.length h1
        rw [List.length_drop, List.length_append, gamC_length] at this
        omega
      have g2 := rgT_code hk (show zigN x - 1 < 1099511627776 by omega) h2 hi2
      obtain ⟨_, h3⟩ := drop_seg h2 (codeK_length _ _)
      have hi3 : i + gamCost (z + 1) + costK (zigN x - 1) k ≤ L.length := by
        have := congrArg List.length h2
        rw [List.length_drop, List.length_append, codeK_length] at this
        omega
      rw [g]
      simp only [g2]
      rw [if_neg (by simp), if_neg (by omega), if_neg (by omega), if_neg (by simp), if_neg (by omega)]
      have hout : l.take a ++ List.replicate (z + 1 - 1) 0 ++ [zagN (zigN x - 1 + 1)] = l.take (a + z + 1) := by
        rw [show zigN x - 1 + 1 = zigN x by omega, zag_zig, Nat.add_sub_cancel]
        have e3 : (l.drop a).take (z + 1) = List.replicate z 0 ++ [x] := by
          rw [List.take_succ_eq_append_getElem hlz, hxz]
          congr 1
          have := congrArg (List.take z) htk
          rw [List.take_left' (by simp)] at this
          exact this
        rw [show a + z + 1 = a + (z + 1) by omega, List.take_add, e3, List.append_assoc]
      rw [hout]
      have hlen : i + (codeL (l.drop a) k).length = i + gamCost (z + 1) + costK (zigN x - 1) k + (codeL (l.drop (a + z + 1)) k).length := by
        rw [hcode]
        simp only [List.length_append, gamC_length, codeK_length]
        omega
      rw [hlen]
      obtain ⟨r, rfl⟩ : ∃ r', r = r' + 1 := ⟨r - 1, by omega⟩
      exact rnF_code hk hl hc r (a + z + 1) f _ (by omega) (by omega) (by omega) h3 hi3
    · rw [dif_neg (by rw [hzz]; exact hlz), if_pos (by omega), hzz, Nat.zero_add] at hcode
      have hci : [(z, (none : Option Int))].flatMap (codeI k) = gamC (z + 1) := by simp [codeI]
      rw [hci] at hcode
      rw [hcode] at h
      have g := gg_code hgam h hi
      rw [g]
      simp only
      rw [if_neg (by simp), if_neg (by omega), if_pos (by omega), hcode, gamC_length]
      have hout : l.take a ++ List.replicate (z + 1 - 1) 0 = l := by
        rw [Nat.add_sub_cancel]
        have e3 : l.drop a = List.replicate z 0 := by
          conv => lhs; rw [htk]
          rw [List.drop_of_length_le (by omega), List.append_nil]
        rw [← e3, List.take_append_drop]
      rw [hout]
theorem rn_code {L T : List Bool} {k : Nat} {l : List Int} (hk : k ≤ 30) (hl : l.length ≤ 1048576) (hc : codedB l = true) (h : L = codeL l k ++ T) : rnT L k l.length 0 = .ok (l, (codeL l k).length) := by
  have := rnF_code (L := L) (T := T) hk hl hc l.length 0 (l.length + 1) 0 (by omega) (by omega) (by omega) (by simpa using h) (by omega)
  rw [List.take_zero, List.drop_zero, Nat.zero_add] at this
  exact this
end Go.Proofs.Ytjboboaccjbebaa
