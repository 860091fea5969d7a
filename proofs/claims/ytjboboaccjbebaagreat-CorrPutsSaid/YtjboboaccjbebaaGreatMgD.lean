/- Plain law of layer 9: ways, costs, codes, and what codes are read as. -/
import Derived.Test.YtjboboaccjbebaaGreatMgC
import Derived.Test.YtjboboaccjbebaaGreatMgB
import Derived.Test.YtjboboaccjbebaaGreatMgA
import Derived.Shelf.Abstract
import Derived.WalkMore
import Derived.ScopeJumps
import Derived.Lib.Zigzag
import Derived.Deep.RegionHeld3
import Derived.Deep.RegionWith
import Derived.Deep.CutRange

namespace Go.Proofs.YtjboboaccjbebaaGreat
open Go.RowKit

def fitsB (x : Int) : Bool := decide (zigN x < 1099511627776)
theorem fitsB_iff (x : Int) : fitsB x = true ↔ zigN x < 1099511627776 := by unfold fitsB; rw [decide_eq_true_iff]
theorem fits_bd {x : Int} (h : fitsB x = true) : -549755813888 ≤ x ∧ x ≤ 549755813887 := by
  have h := (fitsB_iff x).1 h
  unfold zigN at h
  split at h <;> omega
theorem codedB_all (l : List Int) : codedB l = l.all fitsB := rfl
def mayL (l : List Int) : Bool := decide (l.length ≤ 65536) && codedB l
def zigs (l : List Int) : List Nat := l.map zigN
theorem zigs_length (l : List Int) : (zigs l).length = l.length := List.length_map _
/-- The greatest width of a Zig; the greatest Need; how many are 0. -/
def zigW (l : List Int) : Nat := l.foldl (fun m x => max m (wid (zigN x))) 0
def needL (l : List Int) : Nat := l.foldl (fun m x => max m (needN x)) 1
def noneN (l : List Int) : Nat := (l.filter fun x => decide (x = 0)).length
theorem zigW_snoc (xs : List Int) (x : Int) : zigW (xs ++ [x]) = max (zigW xs) (wid (zigN x)) := by simp [zigW]
theorem needL_snoc (xs : List Int) (x : Int) : needL (xs ++ [x]) = max (needL xs) (needN x) := by simp [needL]
theorem noneN_snoc (xs : List Int) (x : Int) : noneN (xs ++ [x]) = noneN xs + (if x = 0 then 1 else 0) := by
  unfold noneN
  rw [List.filter_append, List.length_append]
  by_cases h : x = 0 <;> simp [h]
theorem noneN_le (l : List Int) : noneN l ≤ l.length := List.length_filter_le _ _
theorem rev_all {P : List Int → Prop} (h : ∀ ys : List Int, P ys.reverse) (xs : List Int) : P xs := by
  have := h xs.reverse
  rwa [List.reverse_reverse] at this
theorem needL_ge (xs : List Int) : 1 ≤ needL xs ∧ ∀ x ∈ xs, needN x ≤ needL xs := by
  revert xs
  apply rev_all
  intro ys
  induction ys with
  | nil => simp [needL]
  | cons y ys ih =>
    rw [List.reverse_cons, needL_snoc]
    refine ⟨by omega, fun x hx => ?_⟩
    rcases List.mem_append.1 hx with hx | hx
    · have := ih.2 x hx; omega
    · simp at hx; rw [hx]; omega
theorem needL_le (k : Nat) (hk : 1 ≤ k) (xs : List Int) : (∀ x ∈ xs, needN x ≤ k) → needL xs ≤ k := by
  revert xs
  apply rev_all
  intro ys
  induction ys with
  | nil => intro _; simpa [needL] using hk
  | cons y ys ih =>
    rw [List.reverse_cons, needL_snoc]
    intro h
    have h1 := ih fun x hx => h x (List.mem_append_left _ hx)
    have h2 := h y (by simp)
    omega
theorem zigW_le (xs : List Int) : (∀ x ∈ xs, zigN x < 18446744073709551616) → zigW xs ≤ 64 := by
  revert xs
  apply rev_all
  intro ys
  induction ys with
  | nil => intro _; simp [zigW]
  | cons y ys ih =>
    rw [List.reverse_cons, zigW_snoc]
    intro h
    have h1 := ih fun x hx => h x (List.mem_append_left _ hx)
    have h2 := wid_max (zigN y) (h y (by simp))
    omega
theorem needN_fits {x : Int} (h : fitsB x = true) : needN x ≤ 40 := by
  have hb := fits_bd h
  unfold needN
  split
  · have := wid_le (-x - 1).toNat 39 (by omega) (by omega); omega
  · have := wid_le x.toNat 39 (by omega) (by omega); omega
theorem need_bd (x : Int) (h : fitsB x = true) : ∀ k, needN x ≤ k → -(2 ^ (k - 1) : Int) ≤ x ∧ x < (2 ^ (k - 1) : Int) := by
  intro k hk
  have hb := fits_bd h
  have hp : (2 : Int) ^ (k - 1) = ((2 ^ (k - 1) : Nat) : Int) := (Int.natCast_pow 2 _).symm
  unfold needN at hk
  split at hk
  · have h1 := wid_lt (-x - 1).toNat (by omega)
    have h2 : 2 ^ wid (-x - 1).toNat ≤ 2 ^ (k - 1) := Nat.pow_le_pow_right (by omega) (by omega)
    omega
  · have h1 := wid_lt x.toNat (by omega)
    have h2 : 2 ^ wid x.toNat ≤ 2 ^ (k - 1) := Nat.pow_le_pow_right (by omega) (by omega)
    omega

/-- The best parameters, and what they cost. -/
def kR (l : List Int) : Nat := bestTo (fun k => totalR (zigs l) (k : Int)) (mostK (zigW l : Int))
def kU (l : List Int) : Nat := bestTo (fun k => costL l (k : Int)) 30
def cR (l : List Int) : Nat := 6 + totalR (zigs l) (kR l : Int)
def cU (l : List Int) : Nat := 11 + costL l (kU l : Int)
def cW (l : List Int) : Nat := 12 + needL l * l.length
theorem kR_le (l : List Int) : kR l ≤ 30 := Nat.le_trans (bestTo_le _ _) (mostK_spec _).1
theorem kU_le (l : List Int) : kU l ≤ 30 := bestTo_le _ _
/-- The way that takes least: its kind, its number, what it costs. -/
def chooseL (l : List Int) : Nat × Nat × Nat :=
  if noneN l = l.length then (0, 0, 6)
  else if l.length ≤ 2 * noneN l ∧ cU l < cR l then (if cW l < cU l then (3, needL l, cW l) else (2, kU l, cU l))
  else (if cW l < cR l then (3, needL l, cW l) else (1, kR l, cR l))
def rawC (k : Nat) (x : Int) : List Bool := bitsOf (x % 2 ^ k).toNat k
def codeP (l : List Int) : List Bool :=
  match chooseL l with
  | (0, _, _) => bitsOf 31 6
  | (1, k, _) => bitsOf k 6 ++ codesR (zigs l) k
  | (2, k, _) => bitsOf 32 6 ++ bitsOf k 5 ++ codeL l k
  | (_, k, _) => bitsOf 33 6 ++ bitsOf k 6 ++ l.flatMap (rawC k)
theorem rawAll_length (k : Nat) (l : List Int) : (l.flatMap (rawC k)).length = k * l.length := by
  induction l with
  | nil => simp
  | cons x l ih => rw [List.flatMap_cons, List.length_append, ih, List.length_cons, Nat.mul_succ, rawC, bitsOf_length]; omega
/-- The four ways. -/
theorem choose_cases (l : List Int) (hc : codedB l = true) :
    (chooseL l = (0, 0, 6) ∧ noneN l = l.length ∧ codeP l = bitsOf 31 6)
    ∨ (chooseL l = (1, kR l, cR l) ∧ codeP l = bitsOf (kR l) 6 ++ codesR (zigs l) (kR l))
    ∨ (chooseL l = (2, kU l, cU l) ∧ codeP l = bitsOf 32 6 ++ bitsOf (kU l) 5 ++ codeL l (kU l) ∧ cU l = 11 + (codeL l (kU l)).length)
    ∨ (chooseL l = (3, needL l, cW l) ∧ codeP l = bitsOf 33 6 ++ bitsOf (needL l) 6 ++ l.flatMap (rawC (needL l))) := by
  have hcu : cU l = 11 + (codeL l (kU l)).length := by
    unfold cU costL
    rw [if_pos ⟨(paramB_iff _).2 ⟨by omega, by have := kU_le l; omega⟩, hc⟩]
  by_cases h0 : noneN l = l.length
  · left
    have e : chooseL l = (0, 0, 6) := by unfold chooseL; rw [if_pos h0]
    exact ⟨e, h0, by unfold codeP; rw [e]; rfl⟩
  right
  by_cases h1 : l.length ≤ 2 * noneN l ∧ cU l < cR l
  · right
    by_cases h2 : cW l < cU l
    · right
      have e : chooseL l = (3, needL l, cW l) := by unfold chooseL; rw [if_neg h0, if_pos h1, if_pos h2]
      exact ⟨e, by unfold codeP; rw [e]; rfl⟩
    · left
      have e : chooseL l = (2, kU l, cU l) := by unfold chooseL; rw [if_neg h0, if_pos h1, if_neg h2]
      exact ⟨e, by unfold codeP; rw [e]; rfl, hcu⟩
  · by_cases h2 : cW l < cR l
    · right; right
      have e : chooseL l = (3, needL l, cW l) := by unfold chooseL; rw [if_neg h0, if_neg h1, if_pos h2]
      exact ⟨e, by unfold codeP; rw [e]; rfl⟩
    · left
      have e : chooseL l = (1, kR l, cR l) := by unfold chooseL; rw [if_neg h0, if_neg h1, if_neg h2]
      exact ⟨e, by unfold codeP; rw [e]; rfl⟩
theorem codeP_length (l : List Int) (hc : codedB l = true) : (codeP l).length = (chooseL l).2.2 := by
  rcases choose_cases l hc with ⟨e, _, h⟩ | ⟨e, h⟩ | ⟨e, h, hu⟩ | ⟨e, h⟩
  · rw [e, h, bitsOf_length]
  · rw [e, h, List.length_append, bitsOf_length, codesR_length]; rfl
  · rw [e, h, List.length_append, List.length_append, bitsOf_length, bitsOf_length, hu]
  · rw [e, h, List.length_append, List.length_append, bitsOf_length, bitsOf_length, rawAll_length]; rfl
theorem choose_le (l : List Int) : (chooseL l).2.2 ≤ cW l := by
  unfold chooseL
  split
  · show 6 ≤ cW l
    unfold cW; omega
  · split
    · split
      · exact Nat.le_refl _
      · rename_i h; show cU l ≤ _; omega
    · split
      · exact Nat.le_refl _
      · rename_i h; show cR l ≤ _; omega

/-- Orders, bounds, parts. -/
def orderB (n : Nat) (p : Int) : Bool := decide (p = 0 ∨ (0 < p ∧ p ≤ 6 ∧ 2 ^ p.toNat ≤ n))
theorem orderB_iff (n : Nat) (p : Int) : orderB n p = true ↔ p = 0 ∨ (0 < p ∧ p ≤ 6 ∧ 2 ^ p.toNat ≤ n) := by unfold orderB; rw [decide_eq_true_iff]
theorem orderB_nat {n : Nat} {p : Int} (h : orderB n p = true) : ∃ q : Nat, p = (q : Int) ∧ q ≤ 6 := by
  have h := (orderB_iff n p).1 h
  exact ⟨p.toNat, by omega, by omega⟩
def bndN (n p i : Nat) : Nat := i * n / 2 ^ p
theorem bnd_zero (n p : Nat) : bndN n p 0 = 0 := by simp [bndN]
theorem bnd_end (n p : Nat) : bndN n p (2 ^ p) = n := by unfold bndN; rw [Nat.mul_comm]; exact Nat.mul_div_cancel n (Nat.two_pow_pos p)
theorem bnd_mono (n p i : Nat) : bndN n p i ≤ bndN n p (i + 1) := by
  unfold bndN
  exact Nat.div_le_div_right (Nat.mul_le_mul_right n (by omega))
theorem bnd_mono' (n p : Nat) {i j : Nat} (h : i ≤ j) : bndN n p i ≤ bndN n p j := by
  unfold bndN
  exact Nat.div_le_div_right (Nat.mul_le_mul_right n h)
theorem bnd_le (n p : Nat) {i : Nat} (h : i ≤ 2 ^ p) : bndN n p i ≤ n := by
  have := bnd_mono' n p h
  rwa [bnd_end] at this
def partL (l : List Int) (p i : Nat) : List Int := (l.take (bndN l.length p (i + 1))).drop (bndN l.length p i)
theorem partL_length (l : List Int) (p i : Nat) (h : i < 2 ^ p) : (partL l p i).length = bndN l.length p (i + 1) - bndN l.length p i := by
  unfold partL
  have := bnd_le l.length p (i := i + 1) (by omega)
  rw [List.length_drop, List.length_take]
  omega
theorem part_snoc (l : List Int) (p i : Nat) : l.take (bndN l.length p i) ++ partL l p i = l.take (bndN l.length p (i + 1)) := by
  have hm := bnd_mono l.length p i
  unfold partL
  have e : l.take (bndN l.length p i) = (l.take (bndN l.length p (i + 1))).take (bndN l.length p i) := by rw [List.take_take, Nat.min_eq_left hm]
  rw [e, List.take_append_drop]
theorem part_coded {l : List Int} (hc : codedB l = true) (p i : Nat) : codedB (partL l p i) = true := by
  rw [codedB_all, List.all_eq_true] at hc ⊢
  exact fun x hx => hc x (List.mem_of_mem_take (List.mem_of_mem_drop hx))
/-- The codes of the first parts, and what they cost. -/
def partsC (l : List Int) (p : Nat) : Nat → List Bool
  | 0 => []
  | m + 1 => partsC l p m ++ codeP (partL l p m)
def partsN (l : List Int) (p : Nat) : Nat → Nat
  | 0 => 0
  | m + 1 => partsN l p m + (chooseL (partL l p m)).2.2
theorem partsC_length {l : List Int} (hc : codedB l = true) (p m : Nat) : (partsC l p m).length = partsN l p m := by
  induction m with
  | zero => rfl
  | succ m ih => rw [partsC, partsN, List.length_append, ih, codeP_length _ (part_coded hc p m)]
def wholeC (l : List Int) (p : Nat) : List Bool := bitsOf p 3 ++ partsC l p (2 ^ p)
def costW (l : List Int) (p : Int) : Nat := if mayL l = true ∧ orderB l.length p = true then 3 + partsN l p.toNat (2 ^ p.toNat) else 0
theorem wholeC_length {l : List Int} (hc : codedB l = true) (p : Nat) : (wholeC l p).length = 3 + partsN l p (2 ^ p) := by
  unfold wholeC
  rw [List.length_append, bitsOf_length, partsC_length hc]

/-- What numbers of so many bits are read as. -/
def rawX (k u : Nat) : Int := if u < 2 ^ (k - 1) then (u : Int) else (u : Int) - 2 ^ k
def rawS (L : List Bool) (k i : Nat) : Nat → Except Int (List Int × Nat)
  | 0 => .ok ([], i)
  | n + 1 => match rawS L k i n with
    | .error e => .error e
    | .ok (l, j) => if getErr L j (k : Int) ≠ 0 then .error (getErr L j (k : Int)) else if fitsB (rawX k (getVal L j (k : Int))) = true then .ok (l ++ [rawX k (getVal L j (k : Int))], getAt L j (k : Int)) else .error 12
theorem raw_back {k : Nat} {x : Int} (hk : 1 ≤ k) (h1 : -(2 ^ (k - 1) : Int) ≤ x) (h2 : x < (2 ^ (k - 1) : Int)) : rawX k (x % 2 ^ k).toNat = x ∧ (x % 2 ^ k).toNat < 2 ^ k := by
  have e2 : (2 : Nat) ^ k = 2 * 2 ^ (k - 1) := by
    rw [show 2 * 2 ^ (k - 1) = 2 ^ (k - 1 + 1) from by rw [Nat.pow_succ]; omega, show k - 1 + 1 = k by omega]
  have hp : (2 : Int) ^ (k - 1) = ((2 ^ (k - 1) : Nat) : Int) := (Int.natCast_pow 2 _).symm
  have hq : (2 : Int) ^ k = ((2 ^ k : Nat) : Int) := (Int.natCast_pow 2 _).symm
  obtain ⟨q, hqq⟩ : ∃ q, (2 : Nat) ^ (k - 1) = q := ⟨_, rfl⟩
  unfold rawX
  rw [hp, hqq] at h1 h2
  rw [hq, e2, hqq]
  have hq0 : 0 < q := by rw [← hqq]; exact Nat.two_pow_pos _
  have em : x % ((2 * q : Nat) : Int) = if 0 ≤ x then x else x + (2 * q : Nat) := by
    split
    · exact Int.emod_eq_of_lt (by assumption) (by omega)
    · rw [← Int.add_emod_right]
      exact Int.emod_eq_of_lt (by omega) (by omega)
  rw [em]
  split <;> split <;> omega
theorem rawS_code {L T : List Bool} {k i : Nat} {l : List Int} (hk : 1 ≤ k) (hk2 : k ≤ 64) (hi : i ≤ L.length) (hf : ∀ x ∈ l, fitsB x = true ∧ needN x ≤ k) (h : L.drop i = l.flatMap (rawC k) ++ T) : ∀ n, n ≤ l.length → rawS L k i n = .ok (l.take n, i + k * n)
  | 0, _ => by rw [rawS]; simp
  | n + 1, hn => by
    have e := rawS_code hk hk2 hi hf h n (by omega)
    have hlt : n < l.length := by omega
    have hs : l.take (n + 1) = l.take n ++ [l[n]] := List.take_succ_eq_append_getElem hlt
    have e3 : l = l.take n ++ l[n] :: l.drop (n + 1) := by rw [← List.drop_eq_getElem_cons hlt, List.take_append_drop]
    have e2 : l.flatMap (rawC k) = (l.take n).flatMap (rawC k) ++ (rawC k l[n] ++ (l.drop (n + 1)).flatMap (rawC k)) := by
      refine (congrArg (List.flatMap (rawC k)) e3).trans ?_
      simp only [List.flatMap_append, List.flatMap_cons]
    have hll : ((l.take n).flatMap (rawC k)).length = k * n := by rw [rawAll_length, List.length_take]; congr 1; omega
    have hd : L.drop (i + k * n) = bitsOf (l[n] % 2 ^ k).toNat k ++ ((l.drop (n + 1)).flatMap (rawC k) ++ T) := by
      rw [← List.drop_drop, h, e2, List.append_assoc, List.drop_left' hll, List.append_assoc]
      rfl
    have hle : i + k * n ≤ L.length := by
      have := congrArg List.length h
      rw [List.length_drop, e2, List.append_assoc, List.length_append, hll] at this
      omega
    obtain ⟨hfx, hnx⟩ := hf l[n] (List.getElem_mem _)
    obtain ⟨b1, b2⟩ := need_bd _ hfx k hnx
    obtain ⟨r1, r2⟩ := raw_back hk b1 b2
    obtain ⟨g1, g2, g3, _, _⟩ := get_seg hd r2 hk2 hle
    rw [rawS, e]
    simp only
    rw [g1, g2, g3, r1, if_neg (by simp), if_pos hfx, hs, Nat.mul_succ, Nat.add_assoc]

/-- What a part's code is read as. -/
def pgT (L : List Bool) (i n : Nat) : Except Int (List Int × Nat) :=
  if getErr L i 6 ≠ 0 then .error (getErr L i 6)
  else if getVal L i 6 ≤ 30 then (match rgS L (getVal L i 6) (getAt L i 6) n with
    | .error e => .error e
    | .ok (us, j) => .ok (us.map zagN, j))
  else if getVal L i 6 = 31 then .ok (List.replicate n 0, getAt L i 6)
  else if getVal L i 6 = 32 then
    (if getErr L (getAt L i 6) 5 ≠ 0 then .error (getErr L (getAt L i 6) 5)
     else if 30 < getVal L (getAt L i 6) 5 then .error 12
     else rnT L (getVal L (getAt L i 6) 5) n (getAt L (getAt L i 6) 5))
  else if getVal L i 6 = 33 then
    (if getErr L (getAt L i 6) 6 ≠ 0 then .error (getErr L (getAt L i 6) 6)
     else if getVal L (getAt L i 6) 6 < 1 ∨ 41 < getVal L (getAt L i 6) 6 then .error 12
     else rawS L (getVal L (getAt L i 6) 6) (getAt L (getAt L i 6) 6) n)
  else .error 12
theorem zags_zigs (l : List Int) : (zigs l).map zagN = l := by
  unfold zigs
  rw [List.map_map]
  conv => rhs; rw [← List.map_id l]
  exact List.map_congr_left fun x _ => zag_zig x
theorem none_all {l : List Int} (h : noneN l = l.length) : l = List.replicate l.length 0 := by
  rw [List.eq_replicate_iff]
  refine ⟨rfl, fun x hx => ?_⟩
  have := List.length_filter_eq_length_iff.1 h x hx
  simpa using this
theorem pg_code {L T : List Bool} {i : Nat} {l : List Int} (hl : l.length ≤ 65536) (hc : codedB l = true) (hi : i ≤ L.length) (h : L.drop i = codeP l ++ T) : pgT L i l.length = .ok (l, i + (codeP l).length) := by
  have hfits : ∀ x ∈ l, fitsB x = true := by rw [codedB_all, List.all_eq_true] at hc; exact hc
  rcases choose_cases l hc with ⟨_, h0, hp⟩ | ⟨_, hp⟩ | ⟨_, hp, _⟩ | ⟨_, hp⟩
  · rw [hp] at h ⊢
    obtain ⟨g1, g2, g3, _, _⟩ := get_seg h (by omega) (by omega) hi
    rw [show ((6 : Nat) : Int) = 6 from rfl] at g1 g2 g3
    unfold pgT
    rw [g1, g2, g3, if_neg (by simp), if_neg (by omega), if_pos rfl, bitsOf_length, ← none_all h0]
  · have hk := kR_le l
    rw [hp, List.append_assoc] at h
    obtain ⟨g1, g2, g3, g4, g5⟩ := get_seg h (by omega) (by omega) hi
    rw [show ((6 : Nat) : Int) = 6 from rfl] at g1 g2 g3
    have hz : ∀ u ∈ zigs l, u < 1099511627776 := by
      intro u hu
      unfold zigs at hu
      obtain ⟨x, hx, rfl⟩ := List.mem_map.1 hu
      exact (fitsB_iff x).1 (hfits x hx)
    have e := rgS_codes_at hk g5 (zigs l).length (zigs l) (Nat.le_refl _) hz g4
    rw [List.take_length, zigs_length] at e
    unfold pgT
    rw [g1, g2, g3, if_neg (by simp), if_pos hk, e]
    simp only
    rw [zags_zigs, hp, List.length_append, bitsOf_length, Nat.add_assoc]
  · have hk := kU_le l
    rw [hp, List.append_assoc, List.append_assoc] at h
    obtain ⟨g1, g2, g3, g4, g5⟩ := get_seg h (by omega) (by omega) hi
    rw [show ((6 : Nat) : Int) = 6 from rfl] at g1 g2 g3
    obtain ⟨k1, k2, k3, k4, k5⟩ := get_seg g4 (show kU l < 2 ^ 5 by omega) (by omega) g5
    rw [show ((5 : Nat) : Int) = 5 from rfl] at k1 k2 k3
    have e := rn_code_at hk (by omega) hc k5 k4
    unfold pgT
    rw [g1, g2, g3, k1, k2, k3, if_neg (by simp), if_neg (by omega), if_neg (by omega), if_pos rfl, if_neg (by simp), if_neg (by omega), e, hp]
    simp only [List.length_append, bitsOf_length]
    exact congrArg (fun z => Except.ok (l, z)) (by omega)
  · have hk := needL_ge l
    have hk2 := needL_le 40 (by omega) l fun x hx => needN_fits (hfits x hx)
    rw [hp, List.append_assoc, List.append_assoc] at h
    obtain ⟨g1, g2, g3, g4, g5⟩ := get_seg h (by omega) (by omega) hi
    rw [show ((6 : Nat) : Int) = 6 from rfl] at g1 g2 g3
    obtain ⟨k1, k2, k3, k4, k5⟩ := get_seg g4 (show needL l < 2 ^ 6 by omega) (by omega) g5
    rw [show ((6 : Nat) : Int) = 6 from rfl] at k1 k2 k3
    have e := rawS_code hk.1 (by omega) k5 (fun x hx => ⟨hfits x hx, hk.2 x hx⟩) k4 l.length (Nat.le_refl _)
    unfold pgT
    rw [g1, g2, g3, k1, k2, k3, if_neg (by simp), if_neg (by omega), if_neg (by omega), if_neg (by omega), if_pos rfl, if_neg (by simp), if_neg (by omega), e, List.take_length, hp]
    simp only [List.length_append, bitsOf_length, rawAll_length]
    exact congrArg (fun z => Except.ok (l, z)) (by omega)
/-- What the first parts are read as. -/
def pgS (L : List Bool) (n p i : Nat) : Nat → Except Int (List Int × Nat)
  | 0 => .ok ([], i)
  | m + 1 => match pgS L n p i m with
    | .error e => .error e
    | .ok (l, j) => match pgT L j (bndN n p (m + 1) - bndN n p m) with
      | .error e => .error e
      | .ok (l2, j2) => .ok (l ++ l2, j2)
theorem partsC_split (l : List Int) (p : Nat) : ∀ (m k : Nat), ∃ R, partsC l p (m + k) = partsC l p m ++ R ∧ (1 ≤ k → ∃ R', R = codeP (partL l p m) ++ R')
  | m, 0 => ⟨[], by simp, by omega⟩
  | m, k + 1 => by
    obtain ⟨R, h1, h2⟩ := partsC_split l p m k
    refine ⟨R ++ codeP (partL l p (m + k)), by rw [← Nat.add_assoc, partsC, h1, List.append_assoc], fun _ => ?_⟩
    rcases k with _ | k
    · have : R = [] := by simpa using h1
      rw [this]
      exact ⟨[], by simp⟩
    · obtain ⟨R', hR⟩ := h2 (by omega)
      exact ⟨R' ++ codeP (partL l p (m + (k + 1))), by rw [hR, List.append_assoc]⟩
theorem pgS_code {L T : List Bool} {i p : Nat} {l : List Int} (hl : l.length ≤ 65536) (hc : codedB l = true) (hi : i ≤ L.length) (h : L.drop i = partsC l p (2 ^ p) ++ T) : ∀ m, m ≤ 2 ^ p → pgS L l.length p i m = .ok (l.take (bndN l.length p m), i + (partsC l p m).length)
  | 0, _ => by rw [pgS, bnd_zero]; simp [partsC]
  | m + 1, hm => by
    have e := pgS_code hl hc hi h m (by omega)
    obtain ⟨R, h1, h2⟩ := partsC_split l p m (2 ^ p - m)
    obtain ⟨R', hR⟩ := h2 (by omega)
    rw [show m + (2 ^ p - m) = 2 ^ p by omega] at h1
    have hd : L.drop (i + (partsC l p m).length) = codeP (partL l p m) ++ (R' ++ T) := by
      rw [← List.drop_drop, h, h1, List.append_assoc, List.drop_left, hR, List.append_assoc]
    have hle : i + (partsC l p m).length ≤ L.length := by
      have := congrArg List.length h
      rw [List.length_drop, h1, List.append_assoc, List.length_append] at this
      omega
    have hpl := partL_length l p m (by omega)
    have hb := bnd_le l.length p (i := m + 1) hm
    have g := pg_code (by omega) (part_coded hc p m) hle hd
    rw [hpl] at g
    rw [pgS, e]
    simp only
    rw [g]
    simp only
    rw [part_snoc, partsC, List.length_append, Nat.add_assoc]
/-- What any bits are read as, of so many numbers. -/
def pwT (L : List Bool) (i n : Nat) : Except Int ((List Int × Nat) × Nat) :=
  if getErr L i 3 ≠ 0 then .error (getErr L i 3)
  else if orderB n (getVal L i 3 : Int) = true then
    (match pgS L n (getVal L i 3) (getAt L i 3) (2 ^ getVal L i 3) with
     | .error e => .error e
     | .ok (l, j) => .ok ((l, getVal L i 3), j))
  else .error 12
theorem pw_code {L T : List Bool} {i p : Nat} {l : List Int} (hl : l.length ≤ 65536) (hc : codedB l = true) (hp : orderB l.length p = true) (hi : i ≤ L.length) (h : L.drop i = wholeC l p ++ T) : pwT L i l.length = .ok ((l, p), i + (wholeC l p).length) := by
  have hp6 : p ≤ 6 := by
    obtain ⟨q, e, h⟩ := orderB_nat hp
    omega
  unfold wholeC at h ⊢
  rw [List.append_assoc] at h
  obtain ⟨g1, g2, g3, g4, g5⟩ := get_seg h (show p < 2 ^ 3 by omega) (by omega) hi
  rw [show ((3 : Nat) : Int) = 3 from rfl] at g1 g2 g3
  have e := pgS_code hl hc g5 g4 (2 ^ p) (Nat.le_refl _)
  rw [bnd_end, List.take_length] at e
  unfold pwT
  rw [g1, g2, g3, if_neg (by simp), if_pos hp, e]
  simp only
  rw [List.length_append, bitsOf_length, Nat.add_assoc]
end Go.Proofs.YtjboboaccjbebaaGreat
/- Plain law of layer 7, the same from the front on: what is done, and how many noughts stand behind it; how many noughts stand ahead of each number. -/
namespace Go.Proofs.YtjboboaccjbebaaGreat
open Go.RowKit

def stp (s : List (Nat × Option Int) × Nat) (x : Int) : List (Nat × Option Int) × Nat := if x = 0 then (s.1, s.2 + 1) else (s.1 ++ [(s.2, some x)], 0)
def sts (l : List Int) : List (Nat × Option Int) × Nat := l.foldl stp ([], 0)
def tailI (n : Nat) : List (Nat × Option Int) := if 0 < n then [(n, none)] else []
theorem items_fold (l : List Int) : ∀ P n, P ++ items n l = (l.foldl stp (P, n)).1 ++ tailI (l.foldl stp (P, n)).2 := by
  induction l with
  | nil => intro P n; rfl
  | cons x xs ih =>
    intro P n
    rw [items, List.foldl_cons]
    by_cases hx : x = 0
    · rw [if_pos hx, ih P (n + 1)]
      unfold stp
      rw [if_pos hx]
    · rw [if_neg hx]
      have := ih (P ++ [(n, some x)]) 0
      unfold stp
      rw [if_neg hx]
      rw [List.append_assoc] at this
      exact this
theorem items_sts (l : List Int) : items 0 l = (sts l).1 ++ tailI (sts l).2 := by
  have := items_fold l [] 0
  rwa [List.nil_append] at this
theorem sts_snoc (xs : List Int) (x : Int) : sts (xs ++ [x]) = stp (sts xs) x := by simp [sts]
theorem sts_zero {xs : List Int} {x : Int} (h : x = 0) : sts (xs ++ [x]) = ((sts xs).1, (sts xs).2 + 1) := by rw [sts_snoc, stp, if_pos h]
theorem sts_some {xs : List Int} {x : Int} (h : x ≠ 0) : sts (xs ++ [x]) = ((sts xs).1 ++ [((sts xs).2, some x)], 0) := by rw [sts_snoc, stp, if_neg h]
theorem sts_le (xs : List Int) : (sts xs).1.length ≤ xs.length ∧ (sts xs).2 ≤ xs.length := by
  suffices ∀ ys : List Int, (sts ys.reverse).1.length ≤ ys.length ∧ (sts ys.reverse).2 ≤ ys.length by
    have := this xs.reverse
    rwa [List.reverse_reverse, List.length_reverse] at this
  intro ys
  induction ys with
  | nil => exact ⟨Nat.le_refl _, Nat.le_refl _⟩
  | cons y ys ih =>
    rw [List.reverse_cons, List.length_cons]
    by_cases hy : y = 0
    · rw [sts_zero hy]; exact ⟨Nat.le_succ_of_le ih.1, Nat.succ_le_succ ih.2⟩
    · rw [sts_some hy]; refine ⟨?_, Nat.zero_le _⟩
      show (_ ++ [_]).length ≤ _
      rw [List.length_append]
      have := ih.1
      simp; omega
theorem take_all {l : List Int} : l.take l.length = l := List.take_length

/-- The noughts ahead of each other number, and those at the end. -/
def runsF (n : Nat) : List Int → List Int
  | [] => [(n : Int)]
  | x :: xs => if x = 0 then runsF (n + 1) xs else (n : Int) :: runsF 0 xs
def stpR (s : List Int × Nat) (x : Int) : List Int × Nat := if x = 0 then (s.1, s.2 + 1) else (s.1 ++ [(s.2 : Int)], 0)
def stsR (l : List Int) : List Int × Nat := l.foldl stpR ([], 0)
theorem runs_fold (l : List Int) : ∀ P n, P ++ runsF n l = (l.foldl stpR (P, n)).1 ++ [((l.foldl stpR (P, n)).2 : Int)] := by
  induction l with
  | nil => intro P n; rfl
  | cons x xs ih =>
    intro P n
    rw [runsF, List.foldl_cons]
    by_cases hx : x = 0
    · rw [if_pos hx, ih P (n + 1)]
      unfold stpR
      rw [if_pos hx]
    · rw [if_neg hx]
      have := ih (P ++ [(n : Int)]) 0
      unfold stpR
      rw [if_neg hx]
      rw [List.append_assoc] at this
      exact this
theorem runs_sts (l : List Int) : runsF 0 l = (stsR l).1 ++ [((stsR l).2 : Int)] := by
  have := runs_fold l [] 0
  rwa [List.nil_append] at this
theorem stsR_zero {xs : List Int} {x : Int} (h : x = 0) : stsR (xs ++ [x]) = ((stsR xs).1, (stsR xs).2 + 1) := by simp [stsR, stpR, h]
theorem stsR_some {xs : List Int} {x : Int} (h : x ≠ 0) : stsR (xs ++ [x]) = ((stsR xs).1 ++ [((stsR xs).2 : Int)], 0) := by simp [stsR, stpR, h]
theorem stsR_le (xs : List Int) : (stsR xs).1.length ≤ xs.length ∧ (stsR xs).2 ≤ xs.length := by
  suffices ∀ ys : List Int, (stsR ys.reverse).1.length ≤ ys.length ∧ (stsR ys.reverse).2 ≤ ys.length by
    have := this xs.reverse
    rwa [List.reverse_reverse, List.length_reverse] at this
  intro ys
  induction ys with
  | nil => exact ⟨Nat.le_refl _, Nat.le_refl _⟩
  | cons y ys ih =>
    rw [List.reverse_cons, List.length_cons]
    by_cases hy : y = 0
    · rw [stsR_zero hy]; exact ⟨Nat.le_succ_of_le ih.1, Nat.succ_le_succ ih.2⟩
    · rw [stsR_some hy]; refine ⟨?_, Nat.zero_le _⟩
      show (_ ++ [_]).length ≤ _
      rw [List.length_append]
      have := ih.1
      simp; omega
theorem runsF_eq (n : Nat) (l : List Int) : runsF n l = if lz l < l.length then ((n + lz l : Nat) : Int) :: runsF 0 (l.drop (lz l + 1)) else [((n + lz l : Nat) : Int)] := by
  induction l generalizing n with
  | nil => rw [runsF, if_neg (by simp [lz])]; simp [lz]
  | cons x xs ih =>
    rw [runsF]
    by_cases hx : x = 0
    · have e : lz (x :: xs) = lz xs + 1 := by rw [lz, if_pos hx]
      rw [if_pos hx, ih (n + 1), e]
      by_cases h : lz xs < xs.length
      · rw [if_pos h, if_pos (by simpa using h), List.drop_succ_cons, show n + (lz xs + 1) = n + 1 + lz xs by omega]
      · rw [if_neg h, if_neg (by simpa using h), show n + (lz xs + 1) = n + 1 + lz xs by omega]
    · have e : lz (x :: xs) = 0 := by rw [lz, if_neg hx]
      rw [if_neg hx, e, if_pos (by simp)]
      simp
theorem runsF_length (n : Nat) (l : List Int) : (runsF n l).length ≤ l.length + 1 := by
  induction l generalizing n with
  | nil => simp [runsF]
  | cons x xs ih =>
    rw [runsF]
    split
    · have := ih (n + 1); simp; omega
    · have := ih 0; simp; omega
/-- Noughts alone. -/
theorem lz_zero (n : Nat) : lz (List.replicate n 0) = n := by
  induction n with
  | zero => rfl
  | succ n ih => rw [List.replicate_succ, lz, if_pos rfl, ih]
theorem items_zero (n : Nat) : items 0 (List.replicate n (0 : Int)) = tailI n := by
  rw [items_eq, dif_neg (by rw [lz_zero]; simp), lz_zero, Nat.zero_add]
  rfl
end Go.Proofs.YtjboboaccjbebaaGreat
/- slices.IndexFunc and ContainsFunc of ints, whatever the function value: it may read, and draw. -/
namespace Go.Proofs.YtjboboaccjbebaaGreat
open Go.RowKit

/-- A function value that answers p x at each x of which P holds; it only reads. -/
def QuietB (k : IntKind) (g : Nat) (cap : Array Value) (p : Int → Bool) (P : Int → Prop) (w : World) : Prop :=
  ∀ x n, P x → Calls Tryz.prog g (#[.int k x] ++ cap) (w.drewN n) fun e w' => e = .returned (.bool (p x)) ∧ ∃ m, w' = (w.drewN n).drewN m

/-- The first place where p holds. -/
def firstI (p : Int → Bool) : List Int → Nat → Int
  | [], _ => -1
  | x :: xs, i => if p x then (i : Int) else firstI p xs (i + 1)
theorem firstI_skip (p : Int → Bool) (xs ys : List Int) (i : Nat) (h : ∀ x ∈ xs, p x = false) : firstI p (xs ++ ys) i = firstI p ys (i + xs.length) := by
  induction xs generalizing i with
  | nil => simp
  | cons x xs ih =>
    rw [List.cons_append, firstI, h x (by simp)]
    simp only [Bool.false_eq_true, if_false]
    rw [ih _ fun y hy => h y (by simp [hy])]
    congr 1
    simp; omega
theorem firstI_any (p : Int → Bool) (xs : List Int) (i : Nat) : decide (0 ≤ firstI p xs i) = xs.any p := by
  induction xs generalizing i with
  | nil => simp [firstI]
  | cons x xs ih =>
    rw [firstI, List.any_cons]
    cases h : p x
    · simp only [Bool.false_eq_true, if_false, Bool.false_or]
      exact ih _
    · simp

set_option maxRecDepth 100000 in
theorem index_any (g : Nat) (cap : Array Value) (eg : ∀ args w, (callFunc g args).run Tryz.prog w = .ok (.enter g args) w) (p : Int → Bool) (P : Int → Prop) (l : Value) (xs : List Int) (w : World) (hl : Sl w l (i64s xs)) (hP : ∀ x ∈ xs, P x) (hf : QuietB .i64 g cap p P w) :
    Calls Tryz.prog 69 #[l, .func (.func g) #[] cap] w (DrawnI w (.int .i64 (firstI p xs 0))) := by
  obtain ⟨A, c, rfl, hm⟩ := i64s_form hl
  have H := hid (And.intro hl (And.intro hP hf))
  clear hl hP hf
  go_enter Tryz.func69, Tryz.ntmps69
  go_wp2_with fail
  go_loopw [5, 8] (fun _ i wr => ∃ k n : Nat, k ≤ xs.length ∧ i = .int .i64 k ∧ wr = w.drewN n ∧ Hid (∀ x ∈ xs.take k, p x = false)) (fun _ i _ => xs.length - (intOf i).toNat)
  case atStart => exact ⟨0, 0, by omega, rfl, rfl, by simp [Hid]⟩
  case round =>
    obtain ⟨k, n, hk, rfl, rfl, hall⟩ := hrel
    by_cases hkm : k < xs.length
    · have hin : (k : Int) < xs.length := by omega
      obtain ⟨ad, rfl, hc⟩ := i64s_at H.out.1 hkm
      have hcall := H.out.2.2 xs[k] n (H.out.2.1 _ (List.getElem_mem _))
      obtain ⟨x, hx⟩ : ∃ x, xs[k] = x := ⟨_, rfl⟩
      rw [hx] at hc hcall
      obtain ⟨b, hb⟩ : ∃ b, p x = b := ⟨_, rfl⟩
      rw [hb] at hcall
      have HX := hid (And.intro hx (And.intro hb hcall))
      clear hx hcall hb
      cases b
      · go_wp2_with (go_at_fn g; refine HX.out.2.2.mono ?_; rintro e w' ⟨rfl, m1, rfl⟩)
        go_roundw
        case rel =>
          refine ⟨k + 1, n + m1, by omega, by go_num, rfl, ?_⟩
          intro y hy
          rw [take_snocI xs k hkm] at hy
          rcases List.mem_append.1 hy with hy | hy
          · exact hall.out y hy
          · simp at hy
            rw [hy, HX.out.1, HX.out.2.1]
        case measure => simp [intOf]; omega
      · go_wp2_with (go_at_fn g; refine HX.out.2.2.mono ?_; rintro e w' ⟨rfl, m1, rfl⟩)
        go_ret
        refine ⟨?_, _, rfl⟩
        have h := firstI_skip p (xs.take k) (xs.drop k) 0 hall.out
        rw [List.take_append_drop, List.length_take, Nat.min_eq_left hk, Nat.zero_add, List.drop_eq_getElem_cons hkm, firstI, HX.out.1, HX.out.2.1] at h
        rw [h]
        rfl
    · have hin : ¬ (k : Int) < xs.length := by omega
      obtain rfl : k = xs.length := by omega
      go_wp2_with fail
      go_ret
      refine ⟨?_, _, rfl⟩
      have h := firstI_skip p xs [] 0 (by have := hall.out; rwa [List.take_length] at this)
      rw [List.append_nil] at h
      rw [h]
      rfl

theorem contains_any (g : Nat) (cap : Array Value) (eg : ∀ args w, (callFunc g args).run Tryz.prog w = .ok (.enter g args) w) (p : Int → Bool) (P : Int → Prop) (l : Value) (xs : List Int) (w : World) (hl : Sl w l (i64s xs)) (hP : ∀ x ∈ xs, P x) (hf : QuietB .i64 g cap p P w) :
    Calls Tryz.prog 36 #[l, .func (.func g) #[] cap] w (DrawnI w (.bool (xs.any p))) := by
  have hF := hid (firstI_any p xs 0)
  have HI := hid (index_any g cap eg p P l xs w hl hP hf)
  clear hl hf
  go_enter Tryz.func36, Tryz.ntmps36
  go_wp2_with fail
  with_reducible refine HI.out.mono ?_
  rintro e w1 ⟨rfl, n, rfl⟩
  go_wp2_with fail
  go_ret
  exact ⟨by rw [← hF.out]; rfl, n, rfl⟩
end Go.Proofs.YtjboboaccjbebaaGreat
/- Layer 7: noughts, each: a list's items are visited one after another. -/
namespace Go.Proofs.YtjboboaccjbebaaGreat
open Go.RowKit

theorem Sl.drop_ {w : World} {ad : Addr} {n c : Nat} {xs : List Value} (h : Sl w (.slice (some ad) n c) xs) {k : Nat} (hk : k ≤ n) : Sl w (.slice (some (ad.add k)) (n - k) (c - k)) (xs.drop k) := by
  rcases h with ⟨e, _⟩ | ⟨ad', c', e, hc, hm, hcell⟩
  · cases e
  · injection e with e1 e2 e3
    injection e1 with e1
    subst e1 e2 e3
    refine .inr ⟨ad.add k, c - k, by rw [List.length_drop], by rw [List.length_drop]; omega, by omega, fun j u hj => ?_⟩
    rw [List.getElem?_drop] at hj
    rw [add_of_add]
    exact hcell _ _ hj
theorem Sl.drop_len {w : World} {ad : Addr} {n c : Nat} {xs : List Value} (h : Sl w (.slice (some ad) n c) xs) : n = xs.length ∧ n ≤ c := by
  rcases h with ⟨e, _⟩ | ⟨ad', c', e, hc, hm, hcell⟩
  · cases e
  · injection e with e1 e2 e3
    exact ⟨e2, by omega⟩
theorem i64s_drop (xs : List Int) (k : Nat) : (i64s xs).drop k = i64s (xs.drop k) := by simp [i64s, List.map_drop]

set_option maxRecDepth 100000 in
set_option maxHeartbeats 1600000 in
theorem noughts_any (l : Value) (xs : List Int) (w : World) (hl : Sl w l (i64s xs)) : Calls Tryz.prog 117 #[l] w fun e w' => e = .returned (.int .i64 (lz xs : Nat)) ∧ w = w' := by
  obtain ⟨A, c, rfl, hm⟩ := i64s_form hl
  have H := hid hl
  clear hl
  go_enter Tryz.func117, Tryz.ntmps117
  go_wp2_with fail
  go_step3
  go_wp2_with fail
  go_step3
  go_wp2_with fail
  go_loop [3, 8] (fun n i => ∃ k : Nat, k ≤ xs.length ∧ i = .int .i64 k ∧ n = .int .i64 k ∧ Hid (lz xs = k + lz (xs.drop k))) (fun _ i => xs.length - (intOf i).toNat)
  case atStart => exact ⟨0, by omega, rfl, rfl, by simp [Hid]⟩
  case round =>
    obtain ⟨k, hk, rfl, rfl, hd⟩ := hrel
    by_cases hkm : k < xs.length
    · have hin : (k : Int) < xs.length := by omega
      obtain ⟨ad, rfl, hc⟩ := i64s_at H.out hkm
      have hdr := List.drop_eq_getElem_cons hkm
      obtain ⟨x, hx⟩ : ∃ x, xs[k] = x := ⟨_, rfl⟩
      rw [hx] at hc hdr
      have HD := hid hdr
      clear hx hdr
      by_cases h0 : x = 0
      · subst h0
        go_wp2_with fail
        go_round
        case rel =>
          refine ⟨k + 1, by omega, by go_num, by go_num, ?_⟩
          show _ = _
          have h := hd.out
          rw [HD.out, lz, if_pos rfl] at h
          omega
        case measure => simp [intOf]; omega
      · have hb : (x != 0) = true := by rw [bne_iff_ne]; exact h0
        have HX := hid h0
        clear h0
        go_wp2_with fail
        go_ret
        have h := hd.out
        rw [HD.out, lz, if_neg HX.out] at h
        exact ⟨by rw [h]; rfl, rfl⟩
    · have hin : ¬ (k : Int) < xs.length := by omega
      obtain rfl : k = xs.length := by omega
      go_wp2_with fail
      go_ret
      have h := hd.out
      rw [List.drop_of_length_le (Nat.le_refl _), lz] at h
      exact ⟨by rw [h]; rfl, rfl⟩

theorem wp_scope_from {P : Program} {a : Act} {w : World} {Q : Exit → Act → World → Prop} {c rest : Code} (l : Nat) (J : Act → World → Prop) (μ : Act → World → Nat) (hf : findLabel c l = some (Code.skip.seq rest))
    (start : (∀ a w, J a w → rest.wp P (Exit.jump l J Q) a w) → c.wp P (Exit.jump l J Q) a w)
    (pass : ∀ a w, J a w → rest.wp P (Exit.jump l (fun a' w' => J a' w' ∧ μ a' w' < μ a w) Q) a w) : (Code.scope c).wp P Q a w :=
  wp_scope_jumps l J μ hf (start fun a w h => wp_mono (pass a w h) fun e a' w' q => by
    cases e with
    | goto l' => exact ⟨q.1, q.2.1⟩
    | normal => exact q
    | exit id => exact q
    | ret => exact q
    | panic ch => exact q
    | outgrown => exact q) fun a w h => wp_seq (wp_skip (pass a w h))

/-- What is called with what each item says, one after another; I holds between. -/
def Visit (g : Nat) (cap : Array Value) (xs : List Int) (I : List (Nat × Option Int) → World → Prop) : Prop :=
  ∀ P n o R W, P ++ (n, o) :: R = items 0 xs → I P W → Calls Tryz.prog g (#[.int .i64 (n : Nat), .int .i64 (o.getD 0), .bool o.isSome] ++ cap) W fun e w' => e = .returned (.tuple #[]) ∧ I (P ++ [(n, o)]) w'

set_option maxRecDepth 100000 in
set_option maxHeartbeats 4000000 in
theorem each_any (g : Nat) (cap : Array Value) (eg : ∀ args w, (callFunc g args).run Tryz.prog w = .ok (.enter g args) w) (l : Value) (xs : List Int) (w : World) (I : List (Nat × Option Int) → World → Prop)
    (hlf : ∃ A c, l = .slice A xs.length c) (hm : xs.length ≤ 9223372036854775807) (hI : ∀ P W, I P W → Sl W l (i64s xs)) (hv : Visit g cap xs I) (h0 : I [] w) :
    Calls Tryz.prog 98 #[l, .func (.func g) #[] cap] w fun e w' => e = .returned (.tuple #[]) ∧ I (items 0 xs) w' := by
  obtain ⟨A, c, rfl⟩ := hlf
  have H := hid (And.intro hI (And.intro hv h0))
  clear hI hv h0
  go_enter Tryz.func98, Tryz.ntmps98
  go_wp2_with fail
  refine wp_scope_from 0 (fun a' w' => ∃ (j : Nat) (P : List (Nat × Option Int)) (u2 u3 u5 u6 u7 u8 u9 u10 u11 u12 u13 u14 u15 u16 u17 u18 u19 u20 u21 u22 u23 u24 u25 u26 u27 u28 u29 u30 u31 u32 : Value), a' = { tmps := #[.slice A xs.length c, .func (.func g) #[] cap, u2, u3, .int .i64 (j : Int), u5, u6, u7, u8, u9, u10, u11, u12, u13, u14, u15, u16, u17, u18, u19, u20, u21, u22, u23, u24, u25, u26, u27, u28, u29, u30, u31, u32], defers := [] } ∧ j ≤ xs.length ∧ Hid (I P w') ∧ Hid (items 0 xs = P ++ items 0 (xs.drop j))) (fun a' _ => xs.length - (intOf (a'.tmps.getD 4 undef)).toNat) rfl (fun hp => ?_) ?_
  · go_wp2_with fail
    go_step3
    rename_i hK
    exact hK _ _ (hp _ _ ⟨0, [], _, _, _, _, _, _, _, _, _, _, _, _, _, _, _, _, _, _, _, _, _, _, _, _, _, _, _, _, _, _, rfl, by omega, H.out.2.2, rfl⟩)
  · rintro a' w' ⟨j, P, u2, u3, u5, u6, u7, u8, u9, u10, u11, u12, u13, u14, u15, u16, u17, u18, u19, u20, u21, u22, u23, u24, u25, u26, u27, u28, u29, u30, u31, u32, rfl, hj, hI, hit⟩
    by_cases hjm : j < xs.length
    · have hb : ((j : Int) == (xs.length : Int)) = false := by rw [beq_eq_false_iff_ne]; omega
      obtain ⟨ad, rfl, hc⟩ := i64s_at (H.out.1 P w' hI.out) hjm
      have hmc : xs.length ≤ c := (Sl.drop_len (H.out.1 P w' hI.out)).2
      go_wp2_with fail
      have hit2 := hit.out
      have hxe : (xs.drop j).length = xs.length - j := List.length_drop
      have hitm := items_eq 0 (xs.drop j)
      rw [Nat.zero_add] at hitm
      have hz := lz_le (xs.drop j)
      have HN := noughts_any (.slice (some (ad.add j)) (xs.length - j) (c - j)) (xs.drop j) w' (by
        have := (H.out.1 P w' hI.out).drop_ (k := j) (by omega)
        rwa [i64s_drop] at this)
      by_cases hzl : lz (xs.drop j) < (xs.drop j).length
      · rw [dif_pos hzl] at hitm
        have hx0 : (xs.drop j)[lz (xs.drop j)] = xs[j + lz (xs.drop j)]'(by omega) := by rw [List.getElem_drop]
        rw [hx0, List.drop_drop] at hitm
        obtain ⟨z, hzz⟩ : ∃ z, lz (xs.drop j) = z := ⟨_, rfl⟩
        simp only [hzz] at hitm hzl HN hz
        have hjz : j + z < xs.length := by omega
        obtain ⟨ad', e', hc'⟩ := i64s_at (H.out.1 P w' hI.out) hjz
        cases e'
        obtain ⟨x, hx⟩ : ∃ x, xs[j + z] = x := ⟨_, rfl⟩
        rw [hx] at hitm hc'
        obtain ⟨y, hy⟩ : ∃ y, j + z = y := ⟨_, rfl⟩
        rw [← Nat.add_assoc, hy] at hitm
        rw [hy] at hc' hjz
        have hb2 : ((y : Int) == (xs.length : Int)) = false := by rw [beq_eq_false_iff_ne]; omega
        have hw1 : IntKind.i64.wrap ((j : Int) + (z : Int)) = (y : Int) := by rw [IntWalk.i64_in _ (by omega)]; omega
        have HY := hid (And.intro hy (And.intro hit2 hitm))
        have HC := hid (H.out.2.1 P z (some x) (items 0 (xs.drop (y + 1))) w' (by rw [hit2, hitm]) hI.out)
        clear hit2 hitm hzz hx hy hx0 hz hzl hxe
        with_reducible refine HN.mono ?_
        rintro e w1 ⟨rfl, rfl⟩
        go_wp2_with fail
        refine HC.out.mono ?_
        rintro e w2 ⟨rfl, hI2⟩
        have H2 := hid hI2
        clear hI2
        go_wp2_with fail
        go_step3
        refine ⟨rfl, ⟨y + 1, _, _, _, _, _, _, _, _, _, _, _, _, _, _, _, _, _, _, _, _, _, _, _, _, _, _, _, _, _, _, _, by first | (congr 1) | (congr 3; omega), by omega, H2.out, ?_⟩, ?_⟩
        · show _ = _
          rw [HY.out.2.1, HY.out.2.2, List.append_assoc]
          rfl
        · have := HY.out.1
          simp [intOf]; omega
      · rw [dif_neg hzl] at hitm
        obtain ⟨z, hzz⟩ : ∃ z, lz (xs.drop j) = z := ⟨_, rfl⟩
        simp only [hzz] at hitm hzl HN hz
        have hjz : j + z = xs.length := by omega
        have hz0 : 0 < z := by omega
        rw [if_pos hz0] at hitm
        have hw1 : IntKind.i64.wrap ((j : Int) + (z : Int)) = (xs.length : Int) := by rw [IntWalk.i64_in _ (by omega)]; omega
        have HY := hid (And.intro hit2 hitm)
        have HC := hid (H.out.2.1 P z none [] w' (by rw [hit2, hitm]) hI.out)
        clear hit2 hitm hzz hz hzl hxe
        with_reducible refine HN.mono ?_
        rintro e w1 ⟨rfl, rfl⟩
        go_wp2_with fail
        refine HC.out.mono ?_
        rintro e w2 ⟨rfl, hI2⟩
        have H2 := hid hI2
        clear hI2
        go_wp2_with fail
        simp only [Exit.jump]
        refine bodyPost_ret (results_none rfl _ _ _) rfl ?_
        rw [HY.out.1, HY.out.2]
        exact ⟨rfl, H2.out⟩
    · obtain rfl : j = xs.length := by omega
      go_wp2_with fail
      simp only [Exit.jump]
      refine bodyPost_ret (results_none rfl _ _ _) rfl ?_
      have h := hit.out
      rw [List.drop_of_length_le (Nat.le_refl _), items, if_neg (by omega), List.append_nil] at h
      rw [h]
      exact ⟨rfl, hI.out⟩
end Go.Proofs.YtjboboaccjbebaaGreat
/- Layer 7 and what it wants of layer 1: Zig, Zag; gamma codes are written. -/
namespace Go.Proofs.YtjboboaccjbebaaGreat
open Go.RowKit

theorem zig_any (x : Int) (w : World) (h1 : -9223372036854775808 ≤ x) (h2 : x ≤ 9223372036854775807) : Calls Tryz.prog 91 #[.int .i64 x] w fun e w' => e = .returned (.int .u64 (zigN x : Nat)) ∧ w = w' := by
  by_cases h : 0 ≤ x
  · have e : zigN x = 2 * x.toNat := by unfold zigN; rw [if_pos h]
    have e1 : IntKind.u64.wrap x = x := IntWalk.u64_in _ (by omega)
    have e2 : IntKind.u64.wrap (x * 2) = ((2 * x.toNat : Nat) : Int) := by rw [IntWalk.u64_in _ (by omega)]; omega
    have e3 : x / 9223372036854775808 = 0 := by omega
    have e4 : bits BinOp.xor IntKind.u64 ((2 * x.toNat : Nat) : Int) 0 = ((2 * x.toNat : Nat) : Int) := by
      have := bits_xor_u64_nat (2 * x.toNat) 0 (by omega) (by omega)
      simpa using this
    rw [e]
    obtain ⟨y, hy⟩ : ∃ y, 2 * x.toNat = y := ⟨_, rfl⟩
    rw [hy] at e2 e4 ⊢
    clear hy e
    go_enter Tryz.func91, Tryz.ntmps91
    go_wp2_with fail
    go_ret
    exact ⟨rfl, rfl⟩
  · have e3 : x / 9223372036854775808 = -1 := by omega
    have e1 : IntKind.u64.wrap (IntKind.u64.wrap x * 2) = (((2 * x + 18446744073709551616).toNat : Nat) : Int) := by
      rw [IntKind.wrap_u64, IntKind.wrap_u64]; omega
    have e4 : bits BinOp.xor IntKind.u64 (((2 * x + 18446744073709551616).toNat : Nat) : Int) (IntKind.u64.wrap (-1)) = ((zigN x : Nat) : Int) := by
      rw [show IntKind.u64.wrap (-1) = 18446744073709551615 from by decide]
      have h := bits_xor_u64_nat (2 * x + 18446744073709551616).toNat 18446744073709551615 (by omega) (by omega)
      rw [Nat.xor_comm, show (18446744073709551615 : Nat) = 2 ^ 64 - 1 from rfl, Lib.xor_ones64 _ (by omega)] at h
      refine h.trans ?_
      unfold zigN
      rw [if_neg (by omega)]
      omega
    obtain ⟨y, hy⟩ : ∃ y, zigN x = y := ⟨_, rfl⟩
    rw [hy] at e4 ⊢
    obtain ⟨z, hz⟩ : ∃ z : Nat, (2 * x + 18446744073709551616).toNat = z := ⟨_, rfl⟩
    rw [hz] at e1 e4
    clear hy hz
    go_enter Tryz.func91, Tryz.ntmps91
    go_wp2_with fail
    go_ret
    exact ⟨rfl, rfl⟩

theorem refzig_any (x : Int) (w : World) (h1 : -9223372036854775808 ≤ x) (h2 : x ≤ 9223372036854775807) : Calls Tryz.prog 103 #[.int .i64 x] w fun e w' => e = .returned (.int .u64 (zigN x : Nat)) ∧ w = w' := by
  by_cases h : 0 ≤ x
  · have e : zigN x = 2 * x.toNat := by unfold zigN; rw [if_pos h]
    have e1 : IntKind.u64.wrap x = x := IntWalk.u64_in _ (by omega)
    have e2 : IntKind.u64.wrap (2 * x) = ((2 * x.toNat : Nat) : Int) := by rw [IntWalk.u64_in _ (by omega)]; omega
    rw [e]
    obtain ⟨y, hy⟩ : ∃ y, 2 * x.toNat = y := ⟨_, rfl⟩
    rw [hy] at e2 ⊢
    clear hy e
    go_enter Tryz.func103, Tryz.ntmps103
    go_wp2_with fail
    go_ret
    exact ⟨rfl, rfl⟩
  · have e : zigN x = 2 * (-(x + 1)).toNat + 1 := by unfold zigN; rw [if_neg h]
    obtain ⟨y, hy⟩ : ∃ y : Nat, -(x + 1) = (y : Int) := ⟨(-(x + 1)).toNat, by omega⟩
    have e0 : IntKind.i64.wrap (x + 1) = x + 1 := IntWalk.i64_in _ (by omega)
    have e1 : IntKind.i64.wrap (-(x + 1)) = (y : Int) := by rw [IntWalk.i64_in _ (by omega)]; exact hy
    have e2 : IntKind.u64.wrap (y : Int) = (y : Int) := IntWalk.u64_in _ (by omega)
    have e3 : IntKind.u64.wrap (2 * (y : Int)) = ((2 * y : Nat) : Int) := by rw [IntWalk.u64_in _ (by omega)]; omega
    have e4 : IntKind.u64.wrap (((2 * y : Nat) : Int) + 1) = ((2 * y + 1 : Nat) : Int) := by rw [IntWalk.u64_in _ (by omega)]; omega
    rw [e, show (-(x + 1)).toNat = y by omega]
    obtain ⟨z, hz⟩ : ∃ z, 2 * y = z := ⟨_, rfl⟩
    rw [hz] at e3 e4 ⊢
    have hx : ¬ 0 ≤ x := h
    clear hz hy e
    go_enter Tryz.func103, Tryz.ntmps103
    go_wp2_with fail
    go_ret
    exact ⟨rfl, rfl⟩

theorem xor_i64_neg (y : Nat) (hy : y < 9223372036854775808) : bits BinOp.xor IntKind.i64 (y : Int) (-1) = -(y : Int) - 1 := by
  rw [← Lib.i64_not y hy]
  show IntKind.i64.wrap _ = IntKind.i64.wrap _
  rw [BitVec.xor_comm]
theorem xor_i64_zero (y : Nat) (hy : y < 9223372036854775808) : bits BinOp.xor IntKind.i64 (y : Int) 0 = (y : Int) := by
  show IntKind.i64.wrap ((BitVec.ofInt 64 (y : Int) ^^^ BitVec.ofInt 64 0).toNat : Int) = _
  have h2 : (BitVec.ofInt 64 (y : Int)).toNat = y := by
    rw [BitVec.ofInt_natCast, BitVec.toNat_ofNat]; exact Nat.mod_eq_of_lt (by omega)
  have h1 : (BitVec.ofInt 64 0).toNat = 0 := by decide
  rw [BitVec.toNat_xor, h1, h2, Nat.xor_zero]
  exact IntWalk.i64_in _ (by omega)
theorem zag_any (u : Nat) (w : World) (hu : u < 18446744073709551616) : Calls Tryz.prog 127 #[.int .u64 (u : Int)] w fun e w' => e = .returned (.int .i64 (zagN u)) ∧ w = w' := by
  have e1 : (u : Int) / 2 = ((u / 2 : Nat) : Int) := by omega
  have e2 : IntKind.i64.wrap ((u / 2 : Nat) : Int) = ((u / 2 : Nat) : Int) := IntWalk.i64_in _ (by omega)
  have e3 := Lib.u64_and1 (u : Int) (by omega) (by omega)
  have x1 := xor_i64_neg (u / 2) (by omega)
  have x0 := xor_i64_zero (u / 2) (by omega)
  obtain ⟨y, hy⟩ : ∃ y, u / 2 = y := ⟨_, rfl⟩
  rw [hy] at e1 e2 x1 x0
  by_cases h : u % 2 = 0
  · have e4 : (u : Int) % 2 = 0 := by omega
    rw [e4] at e3
    have ez : zagN u = (y : Int) := by unfold zagN; rw [if_pos h, hy]
    rw [ez]
    clear ez hy h e4 x1
    go_enter Tryz.func127, Tryz.ntmps127
    go_wp2_with fail
    go_ret
    exact ⟨rfl, rfl⟩
  · have e4 : (u : Int) % 2 = 1 := by omega
    rw [e4] at e3
    have ez : zagN u = -(y : Int) - 1 := by unfold zagN; rw [if_neg h, hy]
    rw [ez]
    clear ez hy h e4 x0
    go_enter Tryz.func127, Tryz.ntmps127
    go_wp2_with fail
    go_ret
    exact ⟨rfl, rfl⟩
theorem gamcost_any (v : Nat) (w : World) (hv : v < 18446744073709551616) : Calls Tryz.prog 118 #[.int .u64 (v : Int)] w fun e w' => e = .returned (.int .i64 (gamCost v : Nat)) ∧ w = w' := by
  by_cases h0 : v = 0
  · subst h0
    go_enter Tryz.func118, Tryz.ntmps118
    go_wp2_with fail
    go_ret
    exact ⟨rfl, rfl⟩
  have b0 : ((v : Int) == 0) = false := by rw [beq_eq_false_iff_ne]; omega
  by_cases hg : gamB v = true
  · have hb := (gamB_iff v).1 hg
    have b1 : ((v : Int) / 4294967296 != 0) = false := by rw [bne_eq_false_iff_eq]; omega
    have hw := gam_wid hg
    have e : gamCost v = 2 * wid v - 1 := by unfold gamCost; rw [if_pos hg]
    have HW := hid (width_any v w hv)
    rw [e]
    obtain ⟨k, hk⟩ : ∃ k, wid v = k := ⟨_, rfl⟩
    rw [hk] at HW hw ⊢
    have hk1 : 1 ≤ k := hw.1
    have hk32 : k ≤ 32 := hw.2.1
    clear e hw hk hb hg
    go_enter Tryz.func118, Tryz.ntmps118
    go_wp2_with fail
    with_reducible refine HW.out.mono ?_
    rintro e w1 ⟨rfl, rfl⟩
    go_wp2_with fail
    go_ret
    exact ⟨by rw [show ((2 * k - 1 : Nat) : Int) = 2 * (k : Int) - 1 by omega]; rfl, rfl⟩
  · have b1 : ((v : Int) / 4294967296 != 0) = true := by
      rw [bne_iff_ne]
      have h1 : ¬ (1 ≤ v ∧ v ≤ 4294967295) := fun h => hg ((gamB_iff v).2 h)
      omega
    have e : gamCost v = 0 := by unfold gamCost; rw [if_neg hg]
    rw [e]
    clear e hg
    go_enter Tryz.func118, Tryz.ntmps118
    go_wp2_with fail
    go_ret
    exact ⟨rfl, rfl⟩
theorem putgamma_nil (v : Int) (w : World) : Calls Tryz.prog 100 #[.pointer none, .int .u64 v] w fun e w' => e = .returned (.int .i64 2) ∧ w = w' := by
  go_enter Tryz.func100, Tryz.ntmps100
  go_wp2_with fail
  go_ret
  exact ⟨rfl, rfl⟩
theorem putgamma_bad (p v : Nat) (w : World) (hv : v < 18446744073709551616) (hg : gamB v = false) : Calls Tryz.prog 100 #[.pointer (some ⟨p, 0, none⟩), .int .u64 (v : Int)] w fun e w' => e = .returned (.int .i64 3) ∧ w = w' := by
  have HG := gamcost_any v w hv
  have e : gamCost v = 0 := by unfold gamCost; rw [if_neg (by simp [hg])]
  rw [e] at HG
  replace HG := hid HG
  clear e hg
  go_enter Tryz.func100, Tryz.ntmps100
  go_wp2_with fail
  with_reducible refine HG.out.mono ?_
  rintro e w1 ⟨rfl, rfl⟩
  go_wp2_with fail
  go_ret
  exact ⟨rfl, rfl⟩
theorem putgamma_ok (w : World) (p v : Nat) (u : Value) (L : List Bool) (h : Wr w p u L) (hL : L.length ≤ 66000000000) (hg : gamB v = true) :
    Calls Tryz.prog 100 #[.pointer (some ⟨p, 0, none⟩), .int .u64 (v : Int)] w fun e w' => e = .returned (.int .i64 0) ∧ WI w p u (L ++ gamC v) w' := by
  have hv := (gamB_iff v).1 hg
  obtain ⟨k1, k2, k3, k4⟩ := gam_wid hg
  have HG := gamcost_any v w (by omega)
  have HW := hid (fun W => width_any v W (by omega))
  have e : gamCost v = 2 * wid v - 1 := by unfold gamCost; rw [if_pos hg]
  have eC : gamC v = List.replicate (wid v - 1) false ++ bitsOf v (wid v) := by unfold gamC; rw [if_pos hg]
  rw [e] at HG
  rw [eC]
  obtain ⟨k, hk⟩ : ∃ k, wid v = k := ⟨_, rfl⟩
  rw [hk] at HG HW k1 k2 k3 k4 ⊢
  have hb : ((2 * k - 1 : Nat) : Int) ≠ 0 := by omega
  have HGG := hid HG
  have hput : putErr v (k : Int) = 0 ∧ putBits v (k : Int) = bitsOf v k := by
    have e1 : putErr v (k : Int) = 0 := by
      unfold putErr
      rw [if_neg (by omega), Int.toNat_natCast, if_neg (by omega)]
    exact ⟨e1, by unfold putBits; rw [if_pos e1, Int.toNat_natCast]⟩
  have H := hid (And.intro h (And.intro hput hk))
  have hv2 : v < 18446744073709551616 := by omega
  clear e eC HG h hput hk hg hv k3 k4
  obtain ⟨d, hd⟩ : ∃ d, 2 * k - 1 = d := ⟨_, rfl⟩
  rw [hd] at hb HGG
  clear hd
  go_enter Tryz.func100, Tryz.ntmps100
  go_wp2_with fail
  with_reducible refine HGG.out.mono ?_
  rintro e w1 ⟨rfl, rfl⟩
  go_wp2_with fail
  with_reducible refine (HW.out _).mono ?_
  rintro e w1 ⟨rfl, rfl⟩
  have hk1 : IntKind.i64.wrap ((k : Int) - 1) = ((k - 1 : Nat) : Int) := by rw [IntWalk.i64_in _ (by omega)]; omega
  obtain ⟨m, hm⟩ : ∃ m, k - 1 = m := ⟨_, rfl⟩
  rw [hm] at hk1
  have hmk : m ≤ 32 := by omega
  go_wp2_with fail
  have HC := zeros_fit w p u L _ m rfl H.out.1 (by omega) (by omega)
  with_reducible refine HC.mono ?_
  clear HC
  rintro e w2 ⟨rfl, hw2⟩
  have HW2 := hid hw2
  clear hw2
  go_wp2_with fail
  have HC := HW2.out.calls (L' := L ++ (List.replicate m false ++ bitsOf v k)) (R := fun e => e = .returned (.int .i64 0)) fun v1 h1 => by
    have := put_at w2 p v1 _ _ v (k : Int) rfl h1 (by rw [List.length_append, List.length_replicate]; omega) hv2 _ H.out.2.1
    rwa [List.append_assoc] at this
  with_reducible refine HC.mono ?_
  clear HC
  rintro e w3 ⟨rfl, hw3⟩
  have HW3 := hid hw3
  clear hw3
  go_wp2_with fail
  go_ret
  rw [hm]
  exact ⟨rfl, HW3.out⟩
end Go.Proofs.YtjboboaccjbebaaGreat
/- Layer 7: coded, Cost, Best, Put. -/
namespace Go.Proofs.YtjboboaccjbebaaGreat
open Go.RowKit

def InI (xs : List Int) : Prop := ∀ x ∈ xs, -9223372036854775808 ≤ x ∧ x ≤ 9223372036854775807

theorem coded1_any (x : Int) (w : World) (h1 : -9223372036854775808 ≤ x) (h2 : x ≤ 9223372036854775807) : Calls Tryz.prog 116 #[.int .i64 x] w fun e w' => e = .returned (.bool (!decide (zigN x < 1099511627776))) ∧ w = w' := by
  have HZ := hid (zig_any x w h1 h2)
  have hb : ∀ z : Nat, ((z : Int) / 1099511627776 != 0) = !decide (z < 1099511627776) := by
    intro z
    rw [Bool.eq_iff_iff, bne_iff_ne]
    simp
    omega
  have HB := hid (hb (zigN x))
  obtain ⟨z, hz⟩ : ∃ z, zigN x = z := ⟨_, rfl⟩
  rw [hz] at HZ HB
  rw [hz]
  clear hb hz h1 h2
  go_enter Tryz.func116, Tryz.ntmps116
  go_wp2_with fail
  with_reducible refine HZ.out.mono ?_
  rintro e w1 ⟨rfl, rfl⟩
  go_wp2_with fail
  go_ret
  exact ⟨by rw [← HB.out]; rfl, rfl⟩
theorem enters_coded1 : ∀ args w, (callFunc 116 args).run Tryz.prog w = .ok (.enter 116 args) w := enters_of Tryz.func116 (by kernel_rfl) rfl
theorem coded_any (l : Value) (xs : List Int) (w : World) (hl : Sl w l (i64s xs)) (hx : InI xs) : Calls Tryz.prog 97 #[l] w (DrawnI w (.bool (codedB xs))) := by
  have HC := hid (contains_any 116 #[] enters_coded1 (fun x => !decide (zigN x < 1099511627776)) (fun x => -9223372036854775808 ≤ x ∧ x ≤ 9223372036854775807) l xs w hl hx (fun x n hx => (coded1_any x _ hx.1 hx.2).mono fun _ _ ⟨he, hw⟩ => ⟨he, 0, hw.symm⟩))
  have HB := hid (show (!(xs.any fun x => !decide (zigN x < 1099511627776))) = codedB xs from by unfold codedB; rw [List.not_any_eq_all_not]; congr 1; funext x; simp)
  obtain ⟨b, hb⟩ : ∃ b, (xs.any fun x => !decide (zigN x < 1099511627776)) = b := ⟨_, rfl⟩
  rw [hb] at HC HB
  clear hb hl hx
  go_enter Tryz.func97, Tryz.ntmps97
  go_wp2_with fail
  with_reducible refine HC.out.mono ?_
  rintro e w1 ⟨rfl, n, rfl⟩
  go_wp2_with fail
  go_ret
  exact ⟨by rw [← HB.out]; rfl, n, rfl⟩
theorem rest_any (x : Int) (w : World) (h1 : -9223372036854775808 ≤ x) (h2 : x ≤ 9223372036854775807) (h0 : x ≠ 0) : Calls Tryz.prog 101 #[.int .i64 x] w fun e w' => e = .returned (.int .u64 (zigN x - 1 : Nat)) ∧ w = w' := by
  have HZ := hid (zig_any x w h1 h2)
  have hz1 := zig_zero h0
  have hz2 := zig_lt h1 h2
  obtain ⟨z, hz⟩ : ∃ z, zigN x = z := ⟨_, rfl⟩
  rw [hz] at HZ hz1 hz2
  rw [hz]
  have hw1 : IntKind.u64.wrap ((z : Int) - 1) = ((z - 1 : Nat) : Int) := by rw [IntWalk.u64_in _ (by omega)]; omega
  obtain ⟨y, hy⟩ : ∃ y, z - 1 = y := ⟨_, rfl⟩
  rw [hy] at hw1
  rw [hy]
  clear hz hy h1 h2 h0
  go_enter Tryz.func101, Tryz.ntmps101
  go_wp2_with fail
  with_reducible refine HZ.out.mono ?_
  rintro e w1 ⟨rfl, rfl⟩
  go_wp2_with fail
  go_ret
  exact ⟨rfl, rfl⟩

/-- What an item may be. -/
def OkI (a : Nat × Option Int) : Prop := a.1 < 4294967296 ∧ ∀ x, a.2 = some x → -9223372036854775808 ≤ x ∧ x ≤ 9223372036854775807 ∧ x ≠ 0
theorem items_ok (n : Nat) (l : List Int) (h : InI l) (hn : n + l.length < 4294967296) : ∀ a ∈ items n l, OkI a := by
  induction l generalizing n with
  | nil =>
    intro a ha
    rw [items] at ha
    split at ha
    · simp at ha; subst ha; exact ⟨by show n < _; simp at hn; omega, by simp⟩
    · cases ha
  | cons x xs ih =>
    intro a ha
    have hx := h x (by simp)
    have hxs : InI xs := fun y hy => h y (by simp [hy])
    rw [List.length_cons] at hn
    rw [items] at ha
    split at ha
    · exact ih (n + 1) hxs (by omega) a ha
    · rcases List.mem_cons.1 ha with rfl | ha
      · refine ⟨by show n < _; omega, fun y hy => ?_⟩
        simp at hy
        subst hy
        exact ⟨hx.1, hx.2, by assumption⟩
      · exact ih 0 hxs (by omega) a ha

set_option maxRecDepth 100000 in
set_option maxHeartbeats 4000000 in
theorem cost1_any (b1 b2 n s : Nat) (o : Option Int) (k : Int) (w : World) (hs : Blk w b1 3 #[.int .i64 (s : Int)]) (hk : Blk w b2 3 #[.int .i64 k]) (hne : b1 ≠ b2) (hs2 : s ≤ 1099511627776) (ha : OkI (n, o)) :
    Calls Tryz.prog 142 #[.int .i64 (n : Int), .int .i64 (o.getD 0), .bool o.isSome, .pointer (some ⟨b1, 0, none⟩), .pointer (some ⟨b2, 0, none⟩)] w fun e w' => e = .returned (.tuple #[]) ∧ Blk w' b1 3 #[.int .i64 ((s + costI k (n, o) : Nat) : Int)] ∧ Kept (fun i => i = b1) w w' := by
  have hn1 := ha.1
  simp only at hn1
  have HG := hid (fun W => gamcost_any (n + 1) W (by omega))
  have hg := gamCost_le (n + 1)
  have hw1 : IntKind.u64.wrap (n : Int) = (n : Int) := IntWalk.u64_in _ (by omega)
  have hw2 : IntKind.u64.wrap ((n : Int) + 1) = ((n + 1 : Nat) : Int) := by rw [IntWalk.u64_in _ (by omega)]; omega
  have hc1 := hs.cell 0
  have hf1 := hs.frozen 0
  have hc2 := hk.cell 0
  simp at hc1 hc2
  have HB := hid (And.intro hs (And.intro hk hne))
  obtain ⟨m, hm⟩ : ∃ m, n + 1 = m := ⟨_, rfl⟩
  rw [hm] at HG hg hw2
  obtain ⟨y, hy⟩ : ∃ y, gamCost m = y := ⟨_, rfl⟩
  rw [hy] at HG hg
  obtain ⟨v, hv⟩ : ∃ v, s + y = v := ⟨_, rfl⟩
  have hw3 : IntKind.i64.wrap ((s : Int) + (y : Int)) = (v : Int) := by rw [IntWalk.i64_in _ (by omega)]; omega
  have HM := hid (And.intro hm (And.intro hy hv))
  have HA := hid ha
  have hv2 : v ≤ 1099511627839 := by omega
  clear hs hk hm hy hv ha
  go_enter Tryz.func142, Tryz.ntmps142
  go_upto_region 0 with fail
  go_cut [] from 8 (fun wx => Blk wx b1 3 #[.int .i64 (v : Int)] ∧ Blk wx b2 3 #[.int .i64 k] ∧ Kept (fun i => i = b1) w wx)
  case first =>
    go_region_with (first | (go_at_call 118; (with_reducible refine (HG.out _).mono ?_); rintro e w1 ⟨rfl, rfl⟩))
    all_goals (go_wp2_with fail; go_meet)
    all_goals exact ⟨(HB.out.1.upd 0 (.int .i64 (v : Int))).drew, (HB.out.2.1.far (p := ⟨b1, 0, none⟩) (Ne.symm hne) (.int .i64 (v : Int))).drew, ((Kept.refl (fun i => i = b1) w).setCell (p := ⟨b1, 0, none⟩) (fun _ => rfl) (.int .i64 (v : Int))).drew⟩
  case rest =>
    obtain ⟨hB1, hB2, hK⟩ := hcut
    clear hc1 hf1 hc2
    have hc1 := hB1.cell 0
    have hf1 := hB1.frozen 0
    have hc2 := hB2.cell 0
    simp at hc1 hc2
    have HB1 := hid (And.intro hB1 hK)
    clear hB1 hB2 hK
    cases o with
    | none =>
      go_wp2_with fail
      go_end0
      have e : s + costI k (n, none) = v := by unfold costI; rw [← HM.out.2.2, ← HM.out.2.1, ← HM.out.1]; rfl
      rw [e]
      exact ⟨rfl, HB1.out⟩
    | some x =>
      obtain ⟨hx1, hx2, hx0⟩ := HA.out.2 x rfl
      have HR := hid (fun W => rest_any x W hx1 hx2 hx0)
      have hz2 := zig_lt hx1 hx2
      have hcl := costR_le (zigN x - 1) k
      have HC2 := hid (fun W => rcost_any (zigN x - 1) k W (by omega))
      have HC : Hid (s + costI k (n, some x) = v + costR (zigN x - 1) k) := by show _ = _; unfold costI; rw [← HM.out.2.2, ← HM.out.2.1, ← HM.out.1, Nat.add_assoc]
      obtain ⟨z, hz⟩ : ∃ z, zigN x - 1 = z := ⟨_, rfl⟩
      rw [hz] at HR HC2 HC hcl
      obtain ⟨t, ht⟩ : ∃ t, costR z k = t := ⟨_, rfl⟩
      rw [ht] at HC2 HC hcl
      obtain ⟨q, hq⟩ : ∃ q, v + t = q := ⟨_, rfl⟩
      have hw4 : IntKind.i64.wrap ((v : Int) + (t : Int)) = (q : Int) := by rw [IntWalk.i64_in _ (by omega)]; omega
      rw [hq] at HC
      clear hz ht hz2 hx1 hx2 hx0 hq
      go_wp2_with fail
      go_region_with (first
        | (go_at_call 101; (with_reducible refine (HR.out _).mono ?_); rintro e w2 ⟨rfl, rfl⟩)
        | (go_at_call 141; (with_reducible refine (HC2.out _).mono ?_); rintro e w2 ⟨rfl, rfl⟩))
      all_goals (go_wp2_with fail)
      all_goals (go_end0)
      all_goals (rw [HC.out]; exact ⟨rfl, (HB1.out.1.upd 0 (.int .i64 (q : Int))).drew, (HB1.out.2.setCell (p := ⟨b1, 0, none⟩) (fun _ => rfl) _).drew⟩)
end Go.Proofs.YtjboboaccjbebaaGreat
/- Layer 9: fits, may, order, bounds. -/
namespace Go.Proofs.YtjboboaccjbebaaGreat
open Go.RowKit

theorem fits_any (x : Int) (w : World) (h1 : -9223372036854775808 ≤ x) (h2 : x ≤ 9223372036854775807) : Calls Tryz.prog 74 #[.int .i64 x] w fun e w' => e = .returned (.bool (fitsB x)) ∧ w = w' := by
  have HZ := hid (zig_any x w h1 h2)
  have hb : ∀ z : Nat, ((z : Int) / 1099511627776 == 0) = decide (z < 1099511627776) := by
    intro z
    rw [Bool.eq_iff_iff, beq_iff_eq]
    simp
    omega
  have HB := hid (hb (zigN x))
  have HF := hid (fitsB.eq_1 x)
  obtain ⟨z, hz⟩ : ∃ z, zigN x = z := ⟨_, rfl⟩
  rw [hz] at HZ HB HF
  clear hb hz h1 h2
  go_enter Tryz.func74, Tryz.ntmps74
  go_wp2_with fail
  with_reducible refine HZ.out.mono ?_
  rintro e w1 ⟨rfl, rfl⟩
  go_wp2_with fail
  go_ret
  exact ⟨by rw [HF.out, ← HB.out]; rfl, rfl⟩
theorem may1_any (x : Int) (w : World) (h1 : -9223372036854775808 ≤ x) (h2 : x ≤ 9223372036854775807) : Calls Tryz.prog 73 #[.int .i64 x] w fun e w' => e = .returned (.bool (!fitsB x)) ∧ w = w' := by
  have HZ := hid (fits_any x w h1 h2)
  clear h1 h2
  go_enter Tryz.func73, Tryz.ntmps73
  go_wp2_with fail
  with_reducible refine HZ.out.mono ?_
  rintro e w1 ⟨rfl, rfl⟩
  go_wp2_with fail
  go_ret
  exact ⟨rfl, rfl⟩
theorem enters_may1 : ∀ args w, (callFunc 73 args).run Tryz.prog w = .ok (.enter 73 args) w := enters_of Tryz.func73 (by kernel_rfl) rfl
theorem mayl_any (l : Value) (xs : List Int) (w : World) (hl : Sl w l (i64s xs)) (hx : InI xs) : Calls Tryz.prog 42 #[l] w (DrawnI w (.bool (mayL xs))) := by
  have HC := hid (contains_any 73 #[] enters_may1 (fun x => !fitsB x) (fun x => -9223372036854775808 ≤ x ∧ x ≤ 9223372036854775807) l xs w hl hx (fun x n hx => (may1_any x _ hx.1 hx.2).mono fun _ _ ⟨he, hw⟩ => ⟨he, 0, hw.symm⟩))
  have HB := hid (show (!(xs.any fun x => !fitsB x)) = codedB xs from by rw [codedB_all, List.not_any_eq_all_not]; congr 1; funext x; simp)
  have HM := hid (mayL.eq_1 xs)
  obtain ⟨b, hb⟩ : ∃ b, (xs.any fun x => !fitsB x) = b := ⟨_, rfl⟩
  rw [hb] at HC HB
  obtain ⟨A, c, rfl, hm⟩ := i64s_form hl
  clear hb hl hx
  by_cases h : xs.length ≤ 65536
  · have h' : (xs.length : Int) ≤ 65536 := by omega
    have HD := hid (show decide (xs.length ≤ 65536) = true by simpa using h)
    clear h
    go_enter Tryz.func42, Tryz.ntmps42
    go_wp2_with fail
    with_reducible refine HC.out.mono ?_
    rintro e w1 ⟨rfl, n, rfl⟩
    go_wp2_with fail
    go_ret
    exact ⟨by rw [HM.out, HD.out, ← HB.out]; rfl, n, rfl⟩
  · have h' : ¬ (xs.length : Int) ≤ 65536 := by omega
    have HD := hid (show decide (xs.length ≤ 65536) = false by simpa using h)
    clear h
    go_enter Tryz.func42, Tryz.ntmps42
    go_wp2_with fail
    go_ret
    exact ⟨by rw [HM.out, HD.out]; rfl, 0, rfl⟩

theorem order_any (n : Nat) (p : Int) (w : World) : Calls Tryz.prog 43 #[.int .i64 (n : Int), .int .i64 p] w fun e w' => e = .returned (.bool (orderB n p)) ∧ w = w' := by
  by_cases h0 : p = 0
  · subst h0
    have e : orderB n 0 = true := (orderB_iff n 0).2 (.inl rfl)
    rw [e]
    clear e
    go_enter Tryz.func43, Tryz.ntmps43
    go_wp2_with fail
    go_ret
    exact ⟨rfl, rfl⟩
  have hb0 : (p == 0) = false := by rw [beq_eq_false_iff_ne]; exact h0
  by_cases h1 : p < 0
  · have e : orderB n p = false := by unfold orderB; rw [decide_eq_false_iff_not]; omega
    rw [e]
    have h1' : ¬ 0 < p := by omega
    clear e h0 h1
    go_enter Tryz.func43, Tryz.ntmps43
    go_wp2_with fail
    go_ret
    exact ⟨rfl, rfl⟩
  by_cases h2 : 6 < p
  · have e : orderB n p = false := by unfold orderB; rw [decide_eq_false_iff_not]; omega
    rw [e]
    have h1' : 0 < p := by omega
    have h2' : ¬ p ≤ 6 := by omega
    clear e h0 h1 h2
    go_enter Tryz.func43, Tryz.ntmps43
    go_wp2_with fail
    go_ret
    exact ⟨rfl, rfl⟩
  obtain ⟨q, rfl⟩ := Int.eq_ofNat_of_zero_le (show 0 ≤ p by omega)
  have hq : q = 1 ∨ q = 2 ∨ q = 3 ∨ q = 4 ∨ q = 5 ∨ q = 6 := by omega
  have e : orderB n (q : Int) = decide (2 ^ q ≤ n) := by
    rw [Bool.eq_iff_iff, orderB_iff, decide_eq_true_iff, Int.toNat_natCast]
    constructor
    · rintro (h | h)
      · omega
      · exact h.2.2
    · intro h
      exact .inr ⟨by omega, by omega, h⟩
  rw [e]
  clear e hb0 h0 h1 h2
  have HH := hid (show ∀ K : Nat, decide ((K : Int) ≤ (n : Int)) = decide (K ≤ n) from fun K => by rw [Bool.eq_iff_iff]; simp)
  rcases hq with rfl | rfl | rfl | rfl | rfl | rfl
  all_goals (
    go_enter Tryz.func43, Tryz.ntmps43
    go_wp2_with fail
    go_ret
    exact ⟨by rw [← HH.out]; rfl, rfl⟩)

set_option maxHeartbeats 800000 in
theorem bounds_any (n p i : Nat) (w : World) (hn : n ≤ 65536) (hp : p ≤ 6) (hi : i ≤ 64) : Calls Tryz.prog 75 #[.int .i64 (n : Int), .int .i64 (p : Int), .int .i64 (i : Int)] w (DrawnI w (.tuple #[.int .i64 (bndN n p i : Nat), .int .i64 (bndN n p (i + 1) : Nat)])) := by
  have h1 : i * n ≤ 64 * 65536 := Nat.mul_le_mul hi hn
  have h2 : (i + 1) * n ≤ 65 * 65536 := Nat.mul_le_mul (by omega) hn
  have HB := hid (And.intro (bndN.eq_1 n p i) (bndN.eq_1 n p (i + 1)))
  obtain ⟨a, ha⟩ : ∃ a, i * n = a := ⟨_, rfl⟩
  obtain ⟨b, hb⟩ : ∃ b, (i + 1) * n = b := ⟨_, rfl⟩
  have hma : (i : Int) * (n : Int) = (a : Int) := by rw [← ha]; simp
  have hwi : IntKind.i64.wrap ((i : Int) + 1) = ((i + 1 : Nat) : Int) := by rw [IntWalk.i64_in _ (by omega)]; omega
  have hmb : ((i + 1 : Nat) : Int) * (n : Int) = (b : Int) := by rw [← hb]; exact (Int.natCast_mul _ _).symm
  rw [ha] at HB h1
  rw [hb] at HB h2
  obtain ⟨i1, hi1⟩ : ∃ i1, i + 1 = i1 := ⟨_, rfl⟩
  rw [hi1] at hwi hmb
  have ra := shr_rule a p
  have rb := shr_rule b p
  obtain ⟨c, hc⟩ : ∃ c, a / 2 ^ p = c := ⟨_, rfl⟩
  obtain ⟨d, hd⟩ : ∃ d, b / 2 ^ p = d := ⟨_, rfl⟩
  rw [hc] at ra HB
  rw [hd] at rb HB
  rw [hi1] at HB
  have HI := hid hi1
  clear ha hb hc hd hi1
  go_enter Tryz.func75, Tryz.ntmps75
  go_wp2_with fail
  go_quiet (fail)
  go_wp2_with fail
  go_ret2
  rw [HI.out, HB.out.1, HB.out.2]
  exact ⟨rfl, _, rfl⟩

/-- Is there such a part? -/
def bdB (n p i : Int) : Bool := decide (0 ≤ n ∧ n ≤ 65536 ∧ 0 ≤ p ∧ p ≤ 6 ∧ 0 ≤ i ∧ i < 2 ^ p.toNat)
theorem bdB_iff (n p i : Int) : bdB n p i = true ↔ (0 ≤ n ∧ n ≤ 65536 ∧ 0 ≤ p ∧ p ≤ 6 ∧ 0 ≤ i ∧ i < 2 ^ p.toNat) := by unfold bdB; rw [decide_eq_true_iff]
end Go.Proofs.YtjboboaccjbebaaGreat
/- The reference's Code of layer 6. -/
namespace Go.Proofs.YtjboboaccjbebaaGreat
open Go.RowKit

theorem codeK_low {u k : Nat} (h : u / 2 ^ k < 24) : codeK u k = (List.replicate (u / 2 ^ k) true ++ [false]) ++ bitsOf u k := by unfold codeK; rw [if_pos h]
theorem codeK_high {u k : Nat} (h : ¬ u / 2 ^ k < 24) : codeK u k = List.replicate 24 true ++ bitsOf u 40 := by unfold codeK; rw [if_neg h]
theorem bis_ones (n : Nat) : bis (List.replicate n true) = List.replicate n 1 := by unfold bis; rw [List.map_replicate]; rfl
theorem FreshI.app1' {w w1 w2 : World} {F : List Int} {v : Value} {x : Int} {n g cap : Nat} {o : Obj} (h : FreshI w F v w1) (hn : F.length = n) (hown : w2.ownsRow 0 3 1 (.slice (some ⟨g, 0, none⟩) (n + 1) cap) (n + 1) (i64s F ++ [.int .i64 x])) (hg : (w1.alloc o).grownBy w2 v.ownBlock) (hm : v.ownBlock = some g ∨ g = w1.heap.size + 1) :
    FreshI w (F ++ [x]) (.slice (some ⟨g, 0, none⟩) (n + 1) cap) w2 := by
  subst hn
  exact h.app1 hown hg hm
theorem FreshI.own_n {w w1 : World} {F : List Int} {v : Value} {n : Nat} (h : FreshI w F v w1) (hn : F.length = n) : w1.ownsRow 0 3 1 v n (i64s F) := by
  have := h.1
  rwa [hn] at this

/-- Bits, made. -/
def CodeS (w : World) (B : List Bool) (n : Nat) (e : Ending) (w' : World) : Prop := ∃ A c, e = .returned (.slice A n c) ∧ FreshI w (bis B) (.slice A n c) w'

set_option maxRecDepth 100000 in
set_option maxHeartbeats 4000000 in
theorem refcode_none (u : Nat) (k : Int) (w : World) (h : ¬ (paramB k = true ∧ mayB u = true)) :
    Calls Tryz.prog 108 #[.int .u64 (u : Int), .int .i64 k] w fun e w' => e = .returned (.slice none 0 0) ∧ w = w' := by
  have HP := hid (refparam_any k w)
  have HM := hid (refmay_any u w)
  have HH := hid h
  obtain ⟨b, hb⟩ : ∃ b, paramB k = b := ⟨_, rfl⟩
  obtain ⟨c, hc⟩ : ∃ c, mayB u = c := ⟨_, rfl⟩
  rw [hb] at HP HH
  rw [hc] at HM HH
  clear hb hc h
  cases b
  · go_enter Tryz.func108, Tryz.ntmps108
    go_wp2_with fail
    with_reducible refine HP.out.mono ?_
    rintro e w1 ⟨rfl, rfl⟩
    go_wp2_with fail
    go_ret
    exact ⟨rfl, rfl⟩
  cases c
  · go_enter Tryz.func108, Tryz.ntmps108
    go_wp2_with fail
    with_reducible refine HP.out.mono ?_
    rintro e w1 ⟨rfl, rfl⟩
    go_wp2_with fail
    with_reducible refine HM.out.mono ?_
    rintro e w1 ⟨rfl, rfl⟩
    go_wp2_with fail
    go_ret
    exact ⟨rfl, rfl⟩
  · exact absurd ⟨rfl, rfl⟩ HH.out

set_option maxRecDepth 100000 in
set_option maxHeartbeats 4000000 in
theorem refcode_ok (u k : Nat) (w : World) (hu : u < 1099511627776) (hk : k ≤ 30) :
    Calls Tryz.prog 108 #[.int .u64 (u : Int), .int .i64 (k : Int)] w (CodeS w (codeK u k) (costK u k)) := by
  have HP := hid (refparam_any (k : Int) w)
  have HM := hid (refmay_any u w)
  rw [(paramB_iff (k : Int)).2 (by omega)] at HP
  rw [(mayB_iff u).2 hu] at HM
  have HQ := refquo_any u k hk w
  have hq := Nat.div_le_self u (2 ^ k)
  have HE := hid (And.intro (@codeK_low u k) (And.intro (@codeK_high u k) (show costK u k = if u / 2 ^ k < 24 then u / 2 ^ k + 1 + k else 64 from rfl)))
  obtain ⟨q, hqe⟩ : ∃ q, u / 2 ^ k = q := ⟨_, rfl⟩
  rw [hqe] at HQ hq HE
  have HQQ := hid HQ
  clear HQ hqe
  go_enter Tryz.func108, Tryz.ntmps108
  go_wp2_with fail
  with_reducible refine HP.out.mono ?_
  rintro e w1 ⟨rfl, rfl⟩
  go_wp2_with fail
  with_reducible refine HM.out.mono ?_
  rintro e w1 ⟨rfl, rfl⟩
  go_wp2_with fail
  with_reducible refine HQQ.out.mono ?_
  rintro e w1 ⟨rfl, rfl⟩
  clear HP HM HQQ
  go_wp2_with fail
  go_loopw [6, 7] (fun o i wr => ∃ j : Nat, j ≤ 24 ∧ j ≤ q ∧ i = .int .i64 j ∧ ∃ A c, o = .slice A j c ∧ FreshI w (List.replicate j 1) (.slice A j c) wr) (fun _ i _ => 24 - (intOf i).toNat)
  case atStart => exact ⟨0, by omega, by omega, rfl, none, 0, rfl, ⟨World.ownsRow_nil _ _ _ _, .refl _ _, by simp [Value.ownBlock]⟩⟩
  case round =>
    obtain ⟨j, hj, hjq, rfl, A, c, rfl, hf⟩ := hrel
    have HF := hid hf
    clear hf
    have hwj : IntKind.u64.wrap (j : Int) = (j : Int) := IntWalk.u64_in _ (by omega)
    by_cases hgo : j < 24 ∧ j < q
    · have g1 : (j : Int) < 24 := by omega
      have g2 : (j : Int) < (q : Int) := by omega
      go_wp2_with (at_builtin; go_must (refine wpList_app1 _ rfl (.tmp 29) (.tmp 30) 22 rfl 3 .i64 8 Tryz.underlying22 Tryz.info_int (.slice A j c) (i64s (List.replicate j 1)) j rfl ?d1 ⟨wr.heap.size, 0, none⟩ 1 rfl ?d3 (by decide) ?d4 (wr.heap.size + 1) ?d5 ?_); rotate_right; intro g cap w2 hown2 hg2 hat hlt; replace hown2 := hid hown2; replace hg2 := hid hg2; replace hat := hid hat)
      case d1 => exact (HF.out.own_n (List.length_replicate)).alloc _
      case d3 => exact World.cell?_alloc_at _ _ _ _ rfl
      case d4 => omega
      case d5 => simp
      go_roundw
      case rel =>
        have h := HF.out.app1' (List.length_replicate) hown2.out hg2.out hat.out
        rw [← List.replicate_succ'] at h
        exact ⟨j + 1, by omega, by omega, by go_num, _, _, rfl, h⟩
      case measure => simp [intOf]; omega
    · by_cases hlt : q < 24
      · obtain rfl : j = q := by omega
        have g0 : (j : Int) < 24 := by omega
        have g2 : ¬ (j : Int) < (j : Int) := by omega
        go_wp2_with (at_builtin; go_must (refine wpList_app1 _ rfl (.tmp 34) (.tmp 35) 22 rfl 3 .i64 8 Tryz.underlying22 Tryz.info_int (.slice A j c) (i64s (List.replicate j 1)) j rfl ?d1 ⟨wr.heap.size, 0, none⟩ 0 rfl ?d3 (by decide) ?d4 (wr.heap.size + 1) ?d5 ?_); rotate_right; intro g cap w2 hown2 hg2 hat hlt; replace hown2 := hid hown2; replace hg2 := hid hg2; replace hat := hid hat)
        case d1 => exact (HF.out.own_n (List.length_replicate)).alloc _
        case d4 => omega
        have h2 := HF.out.app1' (List.length_replicate) hown2.out hg2.out hat.out
        have H2 := hid h2
        clear h2 hown2 hg2 hat
        go_wp2_with fail
        have HC := bits_sl (u : Int) (k : Int) u k rfl rfl w2 (by omega) (by omega)
        with_reducible refine HC.mono ?_
        clear HC
        rintro e w3 ⟨A3, c3, rfl, hf3⟩
        have H3 := hid (And.intro (H2.out.later hf3.bel) hf3)
        clear hf3
        go_wp2_with (at_builtin; go_must (refine wpList_app _ rfl (.tmp 36) (.tmp 39) 22 rfl 3 .i64 8 Tryz.underlying22 Tryz.info_int (.slice (some ⟨g, 0, none⟩) (j + 1) cap) (j + 1) (i64s (List.replicate j 1 ++ [0])) rfl ?c1 (.slice A3 k c3) (i64s (bis (bitsOf u k))) rfl ?c2 i64s_one (by decide) ?c3 ?_); rotate_right; intro v6 w6 hown hg hm; replace hown := hid hown; replace hg := hid hg; replace hm := hid hm)
        case c1 => exact H3.out.1.own_n (by rw [List.length_append, List.length_replicate]; rfl)
        case c2 => exact H3.out.2.sl
        case c3 => rw [i64s_length, bis_length, bitsOf_length]; omega
        have h6 := H3.out.1.app (G := bis (bitsOf u k)) (by rw [List.length_append, List.length_replicate]; exact hown.out) hg.out hm.out
        rw [show List.replicate j (1 : Int) ++ [0] ++ bis (bitsOf u k) = bis (codeK u k) by rw [HE.out.1 (by omega), bis_app, bis_app, bis_ones]; rfl] at h6
        obtain ⟨A6, c6, rfl⟩ := h6.form
        rw [bis_length, codeK_length] at h6 ⊢
        have H6 := hid h6
        go_wp2_with fail
        go_ret
        exact ⟨A6, c6, rfl, H6.out⟩
      · obtain rfl : j = 24 := by omega
        have g3 : ¬ (q : Int) < 24 := by omega
        have g0 : ¬ ((24 : Nat) : Int) < 24 := by omega
        go_wp2_with fail
        have HC := bits_sl (u : Int) 40 u 40 rfl rfl wr (by omega) (by omega)
        with_reducible refine HC.mono ?_
        clear HC
        rintro e w3 ⟨A3, c3, rfl, hf3⟩
        have H3 := hid (And.intro (HF.out.later hf3.bel) hf3)
        clear hf3
        go_wp2_with (at_builtin; go_must (refine wpList_app _ rfl (.tmp 41) (.tmp 43) 22 rfl 3 .i64 8 Tryz.underlying22 Tryz.info_int (.slice A 24 c) 24 (i64s (List.replicate 24 1)) rfl ?c1 (.slice A3 40 c3) (i64s (bis (bitsOf u 40))) rfl ?c2 i64s_one (by decide) ?c3 ?_); rotate_right; intro v6 w6 hown hg hm; replace hown := hid hown; replace hg := hid hg; replace hm := hid hm)
        case c1 => exact H3.out.1.own_n (List.length_replicate)
        case c2 => exact H3.out.2.sl
        case c3 => rw [i64s_length, bis_length, bitsOf_length]; omega
        have h6 := H3.out.1.app (G := bis (bitsOf u 40)) (by rw [List.length_replicate]; exact hown.out) hg.out hm.out
        rw [show List.replicate 24 (1 : Int) ++ bis (bitsOf u 40) = bis (codeK u k) by rw [HE.out.2.1 hlt, bis_app, bis_ones]] at h6
        obtain ⟨A6, c6, rfl⟩ := h6.form
        rw [bis_length, codeK_length] at h6 ⊢
        have H6 := hid h6
        go_wp2_with fail
        go_ret
        exact ⟨A6, c6, rfl, H6.out⟩

/-- Whatever number and parameter. -/
theorem refcode_any06 (u : Nat) (k : Int) (w : World) :
    Calls Tryz.prog 108 #[.int .u64 (u : Int), .int .i64 k] w (CodeS w (codeR u k) (costR u k)) := by
  by_cases hb : paramB k = true ∧ mayB u = true
  · have hk := (paramB_iff k).1 hb.1
    obtain ⟨m, rfl⟩ := Int.eq_ofNat_of_zero_le hk.1
    have e1 : costR u (m : Int) = costK u m := by simp [costR, hb.1, hb.2]
    have e2 : codeR u (m : Int) = codeK u m := by simp [codeR, hb.1, hb.2]
    rw [e1, e2]
    exact refcode_ok u m w ((mayB_iff u).1 hb.2) (by omega)
  · have e1 : costR u k = 0 := by unfold costR; rw [if_neg hb]
    have e2 : codeR u k = [] := by unfold codeR; rw [if_neg hb]
    rw [e1, e2]
    refine (refcode_none u k w hb).mono ?_
    rintro e w' ⟨rfl, rfl⟩
    exact ⟨none, 0, rfl, ⟨World.ownsRow_nil _ _ _ _, .refl _ _, by simp [Value.ownBlock]⟩⟩
end Go.Proofs.YtjboboaccjbebaaGreat
/- The reference of layer 7: Gamma, Coded, Cost. -/
namespace Go.Proofs.YtjboboaccjbebaaGreat
open Go.RowKit

set_option maxRecDepth 100000 in
set_option maxHeartbeats 1600000 in
theorem refcoded_any (l : Value) (xs : List Int) (w : World) (hl : Sl w l (i64s xs)) (hx : InI xs) :
    Calls Tryz.prog 137 #[l] w fun e w' => e = .returned (.bool (codedB xs)) ∧ w = w' := by
  obtain ⟨A, c, rfl, hm⟩ := i64s_form hl
  have H := hid (And.intro hl hx)
  clear hl hx
  go_enter Tryz.func137, Tryz.ntmps137
  go_wp2_with fail
  go_loop [3] (fun i => ∃ k : Nat, k ≤ xs.length ∧ i = .int .i64 k ∧ Hid (codedB (xs.take k) = true)) (fun i => xs.length - (intOf i).toNat)
  case atStart => exact ⟨0, by omega, rfl, by simp [Hid, codedB]⟩
  case round =>
    obtain ⟨j, hj, rfl, hd⟩ := hrel
    by_cases hjm : j < xs.length
    · have hin : (j : Int) < xs.length := by omega
      obtain ⟨ad, rfl, hc⟩ := i64s_at H.out.1 hjm
      have hxb := H.out.2 xs[j] (List.getElem_mem _)
      obtain ⟨x, hx⟩ : ∃ x, xs[j] = x := ⟨_, rfl⟩
      rw [hx] at hc hxb
      have HX := hid hx
      have HZ := refzig_any x w hxb.1 hxb.2
      obtain ⟨z, hz⟩ : ∃ z, zigN x = z := ⟨_, rfl⟩
      rw [hz] at HZ
      have HZZ := hid HZ
      have HX2 := hid hz
      clear hx hz HZ hxb
      have HT := hid (show decide ((1099511627776 : Int) ≤ (z : Int)) = !decide (z < 1099511627776) by rw [Bool.eq_iff_iff]; simp; omega)
      obtain ⟨t, ht⟩ : ∃ t, decide (z < 1099511627776) = t := ⟨_, rfl⟩
      rw [ht] at HT
      have HLT := hid ht
      clear ht
      cases t
      · have hb : decide ((1099511627776 : Int) ≤ (z : Int)) = true := HT.out
        go_wp2_with fail
        with_reducible refine HZZ.out.mono ?_
        rintro e w1 ⟨rfl, rfl⟩
        go_wp2_with fail
        go_ret
        have e : codedB xs = false := by
          unfold codedB
          rw [List.all_eq_false]
          exact ⟨x, by rw [← HX.out]; exact List.getElem_mem _, by rw [HX2.out, HLT.out]; simp⟩
        exact ⟨by rw [e]; rfl, rfl⟩
      · have hb : decide ((1099511627776 : Int) ≤ (z : Int)) = false := HT.out
        go_wp2_with fail
        with_reducible refine HZZ.out.mono ?_
        rintro e w1 ⟨rfl, rfl⟩
        go_wp2_with fail
        clear hb
        go_round
        case rel => exact ⟨j + 1, by omega, by go_num, by show _ = _; have h := hd.out; unfold codedB at h; unfold codedB; rw [take_snocI xs j hjm, List.all_append, h, HX.out]; simp only [List.all_cons, List.all_nil]; rw [HX2.out, HLT.out]; rfl⟩
        case measure => simp [intOf]; omega
    · have hin : ¬ (j : Int) < xs.length := by omega
      obtain rfl : j = xs.length := by omega
      go_wp2_with fail
      go_ret
      have h := hd.out
      rw [List.take_length] at h
      exact ⟨by rw [h]; rfl, rfl⟩

/-- A row of noughts that was just made. -/
theorem mk_fresh {w W : World} (h : Below w.heap.size w W) (m : Nat) (hm : m ≤ 1000000) : FreshI w (bis (List.replicate m false)) (.slice (some ⟨W.heap.size, 0, none⟩) m m) (W.alloc (.cells (madeCells #[.int .i64 0] m) 3)) := by
  have e : i64s (bis (List.replicate m false)) = i64s (List.replicate m 0) := by simp [bis, bi]
  have hb := Blk.new W 3 (madeCells #[.int .i64 0] m)
  rw [made_zero] at hb ⊢
  refine ⟨?_, h.alloc h.size _, fun g hg => ?_⟩
  · rw [bis_length, List.length_replicate, e]
    exact own_of_blk hb (Nat.le_refl m) (by unfold maxLen; omega) (by simp [i64s]) (by rw [List.take_of_length_le (by simp [i64s])]) (by simp [i64s])
  · simp [Value.ownBlock] at hg
    subst hg
    exact h.size

set_option maxRecDepth 100000 in
set_option maxHeartbeats 4000000 in
theorem refgamma_any (v : Nat) (w : World) (hv : v < 18446744073709551616) : Calls Tryz.prog 109 #[.int .u64 (v : Int)] w (CodeS w (gamC v) (gamCost v)) := by
  by_cases hg : gamB v = true
  · have hb := (gamB_iff v).1 hg
    have hw := gam_wid hg
    have e : gamCost v = 2 * wid v - 1 := by unfold gamCost; rw [if_pos hg]
    have eC : gamC v = List.replicate (wid v - 1) false ++ bitsOf v (wid v) := by unfold gamC; rw [if_pos hg]
    have HW := hid (fun W => refwidth_any v W hv)
    rw [e, eC]
    obtain ⟨k, hk⟩ : ∃ k, wid v = k := ⟨_, rfl⟩
    rw [hk] at HW hw ⊢
    obtain ⟨hk1, hk2, _, _⟩ := hw
    have b1 : ¬ (v : Int) < 1 := by omega
    have b2 : ¬ (4294967295 : Int) < v := by omega
    have hw1 : IntKind.i64.wrap ((k : Int) - 1) = ((k - 1 : Nat) : Int) := by rw [IntWalk.i64_in _ (by omega)]; omega
    obtain ⟨m, hm⟩ : ∃ m, k - 1 = m := ⟨_, rfl⟩
    rw [hm] at hw1
    have hmk := fun W => make_int m (by omega) W
    have hm32 : m ≤ 32 := by omega
    clear e eC hk hg hb
    go_enter Tryz.func109, Tryz.ntmps109
    go_wp2_with fail
    with_reducible refine (HW.out _).mono ?_
    rintro e w1 ⟨rfl, rfl⟩
    go_wp2_with fail
    have HH := hid (And.intro hm (And.intro hv hk1))
    clear hm hv
    go_region_law
      (first
        | (go_simp; go_at_call 56; (with_reducible refine (bits_sl (v : Int) (k : Int) v k rfl rfl _ HH.out.2.1 (by omega)).mono ?_); rintro e w2 ⟨A2, c2, rfl, hf⟩; (first
            | (have h1 : FreshI w (bis (List.replicate m false)) (.slice (some ⟨w.heap.size, 0, none⟩) m m) w2 := ((mk_fresh (Below.refl _ w) m (by omega)).later (Below.refl _ _).drew).later hf.bel; obtain ⟨vm, hvm⟩ : ∃ vm : Value, vm = .slice (some ⟨w.heap.size, 0, none⟩) m m := ⟨_, rfl⟩; rw [← hvm] at h1; have H2 := hid (And.intro h1 (And.intro hf.sl hvm)); clear h1 hf hvm)
            | (have h1 := mk_fresh (w := w) (W := w2) (below_undrew hf.bel) m (by omega); obtain ⟨vm, hvm⟩ : ∃ vm : Value, vm = .slice (some ⟨w2.heap.size, 0, none⟩) m m := ⟨_, rfl⟩; rw [← hvm] at h1; have H2 := hid (And.intro h1 (And.intro (hf.sl.alloc (.cells (madeCells #[.int .i64 0] m) 3)) hvm)); clear h1 hf hvm)))
        | (refine step_app _ rfl (.tmp 14) (.tmp 17) 22 rfl 3 .i64 8 Tryz.underlying22 Tryz.info_int vm m (i64s (bis (List.replicate m false))) ?_ ?_ (.slice A2 k c2) (i64s (bis (bitsOf v k))) ?_ ?_ i64s_one (by decide) ?_ ?_; (rw [H2.out.2.2]; simp [Act.eval]); (first | exact H2.out.1.own_of (List.length_replicate ..) | exact own_drew (H2.out.1.own_of (List.length_replicate ..))); (simp [Act.eval]); (first | exact H2.out.2.1 | exact H2.out.2.1.drew); (rw [i64s_length, bis_length, bitsOf_length]; omega); (intro v4 w4 hown hg hm4; (first | (have h4 := H2.out.1.bits_app' (List.length_replicate ..) hown hg hm4; have H4 := hid h4; clear h4 hown hg hm4) | (have h4 := (H2.out.1.later (Below.refl _ _).drew).bits_app' (List.length_replicate ..) hown hg hm4; have H4 := hid h4; clear h4 hown hg hm4)))))
    all_goals (
      obtain ⟨A5, c5, rfl⟩ := H4.out.form
      have hln : (bis (List.replicate m false ++ bitsOf v k)).length = 2 * k - 1 := by
        have := HH.out.1
        rw [bis_length, List.length_append, List.length_replicate, bitsOf_length]
        omega
      rw [hln] at H4 ⊢
      go_wp2_with fail
      go_ret
      rw [HH.out.1]
      exact ⟨A5, c5, rfl, H4.out⟩)
  · have b0 : ¬ (1 ≤ v ∧ v ≤ 4294967295) := fun h => hg ((gamB_iff v).2 h)
    have e : gamCost v = 0 := by unfold gamCost; rw [if_neg hg]
    have eC : gamC v = [] := by unfold gamC; rw [if_neg hg]
    rw [e, eC]
    clear e eC hg
    by_cases b1 : (v : Int) < 1
    · go_enter Tryz.func109, Tryz.ntmps109
      go_wp2_with fail
      go_ret
      exact ⟨none, 0, rfl, ⟨World.ownsRow_nil _ _ _ _, .refl _ _, by simp [Value.ownBlock]⟩⟩
    · have b2 : (4294967295 : Int) < v := by omega
      go_enter Tryz.func109, Tryz.ntmps109
      go_wp2_with fail
      go_ret
      exact ⟨none, 0, rfl, ⟨World.ownsRow_nil _ _ _ _, .refl _ _, by simp [Value.ownBlock]⟩⟩
end Go.Proofs.YtjboboaccjbebaaGreat
/- Layer 9: zigs, widths; the reference's Fits, May, Zigs, Raw, None. -/
namespace Go.Proofs.YtjboboaccjbebaaGreat
open Go.RowKit

theorem results_tmp3 {fn : Func} {t u v : Tmp} (h : fn.results = #[.tmp t, .tmp u, .tmp v]) (tmps : Array Value) (P : Program) (w : World) :
    (results fn tmps).run P w = .ok (.tuple #[tmps.getD t undef, tmps.getD u undef, tmps.getD v undef]) w := by
  simp [results, h]
theorem zigs_snoc (xs : List Int) (x : Int) : zigs (xs ++ [x]) = zigs xs ++ [zigN x] := by simp [zigs]
theorem zigs_lt {xs : List Int} (h : InI xs) : InU (zigs xs) := by
  intro u hu
  unfold zigs at hu
  obtain ⟨x, hx, rfl⟩ := List.mem_map.1 hu
  exact zig_lt (h x hx).1 (h x hx).2
theorem make_uint (n : Nat) (hn : n ≤ 17179869184) (w : World) :
    (Instr.makeSlice 49 (.int .i64 (n : Int)) (.int .i64 (n : Int))).run Tryz.prog w = .ok (.slice (some ⟨w.heap.size, 0, none⟩) n n) (w.alloc (.cells (madeCells #[.int .u64 0] n) 51)) := by
  obtain ⟨i0, hi, hz0, hz1, hz2⟩ := info_parts Tryz.info_uint
  have h := run_make (P := Tryz.prog) w 49 51 i0 (.int .u64 0) Tryz.underlying49 hi hz0 .i64 .i64 n n (by omega) (by omega) (by rw [hz2]; omega) (by omega)
  rw [hz1, Nat.mul_one, Int.toNat_natCast] at h
  exact h
theorem made_zeroU (n : Nat) : madeCells #[.int .u64 0] n = (u64s (List.replicate n 0)).toArray := by
  apply Array.ext
  · simp [size_madeCells, u64s]
  · intro i h1 h2
    simp [madeCells, u64s, Nat.mod_one]
theorem u64s_store (D : List Nat) (m x j : Nat) (hj : D.length = j) : (u64s (D ++ List.replicate (m + 1) 0)).toArray.setIfInBounds j (.int .u64 (x : Int)) = (u64s (D ++ [x] ++ List.replicate m 0)).toArray := by
  subst hj
  simp only [u64s, List.setIfInBounds_toArray, List.map_append, List.map_cons, List.map_nil, List.append_assoc]
  congr 1
  rw [List.set_append, if_neg (by simp), List.length_map, Nat.sub_self, List.replicate_succ, List.map_cons, List.set_cons_zero]
  rfl
theorem u64s_get (D : List Nat) (m j : Nat) (hj : D.length = j) : (u64s (D ++ List.replicate (m + 1) 0)).toArray[j]? = some (.int .u64 0) := by
  subst hj
  simp [u64s]

/-- A row of uints that was made, and filled so far. -/
theorem blk_freshU {w wr : World} {b n : Nat} {D : List Nat} (h : Blk wr b 51 (u64s D).toArray) (hn : D.length = n) (hm : n ≤ 1000000000) (hb : Below w.heap.size w wr) (hw : w.heap.size ≤ b) : FreshU w D (.slice (some ⟨b, 0, none⟩) n n) wr := by
  subst hn
  have hl := u64s_length D
  refine ⟨own_of_blk h (Nat.le_refl _) (by unfold maxLen; omega) (by simpa using hl) (by rw [List.take_of_length_le (by simpa using Nat.le_of_eq hl)]) hl, hb, fun g hg => ?_⟩
  simp [Value.ownBlock] at hg
  omega
def ZigS (w : World) (xs : List Int) (e : Ending) (w' : World) : Prop := ∃ A c, e = .returned (.slice A xs.length c) ∧ FreshU w (zigs xs) (.slice A xs.length c) w'

set_option maxRecDepth 100000 in
set_option maxHeartbeats 1600000 in
theorem zigs_any (l : Value) (xs : List Int) (w : World) (hl : Sl w l (i64s xs)) (hx : InI xs) (hn : xs.length ≤ 1048576) : Calls Tryz.prog 78 #[l] w (ZigS w xs) := by
  obtain ⟨A, c, rfl, hm⟩ := i64s_form hl
  have hmk := fun W => make_uint xs.length (by omega) W
  have H := hid (And.intro hl hx)
  clear hl hx
  go_enter Tryz.func78, Tryz.ntmps78
  go_wp2_with fail
  clear hmk
  go_loopw [11] (fun i wr => ∃ j m : Nat, j + m = xs.length ∧ i = .int .i64 j ∧ Hid (Blk wr w.heap.size 51 (u64s (zigs (xs.take j) ++ List.replicate m 0)).toArray) ∧ Hid (Below w.heap.size w wr)) (fun i _ => xs.length - (intOf i).toNat)
  case atStart => exact ⟨0, xs.length, by omega, rfl, by rw [made_zeroU]; simpa [zigs, Hid] using Blk.new w _ _, (Below.refl _ _).alloc (Nat.le_refl _) _⟩
  case round =>
    obtain ⟨j, m, hjm, rfl, hblk, hbel⟩ := hrel
    rcases m with _ | m
    · have hin : ¬ (j : Int) < xs.length := by omega
      obtain rfl : j = xs.length := by omega
      go_wp2_with fail
      go_ret
      have h := hblk.out
      rw [List.take_length, List.replicate_zero, List.append_nil] at h
      exact ⟨_, _, rfl, blk_freshU h (zigs_length xs) (by omega) hbel.out (Nat.le_refl _)⟩
    · have hin : (j : Int) < xs.length := by omega
      have hjx : j < xs.length := by omega
      obtain ⟨ad, rfl, hc⟩ := i64s_at (H.out.1.below hbel.out) hjx
      have hxb := H.out.2 xs[j] (List.getElem_mem _)
      have hlz : (zigs (xs.take j)).length = j := by rw [zigs_length, List.length_take]; omega
      have hcb := hblk.out.cell j
      have hfb := hblk.out.frozen j
      rw [u64s_get _ _ _ hlz] at hcb
      obtain ⟨x, hxe⟩ : ∃ x, xs[j] = x := ⟨_, rfl⟩
      rw [hxe] at hc hxb
      have HX := hid (And.intro hxe hlz)
      have HZ := hid (zig_any x wr hxb.1 hxb.2)
      obtain ⟨z, hz⟩ : ∃ z, zigN x = z := ⟨_, rfl⟩
      rw [hz] at HZ
      have HZZ := hid hz
      clear hxe hlz hz hxb
      go_wp2_with fail
      with_reducible refine HZ.out.mono ?_
      rintro e w1 ⟨rfl, rfl⟩
      go_wp2_with fail
      go_roundw
      case rel =>
        refine ⟨j + 1, m, by omega, by go_num, ?_, hbel.out.setCell (by simp) _⟩
        have h := hblk.out.upd j (.int .u64 (z : Int))
        rw [u64s_store _ _ _ _ HX.out.2] at h
        show Blk _ _ _ _
        rw [take_snocI xs j hjx, zigs_snoc, HX.out.1, HZZ.out]
        exact h
      case measure => simp [intOf]; omega

set_option maxRecDepth 100000 in
set_option maxHeartbeats 1600000 in
theorem widths_any (l : Value) (xs : List Int) (w : World) (hl : Sl w l (i64s xs)) (hx : InI xs) : Calls Tryz.prog 113 #[l] w fun e w' => e = .returned (.tuple #[.int .i64 (zigW xs : Nat), .int .i64 (needL xs : Nat), .int .i64 (noneN xs : Nat)]) ∧ w = w' := by
  obtain ⟨A, c, rfl, hm⟩ := i64s_form hl
  have H := hid (And.intro hl hx)
  clear hl hx
  go_enter Tryz.func113, Tryz.ntmps113
  go_wp2_with fail
  go_loop [5, 6, 7, 12] (fun a b n i => ∃ j t u m : Nat, j ≤ xs.length ∧ i = .int .i64 j ∧ a = .int .i64 t ∧ b = .int .i64 u ∧ n = .int .i64 m ∧ m ≤ j ∧ Hid (t = zigW (xs.take j) ∧ u = needL (xs.take j) ∧ m = noneN (xs.take j))) (fun _ _ _ i => xs.length - (intOf i).toNat)
  case atStart => exact ⟨0, 0, 1, 0, by omega, rfl, rfl, rfl, rfl, by omega, rfl, rfl, rfl⟩
  case round =>
    obtain ⟨j, t, u, m, hj, rfl, rfl, rfl, rfl, hmj, hd⟩ := hrel
    by_cases hjm : j < xs.length
    · have hin : (j : Int) < xs.length := by omega
      obtain ⟨ad, rfl, hc⟩ := i64s_at H.out.1 hjm
      have hxb := H.out.2 xs[j] (List.getElem_mem _)
      obtain ⟨x, hxe⟩ : ∃ x, xs[j] = x := ⟨_, rfl⟩
      rw [hxe] at hc hxb
      have HX := hid hxe
      have HZ := hid (zig_any x w hxb.1 hxb.2)
      have hzl := zig_lt hxb.1 hxb.2
      have HW := hid (width_any (zigN x) w hzl)
      have HN := hid (need_any x w hxb.1 hxb.2)
      have HS := hid (show zigW (xs.take (j + 1)) = max t (wid (zigN x)) ∧ needL (xs.take (j + 1)) = max u (needN x) ∧ noneN (xs.take (j + 1)) = m + (if x = 0 then 1 else 0) from by
        rw [take_snocI xs j hjm, hxe, zigW_snoc, needL_snoc, noneN_snoc, ← hd.out.1, ← hd.out.2.1, ← hd.out.2.2]
        exact ⟨rfl, rfl, rfl⟩)
      obtain ⟨z, hz⟩ : ∃ z, zigN x = z := ⟨_, rfl⟩
      rw [hz] at HZ HW HS
      obtain ⟨q, hq⟩ : ∃ q, wid z = q := ⟨_, rfl⟩
      rw [hq] at HW HS
      obtain ⟨r, hr⟩ : ∃ r, needN x = r := ⟨_, rfl⟩
      rw [hr] at HN HS
      have hm1 : max (t : Int) (q : Int) = ((max t q : Nat) : Int) := by omega
      have hm2 : max (u : Int) (r : Int) = ((max u r : Nat) : Int) := by omega
      obtain ⟨t2, ht2⟩ : ∃ t2, max t q = t2 := ⟨_, rfl⟩
      obtain ⟨u2, hu2⟩ : ∃ u2, max u r = u2 := ⟨_, rfl⟩
      rw [ht2] at hm1 HS
      rw [hu2] at hm2 HS
      clear hxe hz hq hr ht2 hu2 hxb hzl
      by_cases h0 : x = 0
      · rw [if_pos h0] at HS
        have hb0 : (x == 0) = true := by rw [beq_iff_eq]; exact h0
        clear h0
        go_wp2_with fail
        with_reducible refine HZ.out.mono ?_
        rintro e w1 ⟨rfl, rfl⟩
        go_wp2_with fail
        with_reducible refine HW.out.mono ?_
        rintro e w1 ⟨rfl, rfl⟩
        go_wp2_with fail
        with_reducible refine HN.out.mono ?_
        rintro e w1 ⟨rfl, rfl⟩
        go_wp2_with fail
        go_round
        case rel => exact ⟨j + 1, t2, u2, m + 1, by omega, by go_num, by first | rfl | go_num, by first | rfl | go_num, by go_num, by omega, HS.out.1.symm, HS.out.2.1.symm, HS.out.2.2.symm⟩
        case measure => simp [intOf]; omega
      · rw [if_neg h0, Nat.add_zero] at HS
        have hb0 : (x == 0) = false := by rw [beq_eq_false_iff_ne]; exact h0
        clear h0
        go_wp2_with fail
        with_reducible refine HZ.out.mono ?_
        rintro e w1 ⟨rfl, rfl⟩
        go_wp2_with fail
        with_reducible refine HW.out.mono ?_
        rintro e w1 ⟨rfl, rfl⟩
        go_wp2_with fail
        with_reducible refine HN.out.mono ?_
        rintro e w1 ⟨rfl, rfl⟩
        go_wp2_with fail
        go_round
        case rel => exact ⟨j + 1, t2, u2, m, by omega, by go_num, by first | rfl | go_num, by first | rfl | go_num, rfl, by omega, HS.out.1.symm, HS.out.2.1.symm, HS.out.2.2.symm⟩
        case measure => simp [intOf]; omega
    · have hin : ¬ (j : Int) < xs.length := by omega
      obtain rfl : j = xs.length := by omega
      go_wp2_with fail
      refine bodyPost_ret (results_tmp3 rfl _ _ _) rfl ?_
      have h := hd.out
      rw [List.take_length] at h
      rw [← h.1, ← h.2.1, ← h.2.2]
      exact ⟨rfl, rfl⟩
end Go.Proofs.YtjboboaccjbebaaGreat
