/- More references of layer 2: Many, Align, Bytes, Of. -/
import Derived.Test.YtjboboaccjbebaaGreatMgA
import Derived.Test.YtjboboaccjbebaaGreatMgB

namespace Go.Proofs.YtjboboaccjbebaaGreat
open Go.RowKit

/-- Ints in new memory and an error are handed back. -/
def FreshE (w : World) (F : List Int) (x : Int) (e : Ending) (w' : World) : Prop := ∃ A c, e = .returned (.tuple #[.slice A F.length c, .int .i64 x]) ∧ FreshI w F (.slice A F.length c) w'

/-- How many noughts Align adds. -/
def pad8 (n : Nat) : Nat := (8 - n % 8) % 8

set_option maxRecDepth 100000 in
set_option maxHeartbeats 800000 in
theorem refalign_any (l : Value) (F : List Int) (w : World) (hl : Sl w l (i64s F)) (hF : F.length ≤ 8589934592) :
    Calls Tryz.prog 29 #[l] w (FreshIS w (F ++ List.replicate (pad8 F.length) 0)) := by
  have H := hid hl
  clear hl
  go_enter Tryz.func29, Tryz.ntmps29
  go_wp2_with (at_builtin; go_must (refine wpList_app _ rfl (.tmp 5) (.tmp 6) 22 rfl 3 .i64 8 Tryz.underlying22 Tryz.info_int (.slice (some ⟨w.heap.size, 0, none⟩) 0 0) 0 [] rfl ?c1 l (i64s F) rfl ?c2 i64s_one (by decide) ?c3 ?_); rotate_right; intro v1 w1 hown hg hm; replace hown := hid hown; replace hg := hid hg; replace hm := hid hm)
  case c1 => exact (FreshI.empty w).1
  case c2 => exact H.out.alloc _
  case c3 => rw [i64s_length]; omega
  have hf1 := hid (show FreshI w F v1 w1 from (FreshI.empty w).app (G := F) hown.out hg.out hm.out)
  clear hown hg hm
  go_loopw [3, 4] (fun o i wr => ∃ (k : Nat) (A : Option Addr) (c : Nat), k ≤ pad8 F.length ∧ i = .int .i64 k ∧ o = .slice A (F.length + k) c ∧ FreshI w (F ++ List.replicate k 0) (.slice A (F.length + k) c) wr) (fun _ i _ => 8 - (intOf i).toNat)
  case atStart =>
    have h := hf1.out
    obtain ⟨A, c, e⟩ := h.form
    subst e
    exact ⟨0, A, c, Nat.zero_le _, rfl, rfl, by simpa using h⟩
  case round =>
    obtain ⟨k, A, c, hk, rfl, rfl, hf⟩ := hrel
    have HF := hid hf
    clear hf
    have hk8 : (k : Int) < 8 := by unfold pad8 at hk; omega
    by_cases hkn : k < pad8 F.length
    · have ht : (((F.length : Int) + (k : Int)) % 8 != 0) = true := by
        rw [bne_iff_ne]; unfold pad8 at hkn; omega
      go_wp2_with (at_builtin; go_must (refine wpList_app1 _ rfl (.tmp 18) (.tmp 19) 22 rfl 3 .i64 8 Tryz.underlying22 Tryz.info_int (.slice A (F.length + k) c) (i64s (F ++ List.replicate k 0)) (F.length + k) rfl ?d1 ⟨wr.heap.size, 0, none⟩ 0 rfl ?d3 (by decide) ?d4 (wr.heap.size + 1) ?d5 ?_); rotate_right; intro g cap w2 hown2 hg2 hat hlt; replace hown2 := hid hown2; replace hg2 := hid hg2; replace hat := hid hat)
      case d1 =>
        have h := HF.out.1.alloc (.cells #[.int .i64 0] 3)
        rw [List.length_append, List.length_replicate] at h
        exact h
      case d3 => exact World.cell?_alloc_at _ _ _ _ rfl
      case d4 => omega
      case d5 => simp
      go_roundw
      case rel =>
        have e : (F ++ List.replicate k 0).length = F.length + k := by simp
        have h := HF.out.app1 (cap := cap) (by rw [e]; exact hown2.out) hg2.out hat.out
        rw [List.append_assoc, ← List.replicate_succ', e] at h
        exact ⟨k + 1, some ⟨g, 0, none⟩, cap, by omega, by go_num, rfl, h⟩
      case measure => simp [intOf]; omega
    · obtain rfl : k = pad8 F.length := by omega
      have ht : (((F.length : Int) + ((pad8 F.length : Nat) : Int)) % 8 != 0) = false := by
        rw [bne_eq_false_iff_eq]; unfold pad8; omega
      go_wp2_with fail
      go_ret
      have e : (F ++ List.replicate (pad8 F.length) 0).length = F.length + pad8 F.length := by simp
      refine ⟨A, c, by rw [e]; rfl, by rw [e]; exact HF.out⟩

/-- The bytes that bits are, m of them. -/
def packN (M : List Bool) (m : Nat) : List Nat := (List.range m).map fun i => valOf ((M.drop (8 * i)).take 8)
theorem packN_length (M : List Bool) (m : Nat) : (packN M m).length = m := by simp [packN]
theorem packN_get (M : List Bool) (m i : Nat) (h : i < (packN M m).length) : (packN M m)[i] = valOf ((M.drop (8 * i)).take 8) := by simp [packN]
theorem packN_succ (M : List Bool) (m : Nat) : packN M (m + 1) = packN M m ++ [valOf ((M.drop (8 * m)).take 8)] := by simp [packN, List.range_succ]
theorem packN_lt (M : List Bool) (m : Nat) : ∀ x ∈ packN M m, x < 256 := by
  intro x hx
  simp only [packN, List.mem_map] at hx
  obtain ⟨i, _, rfl⟩ := hx
  have h := valOf_lt ((M.drop (8 * i)).take 8)
  have : 2 ^ ((M.drop (8 * i)).take 8).length ≤ 2 ^ 8 := Nat.pow_le_pow_right (by omega) (by rw [List.length_take]; omega)
  omega
theorem flat_packN (M : List Bool) (m : Nat) (h : 8 * m ≤ M.length) : flat (packN M m) = M.take (8 * m) := by
  induction m with
  | zero => simp [packN, flat]
  | succ m ih =>
    have e8 : ((M.drop (8 * m)).take 8).length = 8 := by rw [List.length_take, List.length_drop]; omega
    have hb := bitsOf_valOf ((M.drop (8 * m)).take 8)
    rw [e8] at hb
    rw [packN_succ, flat_append, ih (by omega), flat_one, hb, show 8 * (m + 1) = 8 * m + 8 from by omega, List.take_add]

theorem byte_store (M : List Bool) (m i : Nat) (y : Int) (hy : y = ((valOf ((M.drop (8 * i)).take 8) : Nat) : Int)) (hi : i < m) :
    (u8s (packN M i ++ List.replicate (m - i) 0)).toArray.setIfInBounds i (.int .u8 y) = (u8s (packN M (i + 1) ++ List.replicate (m - (i + 1)) 0)).toArray := by
  obtain ⟨d, rfl⟩ : ∃ d, m = i + 1 + d := ⟨m - (i + 1), by omega⟩
  rw [show i + 1 + d - i = d + 1 from by omega, show i + 1 + d - (i + 1) = d from by omega, packN_succ, hy]
  simp only [u8s, List.setIfInBounds_toArray, List.map_append, List.append_assoc]
  congr 1
  rw [List.set_append, if_neg (by simp [packN])]
  simp [packN, List.replicate_succ]

theorem make_u8s (n : Nat) (hn : n ≤ 17179869184) (w : World) :
    (Instr.makeSlice 25 (.int .i64 (n : Int)) (.int .i64 (n : Int))).run Tryz.prog w = .ok (.slice (some ⟨w.heap.size, 0, none⟩) n n) (w.alloc (.cells (madeCells #[.int .u8 0] n) 5)) := by
  have h := make_u8 n n (by omega) (by omega) (by omega) w
  rw [Int.toNat_natCast] at h
  exact h
theorem made_zero8 (n : Nat) : madeCells #[.int .u8 0] n = (u8s (List.replicate n 0)).toArray := by
  apply Array.ext
  · simp [size_madeCells, u8s]
  · intro i h1 h2
    simp [madeCells, u8s, Nat.mod_one]

theorem bis_get (M : List Bool) (i : Nat) (h : i < M.length) : (i64s (bis M))[i]'(by rw [i64s_length, bis_length]; exact h) = .int .i64 (bi M[i]) := by simp [i64s, bis]

set_option maxRecDepth 100000 in
set_option maxHeartbeats 1600000 in
theorem refbytes_any (l : Value) (L : List Bool) (w : World) (hl : Sl w l (i64s (bis L))) (hL : L.length ≤ 4294967296) :
    Calls Tryz.prog 12 #[l] w (BytesPost w L) := by
  have H := hid hl
  clear hl
  go_enter Tryz.func12, Tryz.ntmps12
  go_wp2_with fail
  have HC := refalign_any l (bis L) w H.out (by rw [bis_length]; omega)
  with_reducible refine HC.mono ?_
  clear HC
  have epad : bis L ++ List.replicate (pad8 (bis L).length) 0 = bis (padded L) := by
    unfold padded pad8
    rw [bis_app, bis_length]
    simp [bis, bi]
  rw [epad]
  rintro e w1 ⟨A, c, rfl, hf⟩
  obtain ⟨M, hM⟩ : ∃ M, padded L = M := ⟨_, rfl⟩
  rw [hM, bis_length] at hf ⊢
  have h8 : M.length % 8 = 0 ∧ M.length ≤ 4294967304 := by
    rw [← hM]; unfold padded; simp; omega
  obtain ⟨m, hm⟩ : ∃ m, M.length = 8 * m := ⟨M.length / 8, by omega⟩
  rw [hm] at hf ⊢ h8
  have hm2 := h8.2
  have HF := hid (And.intro hf (And.intro hM hm))
  clear hf hM hm h8 epad
  have hmk := fun W => make_u8s m (by omega) W
  have hdiv : (8 * (m : Int)) / 8 = m := by omega
  go_wp2_with fail
  clear hmk hdiv
  go_loopw [4] (fun i wr => ∃ j : Nat, j ≤ m ∧ i = .int .i64 j ∧ Blk wr w1.heap.size 5 (u8s (packN M j ++ List.replicate (m - j) 0)).toArray ∧ Below w1.heap.size w1 wr) (fun i _ => m - (intOf i).toNat)
  case atStart => exact ⟨0, Nat.zero_le _, rfl, by rw [made_zero8]; simpa [packN] using Blk.new w1 _ _, (Below.refl _ _).alloc (Nat.le_refl _) _⟩
  case round =>
    obtain ⟨j, hj, rfl, hblk, hbel⟩ := hrel
    by_cases hjm : j < m
    · have hin : (j : Int) < m := by omega
      have hsl : Sl wr (.slice A (8 * m) c) (i64s (bis M)) := HF.out.1.sl.below hbel
      have hlen : (i64s (bis M)).length = 8 * m := by rw [i64s_length, bis_length]; exact HF.out.2.2
      obtain ⟨ad, rfl, hxx⟩ := hsl.at_ (show 8 * j < (i64s (bis M)).length by rw [hlen]; omega)
      have hcells : ∀ t, (ht : t < M.length) → wr.cell? (ad.add t) = some (.int .i64 (bi M[t])) := fun t ht => by
        obtain ⟨ad', e, hc⟩ := hsl.at_ (show t < (i64s (bis M)).length by rw [i64s_length, bis_length]; exact ht)
        injection e with e
        subst e
        rw [bis_get M t ht] at hc
        exact hc
      have HC := hid hcells
      have HB := hid (And.intro hblk hbel)
      have hc := hblk.cell j
      have hf := hblk.frozen j
      have e0 : (u8s (packN M j ++ List.replicate (m - j) 0)).toArray[j]? = some (.int .u8 0) := by
        obtain ⟨d, hd⟩ : ∃ d, m - j = d + 1 := ⟨m - j - 1, by omega⟩
        rw [hd]
        simp only [u8s, List.getElem?_toArray, List.map_append]
        rw [List.getElem?_append_right (by simp [packN])]
        simp [packN, List.replicate_succ]
      rw [e0] at hc
      clear hxx
      clear hcells hblk hbel hsl hlen e0
      go_wp2_with fail
      go_loop [5, 6] (fun n k => ∃ (t : Nat) (n0 : Int), t ≤ 8 ∧ k = .int .i64 t ∧ n = .int .i64 n0 ∧ n0 = ((valOf ((M.drop (8 * j)).take t) : Nat) : Int)) (fun _ k => 8 - (intOf k).toNat)
      case atStart => exact ⟨0, 0, by omega, rfl, rfl, by simp [valOf]⟩
      case round =>
        obtain ⟨t, n0, ht, rfl, rfl, hn0⟩ := hrel
        have hv := valOf_lt ((M.drop (8 * j)).take t)
        have hpow : 2 ^ ((M.drop (8 * j)).take t).length ≤ 2 ^ 8 := Nat.pow_le_pow_right (by omega) (by rw [List.length_take]; omega)
        have hn1 : 0 ≤ n0 := by omega
        have hn2 : n0 ≤ 255 := by omega
        have HN := hid hn0
        clear hn0 hv hpow
        by_cases ht8 : t < 8
        · have hin2 : (t : Int) < 8 := by omega
          have hlt : 8 * j + t < M.length := by rw [HF.out.2.2]; omega
          have hcell := HC.out (8 * j + t) hlt
          obtain ⟨b, hb⟩ : ∃ b, M[8 * j + t] = b := ⟨_, rfl⟩
          rw [hb] at hcell
          have hb0 : 0 ≤ bi b := by cases b <;> simp [bi]
          have hb1 : bi b ≤ 1 := by cases b <;> simp [bi]
          have HBb := hid hb
          clear hb
          go_wp2_with fail
          go_round
          case rel =>
            refine ⟨t + 1, _, by omega, by go_num, rfl, ?_⟩
            have e : (M.drop (8 * j)).take (t + 1) = (M.drop (8 * j)).take t ++ [b] := by
              rw [List.take_add_one, List.getElem?_drop, List.getElem?_eq_getElem hlt, HBb.out]; rfl
            rw [e, valOf_append, HN.out]
            cases b <;> simp [bi]
          case measure => simp [intOf]; omega
        · obtain rfl : t = 8 := by omega
          go_wp2_with fail
          go_roundw
          case rel =>
            obtain ⟨hblk, hbel⟩ := HB.out
            refine ⟨j + 1, by omega, by go_num, ?_, hbel.setCell (Nat.le_refl _) _⟩
            have h := hblk.upd j (.int .u8 n0)
            rw [byte_store M m j n0 HN.out hjm] at h
            exact h
          case measure => simp [intOf]; omega
    · obtain rfl : j = m := by omega
      have hin : ¬ (j : Int) < j := by omega
      have HB := hid (And.intro hblk hbel)
      clear hblk hbel
      go_wp2_with fail
      go_ret
      obtain ⟨hblk, hbel⟩ := HB.out
      rw [Nat.sub_self, List.replicate_zero, List.append_nil] at hblk
      have hM := HF.out.2.1
      have hMl := HF.out.2.2
      have hl : (packN M j).length = j := packN_length M j
      refine ⟨packN M j, some ⟨w1.heap.size, 0, none⟩, j, by rw [hl]; rfl, ⟨?_, ?_, ?_⟩, ?_, packN_lt M j⟩
      · rw [hl]
        exact own_of_blk hblk (Nat.le_refl _) (by unfold maxLen; omega) (by simp [u8s, hl]) (List.take_of_length_le (by simp [u8s, hl])) (by simp [u8s, hl])
      · exact HF.out.1.2.1.trans (hbel.mono HF.out.1.2.1.size)
      · intro g hg
        simp [Value.ownBlock] at hg
        have := HF.out.1.2.1.size
        omega
      · rw [flat_packN M j (by omega), hM, List.take_of_length_le (by omega)]

end Go.Proofs.YtjboboaccjbebaaGreat
/- The reference's reader (descantref02.Reader): Read, Left, Get, Ones, Align. -/
namespace Go.Proofs.YtjboboaccjbebaaGreat
open Go.RowKit

section
variable {w w' : World} {p : Nat} {v : Value} {L : List Bool} {i : Nat}
end

theorem refget_bit {L : List Bool} {i j V : Nat} (hV : V < 2 ^ j) (hj : j + 1 ≤ 64) (hVe : valOf ((L.drop i).take j) = V) (hlt : i + j < L.length) {b : Bool} (hb : L[i + j] = b) :
    IntKind.u64.wrap (IntKind.u64.wrap (2 * (V : Int)) + bi b) = ((valOf ((L.drop i).take (j + 1)) : Nat) : Int) := by
  have hp : 2 ^ (j + 1) ≤ 2 ^ 64 := Nat.pow_le_pow_right (by omega) hj
  rw [Nat.pow_succ] at hp
  have e : (L.drop i).take (j + 1) = (L.drop i).take j ++ [b] := take_more _ _ _ _ (by rw [List.getElem?_eq_getElem hlt, hb])
  have h1 : bi b = ((b.toNat : Nat) : Int) := by cases b <;> rfl
  have hb2 : b.toNat ≤ 1 := by cases b <;> decide
  have hlt2 : 2 * V + b.toNat < 18446744073709551616 := by omega
  rw [e, valOf_append, hVe, h1, IntWalk.u64_in (2 * (V : Int)) (by omega), IntWalk.u64_in _ (by omega)]
  omega

end Go.Proofs.YtjboboaccjbebaaGreat
/- Layer 6: Get, and the reference's: what any bits are read as. -/
namespace Go.Proofs.YtjboboaccjbebaaGreat
open Go.RowKit

/-- The number, the error, the place behind. -/
def rgT (L : List Bool) (i k : Nat) : Nat × Int × Nat :=
  if onesErr L i 24 ≠ 0 then (0, onesErr L i 24, onesAt L i 24)
  else if onesVal L i 24 < 24 then
    (if getErr L (onesAt L i 24) k ≠ 0 then (0, getErr L (onesAt L i 24) k, getAt L (onesAt L i 24) k) else (onesVal L i 24 * 2 ^ k + getVal L (onesAt L i 24) k, 0, getAt L (onesAt L i 24) k))
  else if getErr L (onesAt L i 24) 40 ≠ 0 then (0, getErr L (onesAt L i 24) 40, getAt L (onesAt L i 24) 40)
  else if getVal L (onesAt L i 24) 40 / 2 ^ k < 24 then (0, 12, getAt L (onesAt L i 24) 40) else (getVal L (onesAt L i 24) 40, 0, getAt L (onesAt L i 24) 40)

theorem RI.rd {w w' : World} {p : Nat} {v : Value} {F : List Nat} {j : Nat} (h : RI w p v F j w') : Rd w' p v F j := h.1
theorem ones_le (l : List Bool) (m : Nat) : ones l m ≤ m := by
  unfold ones
  refine Nat.le_trans (List.Sublist.length_le (List.takeWhile_sublist _)) ?_
  rw [List.length_take]
  omega
theorem onesVal_le (L : List Bool) (i m : Nat) : onesVal L i (m : Int) ≤ m := by
  have := ones_le (L.drop i) m
  unfold onesVal
  rw [Int.toNat_natCast]
  split
  · omega
  · split
    · omega
    · split <;> omega
theorem getVal_lt (L : List Bool) (i n : Nat) : getVal L i (n : Int) < 2 ^ n := by
  unfold getVal
  rw [Int.toNat_natCast]
  split
  · exact Nat.two_pow_pos n
  · refine Nat.lt_of_lt_of_le (valOf_lt _) (Nat.pow_le_pow_right (by omega) ?_)
    rw [List.length_take]
    omega

theorem rget_nil (k : Int) (w : World) : Calls Tryz.prog 129 #[.pointer none, .int .i64 k] w fun e w' => e = .returned (.tuple #[.int .u64 0, .int .i64 2]) ∧ w = w' := by
  go_enter Tryz.func129, Tryz.ntmps129
  go_wp2_with fail
  go_ret2
  exact ⟨rfl, rfl⟩
theorem rget_arg (p : Nat) (k : Int) (w : World) (h : paramB k = false) : Calls Tryz.prog 129 #[.pointer (some ⟨p, 0, none⟩), .int .i64 k] w fun e w' => e = .returned (.tuple #[.int .u64 0, .int .i64 1]) ∧ w = w' := by
  have HP := param_any k w
  rw [h] at HP
  replace HP := hid HP
  go_enter Tryz.func129, Tryz.ntmps129
  go_wp2_with fail
  with_reducible refine HP.out.mono ?_
  rintro e w1 ⟨rfl, rfl⟩
  go_wp2_with fail
  go_ret2
  exact ⟨rfl, rfl⟩

theorem shl_or (q k x : Nat) (hx : x < 2 ^ k) (hk : q * 2 ^ k + x < 18446744073709551616) : ∀ Y Z : Int, Y = (q : Int) → Z = (x : Int) → bits BinOp.or IntKind.u64 (IntKind.u64.wrap (Y * 2 ^ k)) Z = ((q * 2 ^ k + x : Nat) : Int) := by
  rintro Y Z rfl rfl
  have h := or_add q x k hx hk
  rwa [Int.natCast_pow] at h

set_option maxRecDepth 100000 in
set_option maxHeartbeats 4000000 in
theorem rget_any (w : World) (p : Nat) (v : Value) (F : List Nat) (i k : Nat) (h : Rd w p v F i) (hk : k ≤ 30) :
    Calls Tryz.prog 129 #[.pointer (some ⟨p, 0, none⟩), .int .i64 (k : Int)] w fun e w' => e = .returned (.tuple #[.int .u64 ((rgT (flat F) i k).1 : Int), .int .i64 (rgT (flat F) i k).2.1]) ∧ RI w p v F (rgT (flat F) i k).2.2 w' := by
  have HP := param_any (k : Int) w
  rw [(paramB_iff (k : Int)).2 (by omega)] at HP
  replace HP := hid HP
  have HT := hid (rgT.eq_1 (flat F) i k)
  have HO := rones_any w p v F i 24 h
  have hq := onesVal_le (flat F) i 24
  have HG := hid (fun (n : Int) w' j (h : Rd w' p v F j) => get_any w' p v F j n h)
  clear h
  obtain ⟨L, hL⟩ : ∃ L, flat F = L := ⟨_, rfl⟩
  rw [hL] at HO hq HT HG ⊢
  clear hL
  rw [show ((24 : Nat) : Int) = 24 from rfl] at hq
  obtain ⟨q, hqe⟩ : ∃ q, onesVal L i 24 = q := ⟨_, rfl⟩
  obtain ⟨e1, he1⟩ : ∃ e1, onesErr L i 24 = e1 := ⟨_, rfl⟩
  obtain ⟨j, hj⟩ : ∃ j, onesAt L i 24 = j := ⟨_, rfl⟩
  rw [hqe, he1, hj] at HT
  rw [hqe, he1, hj] at HO
  rw [hqe] at hq
  replace HO := hid HO
  clear hqe he1 hj
  obtain ⟨r, hr⟩ : ∃ r, rgT L i k = r := ⟨_, rfl⟩
  rw [hr] at HT ⊢
  clear hr
  by_cases h1 : e1 = 0
  · subst h1
    have HT2 := HT.out
    rw [if_neg (by simp)] at HT2
    by_cases h2 : q < 24
    · have h2' : (q : Int) < 24 := by omega
      have HGK := HG.out (k : Int)
      have hvl := getVal_lt L j k
      rw [if_pos h2] at HT2
      obtain ⟨x, hx⟩ : ∃ x, getVal L j (k : Int) = x := ⟨_, rfl⟩
      obtain ⟨e2, he2⟩ : ∃ e2, getErr L j (k : Int) = e2 := ⟨_, rfl⟩
      obtain ⟨a, ha⟩ : ∃ a, getAt L j (k : Int) = a := ⟨_, rfl⟩
      rw [hx, he2, ha] at HT2
      rw [hx] at hvl
      have HGJ := hid (fun w' (hw : Rd w' p v F j) => by have := HGK w' j hw; rw [hx, he2, ha] at this; exact this)
      clear HGK hx he2 ha
      have hqk : q * 2 ^ k + x < 18446744073709551616 := by
        have h1 : 2 ^ k ≤ 2 ^ 30 := Nat.pow_le_pow_right (by omega) hk
        have h2 := Nat.mul_le_mul (show q ≤ 24 by omega) h1
        omega
      have hso := shl_or q k x hvl hqk
      obtain ⟨y, hy⟩ : ∃ y, q * 2 ^ k + x = y := ⟨_, rfl⟩
      rw [hy] at hso HT2
      clear hy hvl hqk
      have hwq : IntKind.u64.wrap (q : Int) = (q : Int) := IntWalk.u64_in _ (by omega)
      have HT3 := hid HT2
      clear HT2 HT
      by_cases h3 : e2 = 0
      · subst h3
        go_enter Tryz.func129, Tryz.ntmps129
        go_wp2_with fail
        with_reducible refine HP.out.mono ?_
        rintro e w1 ⟨rfl, rfl⟩
        go_wp2_with fail
        with_reducible refine HO.out.mono ?_
        rintro e w1 ⟨rfl, hr1⟩
        have H1 := hid hr1
        clear hr1
        go_wp2_with fail
        with_reducible refine (HGJ.out _ (RI.rd H1.out)).mono ?_
        rintro e w2 ⟨rfl, hr2⟩
        have H2 := hid hr2
        clear hr2
        go_wp2_with fail
        go_ret2
        rw [HT3.out, if_neg (by simp)]
        exact ⟨rfl, H1.out.trans H2.out⟩
      · have h3' : (e2 == 0) = false := by rw [beq_eq_false_iff_ne]; exact h3
        go_enter Tryz.func129, Tryz.ntmps129
        go_wp2_with fail
        with_reducible refine HP.out.mono ?_
        rintro e w1 ⟨rfl, rfl⟩
        go_wp2_with fail
        with_reducible refine HO.out.mono ?_
        rintro e w1 ⟨rfl, hr1⟩
        have H1 := hid hr1
        clear hr1
        go_wp2_with fail
        with_reducible refine (HGJ.out _ (RI.rd H1.out)).mono ?_
        rintro e w2 ⟨rfl, hr2⟩
        have H2 := hid hr2
        clear hr2
        go_wp2_with fail
        go_ret2
        rw [HT3.out, if_pos h3]
        exact ⟨rfl, H1.out.trans H2.out⟩
    · have h2' : ¬ (q : Int) < 24 := by omega
      have HGK := HG.out 40
      have hvl := getVal_lt L j 40
      rw [show ((40 : Nat) : Int) = 40 from rfl] at hvl
      rw [if_neg h2] at HT2
      obtain ⟨x, hx⟩ : ∃ x, getVal L j 40 = x := ⟨_, rfl⟩
      obtain ⟨e2, he2⟩ : ∃ e2, getErr L j 40 = e2 := ⟨_, rfl⟩
      obtain ⟨a, ha⟩ : ∃ a, getAt L j 40 = a := ⟨_, rfl⟩
      rw [hx, he2, ha] at HT2
      rw [hx] at hvl
      have HGJ := hid (fun w' (hw : Rd w' p v F j) => by have := HGK w' j hw; rw [hx, he2, ha] at this; exact this)
      clear HGK hx he2 ha
      have hsh := shr_rule x k
      obtain ⟨y, hy⟩ : ∃ y, x / 2 ^ k = y := ⟨_, rfl⟩
      have hyl : y ≤ x := by rw [← hy]; exact Nat.div_le_self _ _
      rw [hy] at hsh HT2
      clear hy
      have HT3 := hid HT2
      clear HT2 HT
      by_cases h3 : e2 = 0
      · subst h3
        by_cases h4 : y < 24
        · have h4' : (y : Int) < 24 := by omega
          go_enter Tryz.func129, Tryz.ntmps129
          go_wp2_with fail
          with_reducible refine HP.out.mono ?_
          rintro e w1 ⟨rfl, rfl⟩
          go_wp2_with fail
          with_reducible refine HO.out.mono ?_
          rintro e w1 ⟨rfl, hr1⟩
          have H1 := hid hr1
          clear hr1
          go_wp2_with fail
          with_reducible refine (HGJ.out _ (RI.rd H1.out)).mono ?_
          rintro e w2 ⟨rfl, hr2⟩
          have H2 := hid hr2
          clear hr2
          go_wp2_with fail
          go_ret2
          rw [HT3.out, if_neg (by simp), if_pos h4]
          exact ⟨rfl, H1.out.trans H2.out⟩
        · have h4' : ¬ (y : Int) < 24 := by omega
          go_enter Tryz.func129, Tryz.ntmps129
          go_wp2_with fail
          with_reducible refine HP.out.mono ?_
          rintro e w1 ⟨rfl, rfl⟩
          go_wp2_with fail
          with_reducible refine HO.out.mono ?_
          rintro e w1 ⟨rfl, hr1⟩
          have H1 := hid hr1
          clear hr1
          go_wp2_with fail
          with_reducible refine (HGJ.out _ (RI.rd H1.out)).mono ?_
          rintro e w2 ⟨rfl, hr2⟩
          have H2 := hid hr2
          clear hr2
          go_wp2_with fail
          go_ret2
          rw [HT3.out, if_neg (by simp), if_neg h4]
          exact ⟨rfl, H1.out.trans H2.out⟩
      · have h3' : (e2 == 0) = false := by rw [beq_eq_false_iff_ne]; exact h3
        go_enter Tryz.func129, Tryz.ntmps129
        go_wp2_with fail
        with_reducible refine HP.out.mono ?_
        rintro e w1 ⟨rfl, rfl⟩
        go_wp2_with fail
        with_reducible refine HO.out.mono ?_
        rintro e w1 ⟨rfl, hr1⟩
        have H1 := hid hr1
        clear hr1
        go_wp2_with fail
        with_reducible refine (HGJ.out _ (RI.rd H1.out)).mono ?_
        rintro e w2 ⟨rfl, hr2⟩
        have H2 := hid hr2
        clear hr2
        go_wp2_with fail
        go_ret2
        rw [HT3.out, if_pos h3]
        exact ⟨rfl, H1.out.trans H2.out⟩
  · have h1' : (e1 == 0) = false := by rw [beq_eq_false_iff_ne]; exact h1
    go_enter Tryz.func129, Tryz.ntmps129
    go_wp2_with fail
    with_reducible refine HP.out.mono ?_
    rintro e w1 ⟨rfl, rfl⟩
    go_wp2_with fail
    with_reducible refine HO.out.mono ?_
    rintro e w1 ⟨rfl, hr1⟩
    have H1 := hid hr1
    clear hr1
    go_wp2_with fail
    go_ret2
    rw [HT.out, if_pos h1]
    exact ⟨rfl, H1.out⟩
end Go.Proofs.YtjboboaccjbebaaGreat
/- Layer 6: the reference's Get. -/
namespace Go.Proofs.YtjboboaccjbebaaGreat
open Go.RowKit

end Go.Proofs.YtjboboaccjbebaaGreat
/- Layer 6: GetAll, and the reference's. -/
namespace Go.Proofs.YtjboboaccjbebaaGreat
open Go.RowKit

/-- So many numbers, one behind the other, from place i on. -/
def rgS (L : List Bool) (k i : Nat) : Nat → Except Int (List Nat × Nat)
  | 0 => .ok ([], i)
  | n + 1 => match rgS L k i n with
    | .error e => .error e
    | .ok (l, j) => if (rgT L j k).2.1 = 0 then .ok (l ++ [(rgT L j k).1], (rgT L j k).2.2) else .error (rgT L j k).2.1
theorem rgS_step {L : List Bool} {k i m j : Nat} {l : List Nat} (h : rgS L k i m = .ok (l, j)) : rgS L k i (m + 1) = if (rgT L j k).2.1 = 0 then .ok (l ++ [(rgT L j k).1], (rgT L j k).2.2) else .error (rgT L j k).2.1 := by rw [rgS, h]
theorem rgS_err {L : List Bool} {k i n : Nat} {x : Int} (h : rgS L k i n = .error x) (m : Nat) : rgS L k i (n + m) = .error x := by
  induction m with
  | zero => exact h
  | succ m ih => show rgS L k i (n + m + 1) = _; rw [rgS, ih]
theorem rgS_err' {L : List Bool} {k i n : Nat} {x : Int} (h : rgS L k i n = .error x) {m : Nat} (hm : n ≤ m) : rgS L k i m = .error x := by
  have := rgS_err h (m - n)
  rwa [show n + (m - n) = m by omega] at this
theorem rgS_len {L : List Bool} {k i : Nat} : ∀ {n : Nat} {l : List Nat} {j : Nat}, rgS L k i n = .ok (l, j) → l.length = n
  | 0, l, j, h => by
    rw [rgS] at h
    injection h with h
    injection h with h1 h2
    subst h1
    rfl
  | n + 1, l, j, h => by
    rw [rgS] at h
    cases e : rgS L k i n with
    | error x => rw [e] at h; cases h
    | ok a =>
      obtain ⟨l', j'⟩ := a
      rw [e] at h
      have hl := rgS_len e
      simp only at h
      split at h
      · injection h with h
        injection h with h1 h2
        subst h1
        simp [hl]
      · cases h
theorem rgT_lt (L : List Bool) (i k : Nat) (hk : k ≤ 30) : (rgT L i k).1 < 18446744073709551616 := by
  rw [rgT]
  have h1 := onesVal_le L i 24
  have h2 := getVal_lt L (onesAt L i 24) k
  have h3 := getVal_lt L (onesAt L i 24) 40
  rw [show ((24 : Nat) : Int) = 24 from rfl] at h1
  rw [show ((40 : Nat) : Int) = 40 from rfl] at h3
  have h4 : 2 ^ k ≤ 2 ^ 30 := Nat.pow_le_pow_right (by omega) hk
  have h5 := Nat.mul_le_mul h1 h4
  split
  · show 0 < _; omega
  · split
    · split
      · show 0 < _; omega
      · show _ + _ < _; omega
    · split
      · show 0 < _; omega
      · split
        · show 0 < _; omega
        · show getVal L (onesAt L i 24) 40 < _; omega

/-- The state of GetAll: a reader (of any sort R) and what was got. -/
structure GU (R : World → Nat → Prop) (w : World) (p : Nat) (j : Nat) (l : List Nat) (u : Value) (wr : World) : Prop where
  rd : R wr j
  kp : Kept (fun k => k = p) w wr
  own : wr.ownsRow 0 51 1 u l.length (u64s l)
  new : ∀ g, u.ownBlock = some g → w.heap.size ≤ g
  lt : p < w.heap.size
section
variable {R : World → Nat → Prop} {w wr w1 w2 : World} {p j j' : Nat} {u : Value} {l : List Nat}
theorem GU.get (h : GU R w p j l u wr) (h1 : R w1 j') (k : Kept (fun k => k = p) wr w1) : GU R w p j' l u w1 :=
  ⟨h1, h.kp.trans k fun _ _ e => e, own_kept h.own k fun g hg e => by have := h.new g hg; have := h.lt; omega, h.new, h.lt⟩
theorem GU.grow {x : Nat} {n g cap : Nat} {o : Obj} (h : GU R w p j l u wr) (hn : l.length = n)
    (hR : ∀ w2, Kept (fun k => u.ownBlock = some k) wr w2 → R w2 j)
    (hown : w2.ownsRow 0 51 1 (.slice (some ⟨g, 0, none⟩) (n + 1) cap) (n + 1) (u64s l ++ [.int .u64 (x : Int)])) (hg : (wr.alloc o).grownBy w2 u.ownBlock) (hm : u.ownBlock = some g ∨ g = wr.heap.size + 1) :
    GU R w p j (l ++ [x]) (.slice (some ⟨g, 0, none⟩) (n + 1) cap) w2 := by
  subst hn
  rw [u64s_append_one] at hown
  have hs := h.kp.size
  have hk : Kept (fun k => u.ownBlock = some k) wr w2 := ((Kept.refl _ wr).alloc o).grown hg fun k hk _ => hk
  refine ⟨hR w2 hk, (h.kp.alloc o).grown hg fun k hk hl => by have := h.new k hk; omega, by rw [List.length_append]; exact hown, fun k hk => ?_, h.lt⟩
  simp [Value.ownBlock] at hk
  subst hk
  rcases hm with e | e
  · exact h.new g e
  · omega
theorem GU.own_n {n : Nat} (h : GU R w p j l u wr) (hn : l.length = n) : wr.ownsRow 0 51 1 u n (u64s l) := hn ▸ h.own
end

/-- What GetAll hands back. -/
def GAPost (R : World → Nat → Prop) (w : World) (p : Nat) (S : Except Int (List Nat × Nat)) (n : Nat) (e : Ending) (w' : World) : Prop :=
  match S with
  | .ok (l, j) => ∃ A c, e = .returned (.tuple #[.slice A n c, .int .i64 0]) ∧ GU R w p j l (.slice A n c) w'
  | .error x => e = .returned (.tuple #[.slice none 0 0, .int .i64 x]) ∧ Kept (fun k => k = p) w w' ∧ x ≠ 0 ∧ ∃ j, R w' j

theorem rgetall_nil (n k : Int) (w : World) : Calls Tryz.prog 126 #[.pointer none, .int .i64 n, .int .i64 k] w fun e w' => e = .returned (.tuple #[.slice none 0 0, .int .i64 2]) ∧ w = w' := by
  go_enter Tryz.func126, Tryz.ntmps126
  go_wp2_with fail
  go_ret2
  exact ⟨rfl, rfl⟩
theorem rgetall_arg (p : Nat) (n k : Int) (w : World) (h : paramB k = false ∨ n < 0 ∨ 1048576 < n) : Calls Tryz.prog 126 #[.pointer (some ⟨p, 0, none⟩), .int .i64 n, .int .i64 k] w fun e w' => e = .returned (.tuple #[.slice none 0 0, .int .i64 1]) ∧ w = w' := by
  have HP := param_any k w
  obtain ⟨b, hb⟩ : ∃ b, paramB k = b := ⟨_, rfl⟩
  rw [hb] at HP h
  replace HP := hid HP
  clear hb
  cases b
  · clear h
    go_enter Tryz.func126, Tryz.ntmps126
    go_wp2_with fail
    with_reducible refine HP.out.mono ?_
    rintro e w1 ⟨rfl, rfl⟩
    go_wp2_with fail
    go_ret2
    exact ⟨rfl, rfl⟩
  · by_cases h1 : n < 0
    · clear h
      go_enter Tryz.func126, Tryz.ntmps126
      go_wp2_with fail
      with_reducible refine HP.out.mono ?_
      rintro e w1 ⟨rfl, rfl⟩
      go_wp2_with fail
      go_ret2
      exact ⟨rfl, rfl⟩
    · have h2 : 1048576 < n := by rcases h with h | h | h <;> first | exact h | cases h | omega
      clear h
      go_enter Tryz.func126, Tryz.ntmps126
      go_wp2_with fail
      with_reducible refine HP.out.mono ?_
      rintro e w1 ⟨rfl, rfl⟩
      go_wp2_with fail
      go_ret2
      exact ⟨rfl, rfl⟩

set_option maxRecDepth 100000 in
set_option maxHeartbeats 4000000 in
theorem rgetall_any (w : World) (p : Nat) (v : Value) (F : List Nat) (i k n : Nat) (h : Rd w p v F i) (hk : k ≤ 30) (hn : n ≤ 1048576) (hv : ∀ g, v.ownBlock = some g → g < w.heap.size) :
    Calls Tryz.prog 126 #[.pointer (some ⟨p, 0, none⟩), .int .i64 (n : Int), .int .i64 (k : Int)] w (GAPost (fun w' j => Rd w' p v F j) w p (rgS (flat F) k i n) n) := by
  have HP := param_any (k : Int) w
  rw [(paramB_iff (k : Int)).2 (by omega)] at HP
  replace HP := hid HP
  have HG := hid (fun w' j (h : Rd w' p v F j) => rget_any w' p v F j k h hk)
  have HL := hid (fun j => rgT_lt (flat F) j k hk)
  have HV := hid hv
  have G0 := hid (show GU (fun w' j => Rd w' p v F j) w p i [] (.slice none 0 0) w from ⟨h, .refl _ _, World.ownsRow_nil _ _ _ _, by simp [Value.ownBlock], h.blk.lt⟩)
  clear h hv
  obtain ⟨L, hL⟩ : ∃ L, flat F = L := ⟨_, rfl⟩
  rw [hL] at HG HL ⊢
  clear hL
  go_enter Tryz.func126, Tryz.ntmps126
  go_wp2_with fail
  with_reducible refine HP.out.mono ?_
  rintro e w1 ⟨rfl, rfl⟩
  go_wp2_with fail
  go_loopw [8, 27] (fun o c wr => ∃ (m : Nat) (l : List Nat) (j : Nat) (A : Option Addr) (cc : Nat), m ≤ n ∧ c = .int .i64 m ∧ o = .slice A m cc ∧ Hid (rgS L k i m = .ok (l, j)) ∧ Hid (GU (fun w' j => Rd w' p v F j) w p j l (.slice A m cc) wr)) (fun _ c _ => n - (intOf c).toNat)
  case atStart => exact ⟨0, [], i, none, 0, by omega, rfl, rfl, rfl, G0.out⟩
  case round =>
    obtain ⟨m, l, j, A, cc, hm, rfl, rfl, hS, hG⟩ := hrel
    by_cases hmn : m < n
    · have hin : (m : Int) < n := by omega
      have hC := HG.out wr j hG.out.rd
      have hxl := HL.out j
      have hR := hid (rgS_step hS.out)
      obtain ⟨r, hr⟩ : ∃ r, rgT L j k = r := ⟨_, rfl⟩
      rw [hr] at hC hxl hR
      clear hr
      obtain ⟨x, e1, a⟩ := r
      replace hC := hid hC
      simp only at hxl
      by_cases he : e1 = 0
      · subst he
        go_wp2_with fail
        with_reducible refine hC.out.mono ?_
        rintro e w2 ⟨rfl, hr2⟩
        have G2 := hid (hG.out.get (RI.rd hr2) hr2.2)
        clear hr2
        go_wp2_with (at_builtin; go_must (refine wpList_app1 _ rfl (.tmp 38) (.tmp 40) 49 rfl 51 .u64 8 Tryz.underlying49 Tryz.info_uint (.slice A m cc) (u64s l) m rfl ?d1 ⟨w2.heap.size, 0, none⟩ (x : Int) rfl ?d3 (by decide) ?d4 (w2.heap.size + 1) ?d5 ?_); rotate_right; intro g cap w3 hown3 hg3 hat hlt; replace hown3 := hid hown3; replace hg3 := hid hg3; replace hat := hid hat)
        case d1 => exact (G2.out.own_n (rgS_len hS.out)).alloc _
        case d3 => exact World.cell?_alloc_at _ _ _ _ rfl
        case d4 => omega
        case d5 => simp
        have hgr := G2.out.grow (rgS_len hS.out) (fun w4 hk4 => G2.out.rd.keep hk4 (fun e => by have := G2.out.new _ e; have := G2.out.lt; omega) fun g' hg' e => by have := G2.out.new _ e; have := HV.out _ hg'; omega) hown3.out hg3.out hat.out
        have hst := hR.out
        rw [if_pos trivial] at hst
        go_roundw
        case rel => exact ⟨m + 1, _, _, _, _, by omega, by go_num, rfl, hst, hgr⟩
        case measure => simp [intOf]; omega
      · have he' : (e1 == 0) = false := by rw [beq_eq_false_iff_ne]; exact he
        have HE := hid he
        clear he
        go_wp2_with fail
        with_reducible refine hC.out.mono ?_
        rintro e w2 ⟨rfl, hr2⟩
        have G2 := hid (hG.out.get (RI.rd hr2) hr2.2)
        clear hr2
        go_wp2_with fail
        go_ret2
        have hst := hR.out
        rw [if_neg HE.out] at hst
        unfold GAPost
        rw [rgS_err' hst (by omega)]
        exact ⟨rfl, G2.out.kp, HE.out, _, G2.out.rd⟩
    · have hin : ¬ (m : Int) < n := by omega
      obtain rfl : m = n := by omega
      go_wp2_with fail
      go_ret2
      unfold GAPost
      rw [hS.out]
      exact ⟨A, cc, rfl, hG.out⟩
end Go.Proofs.YtjboboaccjbebaaGreat
/- Bits that stand ahead are got as their number. -/
namespace Go.Proofs.YtjboboaccjbebaaGreat
open Go.RowKit

/-- Bits that stand at place i are got as their number. -/
theorem get_bits (w : World) (p : Nat) (v : Value) (F : List Nat) (i : Nat) (x n : Nat) (ni : Int) (hni : ni = (n : Int)) (h : Rd w p v F i) (hn : n ≤ 64) (hx : x < 2 ^ n) (hb : ((flat F).drop i).take n = bitsOf x n) (hi : i + n ≤ 8 * F.length) :
    Calls Tryz.prog 32 #[.pointer (some ⟨p, 0, none⟩), .int .i64 ni] w fun e w' => e = .returned (.tuple #[.int .u64 (x : Int), .int .i64 0]) ∧ RI w p v F (i + n) w' := by
  subst hni
  have h := get_ok w p v F i n h hn hi
  rw [hb, valOf_bitsOf, Nat.mod_eq_of_lt hx] at h
  exact h

/-- Bits ahead of others. -/
theorem drop_seg {L A T : List Bool} {i n : Nat} (h : L.drop i = A ++ T) (hn : A.length = n) : (L.drop i).take n = A ∧ L.drop (i + n) = T := by
  refine ⟨by rw [h, List.take_left' hn], ?_⟩
  rw [← List.drop_drop, h, List.drop_left' hn]
theorem drop_fits {L A T : List Bool} {i : Nat} (h : L.drop i = A ++ T) (hA : A ≠ []) : i + A.length ≤ L.length := by
  have := congrArg List.length h
  rw [List.length_drop, List.length_append] at this
  have : 0 < A.length := List.length_pos_iff.2 hA
  omega
end Go.Proofs.YtjboboaccjbebaaGreat
/- Plain law of reading: bits that stand ahead are read as their number; what is read stood ahead. No program in sight. -/
namespace Go.Proofs.YtjboboaccjbebaaGreat
open Go.RowKit

/-- What is got stood ahead. -/
theorem get_conv {L : List Bool} {i m : Nat} (h : getErr L i (m : Int) = 0) :
    L.drop i = bitsOf (getVal L i (m : Int)) m ++ L.drop (i + m) ∧ i + m ≤ L.length ∧ getAt L i (m : Int) = i + m ∧ getVal L i (m : Int) < 2 ^ m := by
  unfold getErr at h
  split at h
  · cases h
  split at h
  · cases h
  have hl : ((L.drop i).take m).length = m := by rw [List.length_take, List.length_drop]; omega
  have hv : getVal L i (m : Int) = valOf ((L.drop i).take m) := by unfold getVal; rw [if_neg (by omega), Int.toNat_natCast]
  refine ⟨?_, by omega, ?_, ?_⟩
  · have e := bitsOf_valOf ((L.drop i).take m)
    rw [hl] at e
    rw [hv, e, ← List.drop_drop, List.take_append_drop]
  · unfold getAt; rw [if_neg (by omega), Int.toNat_natCast]
  · rw [hv]
    have := valOf_lt ((L.drop i).take m)
    rwa [hl] at this
theorem ones_split (l : List Bool) (m : Nat) : ∃ T, l = List.replicate (ones l m) true ++ T ∧ (ones l m = m ∨ T = [] ∨ ∃ T', T = false :: T') ∧ ones l m ≤ m := by
  induction l generalizing m with
  | nil => exact ⟨[], by simp [ones], .inr (.inl rfl), by simp [ones]⟩
  | cons b l ih =>
    rcases m with _ | m
    · exact ⟨b :: l, by simp [ones], .inl (by simp [ones]), by simp [ones]⟩
    · cases b
      · exact ⟨false :: l, by simp [ones], .inr (.inr ⟨l, rfl⟩), by simp [ones]⟩
      · obtain ⟨T, h1, h2, h3⟩ := ih m
        have e : ones (true :: l) (m + 1) = ones l m + 1 := by simp [ones]
        refine ⟨T, ?_, ?_, by omega⟩
        · rw [e, List.replicate_succ, List.cons_append, ← h1]
        · rcases h2 with h2 | h2
          · exact .inl (by omega)
          · exact .inr h2
theorem ones_rep {m q : Nat} {T : List Bool} (hq : q < m) : ones (List.replicate q true ++ false :: T) m = q :=
  ones_is (by omega) (fun j hj => by rw [List.getElem?_append_left (by simpa using hj), List.getElem?_replicate, if_pos hj]) (.inr (by rw [List.getElem?_append_right (by simp)]; simp))
theorem ones_full {m : Nat} {T : List Bool} : ones (List.replicate m true ++ T) m = m :=
  ones_is (Nat.le_refl _) (fun j hj => by rw [List.getElem?_append_left (by simpa using hj), List.getElem?_replicate, if_pos hj]) (.inl rfl)
/-- What Ones counts stood ahead. -/
theorem ones_conv {L : List Bool} {i m : Nat} (h : onesErr L i (m : Int) = 0) (hi : i ≤ L.length) :
    (onesVal L i (m : Int) = m ∧ L.drop i = List.replicate m true ++ L.drop (i + m) ∧ onesAt L i (m : Int) = i + m ∧ i + m ≤ L.length)
    ∨ (onesVal L i (m : Int) < m ∧ L.drop i = (List.replicate (onesVal L i (m : Int)) true ++ [false]) ++ L.drop (i + onesVal L i (m : Int) + 1) ∧ onesAt L i (m : Int) = i + onesVal L i (m : Int) + 1 ∧ i + onesVal L i (m : Int) + 1 ≤ L.length) := by
  obtain ⟨T, h1, h2, h3⟩ := ones_split (L.drop i) m
  have hl := congrArg List.length h1
  rw [List.length_drop, List.length_append, List.length_replicate] at hl
  unfold onesErr at h
  rw [if_neg (by omega), Int.toNat_natCast] at h
  have ev : onesVal L i (m : Int) = if ones (L.drop i) m = m then m else if L.length ≤ i + ones (L.drop i) m then 0 else ones (L.drop i) m := by
    unfold onesVal; rw [if_neg (by omega), Int.toNat_natCast]
  have ea : onesAt L i (m : Int) = if ones (L.drop i) m = m then i + m else if L.length ≤ i + ones (L.drop i) m then i else i + ones (L.drop i) m + 1 := by
    unfold onesAt; rw [if_neg (by omega), Int.toNat_natCast]
  rw [ev, ea]
  clear ev ea
  by_cases hm : ones (L.drop i) m = m
  · left
    simp only [if_pos hm]
    rw [hm] at h1 hl
    have hT : T = L.drop (i + m) := by rw [← List.drop_drop, h1, List.drop_left' (by simp)]
    exact ⟨trivial, hT ▸ h1, trivial, by omega⟩
  · right
    rw [if_neg hm] at h
    simp only [if_neg hm]
    split at h
    · cases h
    rename_i hlt
    simp only [if_neg hlt]
    have hne : T ≠ [] := by intro e; subst e; simp at hl; omega
    obtain ⟨T', rfl⟩ : ∃ T', T = false :: T' := by
      rcases h2 with h2 | h2 | h2
      · exact absurd h2 hm
      · exact absurd h2 hne
      · exact h2
    simp at hl
    refine ⟨by omega, ?_, trivial, by omega⟩
    have hT : T' = L.drop (i + ones (L.drop i) m + 1) := by
      rw [show i + ones (L.drop i) m + 1 = i + (ones (L.drop i) m + 1) by omega, ← List.drop_drop]
      have h4 := congrArg (List.drop (ones (L.drop i) m + 1)) h1
      rw [h4, ← List.drop_drop, List.drop_left' (by simp)]
      rfl
    rw [← hT]
    refine h1.trans ?_
    simp
/-- Bits that stand ahead are got. -/
theorem get_seg {L T : List Bool} {i x m : Nat} (h : L.drop i = bitsOf x m ++ T) (hx : x < 2 ^ m) (hm : m ≤ 64) (hi : i ≤ L.length) :
    getErr L i (m : Int) = 0 ∧ getVal L i (m : Int) = x ∧ getAt L i (m : Int) = i + m ∧ L.drop (i + m) = T ∧ i + m ≤ L.length := by
  obtain ⟨h1, h2⟩ := drop_seg h (bitsOf_length x m)
  have hl := congrArg List.length h
  rw [List.length_drop, List.length_append, bitsOf_length] at hl
  have hle : i + m ≤ L.length := by omega
  refine ⟨?_, ?_, ?_, h2, hle⟩
  · unfold getErr; rw [if_neg (by omega), if_neg (by omega)]
  · unfold getVal; rw [if_neg (by omega), Int.toNat_natCast, h1, valOf_bitsOf, Nat.mod_eq_of_lt hx]
  · unfold getAt; rw [if_neg (by omega), Int.toNat_natCast]
/-- Ones that stand ahead are counted: fewer than m, and a nought. -/
theorem ones_seg {L T : List Bool} {i q m : Nat} (h : L.drop i = List.replicate q true ++ false :: T) (hq : q < m) (hi : i ≤ L.length) :
    onesErr L i (m : Int) = 0 ∧ onesVal L i (m : Int) = q ∧ onesAt L i (m : Int) = i + q + 1 ∧ L.drop (i + q + 1) = T ∧ i + q + 1 ≤ L.length := by
  have ho : ones (L.drop i) m = q := by rw [h]; exact ones_rep hq
  have hl := congrArg List.length h
  rw [List.length_drop, List.length_append, List.length_replicate, List.length_cons] at hl
  have hT : L.drop (i + q + 1) = T := by
    rw [show i + q + 1 = i + (q + 1) by omega, ← List.drop_drop, h, ← List.drop_drop, List.drop_left' (by simp)]; rfl
  refine ⟨?_, ?_, ?_, hT, by omega⟩
  · unfold onesErr; rw [if_neg (by omega), Int.toNat_natCast, ho, if_neg (by omega), if_neg (by omega)]
  · unfold onesVal; rw [if_neg (by omega), Int.toNat_natCast, ho, if_neg (by omega), if_neg (by omega)]
  · unfold onesAt; rw [if_neg (by omega), Int.toNat_natCast, ho, if_neg (by omega), if_neg (by omega)]
theorem ones_seg_full {L T : List Bool} {i m : Nat} (h : L.drop i = List.replicate m true ++ T) (hi : i ≤ L.length) :
    onesErr L i (m : Int) = 0 ∧ onesVal L i (m : Int) = m ∧ onesAt L i (m : Int) = i + m ∧ L.drop (i + m) = T ∧ i + m ≤ L.length := by
  have ho : ones (L.drop i) m = m := by rw [h]; exact ones_full
  have hl := congrArg List.length h
  rw [List.length_drop, List.length_append, List.length_replicate] at hl
  have hT : L.drop (i + m) = T := by rw [← List.drop_drop, h, List.drop_left' (by simp)]
  refine ⟨?_, ?_, ?_, hT, by omega⟩
  · unfold onesErr; rw [if_neg (by omega), Int.toNat_natCast, if_pos ho]
  · unfold onesVal; rw [if_neg (by omega), Int.toNat_natCast, if_pos ho]
  · unfold onesAt; rw [if_neg (by omega), Int.toNat_natCast, if_pos ho]
theorem onesErr_cases (L : List Bool) (i m : Nat) : onesErr L i (m : Int) = 0 ∨ onesErr L i (m : Int) = 10 := by
  unfold onesErr
  rw [if_neg (by omega)]
  split
  · exact .inl rfl
  · split
    · exact .inr rfl
    · exact .inl rfl
end Go.Proofs.YtjboboaccjbebaaGreat
/- Plain law of layer 6: a code that stands ahead is read as its number; what is read stood ahead as its code. -/
namespace Go.Proofs.YtjboboaccjbebaaGreat
open Go.RowKit

theorem rgT_code {L T : List Bool} {i u k : Nat} (hk : k ≤ 30) (hu : u < 1099511627776) (h : L.drop i = codeK u k ++ T) (hi : i ≤ L.length) : rgT L i k = (u, 0, i + costK u k) := by
  rw [rgT]
  by_cases hq : u / 2 ^ k < 24
  · unfold codeK at h
    rw [if_pos hq, List.append_assoc, List.append_assoc] at h
    obtain ⟨g1, g2, g3, g4, g5⟩ := ones_seg (m := 24) h hq hi
    rw [show ((24 : Nat) : Int) = 24 from rfl] at g1 g2 g3
    have hx : u % 2 ^ k < 2 ^ k := Nat.mod_lt _ (Nat.two_pow_pos k)
    rw [← bitsOf_mod u k k (Nat.le_refl _)] at g4
    obtain ⟨k1, k2, k3, _, _⟩ := get_seg g4 hx (by omega) g5
    rw [g1, g2, g3, if_neg (by simp), if_pos hq, k1, k2, k3, if_neg (by simp), Nat.div_add_mod']
    unfold costK
    rw [if_pos hq, show i + u / 2 ^ k + 1 + k = i + (u / 2 ^ k + 1 + k) by omega]
  · unfold codeK at h
    rw [if_neg hq, List.append_assoc] at h
    obtain ⟨g1, g2, g3, g4, g5⟩ := ones_seg_full h hi
    rw [show ((24 : Nat) : Int) = 24 from rfl] at g1 g2 g3
    obtain ⟨k1, k2, k3, _, _⟩ := get_seg g4 (show u < 2 ^ 40 by omega) (by omega) g5
    rw [show ((40 : Nat) : Int) = 40 from rfl] at k1 k2 k3
    rw [g1, g2, g3, if_neg (by simp), if_neg (by omega), k1, k2, k3, if_neg (by simp), if_neg hq]
    unfold costK
    rw [if_neg hq, show i + 24 + 40 = i + 64 by omega]

theorem rgT_conv {L : List Bool} {i k : Nat} (hk : k ≤ 30) (hi : i ≤ L.length) (h : (rgT L i k).2.1 = 0) :
    (rgT L i k).1 < 1099511627776 ∧ (rgT L i k).2.2 = i + costK (rgT L i k).1 k ∧ (rgT L i k).2.2 ≤ L.length ∧ L.drop i = codeK (rgT L i k).1 k ++ L.drop (rgT L i k).2.2 := by
  rw [rgT] at h ⊢
  by_cases h1 : onesErr L i 24 = 0
  · rw [if_neg (by simp [h1])] at h ⊢
    have hp : 2 ^ k ≤ 2 ^ 30 := Nat.pow_le_pow_right (by omega) hk
    rcases ones_conv (m := 24) h1 hi with ⟨v1, v2, v3, v4⟩ | ⟨v1, v2, v3, v4⟩
    · rw [show ((24 : Nat) : Int) = 24 from rfl] at v1 v3
      rw [if_neg (by omega)] at h ⊢
      by_cases h3 : getErr L (onesAt L i 24) 40 = 0
      · rw [if_neg (by simp [h3])] at h ⊢
        obtain ⟨c1, c2, c3, c4⟩ := get_conv (m := 40) h3
        rw [show ((40 : Nat) : Int) = 40 from rfl] at c1 c3 c4
        split at h
        · cases h
        rename_i hq
        rw [if_neg hq]
        rw [v3] at hq c1 c2 c3 c4 ⊢
        obtain ⟨x, hx⟩ : ∃ x, getVal L (i + 24) 40 = x := ⟨_, rfl⟩
        rw [hx] at hq c1 c4 ⊢
        have c5 : x < 1099511627776 := c4
        refine ⟨c5, ?_, ?_, ?_⟩
        · show getAt L (i + 24) 40 = i + costK x k
          rw [c3]; unfold costK; rw [if_neg hq]
        · show getAt L (i + 24) 40 ≤ _
          rw [c3]; exact c2
        · show L.drop i = codeK x k ++ L.drop (getAt L (i + 24) 40)
          rw [c3, v2, c1]
          unfold codeK
          rw [if_neg hq, List.append_assoc]
      · rw [if_pos h3] at h
        exact absurd h h3
    · rw [show ((24 : Nat) : Int) = 24 from rfl] at v1 v2 v3 v4
      rw [if_pos v1] at h ⊢
      by_cases h3 : getErr L (onesAt L i 24) k = 0
      · rw [if_neg (by simp [h3])] at h ⊢
        obtain ⟨c1, c2, c3, c4⟩ := get_conv h3
        rw [v3] at c1 c2 c3 c4 ⊢
        obtain ⟨q, hq⟩ : ∃ q, onesVal L i 24 = q := ⟨_, rfl⟩
        rw [hq] at v1 v2 v4 c1 c2 c3 c4 ⊢
        obtain ⟨x, hx⟩ : ∃ x, getVal L (i + q + 1) (k : Int) = x := ⟨_, rfl⟩
        rw [hx] at c1 c4 ⊢
        have hd : (q * 2 ^ k + x) / 2 ^ k = q := by
          rw [Nat.mul_comm, Nat.mul_add_div (Nat.two_pow_pos k), Nat.div_eq_of_lt c4, Nat.add_zero]
        have hmm : (q * 2 ^ k + x) % 2 ^ k = x := by rw [Nat.mul_comm, Nat.mul_add_mod, Nat.mod_eq_of_lt c4]
        have hlt : q * 2 ^ k + x < 1099511627776 := by
          have := Nat.mul_le_mul (show q ≤ 23 by omega) hp
          omega
        refine ⟨hlt, ?_, ?_, ?_⟩
        · show getAt L (i + q + 1) k = i + costK (q * 2 ^ k + x) k
          rw [c3]; unfold costK; rw [hd, if_pos v1]; omega
        · show getAt L (i + q + 1) k ≤ _
          rw [c3]; exact c2
        · show L.drop i = codeK (q * 2 ^ k + x) k ++ L.drop (getAt L (i + q + 1) k)
          rw [c3, v2, c1]
          unfold codeK
          rw [hd, if_pos v1, ← bitsOf_mod (q * 2 ^ k + x) k k (Nat.le_refl _), hmm]
          simp
      · rw [if_pos h3] at h
        exact absurd h h3
  · rw [if_pos h1] at h
    exact absurd h h1
theorem rgT_bad {L : List Bool} {i k : Nat} (h : (rgT L i k).2.1 ≠ 0) : (rgT L i k).1 = 0 := by
  rw [rgT] at h ⊢
  split
  · rfl
  · rename_i h1
    rw [if_neg h1] at h
    split
    · rename_i h2
      rw [if_pos h2] at h
      split
      · rfl
      · rename_i h3
        rw [if_neg h3] at h
        exact absurd rfl h
    · rename_i h2
      rw [if_neg h2] at h
      split
      · rfl
      · rename_i h3
        rw [if_neg h3] at h
        split
        · rfl
        · rename_i h4
          rw [if_neg h4] at h
          exact absurd rfl h
theorem codesR_snoc (xs : List Nat) (x : Nat) (k : Int) : codesR (xs ++ [x]) k = codesR xs k ++ codeR x k := by simp [codesR]
theorem codeR_ok {u : Nat} {k : Nat} (hk : k ≤ 30) (hu : u < 1099511627776) : codeR u (k : Int) = codeK u k := by
  unfold codeR
  rw [if_pos ⟨(paramB_iff _).2 (by omega), (mayB_iff u).2 hu⟩, Int.toNat_natCast]
/-- Codes that stand at the start are read as their numbers. -/
theorem rgS_codes {L T : List Bool} {k : Nat} (hk : k ≤ 30) : ∀ (n : Nat) (xs : List Nat), n ≤ xs.length → (∀ x ∈ xs, x < 1099511627776) → L = codesR xs k ++ T → rgS L k 0 n = .ok (xs.take n, (codesR (xs.take n) k).length)
  | 0, xs, _, _, _ => by rw [rgS]; simp [codesR]
  | n + 1, xs, hn, hx, hL => by
    have e := rgS_codes hk n xs (by omega) hx hL
    have hlt : n < xs.length := by omega
    have hs : xs.take (n + 1) = xs.take n ++ [xs[n]] := List.take_succ_eq_append_getElem hlt
    have hxn := hx xs[n] (List.getElem_mem _)
    have hd : L.drop (codesR (xs.take n) k).length = codeK xs[n] k ++ (codesR (xs.drop (n + 1)) k ++ T) := by
      have e3 : xs = xs.take n ++ xs[n] :: xs.drop (n + 1) := by rw [← List.drop_eq_getElem_cons hlt, List.take_append_drop]
      have e2 : codesR xs k = codesR (xs.take n) k ++ (codeR xs[n] k ++ codesR (xs.drop (n + 1)) k) := by
        refine (congrArg (codesR · k) e3).trans ?_
        simp only [codesR, List.flatMap_append, List.flatMap_cons]
      rw [hL, e2, codeR_ok hk hxn, List.append_assoc, List.drop_left, List.append_assoc]
    have hle : (codesR (xs.take n) k).length ≤ L.length := by
      have e2 : codesR xs k = codesR (xs.take n) k ++ codesR (xs.drop n) k := by
        refine (congrArg (codesR · k) (List.take_append_drop n xs).symm).trans ?_
        simp only [codesR, List.flatMap_append]
      rw [hL, e2, List.append_assoc, List.length_append]
      omega
    rw [rgS_step e, rgT_code hk hxn hd hle, if_pos rfl, hs, codesR_snoc, codeR_ok hk hxn, List.length_append, codeK_length]
end Go.Proofs.YtjboboaccjbebaaGreat
/- Plain law of layer 7: noughts and what comes behind them: codes, costs, and what codes are read as. -/
namespace Go.Proofs.YtjboboaccjbebaaGreat
open Go.RowKit

/-- Numbers below 0 folded between the others, and back. -/
def zigN (x : Int) : Nat := if 0 ≤ x then 2 * x.toNat else 2 * (-(x + 1)).toNat + 1
def zagN (u : Nat) : Int := if u % 2 = 0 then ((u / 2 : Nat) : Int) else -((u / 2 : Nat) : Int) - 1
theorem zag_zig (x : Int) : zagN (zigN x) = x := by
  unfold zagN zigN
  split <;> split <;> omega
theorem zig_zag (u : Nat) : zigN (zagN u) = u := by
  unfold zagN zigN
  split <;> split <;> omega
theorem zig_zero {x : Int} (h : x ≠ 0) : 1 ≤ zigN x := by
  unfold zigN
  split <;> omega
theorem zig_lt {x : Int} (h1 : -9223372036854775808 ≤ x) (h2 : x ≤ 9223372036854775807) : zigN x < 18446744073709551616 := by
  unfold zigN
  split <;> omega

/-- The gamma code. -/
def gamB (v : Nat) : Bool := decide (1 ≤ v ∧ v ≤ 4294967295)
def gamC (v : Nat) : List Bool := if gamB v = true then List.replicate (wid v - 1) false ++ bitsOf v (wid v) else []
def gamCost (v : Nat) : Nat := if gamB v = true then 2 * wid v - 1 else 0
theorem gamB_iff (v : Nat) : gamB v = true ↔ 1 ≤ v ∧ v ≤ 4294967295 := by unfold gamB; rw [decide_eq_true_iff]
theorem gam_wid {v : Nat} (h : gamB v = true) : 1 ≤ wid v ∧ wid v ≤ 32 ∧ 2 ^ (wid v - 1) ≤ v ∧ v < 2 ^ wid v := by
  have h := (gamB_iff v).1 h
  have h1 := wid_ge v (by omega) (by omega)
  exact ⟨h1.2, wid_le v 32 (by omega) (by omega), h1.1, wid_lt v (by omega)⟩
theorem gamC_length (v : Nat) : (gamC v).length = gamCost v := by
  unfold gamC gamCost
  split
  · rename_i h
    have := gam_wid h
    rw [List.length_append, List.length_replicate, bitsOf_length]
    omega
  · rfl
theorem gamCost_le (v : Nat) : gamCost v ≤ 63 := by
  unfold gamCost
  split
  · rename_i h
    have := gam_wid h
    omega
  · omega

/-- How many noughts stand ahead. -/
def lz : List Int → Nat
  | [] => 0
  | x :: xs => if x = 0 then lz xs + 1 else 0
theorem lz_le (l : List Int) : lz l ≤ l.length := by
  induction l with
  | nil => exact Nat.le_refl _
  | cons x xs ih => rw [lz]; split <;> simp <;> omega
theorem lz_take (l : List Int) : l = List.replicate (lz l) 0 ++ l.drop (lz l) := by
  induction l with
  | nil => rfl
  | cons x xs ih =>
    rw [lz]
    split
    · rename_i h
      rw [List.replicate_succ, List.cons_append, List.drop_succ_cons, ← ih, h]
    · simp
theorem lz_at {l : List Int} (h : lz l < l.length) : l[lz l] ≠ 0 := by
  induction l with
  | nil => simp at h
  | cons x xs ih =>
    by_cases hx : x = 0
    · have e : lz (x :: xs) = lz xs + 1 := by rw [lz, if_pos hx]
      have h' : lz xs < xs.length := by rw [e] at h; simpa using h
      have := ih h'
      simpa [e] using this
    · have e : lz (x :: xs) = 0 := by rw [lz, if_neg hx]
      simpa [e] using hx
/-- Noughts, and the number behind them, if there is one. -/
def items (n : Nat) : List Int → List (Nat × Option Int)
  | [] => if 0 < n then [(n, none)] else []
  | x :: xs => if x = 0 then items (n + 1) xs else (n, some x) :: items 0 xs
theorem items_eq (n : Nat) (l : List Int) : items n l = if h : lz l < l.length then (n + lz l, some l[lz l]) :: items 0 (l.drop (lz l + 1)) else if 0 < n + lz l then [(n + lz l, none)] else [] := by
  induction l generalizing n with
  | nil => rw [items, dif_neg (by simp [lz])]; rfl
  | cons x xs ih =>
    rw [items]
    by_cases hx : x = 0
    · rw [if_pos hx, ih (n + 1)]
      have e : lz (x :: xs) = lz xs + 1 := by rw [lz, if_pos hx]
      by_cases h : lz xs < xs.length
      · have h' : lz (x :: xs) < (x :: xs).length := by rw [e]; simpa using h
        rw [dif_pos h, dif_pos h']
        simp only [e, List.getElem_cons_succ, List.drop_succ_cons]
        rw [show n + (lz xs + 1) = n + 1 + lz xs by omega]
      · have h' : ¬ lz (x :: xs) < (x :: xs).length := by rw [e]; simpa using h
        rw [dif_neg h, dif_neg h', e, show n + (lz xs + 1) = n + 1 + lz xs by omega]
    · have e : lz (x :: xs) = 0 := by rw [lz, if_neg hx]
      rw [if_neg hx]
      rw [dif_pos (by rw [e]; simp)]
      simp [e]

/-- What stands for noughts, and for the number behind them. -/
def codeI (k : Int) (a : Nat × Option Int) : List Bool := gamC (a.1 + 1) ++ (match a.2 with | none => [] | some x => codeR (zigN x - 1) k)
def costI (k : Int) (a : Nat × Option Int) : Nat := gamCost (a.1 + 1) + (match a.2 with | none => 0 | some x => costR (zigN x - 1) k)
theorem codeI_length (k : Int) (a : Nat × Option Int) : (codeI k a).length = costI k a := by
  obtain ⟨n, o⟩ := a
  cases o with
  | none => unfold codeI costI; rw [List.length_append, gamC_length]; rfl
  | some x => unfold codeI costI; rw [List.length_append, gamC_length, codeR_length]
theorem costI_le (k : Int) (a : Nat × Option Int) : costI k a ≤ 127 := by
  obtain ⟨n, o⟩ := a
  have := gamCost_le (n + 1)
  cases o with
  | none => unfold costI; simp; omega
  | some x => unfold costI; have := costR_le (zigN x - 1) k; simp; omega
def codeL (l : List Int) (k : Int) : List Bool := (items 0 l).flatMap (codeI k)
def sumI (k : Int) (P : List (Nat × Option Int)) : Nat := (P.map (costI k)).sum
theorem sumI_snoc (k : Int) (P : List (Nat × Option Int)) (a : Nat × Option Int) : sumI k (P ++ [a]) = sumI k P + costI k a := by simp [sumI]
theorem sumI_le (k : Int) (P : List (Nat × Option Int)) : sumI k P ≤ P.length * 127 := by
  induction P with
  | nil => simp [sumI]
  | cons a P ih =>
    have e : sumI k (a :: P) = costI k a + sumI k P := by simp [sumI]
    have := costI_le k a
    rw [e, List.length_cons]
    omega
theorem codeI_sum (k : Int) (P : List (Nat × Option Int)) : (P.flatMap (codeI k)).length = sumI k P := by
  induction P with
  | nil => rfl
  | cons a P ih =>
    rw [List.flatMap_cons, List.length_append, ih, codeI_length]
    simp [sumI]
theorem items_length (n : Nat) (l : List Int) : (items n l).length ≤ l.length + 1 := by
  induction l generalizing n with
  | nil => rw [items]; split <;> simp
  | cons x xs ih =>
    rw [items]
    split
    · have := ih (n + 1); simp; omega
    · have := ih 0; simp; omega
theorem codeL_length (l : List Int) (k : Int) : (codeL l k).length = sumI k (items 0 l) := codeI_sum k _
theorem codeL_le (l : List Int) (k : Int) : (codeL l k).length ≤ (l.length + 1) * 127 := by
  rw [codeL_length]
  exact Nat.le_trans (sumI_le _ _) (Nat.mul_le_mul_right _ (items_length 0 l))
def codedB (l : List Int) : Bool := l.all fun x => decide (zigN x < 1099511627776)
def costL (l : List Int) (k : Int) : Nat := if paramB k = true ∧ codedB l = true then (codeL l k).length else 0

/-- What Gamma is read as: fuel f, 32 - f noughts so far. -/
def ggF (L : List Bool) : Nat → Nat → Nat × Int × Nat
  | 0, i => (0, 12, i)
  | f + 1, i =>
    if getErr L i 1 ≠ 0 then (0, getErr L i 1, getAt L i 1)
    else if getVal L i 1 = 1 then
      (if getErr L (getAt L i 1) ((31 - f : Nat) : Int) ≠ 0 then (0, getErr L (getAt L i 1) ((31 - f : Nat) : Int), getAt L (getAt L i 1) ((31 - f : Nat) : Int))
       else (2 ^ (31 - f) + getVal L (getAt L i 1) ((31 - f : Nat) : Int), 0, getAt L (getAt L i 1) ((31 - f : Nat) : Int)))
    else ggF L f (getAt L i 1)
def ggT (L : List Bool) (i : Nat) : Nat × Int × Nat := ggF L 32 i
theorem ggF_code {L T : List Bool} {x : Nat} : ∀ (m f i : Nat), m ≤ f → f ≤ 31 → L.drop i = List.replicate m false ++ (true :: (bitsOf x (31 - f + m) ++ T)) → x < 2 ^ (31 - f + m) → i ≤ L.length →
    ggF L (f + 1) i = (2 ^ (31 - f + m) + x, 0, i + m + 1 + (31 - f + m))
  | 0, f, i, hm, hf, h, hx, hi => by
    have h1 : L.drop i = bitsOf 1 1 ++ (bitsOf x (31 - f) ++ T) := by rw [h]; rfl
    obtain ⟨g1, g2, g3, g4, g5⟩ := get_seg h1 (by decide) (by omega) hi
    rw [show ((1 : Nat) : Int) = 1 from rfl] at g1 g2 g3
    obtain ⟨k1, k2, k3, _, _⟩ := get_seg g4 hx (by omega) g5
    rw [ggF, g1, g2, g3, k1, k2, k3]
    simp
  | m + 1, f, i, hm, hf, h, hx, hi => by
    obtain ⟨f', rfl⟩ : ∃ f', f = f' + 1 := ⟨f - 1, by omega⟩
    have h1 : L.drop i = bitsOf 0 1 ++ (List.replicate m false ++ (true :: (bitsOf x (31 - (f' + 1) + (m + 1)) ++ T))) := by rw [h, List.replicate_succ]; rfl
    obtain ⟨g1, g2, g3, g4, g5⟩ := get_seg h1 (by decide) (by omega) hi
    rw [show ((1 : Nat) : Int) = 1 from rfl] at g1 g2 g3
    have e : 31 - (f' + 1) + (m + 1) = 31 - f' + m := by omega
    rw [e] at g4 hx ⊢
    have ih := ggF_code m f' (i + 1) (by omega) (by omega) g4 hx g5
    rw [ggF, g1, g2, g3, ih]
    simp
    omega
theorem gg_code {L T : List Bool} {i v : Nat} (hv : gamB v = true) (h : L.drop i = gamC v ++ T) (hi : i ≤ L.length) : ggT L i = (v, 0, i + gamCost v) := by
  obtain ⟨w1, w2, w3, w4⟩ := gam_wid hv
  unfold gamC at h
  rw [if_pos hv, List.append_assoc] at h
  have e2 : 2 ^ wid v = 2 * 2 ^ (wid v - 1) := by
    rw [show 2 * 2 ^ (wid v - 1) = 2 ^ (wid v - 1 + 1) from by rw [Nat.pow_succ]; omega, show wid v - 1 + 1 = wid v by omega]
  have hb : bitsOf v (wid v) = true :: bitsOf (v - 2 ^ (wid v - 1)) (wid v - 1) := by
    rw [bitsOf_bit v (wid v) w1]
    congr 1
    · obtain ⟨q, hq⟩ : ∃ q, wid v - 1 = q := ⟨_, rfl⟩
      rw [hq] at w3 e2 ⊢
      obtain ⟨y, hy⟩ : ∃ y, v = 2 ^ q * 1 + y := ⟨v - 2 ^ q, by omega⟩
      rw [hy, Nat.testBit_two_pow_mul_add _ (by omega)]
      simp
    · have e : v % 2 ^ (wid v - 1) = v - 2 ^ (wid v - 1) := by rw [Nat.mod_eq_sub_mod (by omega), Nat.mod_eq_of_lt (by omega)]
      rw [← bitsOf_mod v _ _ (Nat.le_refl _), e]
  rw [hb, List.cons_append] at h
  have := ggF_code (L := L) (T := T) (x := v - 2 ^ (wid v - 1)) (wid v - 1) 31 i (by omega) (by omega) (by simpa using h) (by simp; omega) hi
  unfold ggT
  rw [this]
  unfold gamCost
  rw [if_pos hv]
  simp
  omega

/-- What a list's code is read as, so many numbers: what was got so far, the place. -/
def rnF (L : List Bool) (k N : Nat) : Nat → List Int → Nat → Except Int (List Int × Nat)
  | 0, out, i => .ok (out, i)
  | f + 1, out, i =>
    if N ≤ out.length then .ok (out, i)
    else if (ggT L i).2.1 ≠ 0 then .error (ggT L i).2.1
    else if N - out.length + 1 < (ggT L i).1 then .error 12
    else if out.length + ((ggT L i).1 - 1) = N then .ok (out ++ List.replicate ((ggT L i).1 - 1) 0, (ggT L i).2.2)
    else if (rgT L (ggT L i).2.2 k).2.1 ≠ 0 then .error (rgT L (ggT L i).2.2 k).2.1
    else if (rgT L (ggT L i).2.2 k).1 = 1099511627775 then .error 12
    else rnF L k N f (out ++ List.replicate ((ggT L i).1 - 1) 0 ++ [zagN ((rgT L (ggT L i).2.2 k).1 + 1)]) (rgT L (ggT L i).2.2 k).2.2
def rnT (L : List Bool) (k N i : Nat) : Except Int (List Int × Nat) := rnF L k N (N + 1) [] i
theorem rnF_code {L T : List Bool} {k : Nat} {l : List Int} (hk : k ≤ 30) (hl : l.length ≤ 1048576) (hc : codedB l = true) : ∀ (r a f i : Nat), l.length - a ≤ r → a ≤ l.length → l.length + 1 ≤ f + a → L.drop i = codeL (l.drop a) k ++ T → i ≤ L.length →
    rnF L k l.length f (l.take a) i = .ok (l, i + (codeL (l.drop a) k).length)
  | r, a, f, i, hr, ha, hf, h, hi => by
    obtain ⟨f, rfl⟩ : ∃ f', f = f' + 1 := ⟨f - 1, by omega⟩
    have hlt : (l.take a).length = a := by rw [List.length_take]; omega
    rw [rnF, hlt]
    by_cases hend : a = l.length
    · rw [if_pos (by omega)]
      have e : codeL (l.drop a) k = [] := by rw [List.drop_of_length_le (by omega)]; rfl
      rw [e, List.take_of_length_le (by omega)]
      rfl
    rw [if_neg (by omega)]
    have hz := lz_le (l.drop a)
    have hdl : (l.drop a).length = l.length - a := List.length_drop
    have hcode : codeL (l.drop a) k = (items 0 (l.drop a)).flatMap (codeI k) := rfl
    rw [items_eq] at hcode
    obtain ⟨z, hzz⟩ : ∃ z, lz (l.drop a) = z := ⟨_, rfl⟩
    have htk := lz_take (l.drop a)
    rw [hzz] at hz htk
    have hgam : gamB (z + 1) = true := (gamB_iff _).2 (by omega)
    by_cases hlz : z < (l.drop a).length
    · have hlz' : lz (l.drop a) < (l.drop a).length := by rw [hzz]; exact hlz
      rw [dif_pos hlz'] at hcode
      have hne := lz_at hlz'
      obtain ⟨x, hx⟩ : ∃ x, (l.drop a)[lz (l.drop a)] = x := ⟨_, rfl⟩
      rw [hx] at hcode hne
      have hxz : (l.drop a)[z] = x := by rw [← hx]; simp [hzz]
      rw [hzz, Nat.zero_add, List.flatMap_cons] at hcode
      have hdd : (l.drop a).drop (z + 1) = l.drop (a + z + 1) := by rw [List.drop_drop, Nat.add_assoc]
      rw [hdd] at hcode
      have hci : codeI k (z, some x) = gamC (z + 1) ++ codeR (zigN x - 1) k := rfl
      have hcl : (items 0 (l.drop (a + z + 1))).flatMap (codeI k) = codeL (l.drop (a + z + 1)) k := rfl
      rw [hci, hcl] at hcode
      have hxm : x ∈ l := List.mem_of_mem_drop (hxz ▸ List.getElem_mem _)
      have hzx : zigN x < 1099511627776 := by
        unfold codedB at hc
        rw [List.all_eq_true] at hc
        simpa using hc x hxm
      have hz1 := zig_zero hne
      rw [codeR_ok hk (show zigN x - 1 < 1099511627776 by omega)] at hcode
      have h1 : L.drop i = gamC (z + 1) ++ (codeK (zigN x - 1) k ++ (codeL (l.drop (a + z + 1)) k ++ T)) := by rw [h, hcode]; simp
      have g := gg_code hgam h1 hi
      obtain ⟨_, h2⟩ := drop_seg h1 (gamC_length _)
      have hi2 : i + gamCost (z + 1) ≤ L.length := by
        have := congrArg List.length h1
        rw [List.length_drop, List.length_append, gamC_length] at this
        omega
      have g2 := rgT_code hk (show zigN x - 1 < 1099511627776 by omega) h2 hi2
      obtain ⟨_, h3⟩ := drop_seg h2 (codeK_length _ _)
      have hi3 : i + gamCost (z + 1) + costK (zigN x - 1) k ≤ L.length := by
        have := congrArg List.length h2
        rw [List.length_drop, List.length_append, codeK_length] at this
        omega
      rw [g]
      simp only [g2]
      rw [if_neg (by simp), if_neg (by omega), if_neg (by omega), if_neg (by simp), if_neg (by omega)]
      have hout : l.take a ++ List.replicate (z + 1 - 1) 0 ++ [zagN (zigN x - 1 + 1)] = l.take (a + z + 1) := by
        rw [show zigN x - 1 + 1 = zigN x by omega, zag_zig, Nat.add_sub_cancel]
        have e3 : (l.drop a).take (z + 1) = List.replicate z 0 ++ [x] := by
          rw [List.take_succ_eq_append_getElem hlz, hxz]
          congr 1
          have := congrArg (List.take z) htk
          rw [List.take_left' (by simp)] at this
          exact this
        rw [show a + z + 1 = a + (z + 1) by omega, List.take_add, e3, List.append_assoc]
      rw [hout]
      have hlen : i + (codeL (l.drop a) k).length = i + gamCost (z + 1) + costK (zigN x - 1) k + (codeL (l.drop (a + z + 1)) k).length := by
        rw [hcode]
        simp only [List.length_append, gamC_length, codeK_length]
        omega
      rw [hlen]
      obtain ⟨r, rfl⟩ : ∃ r', r = r' + 1 := ⟨r - 1, by omega⟩
      exact rnF_code hk hl hc r (a + z + 1) f _ (by omega) (by omega) (by omega) h3 hi3
    · rw [dif_neg (by rw [hzz]; exact hlz), if_pos (by omega), hzz, Nat.zero_add] at hcode
      have hci : [(z, (none : Option Int))].flatMap (codeI k) = gamC (z + 1) := by simp [codeI]
      rw [hci] at hcode
      rw [hcode] at h
      have g := gg_code hgam h hi
      rw [g]
      simp only
      rw [if_neg (by simp), if_neg (by omega), if_pos (by omega), hcode, gamC_length]
      have hout : l.take a ++ List.replicate (z + 1 - 1) 0 = l := by
        rw [Nat.add_sub_cancel]
        have e3 : l.drop a = List.replicate z 0 := by
          conv => lhs; rw [htk]
          rw [List.drop_of_length_le (by omega), List.append_nil]
        rw [← e3, List.take_append_drop]
      rw [hout]
theorem rn_code {L T : List Bool} {k : Nat} {l : List Int} (hk : k ≤ 30) (hl : l.length ≤ 1048576) (hc : codedB l = true) (h : L = codeL l k ++ T) : rnT L k l.length 0 = .ok (l, (codeL l k).length) := by
  have := rnF_code (L := L) (T := T) hk hl hc l.length 0 (l.length + 1) 0 (by omega) (by omega) (by omega) (by simpa using h) (by omega)
  rw [List.take_zero, List.drop_zero, Nat.zero_add] at this
  exact this
end Go.Proofs.YtjboboaccjbebaaGreat
/- Layer 8: span, parts, cost, Cost, Centre, Off. -/
namespace Go.Proofs.YtjboboaccjbebaaGreat
open Go.RowKit

/-- Is there such a span? -/
def spanB (n : Nat) : Bool := decide (1 ≤ n ∧ n ≤ 1099511627776)
theorem spanB_iff (n : Nat) : spanB n = true ↔ 1 ≤ n ∧ n ≤ 1099511627776 := by unfold spanB; rw [decide_eq_true_iff]
theorem span_any (n : Nat) (w : World) : Calls Tryz.prog 48 #[.int .u64 (n : Int)] w fun e w' => e = .returned (.bool (spanB n)) ∧ w = w' := by
  by_cases h1 : 1 ≤ n
  · by_cases h2 : n ≤ 1099511627776
    · have e : spanB n = true := by unfold spanB; rw [decide_eq_true_iff]; omega
      rw [e]
      clear e
      go_enter Tryz.func48, Tryz.ntmps48
      go_wp2_with fail
      go_ret
      exact ⟨by first | (simp; done) | (simp; omega), rfl⟩
    · have e : spanB n = false := by unfold spanB; rw [decide_eq_false_iff_not]; omega
      rw [e]
      clear e
      go_enter Tryz.func48, Tryz.ntmps48
      go_wp2_with fail
      go_ret
      exact ⟨by first | (simp; done) | (simp; omega), rfl⟩
  · have e : spanB n = false := by unfold spanB; rw [decide_eq_false_iff_not]; omega
    rw [e]
    clear e
    go_enter Tryz.func48, Tryz.ntmps48
    go_wp2_with fail
    go_ret
    exact ⟨by first | (simp; done) | (simp; omega), rfl⟩

/-- The bits of the greatest number, and how many numbers take one bit less. -/
def eB (n : Nat) : Nat := wid (n - 1)
def eS (n : Nat) : Nat := 2 ^ eB n - n
theorem eB_le (n : Nat) (h : 1 ≤ n) (hn : n ≤ 1099511627776) : eB n ≤ 40 ∧ n ≤ 2 ^ eB n := by
  refine ⟨wid_le (n - 1) 40 (by omega) (by omega), ?_⟩
  have := wid_lt (n - 1) (by omega)
  show n ≤ 2 ^ wid (n - 1)
  omega

set_option maxRecDepth 100000 in
theorem parts_any (n : Nat) (w : World) (h1 : 1 ≤ n) (hn : n ≤ 1099511627776) : Calls Tryz.prog 81 #[.int .u64 (n : Int)] w (DrawnI w (.tuple #[.int .i64 (eB n : Nat), .int .u64 (eS n : Nat)])) := by
  obtain ⟨hb, hs⟩ := eB_le n h1 hn
  have HC := width_at ((n : Int) - 1) (n - 1) (by omega) w (by omega)
  rw [show wid (n - 1) = eB n from rfl] at HC
  have hes : eS n = 2 ^ eB n - n := rfl
  obtain ⟨b, hbe⟩ : ∃ b, eB n = b := ⟨_, rfl⟩
  rw [hbe] at hb hs HC hes ⊢
  have hp : 2 ^ b ≤ 2 ^ 40 := Nat.pow_le_pow_right (by omega) hb
  have hrule : ∀ Y : Int, Y = (n : Int) → IntKind.u64.wrap (IntKind.u64.wrap (2 ^ b) - Y) = (eS n : Int) := by
    rintro Y rfl
    have e : (2 : Int) ^ b = ((2 ^ b : Nat) : Int) := (Int.natCast_pow 2 b).symm
    rw [e, hes]
    generalize 2 ^ b = p at *
    rw [IntWalk.u64_in (p : Int) (by omega), IntWalk.u64_in _ (by omega)]
    omega
  obtain ⟨s, hse⟩ : ∃ s, eS n = s := ⟨_, rfl⟩
  rw [hse] at hrule ⊢
  clear hes hse hbe hs hp
  replace HC := hid HC
  go_enter Tryz.func81, Tryz.ntmps81
  go_wp2_with fail
  with_reducible refine HC.out.mono ?_
  rintro e w1 ⟨rfl, rfl⟩
  go_wp2_with fail
  go_quiet (fail)
  go_wp2_with fail
  go_ret2
  exact ⟨rfl, _, rfl⟩
/-- A number is told in its bits. -/
theorem eS_fits {n v : Nat} (h1 : 1 ≤ n) (hn : n ≤ 1099511627776) (hv : v < n) : (v < eS n → 1 ≤ eB n ∧ v < 2 ^ (eB n - 1)) ∧ v + eS n < 2 ^ eB n ∧ 2 ^ eB n ≤ 1099511627776 := by
  obtain ⟨hb, hs⟩ := eB_le n h1 hn
  have hp : 2 ^ eB n ≤ 2 ^ 40 := Nat.pow_le_pow_right (by omega) hb
  refine ⟨fun hlt => ?_, ?_, hp⟩
  · by_cases h0 : n = 1
    · subst h0
      have : eS 1 = 0 := by decide
      omega
    · have hg := wid_ge (n - 1) (by omega) (by omega)
      have e : 2 ^ eB n = 2 * 2 ^ (eB n - 1) := by
        rw [show 2 * 2 ^ (eB n - 1) = 2 ^ (eB n - 1 + 1) from by rw [Nat.pow_succ]; omega, show eB n - 1 + 1 = eB n from by have := hg.2; unfold eB; omega]
      have hg1 : 2 ^ (eB n - 1) ≤ n - 1 := hg.1
      have hg2 : 1 ≤ eB n := hg.2
      unfold eS at hlt
      omega
  · unfold eS
    omega

/-- The code of a number of a span. -/
def codeE (v n : Nat) : List Bool := if v < eS n then bitsOf v (eB n - 1) else bitsOf (v + eS n) (eB n)
def costE (v n : Nat) : Nat := if v < eS n then eB n - 1 else eB n
theorem codeE_length (v n : Nat) : (codeE v n).length = costE v n := by
  unfold codeE costE
  split <;> rw [bitsOf_length]
theorem costE_le {n : Nat} (v : Nat) (h1 : 1 ≤ n) (hn : n ≤ 1099511627776) : costE v n ≤ 40 := by
  have := (eB_le n h1 hn).1
  unfold costE
  split <;> omega

set_option maxRecDepth 100000 in
theorem eput_any (w : World) (p : Nat) (v : Value) (L : List Bool) (u n : Nat) (h : Wr w p v L) (hL : L.length ≤ 66000000000) (h1 : 1 ≤ n) (hn : n ≤ 1099511627776) (hu : u < n) :
    Calls Tryz.prog 51 #[.pointer (some ⟨p, 0, none⟩), .int .u64 (u : Int), .int .u64 (n : Int)] w fun e w' => e = .returned (.tuple #[]) ∧ WI w p v (L ++ codeE u n) w' := by
  obtain ⟨hf1, hf2, hf3⟩ := eS_fits h1 hn hu
  have hb := (eB_le n h1 hn).1
  have HC := hid (codeE.eq_1 u n)
  have HP := hid (parts_any n w h1 hn)
  obtain ⟨b, hbe⟩ : ∃ b, eB n = b := ⟨_, rfl⟩
  obtain ⟨s, hse⟩ : ∃ s, eS n = s := ⟨_, rfl⟩
  rw [hbe] at hf1 hf2 hf3 hb HC HP
  rw [hse] at hf1 hf2 HC HP
  have hsb : u + s < 1099511627776 := by omega
  have HF := hid (And.intro hf1 (And.intro hf2 h))
  by_cases hlt : u < s
  · have hlt' : (u : Int) < s := by omega
    have hb1 := (hf1 hlt).1
    clear hf1 hf2 hf3 hbe hse h
    go_enter Tryz.func51, Tryz.ntmps51
    go_wp2_with fail
    with_reducible refine HP.out.mono ?_
    rintro e w1 ⟨rfl, m, rfl⟩
    go_wp2_with fail
    have HCC := put_fit (w.drewN m) p v L (u : Int) ((b : Int) - 1) u (b - 1) rfl (by omega) (HF.out.2.2.drewN m) (by omega) (by omega) (HF.out.1 hlt).2
    with_reducible refine HCC.mono ?_
    clear HCC
    rintro e w2 ⟨rfl, hw2⟩
    have H2 := hid hw2
    clear hw2
    go_wp2_with fail
    go_end0
    rw [HC.out, if_pos hlt]
    exact ⟨rfl, H2.out.after_below (below_drewN' (.refl _ _) m)⟩
  · have hlt' : ¬ (u : Int) < s := by omega
    clear hf1 hf2 hf3 hbe hse h
    go_enter Tryz.func51, Tryz.ntmps51
    go_wp2_with fail
    with_reducible refine HP.out.mono ?_
    rintro e w1 ⟨rfl, m, rfl⟩
    go_wp2_with fail
    have HCC := put_fit (w.drewN m) p v L ((u : Int) + s) (b : Int) (u + s) b (by omega) rfl (HF.out.2.2.drewN m) (by omega) (by omega) HF.out.2.1
    with_reducible refine HCC.mono ?_
    clear HCC
    rintro e w2 ⟨rfl, hw2⟩
    have H2 := hid hw2
    clear hw2
    go_wp2_with fail
    go_end0
    rw [HC.out, if_neg hlt]
    exact ⟨rfl, H2.out.after_below (below_drewN' (.refl _ _) m)⟩
end Go.Proofs.YtjboboaccjbebaaGreat
/- Layer 8: PutAll, Put. -/
namespace Go.Proofs.YtjboboaccjbebaaGreat
open Go.RowKit

theorem enters_evlit : ∀ args w, (callFunc 50 args).run Tryz.prog w = .ok (.enter 50 args) w := enters_of Tryz.func50 (by kernel_rfl) rfl
theorem evlit_any (b v n : Nat) (w : World) (hc : w.cell? ⟨b, 0, none⟩ = some (.int .u64 (n : Int))) :
    Calls Tryz.prog 50 #[.int .u64 (v : Int), .pointer (some ⟨b, 0, none⟩)] w fun e w' => e = .returned (.bool (decide (n ≤ v))) ∧ w = w' := by
  have HE := hid (show decide ((n : Int) ≤ (v : Int)) = decide (n ≤ v) by rw [Bool.eq_iff_iff, decide_eq_true_iff, decide_eq_true_iff]; omega)
  go_enter Tryz.func50, Tryz.ntmps50
  go_wp2_with fail
  go_ret
  exact ⟨by rw [← HE.out]; rfl, rfl⟩

theorem eputall_nil (l : Value) (n : Nat) (w : World) : Calls Tryz.prog 23 #[.pointer none, l, .int .u64 (n : Int)] w fun e w' => e = .returned (.int .i64 2) ∧ Below w.heap.size w w' := by
  go_enter Tryz.func23, Tryz.ntmps23
  go_wp2_with fail
  go_ret
  exact ⟨rfl, (Below.refl _ _).alloc (Nat.le_refl _) _⟩

/-- Are all of a span? -/
def belowB (xs : List Nat) (n : Nat) : Bool := xs.all fun v => decide (v < n)
theorem any_not_below (xs : List Nat) (n : Nat) : xs.any (fun v => decide (n ≤ v)) = !belowB xs n := by
  unfold belowB
  induction xs with
  | nil => rfl
  | cons x xs ih =>
    rw [List.any_cons, List.all_cons, ih, Bool.not_and]
    congr 1
    by_cases h : n ≤ x
    · have : ¬ x < n := by omega
      simp [h, this]
    · have : x < n := by omega
      simp [h, this]
def ePErr (xs : List Nat) (n : Nat) : Int := if spanB n = true then (if belowB xs n = true then 0 else 3) else 1
def codesE (xs : List Nat) (n : Nat) : List Bool := xs.flatMap fun u => codeE u n

theorem eputall_bad (p : Nat) (l : Value) (xs : List Nat) (n : Nat) (w : World) (hl : Sl w l (u64s xs)) (hx : InU xs) (h : ¬ (spanB n = true ∧ belowB xs n = true)) :
    Calls Tryz.prog 23 #[.pointer (some ⟨p, 0, none⟩), l, .int .u64 (n : Int)] w fun e w' => e = .returned (.int .i64 (ePErr xs n)) ∧ Below w.heap.size w w' := by
  have hmf : ∀ (fn : Fn) (first cap : Array Value) (w : World), (Instr.makeFunc fn first cap).run Tryz.prog w = .ok (.func fn first cap) w := fun _ _ _ _ => rfl
  have HP := hid (fun W => span_any n W)
  have HC := hid (containsU_any 50 #[.pointer (some ⟨w.heap.size, 0, none⟩)] enters_evlit (fun v => decide (n ≤ v)) (fun x => x < 18446744073709551616) l xs (w.alloc (.cells #[.int .u64 (n : Int)] 51)) (hl.alloc _) hx (fun x m _ => (evlit_any w.heap.size x n _ (by simp)).mono fun _ _ ⟨he, hw⟩ => ⟨he, 0, hw.symm⟩))
  rw [any_not_below] at HC
  have HH := hid h
  obtain ⟨b, hb⟩ : ∃ b, spanB n = b := ⟨_, rfl⟩
  obtain ⟨c, hc⟩ : ∃ c, belowB xs n = c := ⟨_, rfl⟩
  rw [hb] at HP HH
  rw [hc] at HC HH
  have HB := hid (And.intro hb hc)
  clear hb hc h hl hx
  cases b
  · have HE := hid (show ePErr xs n = 1 by simp [ePErr, HB.out.1])
    go_enter Tryz.func23, Tryz.ntmps23
    go_wp2_with fail
    with_reducible refine (HP.out _).mono ?_
    rintro e w1 ⟨rfl, rfl⟩
    go_wp2_with fail
    go_ret
    exact ⟨by rw [HE.out]; rfl, (Below.refl _ _).alloc (Nat.le_refl _) _⟩
  cases c
  · have HE := hid (show ePErr xs n = 3 by simp only [ePErr, HB.out.1, HB.out.2]; rfl)
    go_enter Tryz.func23, Tryz.ntmps23
    go_wp2_with fail
    with_reducible refine (HP.out _).mono ?_
    rintro e w1 ⟨rfl, rfl⟩
    go_wp2_with fail
    with_reducible refine HC.out.mono ?_
    rintro e w1 ⟨rfl, m, rfl⟩
    go_wp2_with fail
    go_ret
    exact ⟨by rw [HE.out]; rfl, below_drewN' ((Below.refl _ _).alloc (Nat.le_refl _) _) m⟩
  · exact absurd ⟨rfl, rfl⟩ HH.out

theorem LW.blkB {w0 wr : World} {p : Nat} {v l : Value} {xs : List Value} {L : List Bool} {B t : Nat} {cs : Array Value} (h : LW w0 p v l xs L wr) (hb : Blk w0 B t cs) (hB : ¬ Foot p v B) : Blk wr B t cs := by
  obtain ⟨v1, h1, hm, hk⟩ := h.wi
  exact hb.kept hk hB

set_option maxRecDepth 100000 in
set_option maxHeartbeats 1600000 in
theorem eputall_ok (p : Nat) (v : Value) (L : List Bool) (l : Value) (xs : List Nat) (n : Nat) (w : World) (hw : Wr w p v L) (hL : L.length ≤ 1000000000) (hl : Sl w l (u64s xs)) (hx : InU xs) (hn : xs.length ≤ 1048576) (hap : u64s xs ≠ [] → ∀ g, l.ownBlock = some g → ¬ Foot p v g ∧ g < w.heap.size) (hk : spanB n = true) (ha : belowB xs n = true) :
    Calls Tryz.prog 23 #[.pointer (some ⟨p, 0, none⟩), l, .int .u64 (n : Int)] w fun e w' => e = .returned (.int .i64 0) ∧ WI w p v (L ++ codesE xs n) w' := by
  obtain ⟨A, c, rfl, hm⟩ := u64s_form hl
  have hmf : ∀ (fn : Fn) (first cap : Array Value) (w : World), (Instr.makeFunc fn first cap).run Tryz.prog w = .ok (.func fn first cap) w := fun _ _ _ _ => rfl
  obtain ⟨n1, n2⟩ := (spanB_iff n).1 hk
  have HP := hid (fun W => span_any n W)
  have HC := hid (containsU_any 50 #[.pointer (some ⟨w.heap.size, 0, none⟩)] enters_evlit (fun v => decide (n ≤ v)) (fun x => x < 18446744073709551616) (.slice A xs.length c) xs (w.alloc (.cells #[.int .u64 (n : Int)] 51)) (hl.alloc _) hx (fun x m _ => (evlit_any w.heap.size x n _ (by simp)).mono fun _ _ ⟨he, hw⟩ => ⟨he, 0, hw.symm⟩))
  rw [any_not_below, ha] at HC
  rw [hk] at HP
  have hbel := (Below.refl _ w).alloc (Nat.le_refl _) (.cells #[.int .u64 (n : Int)] 51)
  have HX := hid (And.intro ha (And.intro hx (And.intro (show LW (w.alloc (.cells #[.int .u64 (n : Int)] 51)) p v (.slice A xs.length c) (u64s xs) L (w.alloc (.cells #[.int .u64 (n : Int)] 51)) from ⟨(hw.below hbel).refl, hl.alloc _, fun h g hg => ⟨(hap h g hg).1, by have := (hap h g hg).2; simp; omega⟩⟩) (And.intro (Blk.new w 51 #[.int .u64 (n : Int)]) (And.intro (show ¬ Foot p v w.heap.size from fun h => by have := hw.footlt h; omega) hbel)))))
  clear hk ha hx hl hw hap hbel
  go_enter Tryz.func23, Tryz.ntmps23
  go_wp2_with fail
  with_reducible refine (HP.out _).mono ?_
  rintro e w1 ⟨rfl, rfl⟩
  go_wp2_with fail
  with_reducible refine HC.out.mono ?_
  rintro e w1 ⟨rfl, m, rfl⟩
  go_wp2_with fail
  obtain ⟨W0, hW0⟩ : ∃ W0, w.alloc (.cells #[.int .u64 (n : Int)] 51) = W0 := ⟨_, rfl⟩
  rw [hW0] at HX ⊢
  have HW0 := hid hW0
  clear hW0
  go_loopw [8, 22] (fun _ i wr => ∃ j : Nat, j ≤ xs.length ∧ i = .int .i64 j ∧ LW W0 p v (.slice A xs.length c) (u64s xs) (L ++ codesE (xs.take j) n) wr) (fun _ i _ => xs.length - (intOf i).toNat)
  case atStart =>
    obtain ⟨hwi, hsl, hap⟩ := HX.out.2.2.1
    exact ⟨0, by omega, rfl, by simpa [codesE] using hwi.then_below (below_drewN' (.refl _ _) m), hsl.drewN m, hap⟩
  case round =>
    obtain ⟨j, hj, rfl, hlw⟩ := hrel
    have HL := hid hlw
    have hbb := (hlw.blkB HX.out.2.2.2.1 HX.out.2.2.2.2.1).cell 0
    simp at hbb
    by_cases hjm : j < xs.length
    · have hin : (j : Int) < xs.length := by omega
      obtain ⟨ad, rfl, hc⟩ := u64s_at hlw.sl hjm
      have hu := HX.out.2.1 xs[j] (List.getElem_mem _)
      have hmay := List.all_eq_true.1 HX.out.1 xs[j] (List.getElem_mem _)
      rw [decide_eq_true_iff] at hmay
      obtain ⟨x, hxe⟩ : ∃ x, xs[j] = x := ⟨_, rfl⟩
      rw [hxe] at hc hu hmay
      have HXE := hid (And.intro hxe (And.intro hu hmay))
      clear hxe hu hmay hlw
      have hcl : (codesE (xs.take j) n).length ≤ 41943040 := by
        have e : ∀ ys : List Nat, (codesE ys n).length ≤ ys.length * 40 := by
          intro ys
          induction ys with
          | nil => simp [codesE]
          | cons y ys ih =>
            have h := costE_le y n1 n2
            have e : codesE (y :: ys) n = codeE y n ++ codesE ys n := rfl
            rw [e, List.length_append, codeE_length, List.length_cons]
            omega
        have := e (xs.take j)
        rw [List.length_take] at this
        omega
      go_wp2_with fail
      have HCC := HL.out.calls (R := fun e => e = .returned (.tuple #[])) fun v1 h1 => eput_any wr p v1 (L ++ codesE (xs.take j) n) x n h1 (by rw [List.length_append]; omega) n1 n2 HXE.out.2.2
      with_reducible refine HCC.mono ?_
      clear HCC
      rintro e w2 ⟨rfl, h2⟩
      have H2 := hid (show LW W0 p v (.slice (some ad) xs.length c) (u64s xs) (L ++ codesE (xs.take (j + 1)) n) w2 by
        rw [take_snocI xs j hjm, HXE.out.1]
        simp only [codesE, List.flatMap_append, List.flatMap_cons, List.flatMap_nil, List.append_nil]
        rw [← List.append_assoc]
        exact h2)
      clear h2
      go_wp2_with fail
      go_roundw
      case rel => exact ⟨j + 1, by omega, by go_num, H2.out⟩
      case measure => simp [intOf]; omega
    · have hin : ¬ (j : Int) < xs.length := by omega
      obtain rfl : j = xs.length := by omega
      clear hlw
      go_wp2_with fail
      go_ret
      have h := HL.out.wi
      rw [List.take_length] at h
      exact ⟨rfl, h.after_below HX.out.2.2.2.2.2⟩
end Go.Proofs.YtjboboaccjbebaaGreat
/- Layer 8: get, Get, Put. -/
namespace Go.Proofs.YtjboboaccjbebaaGreat
open Go.RowKit

/-- The number, the error, the place behind. -/
def egT (L : List Bool) (i n : Nat) : Nat × Int × Nat :=
  if eB n = 0 then (0, 0, i)
  else if getErr L i ((eB n : Int) - 1) ≠ 0 then (getVal L i ((eB n : Int) - 1), getErr L i ((eB n : Int) - 1), getAt L i ((eB n : Int) - 1))
  else if getVal L i ((eB n : Int) - 1) < eS n then (getVal L i ((eB n : Int) - 1), 0, getAt L i ((eB n : Int) - 1))
  else if getErr L (getAt L i ((eB n : Int) - 1)) 1 ≠ 0 then (0, getErr L (getAt L i ((eB n : Int) - 1)) 1, getAt L (getAt L i ((eB n : Int) - 1)) 1)
  else (2 * getVal L i ((eB n : Int) - 1) + getVal L (getAt L i ((eB n : Int) - 1)) 1 - eS n, 0, getAt L (getAt L i ((eB n : Int) - 1)) 1)

set_option maxRecDepth 100000 in
set_option maxHeartbeats 4000000 in
theorem egetlow_any (w : World) (p : Nat) (v : Value) (F : List Nat) (i n : Nat) (h : Rd w p v F i) (h1 : 1 ≤ n) (hn : n ≤ 1099511627776) :
    Calls Tryz.prog 87 #[.pointer (some ⟨p, 0, none⟩), .int .u64 (n : Int)] w fun e w' => e = .returned (.tuple #[.int .u64 ((egT (flat F) i n).1 : Int), .int .i64 (egT (flat F) i n).2.1]) ∧ RI w p v F (egT (flat F) i n).2.2 w' := by
  have HT := hid (egT.eq_1 (flat F) i n)
  have hb := (eB_le n h1 hn).1
  have hsb : eS n < 1099511627776 := by have := eS_fits (v := 0) h1 hn (by omega); omega
  have HP := hid (parts_any n w h1 hn)
  have HG := hid (fun (m : Int) w' j (h : Rd w' p v F j) => get_any w' p v F j m h)
  have H := hid h
  clear h
  obtain ⟨L, hL⟩ : ∃ L, flat F = L := ⟨_, rfl⟩
  rw [hL] at HT HG ⊢
  clear hL
  obtain ⟨b, hbe⟩ : ∃ b, eB n = b := ⟨_, rfl⟩
  obtain ⟨s, hse⟩ : ∃ s, eS n = s := ⟨_, rfl⟩
  rw [hbe] at hb HT HP
  rw [hse] at hsb HT HP
  clear hbe hse
  obtain ⟨r, hr⟩ : ∃ r, egT L i n = r := ⟨_, rfl⟩
  rw [hr] at HT ⊢
  clear hr
  by_cases h0 : b = 0
  · have hb0 : ((b : Int) == 0) = true := by rw [beq_iff_eq]; omega
    have HB0 := hid h0
    clear h0
    go_enter Tryz.func87, Tryz.ntmps87
    go_wp2_with fail
    with_reducible refine HP.out.mono ?_
    rintro e w1 ⟨rfl, m, rfl⟩
    go_wp2_with fail
    go_ret2
    rw [HT.out, if_pos HB0.out]
    exact ⟨rfl, H.out.drewN m, (Kept.refl _ _).drewN m⟩
  have hb0 : ((b : Int) == 0) = false := by rw [beq_eq_false_iff_ne]; omega
  have HT2 := HT.out
  rw [if_neg h0] at HT2
  have hb1 : 1 ≤ b := by omega
  have hvl := getVal_lt L i (b - 1)
  rw [show ((b - 1 : Nat) : Int) = (b : Int) - 1 by omega] at hvl
  have hp : 2 ^ (b - 1) ≤ 2 ^ 39 := Nat.pow_le_pow_right (by omega) (by omega)
  have HG1 := HG.out ((b : Int) - 1)
  obtain ⟨x, hx⟩ : ∃ x, getVal L i ((b : Int) - 1) = x := ⟨_, rfl⟩
  obtain ⟨e1, he1⟩ : ∃ e1, getErr L i ((b : Int) - 1) = e1 := ⟨_, rfl⟩
  obtain ⟨j, hj⟩ : ∃ j, getAt L i ((b : Int) - 1) = j := ⟨_, rfl⟩
  rw [hx, he1, hj] at HT2
  have hxl : x < 549755813888 := by rw [hx] at hvl; omega
  have HGI := hid (fun w' (hw : Rd w' p v F i) => by have := HG1 w' i hw; rw [hx, he1, hj] at this; exact this)
  have hyl := getVal_lt L j 1
  rw [show ((1 : Nat) : Int) = 1 from rfl] at hyl
  have HG2 := HG.out 1
  obtain ⟨y, hy⟩ : ∃ y, getVal L j 1 = y := ⟨_, rfl⟩
  obtain ⟨e2, he2⟩ : ∃ e2, getErr L j 1 = e2 := ⟨_, rfl⟩
  obtain ⟨a, ha⟩ : ∃ a, getAt L j 1 = a := ⟨_, rfl⟩
  rw [hy, he2, ha] at HT2
  rw [hy] at hyl
  have HGJ := hid (fun w' (hw : Rd w' p v F j) => by have := HG2 w' j hw; rw [hy, he2, ha] at this; exact this)
  clear hvl hp HG1 hx he1 hj HG2 hy he2 ha HT h0
  replace hyl : y < 2 := hyl
  replace HT2 := hid HT2
  by_cases hz : e1 = 0
  · subst hz
    by_cases hlt : x < s
    · have hlt' : (x : Int) < s := by omega
      go_enter Tryz.func87, Tryz.ntmps87
      go_wp2_with fail
      with_reducible refine HP.out.mono ?_
      rintro e w1 ⟨rfl, m, rfl⟩
      go_wp2_with fail
      with_reducible refine (HGI.out _ (H.out.drewN m)).mono ?_
      rintro e w2 ⟨rfl, hr2⟩
      have H2 := hid (show RI w p v F j w2 from ⟨hr2.1, ((Kept.refl _ _).drewN m).trans hr2.2 fun _ _ => id⟩)
      clear hr2
      go_wp2_with fail
      go_ret2
      rw [HT2.out, if_neg (by simp), if_pos hlt]
      exact ⟨rfl, H2.out⟩
    · have hlt' : ¬ (x : Int) < s := by omega
      have hmul : IntKind.u64.wrap ((x : Int) * 2) = ((2 * x : Nat) : Int) := by rw [IntWalk.u64_in _ (by omega)]; omega
      by_cases hz2 : e2 = 0
      · subst hz2
        go_enter Tryz.func87, Tryz.ntmps87
        go_wp2_with fail
        with_reducible refine HP.out.mono ?_
        rintro e w1 ⟨rfl, m, rfl⟩
        go_wp2_with fail
        with_reducible refine (HGI.out _ (H.out.drewN m)).mono ?_
        rintro e w2 ⟨rfl, hr2⟩
        have H2 := hid (show RI w p v F j w2 from ⟨hr2.1, ((Kept.refl _ _).drewN m).trans hr2.2 fun _ _ => id⟩)
        clear hr2
        go_wp2_with fail
        with_reducible refine (HGJ.out _ (RI.rd H2.out)).mono ?_
        rintro e w3 ⟨rfl, hr3⟩
        have H3 := hid hr3
        clear hr3
        go_wp2_with fail
        go_ret2
        rw [HT2.out, if_neg (by simp), if_neg hlt, if_neg (by simp)]
        exact ⟨by show Ending.returned (.tuple #[.int .u64 (2 * (x : Int) + y - s), .int .i64 0]) = Ending.returned (.tuple #[.int .u64 ((2 * x + y - s : Nat) : Int), .int .i64 0]); rw [show (2 * (x : Int) + y - s) = ((2 * x + y - s : Nat) : Int) by omega], H2.out.trans H3.out⟩
      · have hz2' : (e2 == 0) = false := by rw [beq_eq_false_iff_ne]; exact hz2
        go_enter Tryz.func87, Tryz.ntmps87
        go_wp2_with fail
        with_reducible refine HP.out.mono ?_
        rintro e w1 ⟨rfl, m, rfl⟩
        go_wp2_with fail
        with_reducible refine (HGI.out _ (H.out.drewN m)).mono ?_
        rintro e w2 ⟨rfl, hr2⟩
        have H2 := hid (show RI w p v F j w2 from ⟨hr2.1, ((Kept.refl _ _).drewN m).trans hr2.2 fun _ _ => id⟩)
        clear hr2
        go_wp2_with fail
        with_reducible refine (HGJ.out _ (RI.rd H2.out)).mono ?_
        rintro e w3 ⟨rfl, hr3⟩
        have H3 := hid hr3
        clear hr3
        go_wp2_with fail
        go_ret2
        rw [HT2.out, if_neg (by simp), if_neg hlt, if_pos hz2]
        exact ⟨rfl, H2.out.trans H3.out⟩
  · have hz' : (e1 == 0) = false := by rw [beq_eq_false_iff_ne]; exact hz
    go_enter Tryz.func87, Tryz.ntmps87
    go_wp2_with fail
    with_reducible refine HP.out.mono ?_
    rintro e w1 ⟨rfl, m, rfl⟩
    go_wp2_with fail
    with_reducible refine (HGI.out _ (H.out.drewN m)).mono ?_
    rintro e w2 ⟨rfl, hr2⟩
    have H2 := hid (show RI w p v F j w2 from ⟨hr2.1, ((Kept.refl _ _).drewN m).trans hr2.2 fun _ _ => id⟩)
    clear hr2
    go_wp2_with fail
    go_ret2
    rw [HT2.out, if_pos hz]
    exact ⟨rfl, H2.out⟩
end Go.Proofs.YtjboboaccjbebaaGreat
/- Layer 8: GetAll. -/
namespace Go.Proofs.YtjboboaccjbebaaGreat
open Go.RowKit

/-- So many numbers, one behind the other, from place i on. -/
def egS (L : List Bool) (k i : Nat) : Nat → Except Int (List Nat × Nat)
  | 0 => .ok ([], i)
  | n + 1 => match egS L k i n with
    | .error e => .error e
    | .ok (l, j) => if (egT L j k).2.1 = 0 then .ok (l ++ [(egT L j k).1], (egT L j k).2.2) else .error (egT L j k).2.1
theorem egS_step {L : List Bool} {k i m j : Nat} {l : List Nat} (h : egS L k i m = .ok (l, j)) : egS L k i (m + 1) = if (egT L j k).2.1 = 0 then .ok (l ++ [(egT L j k).1], (egT L j k).2.2) else .error (egT L j k).2.1 := by rw [egS, h]
theorem egS_err {L : List Bool} {k i n : Nat} {x : Int} (h : egS L k i n = .error x) (m : Nat) : egS L k i (n + m) = .error x := by
  induction m with
  | zero => exact h
  | succ m ih => show egS L k i (n + m + 1) = _; rw [egS, ih]
theorem egS_err' {L : List Bool} {k i n : Nat} {x : Int} (h : egS L k i n = .error x) {m : Nat} (hm : n ≤ m) : egS L k i m = .error x := by
  have := egS_err h (m - n)
  rwa [show n + (m - n) = m by omega] at this
theorem egS_len {L : List Bool} {k i : Nat} : ∀ {n : Nat} {l : List Nat} {j : Nat}, egS L k i n = .ok (l, j) → l.length = n
  | 0, l, j, h => by
    rw [egS] at h
    injection h with h
    injection h with h1 h2
    subst h1
    rfl
  | n + 1, l, j, h => by
    rw [egS] at h
    cases e : egS L k i n with
    | error x => rw [e] at h; cases h
    | ok a =>
      obtain ⟨l', j'⟩ := a
      rw [e] at h
      have hl := egS_len e
      simp only at h
      split at h
      · injection h with h
        injection h with h1 h2
        subst h1
        simp [hl]
      · cases h
theorem egT_lt (L : List Bool) (i n : Nat) (h1 : 1 ≤ n) (hn : n ≤ 1099511627776) : (egT L i n).1 < 18446744073709551616 := by
  have hb := (eB_le n h1 hn).1
  rw [egT]
  by_cases h0 : eB n = 0
  · rw [if_pos h0]
    show 0 < _
    omega
  rw [if_neg h0]
  have hm : ((eB n : Int) - 1) = ((eB n - 1 : Nat) : Int) := by omega
  rw [hm]
  have h2 := getVal_lt L i (eB n - 1)
  have h3 := getVal_lt L (getAt L i ((eB n - 1 : Nat) : Int)) 1
  rw [show ((1 : Nat) : Int) = 1 from rfl] at h3
  have h4 : 2 ^ (eB n - 1) ≤ 2 ^ 39 := Nat.pow_le_pow_right (by omega) (by omega)
  split
  · show getVal L i ((eB n - 1 : Nat) : Int) < _; omega
  · split
    · show getVal L i ((eB n - 1 : Nat) : Int) < _; omega
    · split
      · show 0 < _; omega
      · show 2 * getVal L i ((eB n - 1 : Nat) : Int) + getVal L (getAt L i ((eB n - 1 : Nat) : Int)) 1 - eS n < _; omega
theorem egetall_arg (p : Nat) (n : Int) (k : Nat) (w : World) (h : spanB k = false ∨ n < 0 ∨ 1048576 < n) : Calls Tryz.prog 65 #[.pointer (some ⟨p, 0, none⟩), .int .i64 n, .int .u64 (k : Int)] w fun e w' => e = .returned (.tuple #[.slice none 0 0, .int .i64 1]) ∧ w = w' := by
  have HP := span_any k w
  obtain ⟨b, hb⟩ : ∃ b, spanB k = b := ⟨_, rfl⟩
  rw [hb] at HP h
  replace HP := hid HP
  clear hb
  cases b
  · clear h
    go_enter Tryz.func65, Tryz.ntmps65
    go_wp2_with fail
    with_reducible refine HP.out.mono ?_
    rintro e w1 ⟨rfl, rfl⟩
    go_wp2_with fail
    go_ret2
    exact ⟨rfl, rfl⟩
  · by_cases h1 : n < 0
    · clear h
      go_enter Tryz.func65, Tryz.ntmps65
      go_wp2_with fail
      with_reducible refine HP.out.mono ?_
      rintro e w1 ⟨rfl, rfl⟩
      go_wp2_with fail
      go_ret2
      exact ⟨rfl, rfl⟩
    · have h2 : 1048576 < n := by rcases h with h | h | h <;> first | exact h | cases h | omega
      clear h
      go_enter Tryz.func65, Tryz.ntmps65
      go_wp2_with fail
      with_reducible refine HP.out.mono ?_
      rintro e w1 ⟨rfl, rfl⟩
      go_wp2_with fail
      go_ret2
      exact ⟨rfl, rfl⟩

set_option maxRecDepth 100000 in
set_option maxHeartbeats 4000000 in
theorem egetall_any (w : World) (p : Nat) (v : Value) (F : List Nat) (i k n : Nat) (h : Rd w p v F i) (hk : spanB k = true) (hn : n ≤ 1048576) (hv : ∀ g, v.ownBlock = some g → g < w.heap.size) :
    Calls Tryz.prog 65 #[.pointer (some ⟨p, 0, none⟩), .int .i64 (n : Int), .int .u64 (k : Int)] w (GAPost (fun w' j => Rd w' p v F j) w p (egS (flat F) k i n) n) := by
  obtain ⟨k1, k2⟩ := (spanB_iff k).1 hk
  have HP := span_any k w
  rw [hk] at HP
  replace HP := hid HP
  have HG := hid (fun w' j (h : Rd w' p v F j) => egetlow_any w' p v F j k h k1 k2)
  have HL := hid (fun j => egT_lt (flat F) j k k1 k2)
  have HV := hid hv
  have G0 := hid (show GU (fun w' j => Rd w' p v F j) w p i [] (.slice none 0 0) w from ⟨h, .refl _ _, World.ownsRow_nil _ _ _ _, by simp [Value.ownBlock], h.blk.lt⟩)
  clear h hv
  obtain ⟨L, hL⟩ : ∃ L, flat F = L := ⟨_, rfl⟩
  rw [hL] at HG HL ⊢
  clear hL
  go_enter Tryz.func65, Tryz.ntmps65
  go_wp2_with fail
  with_reducible refine HP.out.mono ?_
  rintro e w1 ⟨rfl, rfl⟩
  go_wp2_with fail
  go_loopw [8, 27] (fun o c wr => ∃ (m : Nat) (l : List Nat) (j : Nat) (A : Option Addr) (cc : Nat), m ≤ n ∧ c = .int .i64 m ∧ o = .slice A m cc ∧ Hid (egS L k i m = .ok (l, j)) ∧ Hid (GU (fun w' j => Rd w' p v F j) w p j l (.slice A m cc) wr)) (fun _ c _ => n - (intOf c).toNat)
  case atStart => exact ⟨0, [], i, none, 0, by omega, rfl, rfl, rfl, G0.out⟩
  case round =>
    obtain ⟨m, l, j, A, cc, hm, rfl, rfl, hS, hG⟩ := hrel
    by_cases hmn : m < n
    · have hin : (m : Int) < n := by omega
      have hC := HG.out wr j hG.out.rd
      have hxl := HL.out j
      have hR := hid (egS_step hS.out)
      obtain ⟨r, hr⟩ : ∃ r, egT L j k = r := ⟨_, rfl⟩
      rw [hr] at hC hxl hR
      clear hr
      obtain ⟨x, e1, a⟩ := r
      replace hC := hid hC
      simp only at hxl
      by_cases he : e1 = 0
      · subst he
        go_wp2_with fail
        with_reducible refine hC.out.mono ?_
        rintro e w2 ⟨rfl, hr2⟩
        have G2 := hid (hG.out.get (RI.rd hr2) hr2.2)
        clear hr2
        go_wp2_with (at_builtin; go_must (refine wpList_app1 _ rfl (.tmp 38) (.tmp 40) 49 rfl 51 .u64 8 Tryz.underlying49 Tryz.info_uint (.slice A m cc) (u64s l) m rfl ?d1 ⟨w2.heap.size, 0, none⟩ (x : Int) rfl ?d3 (by decide) ?d4 (w2.heap.size + 1) ?d5 ?_); rotate_right; intro g cap w3 hown3 hg3 hat hlt; replace hown3 := hid hown3; replace hg3 := hid hg3; replace hat := hid hat)
        case d1 => exact (G2.out.own_n (egS_len hS.out)).alloc _
        case d3 => exact World.cell?_alloc_at _ _ _ _ rfl
        case d4 => omega
        case d5 => simp
        have hgr := G2.out.grow (egS_len hS.out) (fun w4 hk4 => G2.out.rd.keep hk4 (fun e => by have := G2.out.new _ e; have := G2.out.lt; omega) fun g' hg' e => by have := G2.out.new _ e; have := HV.out _ hg'; omega) hown3.out hg3.out hat.out
        have hst := hR.out
        rw [if_pos trivial] at hst
        go_roundw
        case rel => exact ⟨m + 1, _, _, _, _, by omega, by go_num, rfl, hst, hgr⟩
        case measure => simp [intOf]; omega
      · have he' : (e1 == 0) = false := by rw [beq_eq_false_iff_ne]; exact he
        have HE := hid he
        clear he
        go_wp2_with fail
        with_reducible refine hC.out.mono ?_
        rintro e w2 ⟨rfl, hr2⟩
        have G2 := hid (hG.out.get (RI.rd hr2) hr2.2)
        clear hr2
        go_wp2_with fail
        go_ret2
        have hst := hR.out
        rw [if_neg HE.out] at hst
        unfold GAPost
        rw [egS_err' hst (by omega)]
        exact ⟨rfl, G2.out.kp, HE.out, _, G2.out.rd⟩
    · have hin : ¬ (m : Int) < n := by omega
      obtain rfl : m = n := by omega
      go_wp2_with fail
      go_ret2
      unfold GAPost
      rw [hS.out]
      exact ⟨A, cc, rfl, hG.out⟩
end Go.Proofs.YtjboboaccjbebaaGreat
/- Plain law of layer 8: codes that stand ahead are read as their numbers; what is read stood ahead as its code. -/
namespace Go.Proofs.YtjboboaccjbebaaGreat
open Go.RowKit

/-- A code that stands ahead is read as its number. -/
theorem egT_code' {L T : List Bool} {i v n : Nat} (h1 : 1 ≤ n) (hn : n ≤ 1099511627776) (hv : v < n) (h : L.drop i = codeE v n ++ T) (hi : i ≤ L.length) : egT L i n = (v, 0, i + costE v n) := by
  obtain ⟨hf1, hf2, hf3⟩ := eS_fits h1 hn hv
  obtain ⟨hb, hnb⟩ := eB_le n h1 hn
  rw [egT]
  by_cases h0 : eB n = 0
  · have e1 : n = 1 := by rw [h0] at hnb; omega
    subst e1
    obtain rfl : v = 0 := by omega
    rw [if_pos h0]
    rfl
  rw [if_neg h0]
  have hm : ((eB n : Int) - 1) = ((eB n - 1 : Nat) : Int) := by omega
  rw [hm]
  by_cases hlt : v < eS n
  · unfold codeE at h
    rw [if_pos hlt] at h
    obtain ⟨g1, g2, g3, _, _⟩ := get_seg h (hf1 hlt).2 (by omega) hi
    rw [g1, g2, g3, if_neg (by simp), if_pos hlt]
    unfold costE
    rw [if_pos hlt]
  · unfold codeE at h
    have hbb : eB n = (eB n - 1) + 1 := by omega
    rw [if_neg hlt, hbb, bitsOf_add, List.append_assoc] at h
    have e2 : 2 ^ eB n = 2 * 2 ^ (eB n - 1) := by
      rw [show 2 * 2 ^ (eB n - 1) = 2 ^ (eB n - 1 + 1) from by rw [Nat.pow_succ]; omega, ← hbb]
    have hxl : (v + eS n) / 2 ^ 1 < 2 ^ (eB n - 1) := by omega
    obtain ⟨g1, g2, g3, g4, g5⟩ := get_seg h hxl (by omega) hi
    rw [← bitsOf_mod (v + eS n) 1 1 (Nat.le_refl _)] at g4
    obtain ⟨k1, k2, k3, _, _⟩ := get_seg g4 (by omega) (by omega) g5
    rw [show ((1 : Nat) : Int) = 1 from rfl] at k1 k2 k3
    rw [g1, g2, g3, k1, k2, k3, if_neg (by simp), if_neg (by omega), if_neg (by simp)]
    unfold costE
    rw [if_neg hlt, show i + (eB n - 1) + 1 = i + eB n by omega, show 2 * ((v + eS n) / 2 ^ 1) + (v + eS n) % 2 ^ 1 - eS n = v by omega]

theorem wid_pos {n : Nat} (h : eB n = 0) (h1 : 1 ≤ n) (hn : n ≤ 1099511627776) : n = 1 := by
  have := (eB_le n h1 hn).2
  rw [h] at this
  omega
/-- What is read stood ahead as its code. -/
theorem egT_conv {L : List Bool} {i n : Nat} (h1 : 1 ≤ n) (hn : n ≤ 1099511627776) (hi : i ≤ L.length) (h : (egT L i n).2.1 = 0) :
    (egT L i n).1 < n ∧ (egT L i n).2.2 = i + costE (egT L i n).1 n ∧ (egT L i n).2.2 ≤ L.length ∧ L.drop i = codeE (egT L i n).1 n ++ L.drop (egT L i n).2.2 := by
  obtain ⟨hb, hnb⟩ := eB_le n h1 hn
  have hf := eS_fits (v := n - 1) h1 hn (by omega)
  rw [egT] at h ⊢
  by_cases h0 : eB n = 0
  · rw [if_pos h0]
    obtain rfl := wid_pos h0 h1 hn
    exact ⟨by show 0 < 1; omega, by show i = i + costE 0 1; unfold costE; rw [h0]; simp, hi, by show L.drop i = codeE 0 1 ++ L.drop i; unfold codeE; rw [h0]; simp [bitsOf]⟩
  rw [if_neg h0] at h ⊢
  have hm : ((eB n : Int) - 1) = ((eB n - 1 : Nat) : Int) := by omega
  have hse : eS n = 2 ^ eB n - n := rfl
  have e2 : 2 ^ eB n = 2 * 2 ^ (eB n - 1) := by
    rw [show 2 * 2 ^ (eB n - 1) = 2 ^ (eB n - 1 + 1) from by rw [Nat.pow_succ]; omega, show eB n - 1 + 1 = eB n by omega]
  have hn1 : n ≠ 1 := fun e => by subst e; exact h0 wid_zero
  have hg : 2 ^ (eB n - 1) ≤ n - 1 := (wid_ge (n - 1) (by omega) (by omega)).1
  rw [hm] at h ⊢
  by_cases g1 : getErr L i ((eB n - 1 : Nat) : Int) = 0
  · rw [if_neg (by simp [g1])] at h ⊢
    obtain ⟨c1, c2, c3, c4⟩ := get_conv g1
    rw [c3] at h ⊢
    obtain ⟨x, hx⟩ : ∃ x, getVal L i ((eB n - 1 : Nat) : Int) = x := ⟨_, rfl⟩
    rw [hx] at h c1 c4 ⊢
    by_cases hlt : x < eS n
    · rw [if_pos hlt]
      refine ⟨by show x < n; omega, ?_, c2, ?_⟩
      · show i + (eB n - 1) = i + costE x n
        unfold costE; rw [if_pos hlt]
      · show L.drop i = codeE x n ++ L.drop (i + (eB n - 1))
        unfold codeE; rw [if_pos hlt]; exact c1
    · rw [if_neg hlt] at h ⊢
      by_cases g2 : getErr L (i + (eB n - 1)) 1 = 0
      · rw [if_neg (by simp [g2])] at h ⊢
        obtain ⟨d1, d2, d3, d4⟩ := get_conv (m := 1) g2
        rw [show ((1 : Nat) : Int) = 1 from rfl] at d1 d3 d4
        rw [d3] at h ⊢
        obtain ⟨y, hy⟩ : ∃ y, getVal L (i + (eB n - 1)) 1 = y := ⟨_, rfl⟩
        rw [hy] at h d1 d4 ⊢
        have hv : 2 * x + y - eS n < n := by omega
        have hnl : ¬ 2 * x + y - eS n < eS n := by omega
        have e3 : 2 * x + y - eS n + eS n = 2 * x + y := by omega
        refine ⟨hv, ?_, ?_, ?_⟩
        · show i + (eB n - 1) + 1 = i + costE (2 * x + y - eS n) n
          unfold costE; rw [if_neg hnl]; omega
        · show i + (eB n - 1) + 1 ≤ L.length
          exact d2
        · show L.drop i = codeE (2 * x + y - eS n) n ++ L.drop (i + (eB n - 1) + 1)
          unfold codeE
          rw [if_neg hnl, e3, show eB n = (eB n - 1) + 1 by omega, bitsOf_add, show (eB n - 1) + 1 - 1 = eB n - 1 by omega, show (2 * x + y) / 2 ^ 1 = x by omega, ← bitsOf_mod (2 * x + y) 1 1 (Nat.le_refl _), show (2 * x + y) % 2 ^ 1 = y by omega, c1, d1, List.append_assoc]
      · rw [if_pos g2] at h
        exact absurd h g2
  · rw [if_pos g1] at h
    exact absurd h g1
theorem codesE_snoc (xs : List Nat) (x : Nat) (n : Nat) : codesE (xs ++ [x]) n = codesE xs n ++ codeE x n := by simp [codesE]
/-- Codes that stand at the start are read as their numbers. -/
theorem egS_codes {L T : List Bool} {k : Nat} (h1 : 1 ≤ k) (h2 : k ≤ 1099511627776) : ∀ (n : Nat) (xs : List Nat), n ≤ xs.length → (∀ x ∈ xs, x < k) → L = codesE xs k ++ T → egS L k 0 n = .ok (xs.take n, (codesE (xs.take n) k).length)
  | 0, xs, _, _, _ => by rw [egS]; simp [codesE]
  | n + 1, xs, hn, hx, hL => by
    have e := egS_codes h1 h2 n xs (by omega) hx hL
    have hlt : n < xs.length := by omega
    have hs : xs.take (n + 1) = xs.take n ++ [xs[n]] := List.take_succ_eq_append_getElem hlt
    have hxn := hx xs[n] (List.getElem_mem _)
    have hd : L.drop (codesE (xs.take n) k).length = codeE xs[n] k ++ (codesE (xs.drop (n + 1)) k ++ T) := by
      have e3 : xs = xs.take n ++ xs[n] :: xs.drop (n + 1) := by rw [← List.drop_eq_getElem_cons hlt, List.take_append_drop]
      have e2 : codesE xs k = codesE (xs.take n) k ++ (codeE xs[n] k ++ codesE (xs.drop (n + 1)) k) := by
        refine (congrArg (codesE · k) e3).trans ?_
        simp only [codesE, List.flatMap_append, List.flatMap_cons]
      rw [hL, e2, List.append_assoc, List.drop_left, List.append_assoc]
    have hle : (codesE (xs.take n) k).length ≤ L.length := by
      have e2 : codesE xs k = codesE (xs.take n) k ++ codesE (xs.drop n) k := by
        refine (congrArg (codesE · k) (List.take_append_drop n xs).symm).trans ?_
        simp only [codesE, List.flatMap_append]
      rw [hL, e2, List.append_assoc, List.length_append]
      omega
    rw [egS_step e, egT_code' h1 h2 hxn hd hle, if_pos rfl, hs, codesE_snoc, List.length_append, codeE_length]
/-- Numbers that are got stood at the start as their codes. -/
theorem egS_conv {L : List Bool} {k : Nat} (h1 : 1 ≤ k) (h2 : k ≤ 1099511627776) : ∀ (n : Nat) (l : List Nat) (j : Nat), egS L k 0 n = .ok (l, j) → (∀ x ∈ l, x < k) ∧ j = (codesE l k).length ∧ j ≤ L.length ∧ L = codesE l k ++ L.drop j
  | 0, l, j, h => by
    rw [egS] at h
    injection h with h
    injection h with e1 e2
    subst e1 e2
    simp [codesE]
  | n + 1, l, j, h => by
    rw [egS] at h
    cases e : egS L k 0 n with
    | error x => rw [e] at h; cases h
    | ok a =>
      obtain ⟨l', j'⟩ := a
      rw [e] at h
      obtain ⟨c1, c2, c3, c4⟩ := egS_conv h1 h2 n l' j' e
      simp only at h
      split at h
      · rename_i hz
        injection h with h
        injection h with e1 e2
        obtain ⟨d1, d2, d3, d4⟩ := egT_conv h1 h2 c3 hz
        subst e1 e2
        refine ⟨?_, ?_, d3, ?_⟩
        · intro x hx
          rcases List.mem_append.1 hx with hx | hx
          · exact c1 x hx
          · simp at hx; rw [hx]; exact d1
        · rw [d2, codesE_snoc, List.length_append, codeE_length, ← c2]
        · rw [codesE_snoc, List.append_assoc, ← d4]; exact c4
      · cases h
end Go.Proofs.YtjboboaccjbebaaGreat
/- Plain law: codes that stand at any place are read as their numbers. -/
namespace Go.Proofs.YtjboboaccjbebaaGreat
open Go.RowKit

theorem rgS_codes_at {L T : List Bool} {k i : Nat} (hk : k ≤ 30) (hi : i ≤ L.length) : ∀ (n : Nat) (xs : List Nat), n ≤ xs.length → (∀ x ∈ xs, x < 1099511627776) → L.drop i = codesR xs k ++ T → rgS L k i n = .ok (xs.take n, i + (codesR (xs.take n) k).length)
  | 0, xs, _, _, _ => by rw [rgS]; simp [codesR]
  | n + 1, xs, hn, hx, hL => by
    have e := rgS_codes_at hk hi n xs (by omega) hx hL
    have hlt : n < xs.length := by omega
    have hs : xs.take (n + 1) = xs.take n ++ [xs[n]] := List.take_succ_eq_append_getElem hlt
    have hxn := hx xs[n] (List.getElem_mem _)
    have e3 : xs = xs.take n ++ xs[n] :: xs.drop (n + 1) := by rw [← List.drop_eq_getElem_cons hlt, List.take_append_drop]
    have e2 : codesR xs k = codesR (xs.take n) k ++ (codeR xs[n] k ++ codesR (xs.drop (n + 1)) k) := by
      refine (congrArg (codesR · k) e3).trans ?_
      simp only [codesR, List.flatMap_append, List.flatMap_cons]
    have hd : L.drop (i + (codesR (xs.take n) k).length) = codeK xs[n] k ++ (codesR (xs.drop (n + 1)) k ++ T) := by
      rw [← List.drop_drop, hL, e2, codeR_ok hk hxn, List.append_assoc, List.drop_left, List.append_assoc]
    have hle : i + (codesR (xs.take n) k).length ≤ L.length := by
      have := congrArg List.length hL
      rw [List.length_drop, e2, List.append_assoc, List.length_append] at this
      omega
    rw [rgS_step e, rgT_code hk hxn hd hle, if_pos rfl, hs, codesR_snoc, codeR_ok hk hxn, List.length_append, codeK_length, Nat.add_assoc]

theorem egS_codes_at {L T : List Bool} {k i : Nat} (h1 : 1 ≤ k) (h2 : k ≤ 1099511627776) (hi : i ≤ L.length) : ∀ (n : Nat) (xs : List Nat), n ≤ xs.length → (∀ x ∈ xs, x < k) → L.drop i = codesE xs k ++ T → egS L k i n = .ok (xs.take n, i + (codesE (xs.take n) k).length)
  | 0, xs, _, _, _ => by rw [egS]; simp [codesE]
  | n + 1, xs, hn, hx, hL => by
    have e := egS_codes_at h1 h2 hi n xs (by omega) hx hL
    have hlt : n < xs.length := by omega
    have hs : xs.take (n + 1) = xs.take n ++ [xs[n]] := List.take_succ_eq_append_getElem hlt
    have hxn := hx xs[n] (List.getElem_mem _)
    have e3 : xs = xs.take n ++ xs[n] :: xs.drop (n + 1) := by rw [← List.drop_eq_getElem_cons hlt, List.take_append_drop]
    have e2 : codesE xs k = codesE (xs.take n) k ++ (codeE xs[n] k ++ codesE (xs.drop (n + 1)) k) := by
      refine (congrArg (codesE · k) e3).trans ?_
      simp only [codesE, List.flatMap_append, List.flatMap_cons]
    have hd : L.drop (i + (codesE (xs.take n) k).length) = codeE xs[n] k ++ (codesE (xs.drop (n + 1)) k ++ T) := by
      rw [← List.drop_drop, hL, e2, List.append_assoc, List.drop_left, List.append_assoc]
    have hle : i + (codesE (xs.take n) k).length ≤ L.length := by
      have := congrArg List.length hL
      rw [List.length_drop, e2, List.append_assoc, List.length_append] at this
      omega
    rw [egS_step e, egT_code' h1 h2 hxn hd hle, if_pos rfl, hs, codesE_snoc, List.length_append, codeE_length, Nat.add_assoc]

theorem rn_code_at {L T : List Bool} {k i : Nat} {l : List Int} (hk : k ≤ 30) (hl : l.length ≤ 1048576) (hc : codedB l = true) (hi : i ≤ L.length) (h : L.drop i = codeL l k ++ T) : rnT L k l.length i = .ok (l, i + (codeL l k).length) := by
  have := rnF_code (L := L) (T := T) hk hl hc l.length 0 (l.length + 1) i (by omega) (by omega) (by omega) (by simpa using h) hi
  rw [List.take_zero, List.drop_zero] at this
  exact this
end Go.Proofs.YtjboboaccjbebaaGreat
