/- More references of layer 2: Many, Align, Bytes, Of. -/
import Derived.Test.YtjboboaccjbebaaRef02
namespace Go.Proofs.Ytjboboaccjbebaa
open Go.RowKit

/-- Ints in new memory and an error are handed back. -/
def FreshE (w : World) (F : List Int) (x : Int) (e : Ending) (w' : World) : Prop := ∃ A c, e = .returned (.tuple #[.slice A F.length c, .int .i64 x]) ∧ FreshI w F (.slice A F.length c) w'

/-- How many noughts Align adds. -/
def pad8 (n : Nat) : Nat := (8 - n % 8) % 8

set_option maxRecDepth 100000 in
set_option maxHeartbeats 800000 in
theorem refalign_any (l : Value) (F : List Int) (w : World) (hl : Sl w l (i64s F)) (hF : F.length ≤ 8589934592) :
    Calls Try.prog 71 #[l] w (FreshIS w (F ++ List.replicate (pad8 F.length) 0)) := by
  have H := hid hl
  clear hl
  go_enter Try.func71, Try.ntmps71
  go_wp2_with (at_builtin; go_must (refine wpList_app _ rfl (.tmp 5) (.tmp 6) 22 rfl 3 .i64 8 Try.underlying22 Try.info_int (.slice (some ⟨w.heap.size, 0, none⟩) 0 0) 0 [] rfl ?c1 l (i64s F) rfl ?c2 i64s_one (by decide) ?c3 ?_); rotate_right; intro v1 w1 hown hg hm; replace hown := hid hown; replace hg := hid hg; replace hm := hid hm)
  case c1 => exact (FreshI.empty w).1
  case c2 => exact H.out.alloc _
  case c3 => rw [i64s_length]; omega
  have hf1 := hid (show FreshI w F v1 w1 from (FreshI.empty w).app (G := F) hown.out hg.out hm.out)
  clear hown hg hm
  go_loopw [3, 4] (fun o i wr => ∃ (k : Nat) (A : Option Addr) (c : Nat), k ≤ pad8 F.length ∧ i = .int .i64 k ∧ o = .slice A (F.length + k) c ∧ FreshI w (F ++ List.replicate k 0) (.slice A (F.length + k) c) wr) (fun _ i _ => 8 - (intOf i).toNat)
  case atStart =>
    have h := hf1.out
    obtain ⟨A, c, e⟩ := h.form
    subst e
    exact ⟨0, A, c, Nat.zero_le _, rfl, rfl, by simpa using h⟩
  case round =>
    obtain ⟨k, A, c, hk, rfl, rfl, hf⟩ := hrel
    have HF := hid hf
    clear hf
    have hk8 : (k : Int) < 8 := by unfold pad8 at hk; omega
    by_cases hkn : k < pad8 F.length
    · have ht : (((F.length : Int) + (k : Int)) % 8 != 0) = true := by
        rw [bne_iff_ne]; unfold pad8 at hkn; omega
      go_wp2_with (at_builtin; go_must (refine wpList_app1 _ rfl (.tmp 18) (.tmp 19) 22 rfl 3 .i64 8 Try.underlying22 Try.info_int (.slice A (F.length + k) c) (i64s (F ++ List.replicate k 0)) (F.length + k) rfl ?d1 ⟨wr.heap.size, 0, none⟩ 0 rfl ?d3 (by decide) ?d4 (wr.heap.size + 1) ?d5 ?_); rotate_right; intro g cap w2 hown2 hg2 hat hlt; replace hown2 := hid hown2; replace hg2 := hid hg2; replace hat := hid hat)
      case d1 =>
        have h := HF.out.1.alloc (.cells #[.int .i64 0] 3)
        rw [List.length_append, List.length_replicate] at h
        exact h
      case d3 => exact World.cell?_alloc_at _ _ _ _ rfl
      case d4 => omega
      case d5 => simp
      go_roundw
      case rel =>
        have e : (F ++ List.replicate k 0).length = F.length + k := by simp
        have h := HF.out.app1 (cap := cap) (by rw [e]; exact hown2.out) hg2.out hat.out
        rw [List.append_assoc, ← List.replicate_succ', e] at h
        exact ⟨k + 1, some ⟨g, 0, none⟩, cap, by omega, by go_num, rfl, h⟩
      case measure => simp [intOf]; omega
    · obtain rfl : k = pad8 F.length := by omega
      have ht : (((F.length : Int) + ((pad8 F.length : Nat) : Int)) % 8 != 0) = false := by
        rw [bne_eq_false_iff_eq]; unfold pad8; omega
      go_wp2_with fail
      go_ret
      have e : (F ++ List.replicate (pad8 F.length) 0).length = F.length + pad8 F.length := by simp
      refine ⟨A, c, by rw [e]; rfl, by rw [e]; exact HF.out⟩

/-- The bytes that bits are, m of them. -/
def packN (M : List Bool) (m : Nat) : List Nat := (List.range m).map fun i => valOf ((M.drop (8 * i)).take 8)
theorem packN_length (M : List Bool) (m : Nat) : (packN M m).length = m := by simp [packN]
theorem packN_get (M : List Bool) (m i : Nat) (h : i < (packN M m).length) : (packN M m)[i] = valOf ((M.drop (8 * i)).take 8) := by simp [packN]
theorem packN_succ (M : List Bool) (m : Nat) : packN M (m + 1) = packN M m ++ [valOf ((M.drop (8 * m)).take 8)] := by simp [packN, List.range_succ]
theorem packN_lt (M : List Bool) (m : Nat) : ∀ x ∈ packN M m, x < 256 := by
  intro x hx
  simp only [packN, List.mem_map] at hx
  obtain ⟨i, _, rfl⟩ := hx
  have h := valOf_lt ((M.drop (8 * i)).take 8)
  have : 2 ^ ((M.drop (8 * i)).take 8).length ≤ 2 ^ 8 := Nat.pow_le_pow_right (by omega) (by rw [List.length_take]; omega)
  omega
theorem flat_packN (M : List Bool) (m : Nat) (h : 8 * m ≤ M.length) : flat (packN M m) = M.take (8 * m) := by
  induction m with
  | zero => simp [packN, flat]
  | succ m ih =>
    have e8 : ((M.drop (8 * m)).take 8).length = 8 := by rw [List.length_take, List.length_drop]; omega
    have hb := bitsOf_valOf ((M.drop (8 * m)).take 8)
    rw [e8] at hb
    rw [packN_succ, flat_append, ih (by omega), flat_one, hb, show 8 * (m + 1) = 8 * m + 8 from by omega, List.take_add]

theorem byte_store (M : List Bool) (m i : Nat) (y : Int) (hy : y = ((valOf ((M.drop (8 * i)).take 8) : Nat) : Int)) (hi : i < m) :
    (u8s (packN M i ++ List.replicate (m - i) 0)).toArray.setIfInBounds i (.int .u8 y) = (u8s (packN M (i + 1) ++ List.replicate (m - (i + 1)) 0)).toArray := by
  obtain ⟨d, rfl⟩ : ∃ d, m = i + 1 + d := ⟨m - (i + 1), by omega⟩
  rw [show i + 1 + d - i = d + 1 from by omega, show i + 1 + d - (i + 1) = d from by omega, packN_succ, hy]
  simp only [u8s, List.setIfInBounds_toArray, List.map_append, List.append_assoc]
  congr 1
  rw [List.set_append, if_neg (by simp [packN])]
  simp [packN, List.replicate_succ]

theorem make_u8s (n : Nat) (hn : n ≤ 17179869184) (w : World) :
    (Instr.makeSlice 25 (.int .i64 (n : Int)) (.int .i64 (n : Int))).run Try.prog w = .ok (.slice (some ⟨w.heap.size, 0, none⟩) n n) (w.alloc (.cells (madeCells #[.int .u8 0] n) 5)) := by
  have h := make_u8 n n (by omega) (by omega) (by omega) w
  rw [Int.toNat_natCast] at h
  exact h
theorem made_zero8 (n : Nat) : madeCells #[.int .u8 0] n = (u8s (List.replicate n 0)).toArray := by
  apply Array.ext
  · simp [size_madeCells, u8s]
  · intro i h1 h2
    simp [madeCells, u8s, Nat.mod_one]

theorem bis_get (M : List Bool) (i : Nat) (h : i < M.length) : (i64s (bis M))[i]'(by rw [i64s_length, bis_length]; exact h) = .int .i64 (bi M[i]) := by simp [i64s, bis]

set_option maxRecDepth 100000 in
set_option maxHeartbeats 1600000 in
theorem refbytes_any (l : Value) (L : List Bool) (w : World) (hl : Sl w l (i64s (bis L))) (hL : L.length ≤ 4294967296) :
    Calls Try.prog 25 #[l] w (BytesPost w L) := by
  have H := hid hl
  clear hl
  go_enter Try.func25, Try.ntmps25
  go_wp2_with fail
  have HC := refalign_any l (bis L) w H.out (by rw [bis_length]; omega)
  with_reducible refine HC.mono ?_
  clear HC
  have epad : bis L ++ List.replicate (pad8 (bis L).length) 0 = bis (padded L) := by
    unfold padded pad8
    rw [bis_app, bis_length]
    simp [bis, bi]
  rw [epad]
  rintro e w1 ⟨A, c, rfl, hf⟩
  obtain ⟨M, hM⟩ : ∃ M, padded L = M := ⟨_, rfl⟩
  rw [hM, bis_length] at hf ⊢
  have h8 : M.length % 8 = 0 ∧ M.length ≤ 4294967304 := by
    rw [← hM]; unfold padded; simp; omega
  obtain ⟨m, hm⟩ : ∃ m, M.length = 8 * m := ⟨M.length / 8, by omega⟩
  rw [hm] at hf ⊢ h8
  have hm2 := h8.2
  have HF := hid (And.intro hf (And.intro hM hm))
  clear hf hM hm h8 epad
  have hmk := fun W => make_u8s m (by omega) W
  have hdiv : (8 * (m : Int)) / 8 = m := by omega
  go_wp2_with fail
  clear hmk hdiv
  go_loopw [4] (fun i wr => ∃ j : Nat, j ≤ m ∧ i = .int .i64 j ∧ Blk wr w1.heap.size 5 (u8s (packN M j ++ List.replicate (m - j) 0)).toArray ∧ Below w1.heap.size w1 wr) (fun i _ => m - (intOf i).toNat)
  case atStart => exact ⟨0, Nat.zero_le _, rfl, by rw [made_zero8]; simpa [packN] using Blk.new w1 _ _, (Below.refl _ _).alloc (Nat.le_refl _) _⟩
  case round =>
    obtain ⟨j, hj, rfl, hblk, hbel⟩ := hrel
    by_cases hjm : j < m
    · have hin : (j : Int) < m := by omega
      have hsl : Sl wr (.slice A (8 * m) c) (i64s (bis M)) := HF.out.1.sl.below hbel
      have hlen : (i64s (bis M)).length = 8 * m := by rw [i64s_length, bis_length]; exact HF.out.2.2
      obtain ⟨ad, rfl, hxx⟩ := hsl.at_ (show 8 * j < (i64s (bis M)).length by rw [hlen]; omega)
      have hcells : ∀ t, (ht : t < M.length) → wr.cell? (ad.add t) = some (.int .i64 (bi M[t])) := fun t ht => by
        obtain ⟨ad', e, hc⟩ := hsl.at_ (show t < (i64s (bis M)).length by rw [i64s_length, bis_length]; exact ht)
        injection e with e
        subst e
        rw [bis_get M t ht] at hc
        exact hc
      have HC := hid hcells
      have HB := hid (And.intro hblk hbel)
      have hc := hblk.cell j
      have hf := hblk.frozen j
      have e0 : (u8s (packN M j ++ List.replicate (m - j) 0)).toArray[j]? = some (.int .u8 0) := by
        obtain ⟨d, hd⟩ : ∃ d, m - j = d + 1 := ⟨m - j - 1, by omega⟩
        rw [hd]
        simp only [u8s, List.getElem?_toArray, List.map_append]
        rw [List.getElem?_append_right (by simp [packN])]
        simp [packN, List.replicate_succ]
      rw [e0] at hc
      clear hxx
      clear hcells hblk hbel hsl hlen e0
      go_wp2_with fail
      go_loop [5, 6] (fun n k => ∃ (t : Nat) (n0 : Int), t ≤ 8 ∧ k = .int .i64 t ∧ n = .int .i64 n0 ∧ n0 = ((valOf ((M.drop (8 * j)).take t) : Nat) : Int)) (fun _ k => 8 - (intOf k).toNat)
      case atStart => exact ⟨0, 0, by omega, rfl, rfl, by simp [valOf]⟩
      case round =>
        obtain ⟨t, n0, ht, rfl, rfl, hn0⟩ := hrel
        have hv := valOf_lt ((M.drop (8 * j)).take t)
        have hpow : 2 ^ ((M.drop (8 * j)).take t).length ≤ 2 ^ 8 := Nat.pow_le_pow_right (by omega) (by rw [List.length_take]; omega)
        have hn1 : 0 ≤ n0 := by omega
        have hn2 : n0 ≤ 255 := by omega
        have HN := hid hn0
        clear hn0 hv hpow
        by_cases ht8 : t < 8
        · have hin2 : (t : Int) < 8 := by omega
          have hlt : 8 * j + t < M.length := by rw [HF.out.2.2]; omega
          have hcell := HC.out (8 * j + t) hlt
          obtain ⟨b, hb⟩ : ∃ b, M[8 * j + t] = b := ⟨_, rfl⟩
          rw [hb] at hcell
          have hb0 : 0 ≤ bi b := by cases b <;> simp [bi]
          have hb1 : bi b ≤ 1 := by cases b <;> simp [bi]
          have HBb := hid hb
          clear hb
          go_wp2_with fail
          go_round
          case rel =>
            refine ⟨t + 1, _, by omega, by go_num, rfl, ?_⟩
            have e : (M.drop (8 * j)).take (t + 1) = (M.drop (8 * j)).take t ++ [b] := by
              rw [List.take_add_one, List.getElem?_drop, List.getElem?_eq_getElem hlt, HBb.out]; rfl
            rw [e, valOf_append, HN.out]
            cases b <;> simp [bi]
          case measure => simp [intOf]; omega
        · obtain rfl : t = 8 := by omega
          go_wp2_with fail
          go_roundw
          case rel =>
            obtain ⟨hblk, hbel⟩ := HB.out
            refine ⟨j + 1, by omega, by go_num, ?_, hbel.setCell (Nat.le_refl _) _⟩
            have h := hblk.upd j (.int .u8 n0)
            rw [byte_store M m j n0 HN.out hjm] at h
            exact h
          case measure => simp [intOf]; omega
    · obtain rfl : j = m := by omega
      have hin : ¬ (j : Int) < j := by omega
      have HB := hid (And.intro hblk hbel)
      clear hblk hbel
      go_wp2_with fail
      go_ret
      obtain ⟨hblk, hbel⟩ := HB.out
      rw [Nat.sub_self, List.replicate_zero, List.append_nil] at hblk
      have hM := HF.out.2.1
      have hMl := HF.out.2.2
      have hl : (packN M j).length = j := packN_length M j
      refine ⟨packN M j, some ⟨w1.heap.size, 0, none⟩, j, by rw [hl]; rfl, ⟨?_, ?_, ?_⟩, ?_, packN_lt M j⟩
      · rw [hl]
        exact own_of_blk hblk (Nat.le_refl _) (by unfold maxLen; omega) (by simp [u8s, hl]) (List.take_of_length_le (by simp [u8s, hl])) (by simp [u8s, hl])
      · exact HF.out.1.2.1.trans (hbel.mono HF.out.1.2.1.size)
      · intro g hg
        simp [Value.ownBlock] at hg
        have := HF.out.1.2.1.size
        omega
      · rw [flat_packN M j (by omega), hM, List.take_of_length_le (by omega)]

set_option maxRecDepth 100000 in
set_option maxHeartbeats 1600000 in
theorem refof_any (v : Value) (F : List Nat) (w : World) (hv : Sl w v (u8s F)) (hF : F.length ≤ 1073741824) (hb : ∀ x ∈ F, x < 256) :
    Calls Try.prog 85 #[v] w (FreshIS w (bis (flat F))) := by
  obtain ⟨A, c, e, _⟩ := hv.form
  rw [u8s_length] at e
  subst e
  have H := hid (And.intro hv hb)
  clear hv hb
  go_enter Try.func85, Try.ntmps85
  go_wp2_with fail
  go_loopw [3, 4] (fun o i wr => ∃ k : Nat, k ≤ F.length ∧ i = .int .i64 k ∧ FreshI w (bis (flat (F.take k))) o wr) (fun _ i _ => F.length - (intOf i).toNat)
  case atStart => exact ⟨0, Nat.zero_le _, rfl, World.ownsRow_nil _ _ _ _, .refl _ _, by simp [Value.ownBlock]⟩
  case round =>
    obtain ⟨k, hk, rfl, hf⟩ := hrel
    by_cases hkn : k < F.length
    · have hin : (k : Int) < F.length := by omega
      have hlk : k < (u8s F).length := by rw [u8s_length]; exact hkn
      obtain ⟨ad, rfl, hc⟩ := (H.out.1.below hf.2.1).at_ hlk
      have e : (u8s F)[k]'hlk = .int .u8 (F[k] : Int) := by simp [u8s]
      rw [e] at hc
      have hx := H.out.2 F[k] (List.getElem_mem _)
      obtain ⟨x, hxe⟩ : ∃ x, F[k] = x := ⟨_, rfl⟩
      rw [hxe] at hc hx
      have hx0 : (x : Int) < 256 := by omega
      have HF := hid (And.intro hf hxe)
      clear hf hxe e
      go_wp2_with fail
      have HC := bits_at x 8 x 8 rfl rfl wr (by omega) (by omega)
      with_reducible refine HC.mono ?_
      clear HC
      rintro e w1 ⟨A1, c1, rfl, hf1⟩
      have HF1 := hid (And.intro (HF.out.1.later hf1.2.1) hf1)
      clear hf1
      go_wp2_with (at_builtin; go_must (refine wpList_app _ rfl (.tmp 11) (.tmp 17) 22 rfl 3 .i64 8 Try.underlying22 Try.info_int u3 (bis (flat (F.take k))).length (i64s (bis (flat (F.take k)))) rfl ?d1 (.slice A1 (bis (bitsOf x 8)).length c1) (i64s (bis (bitsOf x 8))) rfl ?d2 i64s_one (by decide) ?d3 ?_); rotate_right; intro v3 w3 hown hg hm; replace hown := hid hown; replace hg := hid hg; replace hm := hid hm)
      case d1 => exact HF1.out.1.1
      case d2 => exact HF1.out.2.sl
      case d3 => rw [i64s_length, bis_length, bis_length, bitsOf_length, flat_length, List.length_take]; omega
      go_roundw
      case rel =>
        refine ⟨k + 1, by omega, by go_num, ?_⟩
        have h3 := HF1.out.1.app hown.out hg.out hm.out
        rw [← bis_app] at h3
        have e : flat (F.take (k + 1)) = flat (F.take k) ++ bitsOf x 8 := by
          rw [List.take_succ_eq_append_getElem hkn, flat_append, flat_one, HF.out.2]
        rw [e]
        exact h3
      case measure => simp [intOf]; omega
    · obtain rfl : k = F.length := by omega
      have hin : ¬ (F.length : Int) < F.length := by omega
      have HF := hid hf
      clear hf
      go_wp2_with fail
      go_ret
      have h := HF.out
      rw [List.take_length] at h
      obtain ⟨A3, c3, e3⟩ := h.form
      subst e3
      exact ⟨A3, c3, rfl, h⟩
end Go.Proofs.Ytjboboaccjbebaa
