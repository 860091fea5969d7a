/- Layer 7: gamma codes are read, by the reference too. -/
import Derived.Test.YtjboboaccjbebaaGreatMgD
import Derived.Test.YtjboboaccjbebaaGreatMgC
import Derived.Test.YtjboboaccjbebaaGreatMgA
import Derived.Test.YtjboboaccjbebaaGreatMgE

namespace Go.Proofs.YtjboboaccjbebaaGreat
open Go.RowKit

theorem getgamma_nil (w : World) : Calls Tryz.prog 128 #[.pointer none] w fun e w' => e = .returned (.tuple #[.int .u64 0, .int .i64 2]) ∧ w = w' := by
  go_enter Tryz.func128, Tryz.ntmps128
  go_wp2_with fail
  go_ret2
  exact ⟨rfl, rfl⟩
theorem ggF_step {L : List Bool} {m j : Nat} (hm : m < 32) : ggF L (32 - m) j =
    if getErr L j 1 ≠ 0 then (0, getErr L j 1, getAt L j 1)
    else if getVal L j 1 = 1 then
      (if getErr L (getAt L j 1) (m : Int) ≠ 0 then (0, getErr L (getAt L j 1) (m : Int), getAt L (getAt L j 1) (m : Int))
       else (2 ^ m + getVal L (getAt L j 1) (m : Int), 0, getAt L (getAt L j 1) (m : Int)))
    else ggF L (32 - (m + 1)) (getAt L j 1) := by
  obtain ⟨f, hf⟩ : ∃ f, 32 - m = f + 1 := ⟨31 - m, by omega⟩
  rw [hf, ggF, show 31 - f = m by omega, show 32 - (m + 1) = f by omega]
theorem one_or (m x : Nat) (hm : m < 32) (hx : x < 2 ^ m) : bits BinOp.or IntKind.u64 (IntKind.u64.wrap (2 ^ m)) (x : Int) = ((2 ^ m + x : Nat) : Int) := by
  have h1 : 2 ^ m ≤ 2 ^ 31 := Nat.pow_le_pow_right (by omega) (by omega)
  have h := or_add 1 x m hx (by omega)
  rw [Nat.one_mul] at h
  rw [← h]
  congr 2
  rw [Int.natCast_pow]
  show (2 : Int) ^ m = 1 * 2 ^ m
  rw [Int.one_mul]

set_option maxRecDepth 100000 in
set_option maxHeartbeats 4000000 in
theorem getgamma_any (w : World) (p : Nat) (v : Value) (F : List Nat) (i : Nat) (h : Rd w p v F i) :
    Calls Tryz.prog 128 #[.pointer (some ⟨p, 0, none⟩)] w fun e w' => e = .returned (.tuple #[.int .u64 ((ggT (flat F) i).1 : Int), .int .i64 (ggT (flat F) i).2.1]) ∧ RI w p v F (ggT (flat F) i).2.2 w' := by
  have HG := hid (fun (n : Int) w' j (h : Rd w' p v F j) => get_any w' p v F j n h)
  have H0 := hid (RI.refl h)
  clear h
  obtain ⟨L, hL⟩ : ∃ L, flat F = L := ⟨_, rfl⟩
  rw [hL] at HG ⊢
  clear hL
  obtain ⟨r, hr⟩ : ∃ r, ggT L i = r := ⟨_, rfl⟩
  rw [hr]
  have HR := hid (show ggF L (32 - 0) i = r from hr)
  clear hr
  go_enter Tryz.func128, Tryz.ntmps128
  go_wp2_with fail
  go_loopw [4] (fun n wr => ∃ m j : Nat, m < 32 ∧ n = .int .i64 m ∧ Hid (ggF L (32 - m) j = r) ∧ Hid (RI w p v F j wr)) (fun n _ => 32 - (intOf n).toNat)
  case atStart => exact ⟨0, i, by omega, rfl, HR.out, H0.out⟩
  case round =>
    obtain ⟨m, j, hm, rfl, hS, hri⟩ := hrel
    have hC := HG.out 1 wr j hri.out.1
    have hT := (ggF_step hm).symm.trans hS.out
    have hv1 := getVal_lt L j 1
    rw [show ((1 : Nat) : Int) = 1 from rfl] at hv1
    obtain ⟨x, hx⟩ : ∃ x, getVal L j 1 = x := ⟨_, rfl⟩
    obtain ⟨e1, he1⟩ : ∃ e1, getErr L j 1 = e1 := ⟨_, rfl⟩
    obtain ⟨a, ha⟩ : ∃ a, getAt L j 1 = a := ⟨_, rfl⟩
    rw [hx, he1, ha] at hT
    rw [hx, he1, ha] at hC
    rw [hx] at hv1
    have HC := hid hC
    clear hC hx he1 ha
    by_cases he : e1 = 0
    · subst he
      rw [if_neg (by simp)] at hT
      by_cases hx1 : x = 1
      · subst hx1
        rw [if_pos rfl] at hT
        have HGK := HG.out (m : Int)
        have hvl := getVal_lt L a m
        obtain ⟨y, hy⟩ : ∃ y, getVal L a (m : Int) = y := ⟨_, rfl⟩
        obtain ⟨e2, he2⟩ : ∃ e2, getErr L a (m : Int) = e2 := ⟨_, rfl⟩
        obtain ⟨b, hb⟩ : ∃ b, getAt L a (m : Int) = b := ⟨_, rfl⟩
        rw [hy, he2, hb] at hT
        rw [hy] at hvl
        have HGJ := hid (fun w' (hw : Rd w' p v F a) => by have := HGK w' a hw; rw [hy, he2, hb] at this; exact this)
        clear HGK hy he2 hb
        have hso := one_or m y hm hvl
        obtain ⟨z, hz⟩ : ∃ z, 2 ^ m + y = z := ⟨_, rfl⟩
        rw [hz] at hso hT
        clear hz hvl
        by_cases h3 : e2 = 0
        · subst h3
          rw [if_neg (by simp)] at hT
          have HT := hid hT
          clear hT
          go_wp2_with fail
          with_reducible refine HC.out.mono ?_
          rintro e w2 ⟨rfl, hr2⟩
          have H2 := hid (hri.out.trans hr2)
          clear hr2
          go_wp2_with fail
          with_reducible refine (HGJ.out _ (RI.rd H2.out)).mono ?_
          rintro e w3 ⟨rfl, hr3⟩
          have H3 := hid (H2.out.trans hr3)
          clear hr3
          go_wp2_with fail
          go_ret2
          rw [← HT.out]
          exact ⟨rfl, H3.out⟩
        · have h3' : (e2 == 0) = false := by rw [beq_eq_false_iff_ne]; exact h3
          rw [if_pos h3] at hT
          have HT := hid hT
          clear hT h3
          go_wp2_with fail
          with_reducible refine HC.out.mono ?_
          rintro e w2 ⟨rfl, hr2⟩
          have H2 := hid (hri.out.trans hr2)
          clear hr2
          go_wp2_with fail
          with_reducible refine (HGJ.out _ (RI.rd H2.out)).mono ?_
          rintro e w3 ⟨rfl, hr3⟩
          have H3 := hid (H2.out.trans hr3)
          clear hr3
          go_wp2_with fail
          go_ret2
          rw [← HT.out]
          exact ⟨rfl, H3.out⟩
      · obtain rfl : x = 0 := by omega
        rw [if_neg (by simp)] at hT
        have HT := hid hT
        clear hT
        by_cases hm1 : m + 1 = 32
        · have hb : ((m : Int) + 1 == 32) = true := by rw [beq_iff_eq]; omega
          go_wp2_with fail
          with_reducible refine HC.out.mono ?_
          rintro e w2 ⟨rfl, hr2⟩
          have H2 := hid (hri.out.trans hr2)
          clear hr2
          go_wp2_with fail
          go_ret2
          rw [← HT.out, hm1]
          exact ⟨rfl, H2.out⟩
        · have hb : ((m : Int) + 1 == 32) = false := by rw [beq_eq_false_iff_ne]; omega
          go_wp2_with fail
          with_reducible refine HC.out.mono ?_
          rintro e w2 ⟨rfl, hr2⟩
          have H2 := hid (hri.out.trans hr2)
          clear hr2
          go_wp2_with fail
          go_roundw
          case rel => exact ⟨m + 1, a, by omega, by go_num, HT.out, H2.out⟩
          case measure => simp [intOf]; omega
    · have he' : (e1 == 0) = false := by rw [beq_eq_false_iff_ne]; exact he
      rw [if_pos he] at hT
      have HT := hid hT
      clear hT he
      go_wp2_with fail
      with_reducible refine HC.out.mono ?_
      rintro e w2 ⟨rfl, hr2⟩
      have H2 := hid (hri.out.trans hr2)
      clear hr2
      go_wp2_with fail
      go_ret2
      rw [← HT.out]
      exact ⟨rfl, H2.out⟩

end Go.Proofs.YtjboboaccjbebaaGreat
/- append of so many noughts ('append(l, make([]int, n)...)' is one operation: the noughts are counted, not made). -/
namespace Go.Proofs.YtjboboaccjbebaaGreat
open Go.RowKit

section
variable {P : Program} (w : World)
theorem alloc_was (w : World) (o : Obj) (i : Nat) (h : i < w.heap.size) : (w.alloc o).heap[i]? = w.heap[i]? := ((Below.refl w.heap.size w).alloc (Nat.le_refl _) o).block i h
theorem zeroCells_rep (z : Value) (n : Nat) : Builtin.zeroCells #[z] n = (List.replicate n z).toArray := by
  apply Array.ext
  · simp [size_zeroCells]
  · intro i h1 h2
    simp [Builtin.zeroCells, Nat.mod_one]

theorem run_appz (t u ty e : TypeId) (ht : P.underlying t = some (.slice e)) (ku : IntKind) (hu : P.underlying u = some (.int ku)) (k : IntKind) (bytes : Nat) (hinfo : (P.info? e).map (fun i => (i.zero, i.size, i.bytes)) = some (some (.int k 0), 1, bytes))
    (v : Value) (n : Nat) (xs : List Value) (hown : w.ownsRow 0 e 1 v n xs) (xi : Int) (m : Nat) (hx : IntKind.i64.wrap xi = (m : Int)) (hb : bytes ≤ 8) (hn : n + m ≤ 17179869184) :
    ∃ v' w', (Builtin.append_ #[t, u] ty #[v, .int ku xi]).run P w = .ok v' w' ∧ w'.ownsRow 0 e 1 v' (n + m) (xs ++ List.replicate m (.int k 0)) ∧ w.grownBy w' v.ownBlock ∧ Moved w v v' := by
  obtain ⟨i, hi, hz, hsize, hby⟩ := info_parts hinfo
  have h63 : n + m ≤ maxLen := by unfold maxLen; omega
  have hbytes : (n + m) * i.bytes ≤ 140737488355328 := by
    rw [hby]
    have : (n + m) * bytes ≤ (n + m) * 8 := Nat.mul_le_mul_left _ hb
    omega
  have hmb : (m : Int) * i.bytes ≤ 281474976710656 := by
    rw [hby]
    have h1 : m * bytes ≤ m * 8 := Nat.mul_le_mul_left _ hb
    have h2 : ((m * bytes : Nat) : Int) = (m : Int) * (bytes : Int) := by simp
    rw [← h2]
    omega
  have hm0 : ¬ ((m : Int) < 0) := by omega
  have hmb' : ¬ ((281474976710656 : Int) < (m : Int) * i.bytes) := by omega
  have hlen : (xs ++ List.replicate m (Value.int k 0)).length = (n + m) * 1 := by rw [List.length_append, List.length_replicate, hown.1]; omega
  have grown : ∀ (old : Nat), old < n + m → ∀ (row : Option Nat),
      (w.drew.alloc (.cells (xs.toArray ++ (List.replicate m (Value.int k 0)).toArray ++ Builtin.zeroCells #[.int k 0] (grownCap w (n + m) old e - (n + m))) e)).ownsRow 0 e 1
        (.slice (some ⟨w.heap.size, 0, none⟩) (n + m) (grownCap w (n + m) old e)) (n + m) (xs ++ List.replicate m (Value.int k 0)) ∧
      w.grownBy (w.drew.alloc (.cells (xs.toArray ++ (List.replicate m (Value.int k 0)).toArray ++ Builtin.zeroCells #[.int k 0] (grownCap w (n + m) old e - (n + m))) e)) row := by
    intro old ho row
    have hge := grownCap_ge w (n + m) old e
    have hcm : grownCap w (n + m) old e ≤ maxLen := grownCap_le_maxLen w (n + m) old e h63
    have hxl : xs.length = n := by have := hown.1; omega
    refine ⟨⟨hlen, .inr ⟨w.heap.size, _, _, rfl, Nat.zero_le _, heap_alloc_new w.drew _, hge, hcm, ?_, ?_⟩⟩, ⟨rfl, rfl, rfl, by simp, fun k hk _ => alloc_was w.drew _ k hk⟩⟩
    · simp only [Array.size_append, List.size_toArray, size_zeroCells, List.length_replicate, hxl]
      simp
      omega
    · simp only [Array.toList_append, List.append_assoc]
      rw [← List.append_assoc, ← hlen]
      exact List.take_left
  rcases hown.2 with ⟨rfl, rfl⟩ | ⟨g, cap, cur, rfl, hbg, hg, hnc, hcm, hcs, htake⟩
  · have hxn : xs = [] := List.eq_nil_of_length_eq_zero (by simpa using hown.1)
    subst hxn
    by_cases hm : m = 0
    · subst hm
      refine ⟨.slice none 0 0, w, ?_, World.ownsRow_nil w 0 e 1, ⟨rfl, rfl, rfl, Nat.le_refl _, fun _ _ _ => rfl⟩, .inl rfl⟩
      simp [Builtin.append_, run_underlying ht, run_underlying hu, sizeOf, typeInfo, hi, hx, asInt, asIntOf]
    · have hgr := grown 0 (by omega) (Value.ownBlock (.slice none 0 0))
      have hn0 : ¬ m = 0 := hm
      have h48' : ¬ (281474976710656 < Builtin.nextslicecap m 0 * i.bytes) := by rw [nextslicecap_zero (by omega)]; simp only [Nat.zero_add] at hbytes; omega
      have h63' : ¬ (9223372036854775807 < (m : Int)) := by unfold maxLen at h63; omega
      refine ⟨_, _, ?_, hgr.1, hgr.2, .inr ⟨_, rfl, Nat.le_refl _⟩⟩
      simp [Builtin.append_, run_underlying ht, run_underlying hu, sizeOf, typeInfo, zeroValue, hi, hz, hx, asInt, asIntOf, hm0, hmb', hn0, h48', h63', hsize, Question.forced, run_firstCells_none, newRow, grownCap, zeroCells_rep, Value.cells]
      done
  · by_cases hroom : n + m ≤ cap
    · by_cases hm : m = 0
      · subst hm
        refine ⟨.slice (some ⟨g, 0, none⟩) n cap, w, ?_, by simpa using hown, ⟨rfl, rfl, rfl, Nat.le_refl _, fun _ _ _ => rfl⟩, .inl rfl⟩
        simp [Builtin.append_, run_underlying ht, run_underlying hu, sizeOf, typeInfo, hi, hx, asInt, asIntOf, hnc, storeCells]
      have hxl : xs.length = n := by have := hown.1; omega
      have hfit : n * 1 + (List.replicate m (Value.int k 0)).length ≤ cur.size := by rw [List.length_replicate, hcs]; omega
      have hst := run_storeCells_at P g (n * 1) e (List.replicate m (Value.int k 0)) 0 cur w hg (by simpa using hfit) (fun u hu => by rw [List.eq_of_mem_replicate hu]; rfl)
      simp only [Nat.add_zero] at hst
      have hr : (Builtin.append_ #[t, u] ty #[.slice (some ⟨g, 0, none⟩) n cap, .int ku xi]).run P w = .ok (.slice (some ⟨g, 0, none⟩) (n + m) cap) (w.setRow g (cur.toList.take (n * 1) ++ List.replicate m (Value.int k 0) ++ cur.toList.drop (n * 1 + (List.replicate m (Value.int k 0)).length)).toArray) := by
        have hadd : (⟨g, 0, none⟩ : Addr).add n = ⟨g, n * 1, none⟩ := by rw [Nat.mul_one]; exact by unfold Addr.add; split <;> simp_all
        simp [Builtin.append_, run_underlying ht, run_underlying hu, sizeOf, typeInfo, zeroValue, hi, hz, hx, asInt, asIntOf, hm0, hmb', hm, hsize, hroom, zeroCells_rep, Value.cells, hadd]
        simp only [Nat.mul_one, List.length_replicate] at hst
        rw [hst]
        simp
      refine ⟨_, _, hr, ⟨hlen, .inr ⟨g, cap, _, rfl, hbg, setRow_heap w g cur _ e _ hg, hroom, hcm, ?_, ?_⟩⟩, ⟨rfl, rfl, rfl, by simp, fun k _ hk => setRow_other w g k _ (fun e => hk (by simp [Value.ownBlock, e]))⟩, .inl rfl⟩
      · simp only [List.size_toArray, List.length_append, List.length_take, List.length_drop, Array.length_toList, List.length_replicate]
        omega
      · rw [htake, ← hlen]
        exact List.take_left
    · have holds : ∀ j u, xs[j]? = some u → w.cell? ((⟨g, 0, none⟩ : Addr).add j) = some u := hown.cells (g := g) rfl
      have hgr := grown cap (by omega) (Value.ownBlock (.slice (some ⟨g, 0, none⟩) n cap))
      have hm : ¬ m = 0 := by omega
      have h48' : ¬ (281474976710656 < Builtin.nextslicecap (n + m) cap * i.bytes) := by have := growslice_fits (need := n + m) (old := cap) (by omega) hbytes; omega
      have h63' : ¬ (9223372036854775807 < ((n : Int) + (m : Int))) := by unfold maxLen at h63; omega
      have hfo := run_firstCells_some (P := P) w.drew 1 n ⟨g, 0, none⟩ n cap xs hown.1 (by simpa using holds)
      refine ⟨_, _, ?_, hgr.1, hgr.2, .inr ⟨_, rfl, Nat.le_refl _⟩⟩
      simp [Builtin.append_, run_underlying ht, run_underlying hu, sizeOf, typeInfo, zeroValue, hi, hz, hx, asInt, asIntOf, hm0, hmb', hm, hroom, h48', h63', hsize, Question.forced, hfo, newRow, grownCap, zeroCells_rep, Value.cells]
      done

theorem wp_appz {o : Oper} {a : Act} {K : Act → World → Prop} {Q : Exit → Act → World → Prop} (s x : Operand) (t u : TypeId)
    (ho : o.op = .call { callee := .builtin .append, args := #[s, x], argTypes := #[t, u] })
    (e : TypeId) (ku : IntKind) (hu : P.underlying u = some (.int ku)) (k : IntKind) (bytes : Nat) (ht : P.underlying t = some (.slice e)) (hinfo : (P.info? e).map (fun i => (i.zero, i.size, i.bytes)) = some (some (.int k 0), 1, bytes))
    (v : Value) (n : Nat) (xs : List Value) (hs : a.eval s = v) (hown : w.ownsRow 0 e 1 v n xs) (xi : Int) (m : Nat) (hxe : a.eval x = .int ku xi) (hx : IntKind.i64.wrap xi = (m : Int)) (hb : bytes ≤ 8) (hn : n + m ≤ 17179869184)
    (h : ∀ v' w', w'.ownsRow 0 e 1 v' (n + m) (xs ++ List.replicate m (.int k 0)) → w.grownBy w' v.ownBlock → Moved w v v' → K (a.put o.dst v') w') : o.wp P a w K Q := by
  obtain ⟨v', w', hr, h2, h3, h4⟩ := run_appz (P := P) w t u o.type e ht ku hu k bytes hinfo v n xs hown xi m hx hb hn
  unfold Oper.wp execOp
  simp only [ho, resolve, invoke, builtin, Sem.run_bind, Sem.run_pure, Result.andThen_ok, List.map_toArray, List.map_cons, List.map_nil, hs, hxe, hr]
  exact h v' w' h2 h3 h4

/-- append of so many noughts onto a slice of the call's own, at a plain operation. -/
theorem wpList_appz {ops : Array Oper} {rest : List Oper} {o : Oper} {a : Act} {Q : Exit → Act → World → Prop} (hgd : o.guard = none) (s x : Operand) (t u : TypeId)
    (ho : o.op = .call { callee := .builtin .append, args := #[s, x], argTypes := #[t, u] })
    (e : TypeId) (ku : IntKind) (hu : P.underlying u = some (.int ku)) (k : IntKind) (bytes : Nat) (ht : P.underlying t = some (.slice e)) (hinfo : (P.info? e).map (fun i => (i.zero, i.size, i.bytes)) = some (some (.int k 0), 1, bytes))
    (v : Value) (n : Nat) (xs : List Value) (hs : a.eval s = v) (hown : w.ownsRow 0 e 1 v n xs) (xi : Int) (m : Nat) (hxe : a.eval x = .int ku xi) (hx : IntKind.i64.wrap xi = (m : Int)) (hb : bytes ≤ 8) (hn : n + m ≤ 17179869184)
    (h : ∀ v' w', w'.ownsRow 0 e 1 v' (n + m) (xs ++ List.replicate m (.int k 0)) → w.grownBy w' v.ownBlock → Moved w v v' → wpList P ops Q rest (a.put o.dst v') w') : wpList P ops Q (o :: rest) a w :=
  wpList_plain hgd fun _ hK => wp_appz w s x t u ho e ku hu k bytes ht hinfo v n xs hs hown xi m hxe hx hb hn fun v' w' h2 h3 h4 => hK _ _ (h v' w' h2 h3 h4)
end
end Go.Proofs.YtjboboaccjbebaaGreat
/- Layer 7: Get. -/
namespace Go.Proofs.YtjboboaccjbebaaGreat
open Go.RowKit

theorem ggF_bd {L : List Bool} : ∀ f i, f ≤ 32 → (ggF L f i).2.1 = 0 → 1 ≤ (ggF L f i).1 ∧ (ggF L f i).1 < 4294967296
  | 0, i, _, h => by rw [ggF] at h; exact absurd h (by simp)
  | f + 1, i, hf, h => by
    rw [ggF] at h ⊢
    split at h
    · exact absurd h (by assumption)
    · rename_i h1
      rw [if_neg h1]
      split at h
      · rename_i h2
        rw [if_pos h2]
        split at h
        · exact absurd h (by assumption)
        · rename_i h3
          rw [if_neg h3]
          have h4 := getVal_lt L (getAt L i 1) (31 - f)
          have h5 : 2 ^ (31 - f) ≤ 2 ^ 31 := Nat.pow_le_pow_right (by omega) (by omega)
          have h6 := Nat.two_pow_pos (31 - f)
          show 1 ≤ _ + _ ∧ _ + _ < _
          omega
      · rename_i h2
        rw [if_neg h2]
        exact ggF_bd f _ (by omega) h
theorem ggT_bd {L : List Bool} {i : Nat} (h : (ggT L i).2.1 = 0) : 1 ≤ (ggT L i).1 ∧ (ggT L i).1 < 4294967296 := ggF_bd 32 i (Nat.le_refl _) h
theorem rgT_40 {L : List Bool} {i k : Nat} (hk : k ≤ 30) : (rgT L i k).1 < 1099511627776 := by
  rw [rgT]
  have h1 := onesVal_le L i 24
  have h2 := getVal_lt L (onesAt L i 24) k
  have h3 := getVal_lt L (onesAt L i 24) 40
  rw [show ((24 : Nat) : Int) = 24 from rfl] at h1
  rw [show ((40 : Nat) : Int) = 40 from rfl] at h3
  have h4 : 2 ^ k ≤ 2 ^ 30 := Nat.pow_le_pow_right (by omega) hk
  have h5 := Nat.mul_le_mul h1 h4
  split
  · show 0 < _; omega
  · split
    · split
      · show 0 < _; omega
      · show _ + _ < _; omega
    · split
      · show 0 < _; omega
      · split
        · show 0 < _; omega
        · show getVal L (onesAt L i 24) 40 < _; omega

/-- One more round of Get. -/
theorem rnF_end {L : List Bool} {k N f i : Nat} {out : List Int} (h : N ≤ out.length) : rnF L k N (f + 1) out i = .ok (out, i) := by rw [rnF, if_pos h]
theorem rnF_step {L : List Bool} {k N f i : Nat} {out : List Int} (h : out.length < N) : rnF L k N (f + 1) out i =
    if (ggT L i).2.1 ≠ 0 then .error (ggT L i).2.1
    else if N - out.length + 1 < (ggT L i).1 then .error 12
    else if out.length + ((ggT L i).1 - 1) = N then .ok (out ++ List.replicate ((ggT L i).1 - 1) 0, (ggT L i).2.2)
    else if (rgT L (ggT L i).2.2 k).2.1 ≠ 0 then .error (rgT L (ggT L i).2.2 k).2.1
    else if (rgT L (ggT L i).2.2 k).1 = 1099511627775 then .error 12
    else rnF L k N f (out ++ List.replicate ((ggT L i).1 - 1) 0 ++ [zagN ((rgT L (ggT L i).2.2 k).1 + 1)]) (rgT L (ggT L i).2.2 k).2.2 := by
  rw [rnF, if_neg (by omega)]

/-- The state of Get: a reader (of any sort R) and what was got. -/
structure GI (R : World → Nat → Prop) (w : World) (p : Nat) (j : Nat) (l : List Int) (u : Value) (wr : World) : Prop where
  rd : R wr j
  kp : Kept (fun k => k = p) w wr
  own : wr.ownsRow 0 3 1 u l.length (i64s l)
  new : ∀ g, u.ownBlock = some g → w.heap.size ≤ g
  lt : p < w.heap.size
section
variable {R : World → Nat → Prop} {w wr w1 w2 : World} {p j j' : Nat} {u u' : Value} {l : List Int}
theorem GI.get (h : GI R w p j l u wr) (h1 : R w1 j') (k : Kept (fun k => k = p) wr w1) : GI R w p j' l u w1 :=
  ⟨h1, h.kp.trans k fun _ _ e => e, own_kept h.own k fun g hg e => by have := h.new g hg; have := h.lt; omega, h.new, h.lt⟩
theorem GI.grow {x : Int} {n g cap : Nat} {o : Obj} (h : GI R w p j l u wr) (hn : l.length = n)
    (hR : ∀ w2, Kept (fun k => u.ownBlock = some k) wr w2 → R w2 j)
    (hown : w2.ownsRow 0 3 1 (.slice (some ⟨g, 0, none⟩) (n + 1) cap) (n + 1) (i64s l ++ [.int .i64 x])) (hg : (wr.alloc o).grownBy w2 u.ownBlock) (hm : u.ownBlock = some g ∨ g = wr.heap.size + 1) :
    GI R w p j (l ++ [x]) (.slice (some ⟨g, 0, none⟩) (n + 1) cap) w2 := by
  subst hn
  rw [i64s_append_one] at hown
  have hs := h.kp.size
  have hk : Kept (fun k => u.ownBlock = some k) wr w2 := ((Kept.refl _ wr).alloc o).grown hg fun k hk _ => hk
  refine ⟨hR w2 hk, (h.kp.alloc o).grown hg fun k hk hl => by have := h.new k hk; omega, by rw [List.length_append]; exact hown, fun k hk => ?_, h.lt⟩
  simp [Value.ownBlock] at hk
  subst hk
  rcases hm with e | e
  · exact h.new g e
  · omega
theorem GI.growz {n m : Nat} (h : GI R w p j l u wr) (hn : l.length = n)
    (hR : ∀ w2, Kept (fun k => u.ownBlock = some k) wr w2 → R w2 j)
    (hown : w2.ownsRow 0 3 1 u' (n + m) (i64s l ++ List.replicate m (.int .i64 0))) (hg : wr.grownBy w2 u.ownBlock) (hm : Moved wr u u') :
    GI R w p j (l ++ List.replicate m 0) u' w2 := by
  subst hn
  have e : i64s l ++ List.replicate m (.int .i64 0) = i64s (l ++ List.replicate m 0) := by simp [i64s]
  rw [e] at hown
  have hs := h.kp.size
  have hk : Kept (fun k => u.ownBlock = some k) wr w2 := (Kept.refl _ wr).grown hg fun k hk _ => hk
  refine ⟨hR w2 hk, h.kp.grown hg fun k hk hl => by have := h.new k hk; omega, by rw [List.length_append, List.length_replicate]; exact hown, fun k hk => ?_, h.lt⟩
  rcases hm with e | ⟨g, e, hge⟩
  · exact h.new k (e ▸ hk)
  · rw [hk] at e
    injection e with e
    omega
theorem GI.own_n {n : Nat} (h : GI R w p j l u wr) (hn : l.length = n) : wr.ownsRow 0 3 1 u n (i64s l) := hn ▸ h.own
theorem GI.form (h : GI R w p j l u wr) : ∃ A c, u = .slice A l.length c := by
  obtain ⟨A, c, e, _⟩ := (Sl.of_own h.own).form
  rw [i64s_length] at e
  exact ⟨A, c, e⟩
end

/-- What Get hands back. -/
def LPost (R : World → Nat → Prop) (w : World) (p : Nat) (S : Except Int (List Int × Nat)) (n : Nat) (e : Ending) (w' : World) : Prop :=
  match S with
  | .ok (l, j) => ∃ A c, e = .returned (.tuple #[.slice A n c, .int .i64 0]) ∧ GI R w p j l (.slice A n c) w'
  | .error x => e = .returned (.tuple #[.slice none 0 0, .int .i64 x]) ∧ Kept (fun k => k = p) w w' ∧ x ≠ 0 ∧ ∃ j, R w' j

theorem getl_arg (p : Nat) (n k : Int) (w : World) (h : paramB k = false ∨ n < 0 ∨ 1048576 < n) : Calls Tryz.prog 111 #[.pointer (some ⟨p, 0, none⟩), .int .i64 n, .int .i64 k] w fun e w' => e = .returned (.tuple #[.slice none 0 0, .int .i64 1]) ∧ w = w' := by
  by_cases h1 : k < 0
  · go_enter Tryz.func111, Tryz.ntmps111
    go_wp2_with fail
    go_ret2
    exact ⟨rfl, rfl⟩
  by_cases h2 : 30 < k
  · go_enter Tryz.func111, Tryz.ntmps111
    go_wp2_with fail
    go_ret2
    exact ⟨rfl, rfl⟩
  by_cases h3 : n < 0
  · go_enter Tryz.func111, Tryz.ntmps111
    go_wp2_with fail
    go_ret2
    exact ⟨rfl, rfl⟩
  have h4 : 1048576 < n := by
    rcases h with h | h | h
    · have := (paramB_iff k).2 ⟨by omega, by omega⟩
      rw [this] at h
      cases h
    · omega
    · exact h
  clear h
  go_enter Tryz.func111, Tryz.ntmps111
  go_wp2_with fail
  go_ret2
  exact ⟨rfl, rfl⟩

set_option maxRecDepth 100000 in
set_option maxHeartbeats 8000000 in
theorem getl_any (w : World) (p : Nat) (v : Value) (F : List Nat) (i k n : Nat) (h : Rd w p v F i) (hk : k ≤ 30) (hn : n ≤ 1048576) (hv : ∀ g, v.ownBlock = some g → g < w.heap.size) :
    Calls Tryz.prog 111 #[.pointer (some ⟨p, 0, none⟩), .int .i64 (n : Int), .int .i64 (k : Int)] w (LPost (fun w' j => Rd w' p v F j) w p (rnT (flat F) k n i) n) := by
  have HG := hid (fun w' j (h : Rd w' p v F j) => getgamma_any w' p v F j h)
  have HRG := hid (fun w' j (h : Rd w' p v F j) => rget_any w' p v F j k h hk)
  have HV := hid hv
  have G0 := hid (show GI (fun w' j => Rd w' p v F j) w p i [] (.slice none 0 0) w from ⟨h, .refl _ _, World.ownsRow_nil _ _ _ _, by simp [Value.ownBlock], h.blk.lt⟩)
  clear h hv
  obtain ⟨L, hL⟩ : ∃ L, flat F = L := ⟨_, rfl⟩
  rw [hL] at HG HRG ⊢
  clear hL
  have H40 := hid (fun j => @rgT_40 L j k hk)
  obtain ⟨S, hS⟩ : ∃ S, rnT L k n i = S := ⟨_, rfl⟩
  rw [hS]
  have HS0 := hid (show rnF L k n (n + 1) [] i = S from hS)
  clear hS
  have qq1 : ¬ (k : Int) < 0 := by omega
  have qq2 : ¬ (30 : Int) < k := by omega
  have qq3 : ¬ (n : Int) < 0 := by omega
  have qq4 : ¬ (1048576 : Int) < n := by omega
  go_enter Tryz.func111, Tryz.ntmps111
  go_wp2_with fail
  go_loopw [8] (fun o wr => ∃ (l : List Int) (m f j : Nat) (A : Option Addr) (cc : Nat), m ≤ n ∧ o = .slice A m cc ∧ Hid (l.length = m ∧ n - m ≤ f ∧ rnF L k n (f + 1) l j = S) ∧ Hid (GI (fun w' j => Rd w' p v F j) w p j l (.slice A m cc) wr)) (fun o _ => n - (match o with | .slice _ m _ => m | _ => 0))
  case atStart => exact ⟨[], 0, n, i, none, 0, by omega, rfl, ⟨rfl, by omega, HS0.out⟩, G0.out⟩
  case round =>
    obtain ⟨l, m, f, j, A, cc, hm, rfl, hS, hG⟩ := hrel
    by_cases hmn : m < n
    · have hin : (m : Int) < n := by omega
      have hC := HG.out wr j hG.out.rd
      have hT := (rnF_step (L := L) (k := k) (N := n) (f := f) (i := j) (out := l) (by rw [hS.out.1]; exact hmn)).symm.trans hS.out.2.2
      rw [hS.out.1] at hT
      have hbd := @ggT_bd L j
      obtain ⟨r, hr⟩ : ∃ r, ggT L j = r := ⟨_, rfl⟩
      rw [hr] at hC hT hbd
      clear hr
      obtain ⟨g, e1, a⟩ := r
      simp only at hT hbd
      replace hC := hid hC
      by_cases he : e1 = 0
      · subst he
        rw [if_neg (by simp)] at hT
        obtain ⟨g1, g2⟩ := hbd rfl
        have hw1 : IntKind.u64.wrap ((g : Int) - 1) = ((g - 1 : Nat) : Int) := by rw [IntWalk.u64_in _ (by omega)]; omega
        have hw2 : IntKind.i64.wrap ((n : Int) - (m : Int)) = ((n - m : Nat) : Int) := by rw [IntWalk.i64_in _ (by omega)]; omega
        obtain ⟨z, hz⟩ : ∃ z, g - 1 = z := ⟨_, rfl⟩
        rw [hz] at hw1 hT
        obtain ⟨y, hy⟩ : ∃ y, n - m = y := ⟨_, rfl⟩
        rw [hy] at hw2 hT
        have hw3 : IntKind.u64.wrap (y : Int) = (y : Int) := IntWalk.u64_in _ (by omega)
        by_cases hbig : y + 1 < g
        · have hb : (y : Int) < z := by omega
          rw [if_pos hbig] at hT
          have HT := hid hT
          clear hT hbd hz hy hbig
          go_wp2_with fail
          with_reducible refine (hC.out).mono ?_
          rintro e w2 ⟨rfl, hr2⟩
          have G2 := hid (hG.out.get (RI.rd hr2) hr2.2)
          clear hr2
          go_wp2_with fail
          go_ret2
          unfold LPost
          rw [← HT.out]
          exact ⟨rfl, G2.out.kp, by decide, _, G2.out.rd⟩
        · have hb : ¬ (y : Int) < z := by omega
          rw [if_neg hbig] at hT
          have hwz : IntKind.i64.wrap (z : Int) = (z : Int) := IntWalk.i64_in _ (by omega)
          have hzb : m + z ≤ n := by omega
          have HZ := hid (And.intro hz (And.intro hy hwz))
          by_cases hend : m + z = n
          · rw [if_pos hend] at hT
            have hbe : (((m + z : Nat) : Int) == (n : Int)) = true := by rw [beq_iff_eq]; omega
            have HT := hid hT
            have HEND := hid hend
            obtain ⟨mz, hmz⟩ : ∃ mz, m + z = mz := ⟨_, rfl⟩
            rw [hmz] at hbe HEND
            have HMZ := hid hmz
            have HL3 := hid (show (l ++ List.replicate z (0 : Int)).length = mz by rw [List.length_append, List.length_replicate, hS.out.1, hmz])
            clear hT hbd hz hy hbig hend hmz hwz
            go_wp2_with fail
            with_reducible refine (hC.out).mono ?_
            rintro e w2 ⟨rfl, hr2⟩
            have G2 := hid (hG.out.get (RI.rd hr2) hr2.2)
            clear hr2
            go_wp2_with (at_builtin; refine wpList_appz _ rfl (.tmp 52) (.tmp 54) 22 51 rfl 3 .u64 Tryz.underlying51 .i64 8 Tryz.underlying22 Tryz.info_int (.slice A m cc) m (i64s l) rfl ?d1 (z : Int) z rfl ?d2 (by decide) ?d3 ?_; rotate_right; intro v3 w3 hown hg hmv; have hgr := G2.out.growz hS.out.1 (fun w4 hk4 => G2.out.rd.keep hk4 (fun e => by have := G2.out.new _ e; have := G2.out.lt; omega) fun g' hg' e => by have := G2.out.new _ e; have := HV.out _ hg'; omega) hown hg hmv; obtain ⟨A3, c3, rfl⟩ := hgr.form; rw [HL3.out] at hgr ⊢; have G3 := hid hgr; clear hgr hown hg hmv)
            case d1 => exact G2.out.own_n hS.out.1
            case d2 => exact HZ.out.2.2
            case d3 => omega
            go_wp2_with fail
            go_ret2
            unfold LPost
            rw [← HT.out]
            obtain rfl := HEND.out
            exact ⟨A3, c3, rfl, G3.out⟩
          · rw [if_neg hend] at hT
            have hbe : (((m + z : Nat) : Int) == (n : Int)) = false := by rw [beq_eq_false_iff_ne]; omega
            have hmz2 : m + z < n := by omega
            obtain ⟨mz, hmz⟩ : ∃ mz, m + z = mz := ⟨_, rfl⟩
            rw [hmz] at hbe hmz2
            have hC2 := fun w' (hw : Rd w' p v F a) => HRG.out w' a hw
            have h40 := H40.out a
            obtain ⟨r2, hr2⟩ : ∃ r2, rgT L a k = r2 := ⟨_, rfl⟩
            rw [hr2] at hT h40
            simp only [hr2] at hC2
            clear hr2
            obtain ⟨x, e2, b⟩ := r2
            simp only at hT h40
            have HMZ := hid hmz
            have HL3 := hid (show (l ++ List.replicate z (0 : Int)).length = mz by rw [List.length_append, List.length_replicate, hS.out.1, hmz])
            replace hC2 := hid hC2
            clear hbd hz hy hbig hend hmz hwz
            by_cases he2 : e2 = 0
            · subst he2
              rw [if_neg (by simp)] at hT
              have hwx : IntKind.u64.wrap ((x : Int) + 1) = ((x + 1 : Nat) : Int) := by rw [IntWalk.u64_in _ (by omega)]; omega
              by_cases hx : x = 1099511627775
              · rw [if_pos hx] at hT
                have hb4 : (((x + 1 : Nat) : Int) / 1099511627776 != 0) = true := by rw [bne_iff_ne]; omega
                obtain ⟨x1, hx1⟩ : ∃ x1, x + 1 = x1 := ⟨_, rfl⟩
                rw [hx1] at hwx hb4
                have HT := hid hT
                clear hT hx hx1 h40
                go_wp2_with fail
                with_reducible refine (hC.out).mono ?_
                rintro e w2 ⟨rfl, hr2⟩
                have G2 := hid (hG.out.get (RI.rd hr2) hr2.2)
                clear hr2
                go_wp2_with (at_builtin; refine wpList_appz _ rfl (.tmp 52) (.tmp 54) 22 51 rfl 3 .u64 Tryz.underlying51 .i64 8 Tryz.underlying22 Tryz.info_int (.slice A m cc) m (i64s l) rfl ?d1 (z : Int) z rfl ?d2 (by decide) ?d3 ?_; rotate_right; intro v3 w3 hown hg hmv; have hgr := G2.out.growz hS.out.1 (fun w4 hk4 => G2.out.rd.keep hk4 (fun e => by have := G2.out.new _ e; have := G2.out.lt; omega) fun g' hg' e => by have := G2.out.new _ e; have := HV.out _ hg'; omega) hown hg hmv; obtain ⟨A3, c3, rfl⟩ := hgr.form; rw [HL3.out] at hgr ⊢; have G3 := hid hgr; clear hgr hown hg hmv)
                case d1 => exact G2.out.own_n hS.out.1
                case d2 => exact HZ.out.2.2
                case d3 => omega
                go_wp2_with fail
                with_reducible refine (hC2.out _ G3.out.rd).mono ?_
                rintro e w4 ⟨rfl, hr4⟩
                have G4 := hid (G3.out.get (RI.rd hr4) hr4.2)
                clear hr4
                go_wp2_with fail
                go_ret2
                unfold LPost
                rw [← HT.out]
                exact ⟨rfl, G4.out.kp, by decide, _, G4.out.rd⟩
              · rw [if_neg hx] at hT
                have hb4 : (((x + 1 : Nat) : Int) / 1099511627776 != 0) = false := by rw [bne_eq_false_iff_eq]; omega
                have HZG := hid (fun W => zag_any (x + 1) W (by omega))
                obtain ⟨x1, hx1⟩ : ∃ x1, x + 1 = x1 := ⟨_, rfl⟩
                rw [hx1] at hwx hb4 hT
                simp only [hx1] at HZG
                obtain ⟨q, hq⟩ : ∃ q, zagN x1 = q := ⟨_, rfl⟩
                rw [hq] at HZG hT
                have HT := hid hT
                clear hT hx hx1 h40 hq
                go_wp2_with fail
                with_reducible refine (hC.out).mono ?_
                rintro e w2 ⟨rfl, hr2⟩
                have G2 := hid (hG.out.get (RI.rd hr2) hr2.2)
                clear hr2
                go_wp2_with (at_builtin; refine wpList_appz _ rfl (.tmp 52) (.tmp 54) 22 51 rfl 3 .u64 Tryz.underlying51 .i64 8 Tryz.underlying22 Tryz.info_int (.slice A m cc) m (i64s l) rfl ?d1 (z : Int) z rfl ?d2 (by decide) ?d3 ?_; rotate_right; intro v3 w3 hown hg hmv; have hgr := G2.out.growz hS.out.1 (fun w4 hk4 => G2.out.rd.keep hk4 (fun e => by have := G2.out.new _ e; have := G2.out.lt; omega) fun g' hg' e => by have := G2.out.new _ e; have := HV.out _ hg'; omega) hown hg hmv; obtain ⟨A3, c3, rfl⟩ := hgr.form; rw [HL3.out] at hgr ⊢; have G3 := hid hgr; clear hgr hown hg hmv)
                case d1 => exact G2.out.own_n hS.out.1
                case d2 => exact HZ.out.2.2
                case d3 => omega
                go_wp2_with fail
                with_reducible refine (hC2.out _ G3.out.rd).mono ?_
                rintro e w4 ⟨rfl, hr4⟩
                have G4 := hid (G3.out.get (RI.rd hr4) hr4.2)
                clear hr4
                go_wp2_with fail
                with_reducible refine (HZG.out _).mono ?_
                rintro e w5 ⟨rfl, rfl⟩
                go_wp2_with (at_builtin; refine wpList_app1 _ rfl (.tmp 75) (.tmp 79) 22 rfl 3 .i64 8 Tryz.underlying22 Tryz.info_int (.slice A3 mz c3) (i64s (l ++ List.replicate z 0)) mz rfl ?d1 ⟨w4.heap.size, 0, none⟩ q rfl ?d3 (by decide) ?d4 (w4.heap.size + 1) ?d5 ?_; rotate_right; intro g' cap w6 hown6 hg6 hat6 hlt6; replace hown6 := hid hown6; replace hg6 := hid hg6; replace hat6 := hid hat6)
                case d1 => exact (G4.out.own_n HL3.out).alloc _
                case d3 => exact World.cell?_alloc_at _ _ _ _ rfl
                case d4 => omega
                case d5 => simp
                have hgr := G4.out.grow HL3.out (fun w4 hk4 => G4.out.rd.keep hk4 (fun e => by have := G4.out.new _ e; have := G4.out.lt; omega) fun g' hg' e => by have := G4.out.new _ e; have := HV.out _ hg'; omega) hown6.out hg6.out hat6.out
                go_roundw
                case rel =>
                  obtain ⟨f', rfl⟩ : ∃ f', f = f' + 1 := ⟨f - 1, by have := hS.out.2.1; omega⟩
                  refine ⟨_, mz + 1, f', b, _, _, by omega, rfl, ⟨?_, ?_, HT.out⟩, hgr⟩
                  · rw [List.length_append, HL3.out]; rfl
                  · have := hS.out.2.1; have := HMZ.out; omega
                case measure => have := HMZ.out; simp; omega
            · have he2' : (e2 == 0) = false := by rw [beq_eq_false_iff_ne]; exact he2
              rw [if_pos he2] at hT
              have HT := hid hT
              have HE2 := hid he2
              clear hT he2 h40
              go_wp2_with fail
              with_reducible refine (hC.out).mono ?_
              rintro e w2 ⟨rfl, hr2⟩
              have G2 := hid (hG.out.get (RI.rd hr2) hr2.2)
              clear hr2
              go_wp2_with (at_builtin; refine wpList_appz _ rfl (.tmp 52) (.tmp 54) 22 51 rfl 3 .u64 Tryz.underlying51 .i64 8 Tryz.underlying22 Tryz.info_int (.slice A m cc) m (i64s l) rfl ?d1 (z : Int) z rfl ?d2 (by decide) ?d3 ?_; rotate_right; intro v3 w3 hown hg hmv; have hgr := G2.out.growz hS.out.1 (fun w4 hk4 => G2.out.rd.keep hk4 (fun e => by have := G2.out.new _ e; have := G2.out.lt; omega) fun g' hg' e => by have := G2.out.new _ e; have := HV.out _ hg'; omega) hown hg hmv; obtain ⟨A3, c3, rfl⟩ := hgr.form; rw [HL3.out] at hgr ⊢; have G3 := hid hgr; clear hgr hown hg hmv)
              case d1 => exact G2.out.own_n hS.out.1
              case d2 => exact HZ.out.2.2
              case d3 => omega
              go_wp2_with fail
              with_reducible refine (hC2.out _ G3.out.rd).mono ?_
              rintro e w4 ⟨rfl, hr4⟩
              have G4 := hid (G3.out.get (RI.rd hr4) hr4.2)
              clear hr4
              go_wp2_with fail
              go_ret2
              unfold LPost
              rw [← HT.out]
              exact ⟨rfl, G4.out.kp, HE2.out, _, G4.out.rd⟩
      · have he' : (e1 == 0) = false := by rw [beq_eq_false_iff_ne]; exact he
        rw [if_pos he] at hT
        have HT := hid hT
        have HE := hid he
        clear hT he hbd
        go_wp2_with fail
        with_reducible refine (hC.out).mono ?_
        rintro e w2 ⟨rfl, hr2⟩
        have G2 := hid (hG.out.get (RI.rd hr2) hr2.2)
        clear hr2
        go_wp2_with fail
        go_ret2
        unfold LPost
        rw [← HT.out]
        exact ⟨rfl, G2.out.kp, HE.out, _, G2.out.rd⟩
    · have hin : ¬ (m : Int) < n := by omega
      obtain rfl : m = n := by omega
      go_wp2_with fail
      go_ret2
      have h := hS.out.2.2
      rw [rnF_end (by rw [hS.out.1]; exact Nat.le_refl _)] at h
      unfold LPost
      rw [← h]
      exact ⟨A, cc, rfl, hG.out⟩
end Go.Proofs.YtjboboaccjbebaaGreat
/- Layer 9: getRice, getRaw. -/
namespace Go.Proofs.YtjboboaccjbebaaGreat
open Go.RowKit

theorem i64s_store (D : List Int) (m : Nat) (x : Int) (j : Nat) (hj : D.length = j) : (i64s (D ++ List.replicate (m + 1) 0)).toArray.setIfInBounds j (.int .i64 x) = (i64s (D ++ [x] ++ List.replicate m 0)).toArray := by
  subst hj
  simp only [i64s, List.setIfInBounds_toArray, List.map_append, List.map_cons, List.map_nil, List.append_assoc]
  congr 1
  rw [List.set_append, if_neg (by simp), List.length_map, Nat.sub_self, List.replicate_succ, List.map_cons, List.set_cons_zero]
  rfl
theorem i64s_get (D : List Int) (m j : Nat) (hj : D.length = j) : (i64s (D ++ List.replicate (m + 1) 0)).toArray[j]? = some (.int .i64 0) := by
  subst hj
  simp [i64s]
theorem blk_ownI {wr : World} {b n : Nat} {D : List Int} (h : Blk wr b 3 (i64s D).toArray) (hn : D.length = n) (hm : n ≤ 1000000000) : wr.ownsRow 0 3 1 (.slice (some ⟨b, 0, none⟩) n n) D.length (i64s D) := by
  subst hn
  have hl := i64s_length D
  exact own_of_blk h (Nat.le_refl _) (by unfold maxLen; omega) (by simpa using hl) (by rw [List.take_of_length_le (by simpa using Nat.le_of_eq hl)]) hl

theorem signext9 (x : Int) (n : Nat) (h1 : -(2 ^ (n - 1)) ≤ x) (h2 : x < 2 ^ (n - 1)) (hn1 : 1 ≤ n) (hn : n ≤ 63) : IntKind.i64.wrap (IntKind.u64.wrap (((x % 2 ^ n).toNat : Int) * 2 ^ (64 - n))) / 2 ^ (64 - n) = x := by
  have e : (2 : Int) ^ n = 2 * 2 ^ (n - 1) := by rw [← pow_succ_int, show n - 1 + 1 = n by omega]
  have e64 : (2 : Int) ^ (n - 1) * (2 * 2 ^ (64 - n)) = 18446744073709551616 := by
    rw [← pow_succ_int, ← Int.pow_add, show n - 1 + (64 - n + 1) = 64 by omega]; rfl
  have hp := pow_pos_int (n - 1)
  have hq := pow_pos_int (64 - n)
  have h0 := Int.emod_nonneg x (show (2 : Int) ^ n ≠ 0 by omega)
  rw [Int.toNat_of_nonneg h0, e, IntKind.wrap_u64, IntKind.wrap_i64]
  generalize (2 : Int) ^ (64 - n) = f at *
  generalize (2 : Int) ^ (n - 1) = q at *
  have eq2 : q * f * 2 = 18446744073709551616 := by rw [← e64, Int.mul_assoc, Int.mul_comm f 2]
  have hxf : x * f < q * f := Int.mul_lt_mul_of_pos_right h2 hq
  have hxf' : -(q * f) ≤ x * f := by
    have := Int.mul_le_mul_of_nonneg_right h1 (show 0 ≤ f by omega)
    rwa [Int.neg_mul] at this
  have hm : (x % (2 * q)) * f = x * f ∨ (x % (2 * q)) * f = x * f + 18446744073709551616 := by
    by_cases hx : 0 ≤ x
    · left; rw [Int.emod_eq_of_lt hx (by omega)]
    · right
      rw [show x = (x + 2 * q) + (-1) * (2 * q) by omega, Int.add_mul_emod_self_right, Int.emod_eq_of_lt (by omega) (by omega)]
      have : (x + 2 * q) * f = x * f + q * f * 2 := by rw [Int.add_mul, Int.mul_comm 2 q, Int.mul_assoc, Int.mul_comm 2 f, ← Int.mul_assoc]
      rw [show x + 2 * q + -1 * (2 * q) = x by omega, this, eq2]
  have hfin : (x % (2 * q) * f % 18446744073709551616 + 9223372036854775808) % 18446744073709551616 - 9223372036854775808 = x * f := by
    generalize x % (2 * q) * f = y at *
    generalize x * f = z at *
    generalize q * f = t at *
    omega
  rw [hfin, Int.mul_ediv_cancel _ (by omega)]
theorem rgS_lt {L : List Bool} {k i : Nat} (hk : k ≤ 30) : ∀ {n : Nat} {l : List Nat} {j : Nat}, rgS L k i n = .ok (l, j) → ∀ u ∈ l, u < 18446744073709551616
  | 0, l, j, h => by
    rw [rgS] at h
    injection h with h
    injection h with h1 h2
    subst h1
    simp
  | n + 1, l, j, h => by
    rw [rgS] at h
    split at h
    · cases h
    · rename_i l0 j0 h0
      split at h
      · injection h with h
        injection h with h1 h2
        subst h1
        intro u hu
        rcases List.mem_append.1 hu with hu | hu
        · exact rgS_lt hk h0 u hu
        · simp at hu
          subst hu
          exact rgT_lt L j0 k hk
      · cases h
/-- What getRice reads. -/
def riceS (L : List Bool) (k i n : Nat) : Except Int (List Int × Nat) := match rgS L k i n with
  | .error e => .error e
  | .ok (us, j) => .ok (us.map zagN, j)

set_option maxRecDepth 100000 in
set_option maxHeartbeats 4000000 in
theorem getrice_any (w : World) (p : Nat) (v : Value) (F : List Nat) (i k n : Nat) (h : Rd w p v F i) (hk : k ≤ 30) (hn : n ≤ 65536) (hv : ∀ g, v.ownBlock = some g → g < w.heap.size) :
    Calls Tryz.prog 110 #[.pointer (some ⟨p, 0, none⟩), .int .i64 (n : Int), .int .i64 (k : Int)] w (LPost (fun w' j => Rd w' p v F j) w p (riceS (flat F) k i n) n) := by
  have HG := hid (rgetall_any w p v F i k n h hk (by omega) hv)
  have hlt := fun l j => @rgS_lt (flat F) k i hk n l j
  have hlen := fun l j => @rgS_len (flat F) k i n l j
  have HR := hid (riceS.eq_1 (flat F) k i n)
  obtain ⟨S, hS⟩ : ∃ S, rgS (flat F) k i n = S := ⟨_, rfl⟩
  rw [hS] at HG HR
  simp only [hS] at hlt hlen
  obtain ⟨Q, hQ⟩ : ∃ Q, riceS (flat F) k i n = Q := ⟨_, rfl⟩
  rw [hQ] at HR ⊢
  clear hS hQ h
  have hmk := fun W => make_int n (by omega) W
  rcases S with x | ⟨us, j⟩
  · have HQ := hid (show Q = .error x from HR.out)
    clear hlt hlen HR
    go_enter Tryz.func110, Tryz.ntmps110
    go_wp2_with fail
    refine HG.out.mono ?_
    rintro e w1 h
    obtain ⟨rfl, hkp, hx0, hj⟩ := h
    have hb : (x == 0) = false := by rw [beq_eq_false_iff_ne]; exact hx0
    have H1 := hid (And.intro hkp (And.intro hx0 hj))
    clear hkp hx0 hj
    go_wp2_with fail
    go_ret2
    rw [HQ.out]
    exact ⟨rfl, H1.out⟩
  · have HQ := hid (show Q = .ok (us.map zagN, j) from HR.out)
    have HLT := hid (hlt us j rfl)
    have HLE := hid (hlen us j rfl)
    clear hlt hlen HR
    go_enter Tryz.func110, Tryz.ntmps110
    go_wp2_with fail
    refine HG.out.mono ?_
    rintro e w1 h
    obtain ⟨A, c, rfl, hg⟩ := h
    have H1 := hid (And.intro hg (Sl.of_own hg.own))
    clear hg
    go_wp2_with fail
    clear hmk
    go_loopw [27] (fun ix wr => ∃ d m : Nat, d + m = n ∧ ix = .int .i64 d ∧ Hid (Blk wr w1.heap.size 3 (i64s ((us.take d).map zagN ++ List.replicate m 0)).toArray) ∧ Hid (Below w1.heap.size w1 wr)) (fun ix _ => n - (intOf ix).toNat)
    case atStart => exact ⟨0, n, by omega, rfl, by rw [made_zero]; simpa [Hid] using Blk.new w1 _ _, (Below.refl _ _).alloc (Nat.le_refl _) _⟩
    case round =>
      obtain ⟨d, m, hdm, rfl, hblk, hbel⟩ := hrel
      rcases m with _ | m
      · have hin : ¬ (d : Int) < n := by omega
        obtain rfl : d = n := by omega
        go_wp2_with fail
        go_ret2
        have h := hblk.out
        rw [List.take_of_length_le (Nat.le_of_eq HLE.out), List.replicate_zero, List.append_nil] at h
        rw [HQ.out]
        have hs := H1.out.1.kp.size
        exact ⟨_, _, rfl, H1.out.1.rd.below hbel.out, H1.out.1.kp.then_below hbel.out, blk_ownI h (by rw [List.length_map]; exact HLE.out) (by omega), fun g hg => by simp [Value.ownBlock] at hg; omega, H1.out.1.lt⟩
      · have hin : (d : Int) < n := by omega
        have hdx : d < us.length := by rw [HLE.out]; omega
        obtain ⟨ad, rfl, hc⟩ := u64s_at (H1.out.2.below hbel.out) hdx
        have hub := HLT.out us[d] (List.getElem_mem _)
        have hlz : ((us.take d).map zagN).length = d := by rw [List.length_map, List.length_take]; omega
        have hcb := hblk.out.cell d
        have hfb := hblk.out.frozen d
        rw [i64s_get _ _ _ hlz] at hcb
        obtain ⟨u, hue⟩ : ∃ u, us[d] = u := ⟨_, rfl⟩
        rw [hue] at hc hub
        have HX := hid (And.intro hue hlz)
        have HZ := hid (zag_any u wr hub)
        obtain ⟨z, hz⟩ : ∃ z, zagN u = z := ⟨_, rfl⟩
        rw [hz] at HZ
        have HZZ := hid hz

        clear hue hlz hz hub
        go_wp2_with fail
        with_reducible refine HZ.out.mono ?_
        rintro e w2 ⟨rfl, rfl⟩
        go_wp2_with fail
        go_roundw
        case rel =>
          refine ⟨d + 1, m, by omega, by go_num, ?_, hbel.out.setCell (by simp) _⟩
          have h := hblk.out.upd d (.int .i64 z)
          rw [i64s_store _ _ _ _ HX.out.2] at h
          show Blk _ _ _ _
          rw [take_snocI us d hdx, List.map_append, HX.out.1, List.map_cons, List.map_nil, HZZ.out]
          exact h
        case measure => simp [intOf]; omega

theorem rawS_step {L : List Bool} {k i m j : Nat} {l : List Int} (h : rawS L k i m = .ok (l, j)) : rawS L k i (m + 1) = if getErr L j (k : Int) ≠ 0 then .error (getErr L j (k : Int)) else if fitsB (rawX k (getVal L j (k : Int))) = true then .ok (l ++ [rawX k (getVal L j (k : Int))], getAt L j (k : Int)) else .error 12 := by rw [rawS, h]
theorem rawS_err {L : List Bool} {k i n : Nat} {x : Int} (h : rawS L k i n = .error x) : ∀ m : Nat, rawS L k i (n + m) = .error x
  | 0 => h
  | m + 1 => by rw [← Nat.add_assoc, rawS, rawS_err h m]
theorem rawS_err' {L : List Bool} {k i n : Nat} {x : Int} (h : rawS L k i n = .error x) {m : Nat} (hm : n ≤ m) : rawS L k i m = .error x := by
  have := rawS_err h (m - n)
  rwa [show n + (m - n) = m by omega] at this
theorem rawS_len {L : List Bool} {k i : Nat} : ∀ {n : Nat} {l : List Int} {j : Nat}, rawS L k i n = .ok (l, j) → l.length = n
  | 0, l, j, h => by
    rw [rawS] at h
    injection h with h
    injection h with h1 h2
    subst h1
    rfl
  | n + 1, l, j, h => by
    rw [rawS] at h
    split at h
    · cases h
    · rename_i l0 j0 h0
      split at h
      · cases h
      · split at h
        · injection h with h
          injection h with h1 h2
          subst h1
          rw [List.length_append, rawS_len h0]
          rfl
        · cases h
theorem rawX_of {k u : Nat} (hk : 1 ≤ k) (hu : u < 2 ^ k) : -(2 ^ (k - 1) : Int) ≤ rawX k u ∧ rawX k u < (2 ^ (k - 1) : Int) ∧ (rawX k u % 2 ^ k).toNat = u := by
  have e2 : (2 : Nat) ^ k = 2 * 2 ^ (k - 1) := by
    rw [show 2 * 2 ^ (k - 1) = 2 ^ (k - 1 + 1) from by rw [Nat.pow_succ]; omega, show k - 1 + 1 = k by omega]
  have hp : (2 : Int) ^ (k - 1) = ((2 ^ (k - 1) : Nat) : Int) := (Int.natCast_pow 2 _).symm
  have hq : (2 : Int) ^ k = ((2 ^ k : Nat) : Int) := (Int.natCast_pow 2 _).symm
  unfold rawX
  rw [hp, hq, e2]
  rw [e2] at hu
  obtain ⟨q, hqq⟩ : ∃ q, (2 : Nat) ^ (k - 1) = q := ⟨_, rfl⟩
  rw [hqq] at hu ⊢
  split
  · refine ⟨by omega, by omega, ?_⟩
    rw [Int.emod_eq_of_lt (by omega) (by omega)]
    omega
  · refine ⟨by omega, by omega, ?_⟩
    rw [← Int.add_emod_right, Int.emod_eq_of_lt (by omega) (by omega)]
    omega

set_option maxRecDepth 100000 in
set_option maxHeartbeats 8000000 in
theorem getraw_any (w : World) (p : Nat) (v : Value) (F : List Nat) (i k n : Nat) (h : Rd w p v F i) (hk1 : 1 ≤ k) (hk : k ≤ 41) (hn : n ≤ 65536) (hv : ∀ g, v.ownBlock = some g → g < w.heap.size) :
    Calls Tryz.prog 112 #[.pointer (some ⟨p, 0, none⟩), .int .i64 (n : Int), .int .i64 (k : Int)] w (LPost (fun w' j => Rd w' p v F j) w p (rawS (flat F) k i n) n) := by
  have HG := hid (fun W j (hR : Rd W p v F j) => get_any W p v F j (k : Int) hR)
  have HST := hid (fun m l j (hh : rawS (flat F) k i m = .ok (l, j)) => rawS_step hh)
  have HER := hid (fun m x (hh : rawS (flat F) k i m = .error x) (hm : m ≤ n) => rawS_err' hh hm)
  have HLN := hid (fun m l j (hh : rawS (flat F) k i m = .ok (l, j)) => rawS_len hh)
  have HVL := hid (fun j => getVal_lt (flat F) j k)
  have HXF := hid (fun u (hu : u < 2 ^ k) => @rawX_of k u hk1 hu)
  have HSE := hid (fun x (h1 : -(2 ^ (k - 1)) ≤ x) (h2 : x < 2 ^ (k - 1)) => signext9 x k h1 h2 hk1 (by omega))
  have H0 := hid (And.intro h (And.intro hv (show rawS (flat F) k i 0 = .ok ([], i) from rfl)))
  have hpl := h.blk.lt
  obtain ⟨L, hL⟩ : ∃ L, flat F = L := ⟨_, rfl⟩
  rw [hL] at H0 ⊢
  simp only [hL] at HG HST HER HLN HVL
  obtain ⟨SS, hSS⟩ : ∃ SS, rawS L k i = SS := ⟨_, rfl⟩
  rw [hSS] at H0 ⊢
  simp only [hSS] at HST HER HLN
  have hk1' : (1 : Int) ≤ k := by omega
  have hfree : IntKind.i64.wrap (64 - (k : Int)) = ((64 - k : Nat) : Int) := by rw [IntWalk.i64_in _ (by omega)]; omega
  have hf64 : 64 - k < 64 := by omega
  obtain ⟨f, hf⟩ : ∃ f, 64 - k = f := ⟨_, rfl⟩
  rw [hf] at hfree hf64
  simp only [hf] at HSE
  have hmk := fun W => make_int n (by omega) W
  clear h hv hL hSS hf
  go_enter Tryz.func112, Tryz.ntmps112
  go_wp2_with fail
  clear hmk
  go_loopw [17] (fun ix wr => ∃ (d m j : Nat) (l : List Int), d + m = n ∧ ix = .int .i64 d ∧ Hid (SS d = .ok (l, j)) ∧ Hid (Blk wr w.heap.size 3 (i64s (l ++ List.replicate m 0)).toArray) ∧ Hid (Rd wr p v F j ∧ Kept (fun k => k = p) w wr)) (fun ix _ => n - (intOf ix).toNat)
  case atStart => exact ⟨0, n, i, [], by omega, rfl, H0.out.2.2, by rw [made_zero]; simpa [Hid] using Blk.new w _ _, H0.out.1.below ((Below.refl _ _).alloc (Nat.le_refl _) _), (Kept.refl _ _).alloc _⟩
  case round =>
    obtain ⟨d, m, j, l, hdm, rfl, hs, hblk, hrd⟩ := hrel
    have hll := HLN.out _ _ _ hs.out
    rcases m with _ | m
    · have hin : ¬ (d : Int) < n := by omega
      obtain rfl : d = n := by omega
      clear HG HST HER HLN HVL HXF HSE
      have HLL := hid hll
      clear hll
      go_wp2_with fail
      go_ret2
      have h := hblk.out
      rw [List.replicate_zero, List.append_nil] at h
      rw [hs.out]
      exact ⟨_, _, rfl, hrd.out.1, hrd.out.2, blk_ownI h HLL.out (by omega), fun g hg => by simp [Value.ownBlock] at hg; omega, hpl⟩
    · have hin : (d : Int) < n := by omega
      have hst := HST.out _ _ _ hs.out
      have hvl := HVL.out j
      have HGJ := HG.out wr j hrd.out.1
      have hcb := hblk.out.cell d
      have hfb := hblk.out.frozen d
      rw [i64s_get _ _ _ hll] at hcb
      have HLL := hid hll
      obtain ⟨er, her⟩ : ∃ er, getErr L j (k : Int) = er := ⟨_, rfl⟩
      obtain ⟨u, hu⟩ : ∃ u, getVal L j (k : Int) = u := ⟨_, rfl⟩
      obtain ⟨a, ha⟩ : ∃ a, getAt L j (k : Int) = a := ⟨_, rfl⟩
      rw [her, hu, ha] at hst HGJ
      rw [hu] at hvl
      have HGG := hid HGJ
      clear her hu ha HGJ hll
      by_cases he : er = 0
      · subst he
        rw [if_neg (by simp)] at hst
        obtain ⟨x1, x2, x3⟩ := HXF.out u hvl
        have hse := HSE.out _ x1 x2
        rw [x3] at hse
        obtain ⟨x, hx⟩ : ∃ x, rawX k u = x := ⟨_, rfl⟩
        rw [hx] at hst hse x1 x2
        have hp40 : (2 : Int) ^ (k - 1) ≤ 1099511627776 := pow_le_int (n := 40) (by omega)
        have HFX := hid (fun W => fits_any x W (by omega) (by omega))
        clear x1 x2 x3 hx hp40
        have hsa : ∀ Y : Int, Y = (u : Int) → wrap64 (IntKind.u64.wrap (Y * 2 ^ f)) / 2 ^ f = x := fun Y hY => by rw [hY, ← hse]; simp only [IntWalk.i64_left]
        clear hvl HG HST HLN HVL HXF HSE
        go_wp2_with fail
        with_reducible refine HGG.out.mono ?_
        rintro e w2 ⟨rfl, hr2⟩
        have H2 := hid (And.intro hr2.1 (And.intro (hrd.out.2.trans hr2.2 fun _ _ e => e) (hblk.out.kept hr2.2 (by omega))))
        clear hr2 hcb hfb
        have hcb := H2.out.2.2.cell d
        have hfb := H2.out.2.2.frozen d
        rw [i64s_get _ _ _ HLL.out] at hcb
        obtain ⟨b, hb⟩ : ∃ b, fitsB x = b := ⟨_, rfl⟩
        rw [hb] at hst
        simp only [hb] at HFX
        have H3 := hid (show Rd (w2.setCell ⟨w.heap.size, d, none⟩ (.int .i64 x)) p v F a ∧ Kept (fun k => k = p) w (w2.setCell ⟨w.heap.size, d, none⟩ (.int .i64 x)) ∧ Blk (w2.setCell ⟨w.heap.size, d, none⟩ (.int .i64 x)) w.heap.size 3 (i64s (l ++ [x] ++ List.replicate m 0)).toArray from
          ⟨H2.out.1.keep (S := fun k => k = w.heap.size) ((Kept.refl (fun k => k = w.heap.size) w2).setCell (p := ⟨w.heap.size, d, none⟩) (fun _ => rfl) _) (by omega) (fun g hg e => by have := H0.out.2.1 g hg; omega), H2.out.2.1.setCell (by simp) _, by rw [← i64s_store _ _ _ _ HLL.out]; exact H2.out.2.2.upd d (.int .i64 x)⟩)
        clear hb hse
        cases b
        · rw [if_neg (by simp)] at hst
          have HT := hid (HER.out _ _ hst (by omega))
          clear hst HER
          go_wp2_with fail
          with_reducible refine (HFX.out _).mono ?_
          rintro e w4 ⟨rfl, rfl⟩
          go_wp2_with fail
          go_ret2
          rw [HT.out]
          exact ⟨rfl, H3.out.2.1, by decide, a, H3.out.1⟩
        · rw [if_pos rfl] at hst
          have HT := hid hst
          clear hst HER
          go_wp2_with fail
          with_reducible refine (HFX.out _).mono ?_
          rintro e w4 ⟨rfl, rfl⟩
          go_wp2_with fail
          go_roundw
          case rel => exact ⟨d + 1, m, a, l ++ [x], by omega, by go_num, HT.out, H3.out.2.2, H3.out.1, H3.out.2.1⟩
          case measure => simp [intOf]; omega
      · have he' : (er == 0) = false := by rw [beq_eq_false_iff_ne]; exact he
        rw [if_pos he] at hst
        have HT := hid (HER.out _ _ hst (by omega))
        have HE := hid he
        clear hst he hvl HG HST HER HLN HVL HXF HSE
        go_wp2_with fail
        with_reducible refine HGG.out.mono ?_
        rintro e w2 ⟨rfl, hr2⟩
        have H2 := hid (And.intro hr2.1 (hrd.out.2.trans hr2.2 fun _ _ e => e))
        clear hr2
        go_wp2_with fail
        go_ret2
        rw [HT.out]
        exact ⟨rfl, H2.out.2, HE.out, a, H2.out.1⟩
end Go.Proofs.YtjboboaccjbebaaGreat
/- Layer 9: get. -/
namespace Go.Proofs.YtjboboaccjbebaaGreat
open Go.RowKit

theorem LPost.from_ {F : List Nat} {v : Value} {w w2 w' : World} {p n j : Nat} {S : Except Int (List Int × Nat)} {e : Ending} (hr : RI w p v F j w2) (hp : p < w.heap.size) (h : LPost (fun w' j => Rd w' p v F j) w2 p S n e w') : LPost (fun w' j => Rd w' p v F j) w p S n e w' := by
  rcases S with x | ⟨l, j2⟩
  · obtain ⟨h1, h2, h3, h4⟩ := h
    exact ⟨h1, hr.2.trans h2 fun _ _ e => e, h3, h4⟩
  · obtain ⟨A, c, h1, h2⟩ := h
    have hs := hr.2.size
    exact ⟨A, c, h1, h2.rd, hr.2.trans h2.kp fun _ _ e => e, h2.own, fun g hg => by have := h2.new g hg; omega, hp⟩
theorem LPost.shape {R : World → Nat → Prop} {w w' : World} {p n : Nat} {S : Except Int (List Int × Nat)} {e : Ending} (h : LPost R w p S n e w') : ∃ A m c y, e = .returned (.tuple #[.slice A m c, .int .i64 y]) := by
  rcases S with x | ⟨l, j2⟩
  · exact ⟨_, _, _, _, h.1⟩
  · obtain ⟨A, c, h1, _⟩ := h
    exact ⟨_, _, _, _, h1⟩

set_option maxRecDepth 100000 in
set_option maxHeartbeats 8000000 in
theorem pget_any (w : World) (p : Nat) (v : Value) (F : List Nat) (i n : Nat) (h : Rd w p v F i) (hn : n ≤ 65536) (hv : ∀ g, v.ownBlock = some g → g < w.heap.size) :
    Calls Tryz.prog 88 #[.pointer (some ⟨p, 0, none⟩), .int .i64 (n : Int)] w (LPost (fun w' j => Rd w' p v F j) w p (pgT (flat F) i n) n) := by
  have hpl := h.blk.lt
  have HG := hid (get_any w p v F i 6 h)
  have HG5 := hid (fun W j (hR : Rd W p v F j) => get_any W p v F j 5 hR)
  have HG6 := hid (fun W j (hR : Rd W p v F j) => get_any W p v F j 6 hR)
  have HVV := fun W j (hR : RI w p v F j W) g hg => show g < W.heap.size from Nat.lt_of_lt_of_le (hv g hg) hR.2.size
  have HRI := hid (fun W j k (hk : k ≤ 30) (hR : RI w p v F j W) => (getrice_any W p v F j k n hR.1 hk hn (HVV W j hR)).mono fun e w' hh => LPost.from_ hR hpl hh)
  have HRW := hid (fun W j k (hk1 : 1 ≤ k) (hk : k ≤ 41) (hR : RI w p v F j W) => (getraw_any W p v F j k n hR.1 hk1 hk hn (HVV W j hR)).mono fun e w' hh => LPost.from_ hR hpl hh)
  have HRU := hid (fun W j k (hk : k ≤ 30) (hR : RI w p v F j W) => (getl_any W p v F j k n hR.1 hk (by omega) (HVV W j hR)).mono fun e w' hh => LPost.from_ hR hpl hh)
  have hvl := getVal_lt (flat F) i 6
  have hvl5 := hid (fun j => getVal_lt (flat F) j 5)
  have hvl6 := hid (fun j => getVal_lt (flat F) j 6)
  rw [show ((6 : Nat) : Int) = 6 from rfl] at hvl
  simp only [show ((6 : Nat) : Int) = 6 from rfl, show ((5 : Nat) : Int) = 5 from rfl] at hvl5 hvl6
  have HT := hid (pgT.eq_1 (flat F) i n)
  clear HVV
  obtain ⟨L, hL⟩ : ∃ L, flat F = L := ⟨_, rfl⟩
  rw [hL] at HT hvl ⊢
  simp only [hL] at HG HG5 HG6 HRI HRW HRU hvl5 hvl6
  obtain ⟨Q, hQ⟩ : ∃ Q, pgT L i n = Q := ⟨_, rfl⟩
  rw [hQ] at HT ⊢
  obtain ⟨er, her⟩ : ∃ er, getErr L i 6 = er := ⟨_, rfl⟩
  obtain ⟨u, hu⟩ : ∃ u, getVal L i 6 = u := ⟨_, rfl⟩
  obtain ⟨a, ha⟩ : ∃ a, getAt L i 6 = a := ⟨_, rfl⟩
  rw [her, hu, ha] at HT HG
  rw [hu] at hvl
  have hmk := fun W => make_int n (by omega) W
  clear hL hQ her hu ha h
  by_cases he : er = 0
  · subst he
    rw [if_neg (by simp)] at HT
    have hwu : IntKind.i64.wrap (u : Int) = (u : Int) := IntWalk.i64_in _ (by omega)
    by_cases h30 : u ≤ 30
    · have hb : (u : Int) ≤ 30 := by omega
      rw [if_pos h30] at HT
      have HQ := hid (show Q = riceS L u a n from HT.out)
      have HRR := hid (fun W hR => HRI.out W a u h30 hR)
      clear h30 HT HG5 HG6 HRI HRW HRU hvl5 hvl6 hmk
      go_enter Tryz.func88, Tryz.ntmps88
      go_wp2_with fail
      with_reducible refine HG.out.mono ?_
      rintro e w1 ⟨rfl, hr1⟩
      have H1 := hid hr1
      clear hr1
      go_wp2_with fail
      refine (HRR.out _ H1.out).mono ?_
      intro e w2 hp2
      obtain ⟨A, m, c, y, rfl⟩ := hp2.shape
      have H2 := hid hp2
      clear hp2
      go_wp2_with fail
      go_ret2
      rw [HQ.out]
      exact H2.out
    have hb : ¬ (u : Int) ≤ 30 := by omega
    rw [if_neg h30] at HT
    by_cases h31 : u = 31
    · subst h31
      rw [if_pos rfl] at HT
      clear HG5 HG6 HRI HRW HRU hvl5 hvl6 hvl hb
      go_enter Tryz.func88, Tryz.ntmps88
      go_wp2_with fail
      with_reducible refine HG.out.mono ?_
      rintro e w1 ⟨rfl, hr1⟩
      have H1 := hid hr1
      clear hr1
      go_wp2_with fail
      go_ret2
      rw [HT.out]
      have hs := H1.out.2.size
      have hB := Blk.new w1 3 (madeCells #[.int .i64 0] n)
      have hB2 : Blk (w1.alloc (.cells (madeCells #[.int .i64 0] n) 3)) w1.heap.size 3 (i64s (List.replicate n 0)).toArray := by rw [← made_zero]; exact hB
      exact ⟨_, _, rfl, H1.out.1.below ((Below.refl _ _).alloc (Nat.le_refl _) _), H1.out.2.alloc _, blk_ownI hB2 List.length_replicate (by omega), fun g hg => by simp [Value.ownBlock] at hg; omega, hpl⟩
    have hb1 : ((u : Int) == 31) = false := by rw [beq_eq_false_iff_ne]; omega
    rw [if_neg h31] at HT
    clear hmk h31
    by_cases h32 : u = 32
    · subst h32
      rw [if_pos rfl] at HT
      have HGG := hid (fun W hR => HG5.out W a hR)
      have hv5 := hvl5.out a
      obtain ⟨er2, her2⟩ : ∃ er2, getErr L a 5 = er2 := ⟨_, rfl⟩
      obtain ⟨k, hk⟩ : ∃ k, getVal L a 5 = k := ⟨_, rfl⟩
      obtain ⟨a2, ha2⟩ : ∃ a2, getAt L a 5 = a2 := ⟨_, rfl⟩
      rw [her2, hk, ha2] at HT
      simp only [her2, hk, ha2] at HGG
      rw [hk] at hv5
      clear her2 hk ha2 HG5 HG6 HRI HRW hvl5 hvl6 hvl
      by_cases he2 : er2 = 0
      · subst he2
        rw [if_neg (by simp)] at HT
        have hwk : IntKind.i64.wrap (k : Int) = (k : Int) := IntWalk.i64_in _ (by omega)
        by_cases hk30 : 30 < k
        · have hb2 : (30 : Int) < k := by omega
          rw [if_pos hk30] at HT
          clear HRU
          go_enter Tryz.func88, Tryz.ntmps88
          go_wp2_with fail
          with_reducible refine HG.out.mono ?_
          rintro e w1 ⟨rfl, hr1⟩
          have H1 := hid hr1
          clear hr1
          go_wp2_with fail
          with_reducible refine (HGG.out _ (RI.rd H1.out)).mono ?_
          rintro e w2 ⟨rfl, hr2⟩
          have H2 := hid (H1.out.trans hr2)
          clear hr2
          go_wp2_with fail
          go_ret2
          rw [HT.out]
          exact ⟨rfl, H2.out.2, by decide, a2, H2.out.1⟩
        · have hb2 : ¬ (30 : Int) < k := by omega
          rw [if_neg hk30] at HT
          have HQ := hid (show Q = rnT L k n a2 from HT.out)
          have HRR := hid (fun W hR => HRU.out W a2 k (by omega) hR)
          clear HRU HT hk30
          go_enter Tryz.func88, Tryz.ntmps88
          go_wp2_with fail
          with_reducible refine HG.out.mono ?_
          rintro e w1 ⟨rfl, hr1⟩
          have H1 := hid hr1
          clear hr1
          go_wp2_with fail
          with_reducible refine (HGG.out _ (RI.rd H1.out)).mono ?_
          rintro e w2 ⟨rfl, hr2⟩
          have H2 := hid (H1.out.trans hr2)
          clear hr2
          go_wp2_with fail
          refine (HRR.out _ H2.out).mono ?_
          intro e w3 hp3
          obtain ⟨A, m, c, y, rfl⟩ := hp3.shape
          have H3 := hid hp3
          clear hp3
          go_wp2_with fail
          go_ret2
          rw [HQ.out]
          exact H3.out
      · have he2' : (er2 == 0) = false := by rw [beq_eq_false_iff_ne]; exact he2
        rw [if_pos he2] at HT
        have HE2 := hid he2
        clear he2 HRU
        go_enter Tryz.func88, Tryz.ntmps88
        go_wp2_with fail
        with_reducible refine HG.out.mono ?_
        rintro e w1 ⟨rfl, hr1⟩
        have H1 := hid hr1
        clear hr1
        go_wp2_with fail
        with_reducible refine (HGG.out _ (RI.rd H1.out)).mono ?_
        rintro e w2 ⟨rfl, hr2⟩
        have H2 := hid (H1.out.trans hr2)
        clear hr2
        go_wp2_with fail
        go_ret2
        rw [HT.out]
        exact ⟨rfl, H2.out.2, HE2.out, a2, H2.out.1⟩
    have hb2 : ((u : Int) == 32) = false := by rw [beq_eq_false_iff_ne]; omega
    rw [if_neg h32] at HT
    clear h32
    by_cases h33 : u = 33
    · subst h33
      rw [if_pos rfl] at HT
      have HGG := hid (fun W hR => HG6.out W a hR)
      have hv6 := hvl6.out a
      obtain ⟨er2, her2⟩ : ∃ er2, getErr L a 6 = er2 := ⟨_, rfl⟩
      obtain ⟨k, hk⟩ : ∃ k, getVal L a 6 = k := ⟨_, rfl⟩
      obtain ⟨a2, ha2⟩ : ∃ a2, getAt L a 6 = a2 := ⟨_, rfl⟩
      rw [her2, hk, ha2] at HT
      simp only [her2, hk, ha2] at HGG
      rw [hk] at hv6
      clear her2 hk ha2 HG5 HG6 HRI HRU hvl5 hvl6 hvl
      by_cases he2 : er2 = 0
      · subst he2
        rw [if_neg (by simp)] at HT
        have hwk : IntKind.i64.wrap (k : Int) = (k : Int) := IntWalk.i64_in _ (by omega)
        by_cases hk0 : k < 1
        · have hb3 : (k : Int) < 1 := by omega
          rw [if_pos (.inl hk0)] at HT
          clear HRW
          go_enter Tryz.func88, Tryz.ntmps88
          go_wp2_with fail
          with_reducible refine HG.out.mono ?_
          rintro e w1 ⟨rfl, hr1⟩
          have H1 := hid hr1
          clear hr1
          go_wp2_with fail
          with_reducible refine (HGG.out _ (RI.rd H1.out)).mono ?_
          rintro e w2 ⟨rfl, hr2⟩
          have H2 := hid (H1.out.trans hr2)
          clear hr2
          go_wp2_with fail
          go_ret2
          rw [HT.out]
          exact ⟨rfl, H2.out.2, by decide, a2, H2.out.1⟩
        have hb3 : ¬ (k : Int) < 1 := by omega
        by_cases hk41 : 41 < k
        · have hb4 : (41 : Int) < k := by omega
          rw [if_pos (.inr hk41)] at HT
          clear HRW
          go_enter Tryz.func88, Tryz.ntmps88
          go_wp2_with fail
          with_reducible refine HG.out.mono ?_
          rintro e w1 ⟨rfl, hr1⟩
          have H1 := hid hr1
          clear hr1
          go_wp2_with fail
          with_reducible refine (HGG.out _ (RI.rd H1.out)).mono ?_
          rintro e w2 ⟨rfl, hr2⟩
          have H2 := hid (H1.out.trans hr2)
          clear hr2
          go_wp2_with fail
          go_ret2
          rw [HT.out]
          exact ⟨rfl, H2.out.2, by decide, a2, H2.out.1⟩
        · have hb4 : ¬ (41 : Int) < k := by omega
          rw [if_neg (by omega)] at HT
          have HQ := hid (show Q = rawS L k a2 n from HT.out)
          have HRR := hid (fun W hR => HRW.out W a2 k (by omega) (by omega) hR)
          clear HRW HT hk41 hk0
          go_enter Tryz.func88, Tryz.ntmps88
          go_wp2_with fail
          with_reducible refine HG.out.mono ?_
          rintro e w1 ⟨rfl, hr1⟩
          have H1 := hid hr1
          clear hr1
          go_wp2_with fail
          with_reducible refine (HGG.out _ (RI.rd H1.out)).mono ?_
          rintro e w2 ⟨rfl, hr2⟩
          have H2 := hid (H1.out.trans hr2)
          clear hr2
          go_wp2_with fail
          refine (HRR.out _ H2.out).mono ?_
          intro e w3 hp3
          obtain ⟨A, m, c, y, rfl⟩ := hp3.shape
          have H3 := hid hp3
          clear hp3
          go_wp2_with fail
          go_ret2
          rw [HQ.out]
          exact H3.out
      · have he2' : (er2 == 0) = false := by rw [beq_eq_false_iff_ne]; exact he2
        rw [if_pos he2] at HT
        have HE2 := hid he2
        clear he2 HRW
        go_enter Tryz.func88, Tryz.ntmps88
        go_wp2_with fail
        with_reducible refine HG.out.mono ?_
        rintro e w1 ⟨rfl, hr1⟩
        have H1 := hid hr1
        clear hr1
        go_wp2_with fail
        with_reducible refine (HGG.out _ (RI.rd H1.out)).mono ?_
        rintro e w2 ⟨rfl, hr2⟩
        have H2 := hid (H1.out.trans hr2)
        clear hr2
        go_wp2_with fail
        go_ret2
        rw [HT.out]
        exact ⟨rfl, H2.out.2, HE2.out, a2, H2.out.1⟩
    have hb3 : ((u : Int) == 33) = false := by rw [beq_eq_false_iff_ne]; omega
    rw [if_neg h33] at HT
    clear h33 HG5 HG6 HRI HRW HRU hvl5 hvl6 hvl
    go_enter Tryz.func88, Tryz.ntmps88
    go_wp2_with fail
    with_reducible refine HG.out.mono ?_
    rintro e w1 ⟨rfl, hr1⟩
    have H1 := hid hr1
    clear hr1
    go_wp2_with fail
    go_ret2
    rw [HT.out]
    exact ⟨rfl, H1.out.2, by decide, a, H1.out.1⟩
  · have he' : (er == 0) = false := by rw [beq_eq_false_iff_ne]; exact he
    rw [if_pos he] at HT
    have HE := hid he
    clear he hvl HG5 HG6 HRI HRW HRU hvl5 hvl6 hmk
    go_enter Tryz.func88, Tryz.ntmps88
    go_wp2_with fail
    with_reducible refine HG.out.mono ?_
    rintro e w1 ⟨rfl, hr1⟩
    have H1 := hid hr1
    clear hr1
    go_wp2_with fail
    go_ret2
    rw [HT.out]
    exact ⟨rfl, H1.out.2, HE.out, a, H1.out.1⟩
end Go.Proofs.YtjboboaccjbebaaGreat
/- Layer 9: Get. -/
namespace Go.Proofs.YtjboboaccjbebaaGreat
open Go.RowKit

theorem GI.app {R : World → Nat → Prop} {w wr w2 : World} {p j n : Nat} {u u' : Value} {l l2 : List Int} (h : GI R w p j l u wr) (hn : l.length = n)
    (hR : ∀ w2, Kept (fun k => u.ownBlock = some k) wr w2 → R w2 j)
    (hown : w2.ownsRow 0 3 1 u' (n + (i64s l2).length) (i64s l ++ i64s l2)) (hg : wr.grownBy w2 u.ownBlock) (hm : Moved wr u u') :
    GI R w p j (l ++ l2) u' w2 := by
  subst hn
  rw [← i64s_app, i64s_length] at hown
  have hs := h.kp.size
  have hk : Kept (fun k => u.ownBlock = some k) wr w2 := (Kept.refl _ wr).grown hg fun k hk _ => hk
  refine ⟨hR w2 hk, h.kp.grown hg fun k hk hl => by have := h.new k hk; omega, by rw [List.length_append]; exact hown, fun k hk => ?_, h.lt⟩
  rcases hm with e | ⟨g, e, hge⟩
  · exact h.new k (e ▸ hk)
  · rw [hk] at e
    injection e with e
    omega
theorem GI.len_of {R : World → Nat → Prop} {w wr : World} {p j n c : Nat} {A : Option Addr} {l : List Int} (h : GI R w p j l (.slice A n c) wr) : l.length = n := by
  obtain ⟨A', c', e⟩ := h.form
  injection e with _ e _
  exact e.symm
theorem pgS_err {L : List Bool} {n q i m : Nat} {x : Int} (h : pgS L n q i m = .error x) : ∀ d : Nat, pgS L n q i (m + d) = .error x
  | 0 => h
  | d + 1 => by rw [← Nat.add_assoc, pgS, pgS_err h d]
theorem pgS_err' {L : List Bool} {n q i m : Nat} {x : Int} (h : pgS L n q i m = .error x) {k : Nat} (hk : m ≤ k) : pgS L n q i k = .error x := by
  have := pgS_err h (k - m)
  rwa [show m + (k - m) = k by omega] at this
theorem pgS_step {L : List Bool} {n q i m j : Nat} {l : List Int} (h : pgS L n q i m = .ok (l, j)) : pgS L n q i (m + 1) = match pgT L j (bndN n q (m + 1) - bndN n q m) with
      | .error e => .error e
      | .ok (l2, j2) => .ok (l ++ l2, j2) := by rw [pgS, h]; rfl
theorem partsN_few {xs : List Int} (h : InI xs) (p m : Nat) (hm : m ≤ 2 ^ p) : partsN xs p m ≤ m * (12 + 64 * xs.length) := by
  induction m with
  | zero => simp [partsN]
  | succ m ih =>
    have h1 := choose_le (partL xs p m)
    have h2 := needL_64 (part_inI h p m)
    have h3 : (partL xs p m).length ≤ xs.length := by rw [partL_length xs p m (by omega)]; have := bnd_le xs.length p (i := m + 1) hm; omega
    have h4 : needL (partL xs p m) * (partL xs p m).length ≤ 64 * xs.length := Nat.mul_le_mul h2 h3
    have ih := ih (by omega)
    unfold cW at h1
    rw [partsN, Nat.succ_mul]
    omega
/-- What Get hands back. -/
def PGPost (R : World → Nat → Prop) (w : World) (p : Nat) (S : Except Int ((List Int × Nat) × Nat)) (e : Ending) (w' : World) : Prop :=
  match S with
  | .ok ((l, q), j) => ∃ A c, e = .returned (.tuple #[.slice A l.length c, .int .i64 (q : Int), .int .i64 0]) ∧ GI R w p j l (.slice A l.length c) w'
  | .error x => e = .returned (.tuple #[.slice none 0 0, .int .i64 0, .int .i64 x]) ∧ Kept (fun k => k = p) w w' ∧ x ≠ 0 ∧ ∃ j, R w' j

set_option maxRecDepth 100000 in
set_option maxHeartbeats 16000000 in
theorem pGet_any (w : World) (p : Nat) (v : Value) (F : List Nat) (i n : Nat) (h : Rd w p v F i) (hn : n ≤ 65536) (hv : ∀ g, v.ownBlock = some g → g < w.heap.size) :
    Calls Tryz.prog 67 #[.pointer (some ⟨p, 0, none⟩), .int .i64 (n : Int)] w (PGPost (fun w' j => Rd w' p v F j) w p (pwT (flat F) i n)) := by
  have hpl := h.blk.lt
  have HG := hid (get_any w p v F i 3 h)
  have hvl := getVal_lt (flat F) i 3
  rw [show ((3 : Nat) : Int) = 3 from rfl] at hvl
  have HT := hid (pwT.eq_1 (flat F) i n)
  have HPG := hid (fun W j m (hm : m ≤ 65536) (hR : Rd W p v F j) (hs : w.heap.size ≤ W.heap.size) => pget_any W p v F j m hR hm (fun g hg => Nat.lt_of_lt_of_le (hv g hg) hs))
  have HST := hid (fun q i m l j (hh : pgS (flat F) n q i m = .ok (l, j)) => pgS_step hh)
  have HER := hid (fun q i m x (hh : pgS (flat F) n q i m = .error x) k (hm : m ≤ k) => pgS_err' hh hm)
  have HZ := hid (fun q i => show pgS (flat F) n q i 0 = .ok ([], i) from rfl)
  have HV := hid hv
  obtain ⟨L, hL⟩ : ∃ L, flat F = L := ⟨_, rfl⟩
  rw [hL] at HT hvl ⊢
  simp only [hL] at HG HPG HST HER HZ
  obtain ⟨Q, hQ⟩ : ∃ Q, pwT L i n = Q := ⟨_, rfl⟩
  rw [hQ] at HT ⊢
  obtain ⟨er, her⟩ : ∃ er, getErr L i 3 = er := ⟨_, rfl⟩
  obtain ⟨u, hu⟩ : ∃ u, getVal L i 3 = u := ⟨_, rfl⟩
  obtain ⟨a, ha⟩ : ∃ a, getAt L i 3 = a := ⟨_, rfl⟩
  rw [her, hu, ha] at HT HG
  rw [hu] at hvl
  have hn0 : ¬ (n : Int) < 0 := by omega
  have hn1 : ¬ (65536 : Int) < n := by omega
  clear hL hQ her hu ha h hv
  by_cases he : er = 0
  · subst he
    rw [if_neg (by simp)] at HT
    have hwu : IntKind.i64.wrap (u : Int) = (u : Int) := IntWalk.i64_in _ (by omega)
    have HOR := hid (fun W => order_any n (u : Int) W)
    by_cases ho : orderB n (u : Int) = true
    · rw [if_pos ho] at HT
      rw [ho] at HOR
      have hu6 : u ≤ 6 := by
        obtain ⟨q, e, h⟩ := orderB_nat ho
        omega
      have hN64 : 2 ^ u ≤ 64 := by have : 2 ^ u ≤ 2 ^ 6 := Nat.pow_le_pow_right (by omega) hu6; omega
      have HBD := hid (fun i W (hi : i < 2 ^ u) => bounds_any n u i W hn hu6 (by omega))
      have HBL := hid (fun i (hi : i ≤ 2 ^ u) => bnd_le n u hi)
      have HBM := hid (fun i => bnd_mono n u i)
      have HB0 := hid (bnd_zero n u)
      have hpi : (2 : Int) ^ u = ((2 ^ u : Nat) : Int) := (Int.natCast_pow 2 u).symm
      replace HST := hid (fun m l j => HST.out u a m l j)
      replace HER := hid (fun m x => HER.out u a m x)
      replace HZ := hid (HZ.out u a)
      obtain ⟨SS, hSS⟩ : ∃ SS, pgS L n u a = SS := ⟨_, rfl⟩
      rw [hSS] at HT HZ
      simp only [hSS] at HST HER
      obtain ⟨N, hN⟩ : ∃ N, 2 ^ u = N := ⟨_, rfl⟩
      rw [hN] at HT hN64 hpi
      simp only [hN] at HBD HBL
      have hpN : IntKind.i64.wrap ((2 : Int) ^ u) = (N : Int) := by rw [hpi]; exact IntWalk.i64_in _ (by omega)
      have hp0 : ¬ (u : Int) < 0 := by omega
      have hp64 : (u : Int) < 64 := by omega
      clear hpi hN hSS ho
      go_enter Tryz.func67, Tryz.ntmps67
      go_wp2_with fail
      with_reducible refine HG.out.mono ?_
      rintro e w1 ⟨rfl, hr1⟩
      have H1 := hid hr1
      clear hr1
      go_wp2_with fail
      with_reducible refine (HOR.out _).mono ?_
      rintro e w2 ⟨rfl, rfl⟩
      go_wp2_with fail
      go_loopw [10, 44] (fun o ix wr => ∃ (m j z : Nat) (l : List Int) (A : Option Addr) (c : Nat), m ≤ N ∧ ix = .int .i64 m ∧ o = .slice A z c ∧ z ≤ n ∧ Hid (SS m = .ok (l, j) ∧ l.length = z ∧ z = bndN n u m) ∧ Hid (GI (fun w' j => Rd w' p v F j) w p j l (.slice A z c) wr)) (fun _ ix _ => N - (intOf ix).toNat)
      case atStart => exact ⟨0, a, 0, [], none, 0, by omega, rfl, rfl, by omega, ⟨HZ.out, rfl, HB0.out.symm⟩, H1.out.1, H1.out.2, World.ownsRow_nil _ _ _ _, by simp [Value.ownBlock], hpl⟩
      case round =>
        obtain ⟨m, j, z, l, A, c, hm, rfl, rfl, hz, hs, hg⟩ := hrel
        by_cases hmn : m < N
        · have hin : (m : Int) < N := by omega
          have hb1 := HBL.out (m + 1) (by omega)
          have hb0 := HBM.out m
          have HB := hid (HBD.out m wr hmn)
          have hst := HST.out m l j hs.out.1
          have hzb := hs.out.2.2
          obtain ⟨x, hx⟩ : ∃ x, bndN n u m = x := ⟨_, rfl⟩
          obtain ⟨y, hy⟩ : ∃ y, bndN n u (m + 1) = y := ⟨_, rfl⟩
          rw [hx, hy] at hst HB
          rw [hx] at hb0 hzb
          rw [hy] at hb0 hb1
          have HY := hid hy
          have hwd : IntKind.i64.wrap ((y : Int) - (x : Int)) = ((y - x : Nat) : Int) := by rw [IntWalk.i64_in _ (by omega)]; omega
          have hdn : z + (y - x) = y := by omega
          obtain ⟨dn, hdn'⟩ : ∃ dn, y - x = dn := ⟨_, rfl⟩
          rw [hdn'] at hst hwd hdn
          have HPX := hid (fun n1 => HPG.out (wr.drewN n1) j dn (by omega) (hg.out.rd.drewN n1) (by simpa using hg.out.kp.size))
          clear hx hy hdn' hzb hb0
          obtain ⟨T, hT⟩ : ∃ T, pgT L j dn = T := ⟨_, rfl⟩
          rw [hT] at hst
          simp only [hT] at HPX
          clear hT
          rcases T with er2 | ⟨l2, j2⟩
          · have HE := hid (HER.out (m + 1) er2 hst N (by omega))
            clear hst HER
            go_wp2_with fail
            with_reducible refine HB.out.mono ?_
            rintro e w3 ⟨rfl, n3, rfl⟩
            go_wp2_with fail
            refine (HPX.out n3).mono ?_
            rintro e w4 h
            obtain ⟨rfl, hkp, hx0, hj⟩ := h
            have hb : (er2 == 0) = false := by rw [beq_eq_false_iff_ne]; exact hx0
            have H4 := hid (And.intro (hg.out.kp.trans (Kept.undrewN hkp) fun _ _ e => e) (And.intro hx0 hj))
            clear hkp hx0 hj
            go_wp2_with fail
            refine bodyPost_ret (results_tmp3 rfl _ _ _) rfl ?_
            rw [HT.out, HE.out]
            exact ⟨rfl, H4.out⟩
          · have HS := hid (show SS (m + 1) = .ok (l ++ l2, j2) from hst)
            clear hst HER
            go_wp2_with fail
            with_reducible refine HB.out.mono ?_
            rintro e w3 ⟨rfl, n3, rfl⟩
            go_wp2_with fail
            refine (HPX.out n3).mono ?_
            rintro e w4 h
            obtain ⟨A2, c2, rfl, hg2⟩ := h
            have hl2 := hg2.len_of
            have H4 := hid (And.intro (hg.out.get hg2.rd (Kept.undrewN hg2.kp)) (And.intro (Sl.of_own hg2.own) hl2))
            clear hg2 hl2
            go_wp2_with (at_builtin; go_must (refine wpList_app _ rfl (.tmp 65) (.tmp 66) 22 rfl 3 .i64 8 Tryz.underlying22 Tryz.info_int (.slice A z c) z (i64s l) rfl ?d1 (.slice A2 dn c2) (i64s l2) rfl ?d2 i64s_one (by decide) ?d3 ?_); rotate_right; intro v6 w6 hown hgr hmv; replace hown := hid hown; replace hgr := hid hgr; replace hmv := hid hmv)
            case d1 => exact H4.out.1.own_n hs.out.2.1
            case d2 => exact H4.out.2.1
            case d3 => rw [i64s_length, H4.out.2.2]; omega
            have hga := H4.out.1.app hs.out.2.1 (fun w4 hk4 => H4.out.1.rd.keep hk4 (fun e => by have := H4.out.1.new _ e; have := H4.out.1.lt; omega) fun g' hg' e => by have := H4.out.1.new _ e; have := HV.out _ hg'; omega) hown.out hgr.out hmv.out
            obtain ⟨A6, c6, rfl⟩ := hga.form
            have hl6 : (l ++ l2).length = y := by rw [List.length_append, hs.out.2.1, H4.out.2.2]; exact hdn
            rw [hl6] at hga ⊢
            have H6 := hid (And.intro hga hl6)
            clear hga hl6 hown hgr hmv
            go_wp2_with fail
            go_roundw
            case rel => exact ⟨m + 1, j2, y, l ++ l2, A6, c6, by omega, by go_num, rfl, hb1, ⟨HS.out, H6.out.2, HY.out.symm⟩, H6.out.1⟩
            case measure => simp [intOf]; omega
        · have hin : ¬ (m : Int) < N := by omega
          obtain rfl : m = N := by omega
          clear HER HST
          go_wp2_with fail
          refine bodyPost_ret (results_tmp3 rfl _ _ _) rfl ?_
          rw [HT.out, hs.out.1]
          have h := hg.out
          have hl := hs.out.2.1
          subst hl
          exact ⟨_, _, rfl, h⟩
    · rw [if_neg ho] at HT
      rw [show orderB n (u : Int) = false by simpa using ho] at HOR
      clear ho HPG HST HER HZ
      go_enter Tryz.func67, Tryz.ntmps67
      go_wp2_with fail
      with_reducible refine HG.out.mono ?_
      rintro e w1 ⟨rfl, hr1⟩
      have H1 := hid hr1
      clear hr1
      go_wp2_with fail
      with_reducible refine (HOR.out _).mono ?_
      rintro e w2 ⟨rfl, rfl⟩
      go_wp2_with fail
      refine bodyPost_ret (results_tmp3 rfl _ _ _) rfl ?_
      rw [HT.out]
      exact ⟨rfl, H1.out.2, by decide, a, H1.out.1⟩
  · have he' : (er == 0) = false := by rw [beq_eq_false_iff_ne]; exact he
    rw [if_pos he] at HT
    have HE := hid he
    clear he hvl HPG HST HER HZ
    go_enter Tryz.func67, Tryz.ntmps67
    go_wp2_with fail
    with_reducible refine HG.out.mono ?_
    rintro e w1 ⟨rfl, hr1⟩
    have H1 := hid hr1
    clear hr1
    go_wp2_with fail
    refine bodyPost_ret (results_tmp3 rfl _ _ _) rfl ?_
    rw [HT.out]
    exact ⟨rfl, H1.out.2, HE.out, a, H1.out.1⟩
end Go.Proofs.YtjboboaccjbebaaGreat
