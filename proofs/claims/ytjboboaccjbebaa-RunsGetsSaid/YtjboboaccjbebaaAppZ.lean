/- append of so many noughts ('append(l, make([]int, n)...)' is one operation: the noughts are counted, not made). -/
import Derived.Test.YtjboboaccjbebaaApp
namespace Go.Proofs.Ytjboboaccjbebaa
open Go.RowKit

section
variable {P : Program} (w : World)
theorem zeroCells_rep (z : Value) (n : Nat) : Builtin.zeroCells #[z] n = (List.replicate n z).toArray := by
  apply Array.ext
  · simp [size_zeroCells]
  · intro i h1 h2
    simp [Builtin.zeroCells, Nat.mod_one]

theorem run_appz (t u ty e : TypeId) (ht : P.underlying t = some (.slice e)) (ku : IntKind) (hu : P.underlying u = some (.int ku)) (k : IntKind) (bytes : Nat) (hinfo : (P.info? e).map (fun i => (i.zero, i.size, i.bytes)) = some (some (.int k 0), 1, bytes))
    (v : Value) (n : Nat) (xs : List Value) (hown : w.ownsRow 0 e 1 v n xs) (xi : Int) (m : Nat) (hx : IntKind.i64.wrap xi = (m : Int)) (hb : bytes ≤ 8) (hn : n + m ≤ 17179869184) :
    ∃ v' w', (Builtin.append_ #[t, u] ty #[v, .int ku xi]).run P w = .ok v' w' ∧ w'.ownsRow 0 e 1 v' (n + m) (xs ++ List.replicate m (.int k 0)) ∧ w.grownBy w' v.ownBlock ∧ Moved w v v' := by
  obtain ⟨i, hi, hz, hsize, hby⟩ := info_parts hinfo
  have h63 : n + m ≤ maxLen := by unfold maxLen; omega
  have hbytes : (n + m) * i.bytes ≤ 140737488355328 := by
    rw [hby]
    have : (n + m) * bytes ≤ (n + m) * 8 := Nat.mul_le_mul_left _ hb
    omega
  have hmb : (m : Int) * i.bytes ≤ 281474976710656 := by
    rw [hby]
    have h1 : m * bytes ≤ m * 8 := Nat.mul_le_mul_left _ hb
    have h2 : ((m * bytes : Nat) : Int) = (m : Int) * (bytes : Int) := by simp
    rw [← h2]
    omega
  have hm0 : ¬ ((m : Int) < 0) := by omega
  have hmb' : ¬ ((281474976710656 : Int) < (m : Int) * i.bytes) := by omega
  have hlen : (xs ++ List.replicate m (Value.int k 0)).length = (n + m) * 1 := by rw [List.length_append, List.length_replicate, hown.1]; omega
  have grown : ∀ (old : Nat), old < n + m → ∀ (row : Option Nat),
      (w.drew.alloc (.cells (xs.toArray ++ (List.replicate m (Value.int k 0)).toArray ++ Builtin.zeroCells #[.int k 0] (grownCap w (n + m) old e - (n + m))) e)).ownsRow 0 e 1
        (.slice (some ⟨w.heap.size, 0, none⟩) (n + m) (grownCap w (n + m) old e)) (n + m) (xs ++ List.replicate m (Value.int k 0)) ∧
      w.grownBy (w.drew.alloc (.cells (xs.toArray ++ (List.replicate m (Value.int k 0)).toArray ++ Builtin.zeroCells #[.int k 0] (grownCap w (n + m) old e - (n + m))) e)) row := by
    intro old ho row
    have hge := grownCap_ge w (n + m) old e
    have hcm : grownCap w (n + m) old e ≤ maxLen := grownCap_le_maxLen w (n + m) old e h63
    have hxl : xs.length = n := by have := hown.1; omega
    refine ⟨⟨hlen, .inr ⟨w.heap.size, _, _, rfl, Nat.zero_le _, heap_alloc_new w.drew _, hge, hcm, ?_, ?_⟩⟩, ⟨rfl, rfl, rfl, by simp, fun k hk _ => heap_alloc_old w.drew _ k hk⟩⟩
    · simp only [Array.size_append, List.size_toArray, size_zeroCells, List.length_replicate, hxl]
      simp
      omega
    · simp only [Array.toList_append, List.append_assoc]
      rw [← List.append_assoc, ← hlen]
      exact List.take_left
  rcases hown.2 with ⟨rfl, rfl⟩ | ⟨g, cap, cur, rfl, hbg, hg, hnc, hcm, hcs, htake⟩
  · have hxn : xs = [] := List.eq_nil_of_length_eq_zero (by simpa using hown.1)
    subst hxn
    by_cases hm : m = 0
    · subst hm
      refine ⟨.slice none 0 0, w, ?_, World.ownsRow_nil w 0 e 1, ⟨rfl, rfl, rfl, Nat.le_refl _, fun _ _ _ => rfl⟩, .inl rfl⟩
      simp [Builtin.append_, run_underlying ht, run_underlying hu, sizeOf, typeInfo, hi, hx, asInt, asIntOf]
    · have hgr := grown 0 (by omega) (Value.ownBlock (.slice none 0 0))
      have hn0 : ¬ m = 0 := hm
      have h48' : ¬ (281474976710656 < Builtin.nextslicecap m 0 * i.bytes) := by rw [nextslicecap_zero (by omega)]; simp only [Nat.zero_add] at hbytes; omega
      have h63' : ¬ (9223372036854775807 < (m : Int)) := by unfold maxLen at h63; omega
      refine ⟨_, _, ?_, hgr.1, hgr.2, .inr ⟨_, rfl, Nat.le_refl _⟩⟩
      simp [Builtin.append_, run_underlying ht, run_underlying hu, sizeOf, typeInfo, zeroValue, hi, hz, hx, asInt, asIntOf, hm0, hmb', hn0, h48', h63', hsize, Question.forced, run_firstCells_none, newRow, grownCap, zeroCells_rep, Value.cells]
      done
  · by_cases hroom : n + m ≤ cap
    · by_cases hm : m = 0
      · subst hm
        refine ⟨.slice (some ⟨g, 0, none⟩) n cap, w, ?_, by simpa using hown, ⟨rfl, rfl, rfl, Nat.le_refl _, fun _ _ _ => rfl⟩, .inl rfl⟩
        simp [Builtin.append_, run_underlying ht, run_underlying hu, sizeOf, typeInfo, hi, hx, asInt, asIntOf, hnc, storeCells]
      have hxl : xs.length = n := by have := hown.1; omega
      have hfit : n * 1 + (List.replicate m (Value.int k 0)).length ≤ cur.size := by rw [List.length_replicate, hcs]; omega
      have hst := run_storeCells_at P g (n * 1) e (List.replicate m (Value.int k 0)) 0 cur w hg (by simpa using hfit) (fun u hu => by rw [List.eq_of_mem_replicate hu]; rfl)
      simp only [Nat.add_zero] at hst
      have hr : (Builtin.append_ #[t, u] ty #[.slice (some ⟨g, 0, none⟩) n cap, .int ku xi]).run P w = .ok (.slice (some ⟨g, 0, none⟩) (n + m) cap) (w.setRow g (cur.toList.take (n * 1) ++ List.replicate m (Value.int k 0) ++ cur.toList.drop (n * 1 + (List.replicate m (Value.int k 0)).length)).toArray) := by
        have hadd : (⟨g, 0, none⟩ : Addr).add n = ⟨g, n * 1, none⟩ := by rw [Nat.mul_one]; exact by unfold Addr.add; split <;> simp_all
        simp [Builtin.append_, run_underlying ht, run_underlying hu, sizeOf, typeInfo, zeroValue, hi, hz, hx, asInt, asIntOf, hm0, hmb', hm, hsize, hroom, zeroCells_rep, Value.cells, hadd]
        simp only [Nat.mul_one, List.length_replicate] at hst
        rw [hst]
        simp
      refine ⟨_, _, hr, ⟨hlen, .inr ⟨g, cap, _, rfl, hbg, setRow_heap w g cur _ e _ hg, hroom, hcm, ?_, ?_⟩⟩, ⟨rfl, rfl, rfl, by simp, fun k _ hk => setRow_other w g k _ (fun e => hk (by simp [Value.ownBlock, e]))⟩, .inl rfl⟩
      · simp only [List.size_toArray, List.length_append, List.length_take, List.length_drop, Array.length_toList, List.length_replicate]
        omega
      · rw [htake, ← hlen]
        exact List.take_left
    · have holds : ∀ j u, xs[j]? = some u → w.cell? ((⟨g, 0, none⟩ : Addr).add j) = some u := hown.cells (g := g) rfl
      have hgr := grown cap (by omega) (Value.ownBlock (.slice (some ⟨g, 0, none⟩) n cap))
      have hm : ¬ m = 0 := by omega
      have h48' : ¬ (281474976710656 < Builtin.nextslicecap (n + m) cap * i.bytes) := by have := growslice_fits (need := n + m) (old := cap) (by omega) hbytes; omega
      have h63' : ¬ (9223372036854775807 < ((n : Int) + (m : Int))) := by unfold maxLen at h63; omega
      have hfo := run_firstCells_some (P := P) w.drew 1 n ⟨g, 0, none⟩ n cap xs hown.1 (by simpa using holds)
      refine ⟨_, _, ?_, hgr.1, hgr.2, .inr ⟨_, rfl, Nat.le_refl _⟩⟩
      simp [Builtin.append_, run_underlying ht, run_underlying hu, sizeOf, typeInfo, zeroValue, hi, hz, hx, asInt, asIntOf, hm0, hmb', hm, hroom, h48', h63', hsize, Question.forced, hfo, newRow, grownCap, zeroCells_rep, Value.cells]
      done

theorem wp_appz {o : Oper} {a : Act} {K : Act → World → Prop} {Q : Exit → Act → World → Prop} (s x : Operand) (t u : TypeId)
    (ho : o.op = .call { callee := .builtin .append, args := #[s, x], argTypes := #[t, u] })
    (e : TypeId) (ku : IntKind) (hu : P.underlying u = some (.int ku)) (k : IntKind) (bytes : Nat) (ht : P.underlying t = some (.slice e)) (hinfo : (P.info? e).map (fun i => (i.zero, i.size, i.bytes)) = some (some (.int k 0), 1, bytes))
    (v : Value) (n : Nat) (xs : List Value) (hs : a.eval s = v) (hown : w.ownsRow 0 e 1 v n xs) (xi : Int) (m : Nat) (hxe : a.eval x = .int ku xi) (hx : IntKind.i64.wrap xi = (m : Int)) (hb : bytes ≤ 8) (hn : n + m ≤ 17179869184)
    (h : ∀ v' w', w'.ownsRow 0 e 1 v' (n + m) (xs ++ List.replicate m (.int k 0)) → w.grownBy w' v.ownBlock → Moved w v v' → K (a.put o.dst v') w') : o.wp P a w K Q := by
  obtain ⟨v', w', hr, h2, h3, h4⟩ := run_appz (P := P) w t u o.type e ht ku hu k bytes hinfo v n xs hown xi m hx hb hn
  unfold Oper.wp execOp
  simp only [ho, resolve, invoke, builtin, Sem.run_bind, Sem.run_pure, Result.andThen_ok, List.map_toArray, List.map_cons, List.map_nil, hs, hxe, hr]
  exact h v' w' h2 h3 h4

/-- append of so many noughts onto a slice of the call's own, at a plain operation. -/
theorem wpList_appz {ops : Array Oper} {rest : List Oper} {o : Oper} {a : Act} {Q : Exit → Act → World → Prop} (hgd : o.guard = none) (s x : Operand) (t u : TypeId)
    (ho : o.op = .call { callee := .builtin .append, args := #[s, x], argTypes := #[t, u] })
    (e : TypeId) (ku : IntKind) (hu : P.underlying u = some (.int ku)) (k : IntKind) (bytes : Nat) (ht : P.underlying t = some (.slice e)) (hinfo : (P.info? e).map (fun i => (i.zero, i.size, i.bytes)) = some (some (.int k 0), 1, bytes))
    (v : Value) (n : Nat) (xs : List Value) (hs : a.eval s = v) (hown : w.ownsRow 0 e 1 v n xs) (xi : Int) (m : Nat) (hxe : a.eval x = .int ku xi) (hx : IntKind.i64.wrap xi = (m : Int)) (hb : bytes ≤ 8) (hn : n + m ≤ 17179869184)
    (h : ∀ v' w', w'.ownsRow 0 e 1 v' (n + m) (xs ++ List.replicate m (.int k 0)) → w.grownBy w' v.ownBlock → Moved w v v' → wpList P ops Q rest (a.put o.dst v') w') : wpList P ops Q (o :: rest) a w :=
  wpList_plain hgd fun _ hK => wp_appz w s x t u ho e ku hu k bytes ht hinfo v n xs hs hown xi m hxe hx hb hn fun v' w' h2 h3 h4 => hK _ _ (h v' w' h2 h3 h4)
end
end Go.Proofs.Ytjboboaccjbebaa
