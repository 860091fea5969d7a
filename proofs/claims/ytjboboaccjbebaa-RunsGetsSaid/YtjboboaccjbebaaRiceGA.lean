/- Layer 6: GetAll, and the reference's. -/
import Derived.Test.YtjboboaccjbebaaRefG06
import Derived.Test.YtjboboaccjbebaaU64
import Derived.Test.YtjboboaccjbebaaCFuncU
namespace Go.Proofs.Ytjboboaccjbebaa
open Go.RowKit

/-- So many numbers, one behind the other, from place i on. -/
def rgS (L : List Bool) (k i : Nat) : Nat → Except Int (List Nat × Nat)
  | 0 => .ok ([], i)
  | n + 1 => match rgS L k i n with
    | .error e => .error e
    | .ok (l, j) => if (rgT L j k).2.1 = 0 then .ok (l ++ [(rgT L j k).1], (rgT L j k).2.2) else .error (rgT L j k).2.1
theorem rgS_step {L : List Bool} {k i m j : Nat} {l : List Nat} (h : rgS L k i m = .ok (l, j)) : rgS L k i (m + 1) = if (rgT L j k).2.1 = 0 then .ok (l ++ [(rgT L j k).1], (rgT L j k).2.2) else .error (rgT L j k).2.1 := by rw [rgS, h]
theorem rgS_err {L : List Bool} {k i n : Nat} {x : Int} (h : rgS L k i n = .error x) (m : Nat) : rgS L k i (n + m) = .error x := by
  induction m with
  | zero => exact h
  | succ m ih => show rgS L k i (n + m + 1) = _; rw [rgS, ih]
theorem rgS_err' {L : List Bool} {k i n : Nat} {x : Int} (h : rgS L k i n = .error x) {m : Nat} (hm : n ≤ m) : rgS L k i m = .error x := by
  have := rgS_err h (m - n)
  rwa [show n + (m - n) = m by omega] at this
theorem rgS_len {L : List Bool} {k i : Nat} : ∀ {n : Nat} {l : List Nat} {j : Nat}, rgS L k i n = .ok (l, j) → l.length = n
  | 0, l, j, h => by
    rw [rgS] at h
    injection h with h
    injection h with h1 h2
    subst h1
    rfl
  | n + 1, l, j, h => by
    rw [rgS] at h
    cases e : rgS L k i n with
    | error x => rw [e] at h; cases h
    | ok a =>
      obtain ⟨l', j'⟩ := a
      rw [e] at h
      have hl := rgS_len e
      simp only at h
      split at h
      · injection h with h
        injection h with h1 h2
        subst h1
        simp [hl]
      · cases h
theorem rgT_lt (L : List Bool) (i k : Nat) (hk : k ≤ 30) : (rgT L i k).1 < 18446744073709551616 := by
  rw [rgT]
  have h1 := onesVal_le L i 24
  have h2 := getVal_lt L (onesAt L i 24) k
  have h3 := getVal_lt L (onesAt L i 24) 40
  rw [show ((24 : Nat) : Int) = 24 from rfl] at h1
  rw [show ((40 : Nat) : Int) = 40 from rfl] at h3
  have h4 : 2 ^ k ≤ 2 ^ 30 := Nat.pow_le_pow_right (by omega) hk
  have h5 := Nat.mul_le_mul h1 h4
  split
  · show 0 < _; omega
  · split
    · split
      · show 0 < _; omega
      · show _ + _ < _; omega
    · split
      · show 0 < _; omega
      · split
        · show 0 < _; omega
        · show getVal L (onesAt L i 24) 40 < _; omega

/-- The state of GetAll: a reader (of any sort R) and what was got. -/
structure GU (R : World → Nat → Prop) (w : World) (p : Nat) (j : Nat) (l : List Nat) (u : Value) (wr : World) : Prop where
  rd : R wr j
  kp : Kept (fun k => k = p) w wr
  own : wr.ownsRow 0 42 1 u l.length (u64s l)
  new : ∀ g, u.ownBlock = some g → w.heap.size ≤ g
  lt : p < w.heap.size
section
variable {R : World → Nat → Prop} {w wr w1 w2 : World} {p j j' : Nat} {u : Value} {l : List Nat}
theorem GU.get (h : GU R w p j l u wr) (h1 : R w1 j') (k : Kept (fun k => k = p) wr w1) : GU R w p j' l u w1 :=
  ⟨h1, h.kp.trans k fun _ _ e => e, own_kept h.own k fun g hg e => by have := h.new g hg; have := h.lt; omega, h.new, h.lt⟩
theorem GU.grow {x : Nat} {n g cap : Nat} {o : Obj} (h : GU R w p j l u wr) (hn : l.length = n)
    (hR : ∀ w2, Kept (fun k => u.ownBlock = some k) wr w2 → R w2 j)
    (hown : w2.ownsRow 0 42 1 (.slice (some ⟨g, 0, none⟩) (n + 1) cap) (n + 1) (u64s l ++ [.int .u64 (x : Int)])) (hg : (wr.alloc o).grownBy w2 u.ownBlock) (hm : u.ownBlock = some g ∨ g = wr.heap.size + 1) :
    GU R w p j (l ++ [x]) (.slice (some ⟨g, 0, none⟩) (n + 1) cap) w2 := by
  subst hn
  rw [u64s_append_one] at hown
  have hs := h.kp.size
  have hk : Kept (fun k => u.ownBlock = some k) wr w2 := ((Kept.refl _ wr).alloc o).grown hg fun k hk _ => hk
  refine ⟨hR w2 hk, (h.kp.alloc o).grown hg fun k hk hl => by have := h.new k hk; omega, by rw [List.length_append]; exact hown, fun k hk => ?_, h.lt⟩
  simp [Value.ownBlock] at hk
  subst hk
  rcases hm with e | e
  · exact h.new g e
  · omega
theorem GU.own_n {n : Nat} (h : GU R w p j l u wr) (hn : l.length = n) : wr.ownsRow 0 42 1 u n (u64s l) := hn ▸ h.own
end

/-- What GetAll hands back. -/
def GAPost (R : World → Nat → Prop) (w : World) (p : Nat) (S : Except Int (List Nat × Nat)) (n : Nat) (e : Ending) (w' : World) : Prop :=
  match S with
  | .ok (l, j) => ∃ A c, e = .returned (.tuple #[.slice A n c, .int .i64 0]) ∧ GU R w p j l (.slice A n c) w'
  | .error x => e = .returned (.tuple #[.slice none 0 0, .int .i64 x]) ∧ Kept (fun k => k = p) w w' ∧ x ≠ 0 ∧ ∃ j, R w' j

theorem rgetall_nil (n k : Int) (w : World) : Calls Try.prog 159 #[.pointer none, .int .i64 n, .int .i64 k] w fun e w' => e = .returned (.tuple #[.slice none 0 0, .int .i64 2]) ∧ w = w' := by
  go_enter Try.func159, Try.ntmps159
  go_wp2_with fail
  go_ret2
  exact ⟨rfl, rfl⟩
theorem rgetall_arg (p : Nat) (n k : Int) (w : World) (h : paramB k = false ∨ n < 0 ∨ 1048576 < n) : Calls Try.prog 159 #[.pointer (some ⟨p, 0, none⟩), .int .i64 n, .int .i64 k] w fun e w' => e = .returned (.tuple #[.slice none 0 0, .int .i64 1]) ∧ w = w' := by
  have HP := param_any k w
  obtain ⟨b, hb⟩ : ∃ b, paramB k = b := ⟨_, rfl⟩
  rw [hb] at HP h
  replace HP := hid HP
  clear hb
  cases b
  · clear h
    go_enter Try.func159, Try.ntmps159
    go_wp2_with fail
    with_reducible refine HP.out.mono ?_
    rintro e w1 ⟨rfl, rfl⟩
    go_wp2_with fail
    go_ret2
    exact ⟨rfl, rfl⟩
  · by_cases h1 : n < 0
    · clear h
      go_enter Try.func159, Try.ntmps159
      go_wp2_with fail
      with_reducible refine HP.out.mono ?_
      rintro e w1 ⟨rfl, rfl⟩
      go_wp2_with fail
      go_ret2
      exact ⟨rfl, rfl⟩
    · have h2 : 1048576 < n := by rcases h with h | h | h <;> first | exact h | cases h | omega
      clear h
      go_enter Try.func159, Try.ntmps159
      go_wp2_with fail
      with_reducible refine HP.out.mono ?_
      rintro e w1 ⟨rfl, rfl⟩
      go_wp2_with fail
      go_ret2
      exact ⟨rfl, rfl⟩

set_option maxRecDepth 100000 in
set_option maxHeartbeats 4000000 in
theorem rgetall_any (w : World) (p : Nat) (v : Value) (F : List Nat) (i k n : Nat) (h : Rd w p v F i) (hk : k ≤ 30) (hn : n ≤ 1048576) (hv : ∀ g, v.ownBlock = some g → g < w.heap.size) :
    Calls Try.prog 159 #[.pointer (some ⟨p, 0, none⟩), .int .i64 (n : Int), .int .i64 (k : Int)] w (GAPost (fun w' j => Rd w' p v F j) w p (rgS (flat F) k i n) n) := by
  have HP := param_any (k : Int) w
  rw [(paramB_iff (k : Int)).2 (by omega)] at HP
  replace HP := hid HP
  have HG := hid (fun w' j (h : Rd w' p v F j) => rget_any w' p v F j k h hk)
  have HL := hid (fun j => rgT_lt (flat F) j k hk)
  have HV := hid hv
  have G0 := hid (show GU (fun w' j => Rd w' p v F j) w p i [] (.slice none 0 0) w from ⟨h, .refl _ _, World.ownsRow_nil _ _ _ _, by simp [Value.ownBlock], h.blk.lt⟩)
  clear h hv
  obtain ⟨L, hL⟩ : ∃ L, flat F = L := ⟨_, rfl⟩
  rw [hL] at HG HL ⊢
  clear hL
  go_enter Try.func159, Try.ntmps159
  go_wp2_with fail
  with_reducible refine HP.out.mono ?_
  rintro e w1 ⟨rfl, rfl⟩
  go_wp2_with fail
  go_loopw [8, 27] (fun o c wr => ∃ (m : Nat) (l : List Nat) (j : Nat) (A : Option Addr) (cc : Nat), m ≤ n ∧ c = .int .i64 m ∧ o = .slice A m cc ∧ Hid (rgS L k i m = .ok (l, j)) ∧ Hid (GU (fun w' j => Rd w' p v F j) w p j l (.slice A m cc) wr)) (fun _ c _ => n - (intOf c).toNat)
  case atStart => exact ⟨0, [], i, none, 0, by omega, rfl, rfl, rfl, G0.out⟩
  case round =>
    obtain ⟨m, l, j, A, cc, hm, rfl, rfl, hS, hG⟩ := hrel
    by_cases hmn : m < n
    · have hin : (m : Int) < n := by omega
      have hC := HG.out wr j hG.out.rd
      have hxl := HL.out j
      have hR := hid (rgS_step hS.out)
      obtain ⟨r, hr⟩ : ∃ r, rgT L j k = r := ⟨_, rfl⟩
      rw [hr] at hC hxl hR
      clear hr
      obtain ⟨x, e1, a⟩ := r
      replace hC := hid hC
      simp only at hxl
      by_cases he : e1 = 0
      · subst he
        go_wp2_with fail
        with_reducible refine hC.out.mono ?_
        rintro e w2 ⟨rfl, hr2⟩
        have G2 := hid (hG.out.get (RI.rd hr2) hr2.2)
        clear hr2
        go_wp2_with (at_builtin; go_must (refine wpList_app1 _ rfl (.tmp 38) (.tmp 40) 95 rfl 42 .u64 8 Try.underlying95 Try.info_uint (.slice A m cc) (u64s l) m rfl ?d1 ⟨w2.heap.size, 0, none⟩ (x : Int) rfl ?d3 (by decide) ?d4 (w2.heap.size + 1) ?d5 ?_); rotate_right; intro g cap w3 hown3 hg3 hat hlt; replace hown3 := hid hown3; replace hg3 := hid hg3; replace hat := hid hat)
        case d1 => exact (G2.out.own_n (rgS_len hS.out)).alloc _
        case d3 => exact World.cell?_alloc_at _ _ _ _ rfl
        case d4 => omega
        case d5 => simp
        have hgr := G2.out.grow (rgS_len hS.out) (fun w4 hk4 => G2.out.rd.keep hk4 (fun e => by have := G2.out.new _ e; have := G2.out.lt; omega) fun g' hg' e => by have := G2.out.new _ e; have := HV.out _ hg'; omega) hown3.out hg3.out hat.out
        have hst := hR.out
        rw [if_pos trivial] at hst
        go_roundw
        case rel => exact ⟨m + 1, _, _, _, _, by omega, by go_num, rfl, hst, hgr⟩
        case measure => simp [intOf]; omega
      · have he' : (e1 == 0) = false := by rw [beq_eq_false_iff_ne]; exact he
        have HE := hid he
        clear he
        go_wp2_with fail
        with_reducible refine hC.out.mono ?_
        rintro e w2 ⟨rfl, hr2⟩
        have G2 := hid (hG.out.get (RI.rd hr2) hr2.2)
        clear hr2
        go_wp2_with fail
        go_ret2
        have hst := hR.out
        rw [if_neg HE.out] at hst
        unfold GAPost
        rw [rgS_err' hst (by omega)]
        exact ⟨rfl, G2.out.kp, HE.out, _, G2.out.rd⟩
    · have hin : ¬ (m : Int) < n := by omega
      obtain rfl : m = n := by omega
      go_wp2_with fail
      go_ret2
      unfold GAPost
      rw [hS.out]
      exact ⟨A, cc, rfl, hG.out⟩
end Go.Proofs.Ytjboboaccjbebaa
