/- Parts: RcF QaB QaD RcA. -/
import Derived.Test.YtcjmhmmjfgjcnaaGreatDoorMc03
import Derived.Test.YtcjmhmmjfgjcnaaGreatDoorMc04
import Derived.Test.YtcjmhmmjfgjcnaaGreatDoorMc09
import Derived.Test.YtcjmhmmjfgjcnaaGreatDoorMc24

/- codicilref13: one. -/
namespace Go.Proofs.YtcjmhmmjfgjcnaaGreatDoor.Cd
open Go.RowKit Go.Proofs.YtcjmhmmjfgjcnaaGreatDoor.Lx Go.Proofs.YtcjmhmmjfgjcnaaGreatDoor.Pa Go.Proofs.YtcjmhmmjfgjcnaaGreatDoor.Rf

theorem stpQ_zero (s : Stp) : stpQ s.kind 0 ⟨s.text.toArray⟩ ⟨#[]⟩ s.num 0 = decide (s = stp0) := by
  rw [Bool.eq_iff_iff, decide_eq_true_iff]
  obtain ⟨k, t, n⟩ := s
  unfold stpQ stp0
  simp only [Bool.and_eq_true, beq_iff_eq, ByteArray.toList_eq, Stp.mk.injEq]
  constructor
  · rintro ⟨h1, h2, h3⟩
    exact ⟨by omega, by simpa using h2, h3⟩
  · rintro ⟨rfl, rfl, rfl⟩
    simp

abbrev insO (x : Ins) : Obj := .cells #[.int .u8 x.op, .int .u8 x.st.kind, .string ⟨x.st.text.toArray⟩, .int .i64 x.st.num, .int .i64 x.to] 63
attribute [local go_sem high] stpQ_equal

set_option maxHeartbeats 1000000 in
set_option maxRecDepth 100000 in
theorem oneR_step (st : Stp) (to' : Int) (N i : Nat) (w : World) (ht : st.text.length ≤ 1048576) :
    Calls Tryz.prog 75 #[(⟨1, st, to'⟩ : Ins).val, .int .i64 i, .int .i64 N] w fun e w' => e = .returned (.bool (oneI N i ⟨1, st, to'⟩)) ∧ Below w.heap.size w w' := by
  have HT := Lib.hid (fun W => TakesR_calls st W ht)
  unfold Stp.val takesV at HT
  have HO : oneI N i ⟨1, st, to'⟩ = ((takes st).isSome && decide (st.kind < 21) && decide (to' = 0)) := by unfold oneI; rw [if_pos rfl]
  rw [HO]
  cases htk : takes st with
  | none =>
    rw [htk] at HT
    clear htk HO
    go_enter Tryz.func75, Tryz.ntmps75
    unfold Ins.val
    go_wp2_with fail
    refine (HT.out _).mono ?_
    rintro e w1 ⟨rfl, hb1⟩
    have Hb1 := Lib.hid (rStep (rAlloc w _) hb1)
    clear hb1
    simp only [Option.getD_none, Option.isSome_none]
    go_wp2_with fail
    go_ret
    exact ⟨rfl, Hb1.out⟩
  | some k =>
    rw [htk] at HT
    clear htk HO
    have e1 : decide ((st.kind : Int) < 21) = decide (st.kind < 21) := decide_eq_decide.2 (by omega)
    by_cases h21 : st.kind < 21
    · have h21' : (st.kind : Int) < 21 := by omega
      rw [decide_eq_true h21]
      go_enter Tryz.func75, Tryz.ntmps75
      unfold Ins.val
      go_wp2_with fail
      refine (HT.out _).mono ?_
      rintro e w1 ⟨rfl, hb1⟩
      have Hb1 := Lib.hid (rStep (rAlloc w (insO ⟨1, st, to'⟩)) hb1)
      obtain ⟨⟨k0, k1, k2, k3, k4⟩, -⟩ := fiveB ((hb1.block w.heap.size (by simp)).trans (heap_alloc_new w (insO ⟨1, st, to'⟩)))
      clear hb1
      simp only [Option.getD_some, Option.isSome_some]
      go_wp2_with fail
      go_ret
      exact ⟨ret_bool (by rw [Bool.eq_iff_iff, beq_iff_eq, decide_eq_true_iff]), Hb1.out⟩
    · have h21' : ¬ (st.kind : Int) < 21 := by omega
      rw [decide_eq_false h21, Bool.and_false, Bool.false_and]
      go_enter Tryz.func75, Tryz.ntmps75
      unfold Ins.val
      go_wp2_with fail
      refine (HT.out _).mono ?_
      rintro e w1 ⟨rfl, hb1⟩
      have Hb1 := Lib.hid (rStep (rAlloc w (insO ⟨1, st, to'⟩)) hb1)
      obtain ⟨⟨k0, k1, k2, k3, k4⟩, -⟩ := fiveB ((hb1.block w.heap.size (by simp)).trans (heap_alloc_new w (insO ⟨1, st, to'⟩)))
      clear hb1
      simp only [Option.getD_some, Option.isSome_some]
      go_wp2_with fail
      go_ret
      exact ⟨rfl, Hb1.out⟩

theorem oneI_bare (N i : Nat) (x : Ins) (h1 : x.op ≠ 1) (h2 : 2 ≤ x.op ∧ x.op ≤ 5) : oneI N i x = (decide (x.st = stp0) && (if x.op = 2 ∨ x.op = 4 then decide ((i : Int) < x.to) && decide (x.to ≤ (N : Int)) else decide (x.to = 0))) := by
  unfold oneI
  rw [if_neg h1]
  by_cases h : x.op = 2 ∨ x.op = 4
  · rw [if_pos h, if_pos h]
  · rw [if_neg h, if_neg h, if_pos (by omega)]
theorem oneI_none (N i : Nat) (x : Ins) (h : x.op = 0 ∨ 6 ≤ x.op) : oneI N i x = false := by
  unfold oneI
  rw [if_neg (by omega), if_neg (by omega), if_neg (by omega)]

set_option maxHeartbeats 1000000 in
set_option maxRecDepth 100000 in
theorem one_jump (op : Nat) (hop : op = 2 ∨ op = 4) (st : Stp) (to' : Int) (N i : Nat) (w : World) :
    Calls Tryz.prog 75 #[(⟨op, st, to'⟩ : Ins).val, .int .i64 i, .int .i64 N] w fun e w' => e = .returned (.bool (oneI N i ⟨op, st, to'⟩)) ∧ Below w.heap.size w w' := by
  have hv : oneI N i ⟨op, st, to'⟩ = (decide (st = stp0) && (decide ((i : Int) < to') && decide (to' ≤ (N : Int)))) := by
    rw [oneI_bare N i ⟨op, st, to'⟩ (by simp only; omega) (by simp only; omega)]
    simp only
    rw [if_pos (by omega)]
  rw [hv]
  clear hv
  have hq := stpQ_zero st
  cases hz : decide (st = stp0)
  · rw [hz] at hq
    rw [Bool.false_and]
    rcases hop with rfl | rfl
    all_goals
      go_enter Tryz.func75, Tryz.ntmps75
      unfold Ins.val
      go_wp2_with fail
      go_ret
      exact ⟨rfl, rAlloc w _⟩
  · rw [hz] at hq
    rw [Bool.true_and]
    rcases hop with rfl | rfl
    all_goals
      go_enter Tryz.func75, Tryz.ntmps75
      unfold Ins.val
      go_wp2_with fail
      all_goals go_ret
      all_goals refine ⟨ret_bool ?_, rAlloc w _⟩
      all_goals (simp [*]; try omega)

set_option maxHeartbeats 1000000 in
set_option maxRecDepth 100000 in
theorem one_end (op : Nat) (hop : op = 3 ∨ op = 5) (st : Stp) (to' : Int) (N i : Nat) (w : World) :
    Calls Tryz.prog 75 #[(⟨op, st, to'⟩ : Ins).val, .int .i64 i, .int .i64 N] w fun e w' => e = .returned (.bool (oneI N i ⟨op, st, to'⟩)) ∧ Below w.heap.size w w' := by
  have hv : oneI N i ⟨op, st, to'⟩ = (decide (st = stp0) && decide (to' = 0)) := by
    rw [oneI_bare N i ⟨op, st, to'⟩ (by simp only; omega) (by simp only; omega)]
    simp only
    rw [if_neg (by omega)]
  rw [hv]
  clear hv
  have hq := stpQ_zero st
  cases hz : decide (st = stp0)
  · rw [hz] at hq
    rw [Bool.false_and]
    rcases hop with rfl | rfl
    all_goals
      go_enter Tryz.func75, Tryz.ntmps75
      unfold Ins.val
      go_wp2_with fail
      go_ret
      exact ⟨rfl, rAlloc w _⟩
  · rw [hz] at hq
    rw [Bool.true_and]
    rcases hop with rfl | rfl
    all_goals
      go_enter Tryz.func75, Tryz.ntmps75
      unfold Ins.val
      go_wp2_with fail
      all_goals go_ret
      all_goals refine ⟨ret_bool ?_, rAlloc w _⟩
      all_goals rw [Bool.eq_iff_iff, beq_iff_eq, decide_eq_true_iff]


set_option maxHeartbeats 1000000 in
set_option maxRecDepth 100000 in
theorem one_calls (x : Ins) (N i : Nat) (w : World) (ht : x.st.text.length ≤ 1048576) :
    Calls Tryz.prog 75 #[x.val, .int .i64 i, .int .i64 N] w fun e w' => e = .returned (.bool (oneI N i x)) ∧ Below w.heap.size w w' := by
  obtain ⟨op, st, to'⟩ := x
  by_cases h1 : op = 1
  · subst h1; exact oneR_step st to' N i w ht
  by_cases h24 : op = 2 ∨ op = 4
  · exact one_jump op h24 st to' N i w
  by_cases h35 : op = 3 ∨ op = 5
  · exact one_end op h35 st to' N i w
  rw [oneI_none N i ⟨op, st, to'⟩ (by simp only; omega)]
  by_cases h0 : op = 0
  · subst h0
    go_enter Tryz.func75, Tryz.ntmps75
    unfold Ins.val
    go_wp2_with fail
    go_ret
    exact ⟨rfl, rAlloc w _⟩
  · have h6 : (6 : Int) ≤ op := by omega
    have h7 : ¬ (op : Int) < 1 := by omega
    go_enter Tryz.func75, Tryz.ntmps75
    unfold Ins.val
    go_wp2_with fail
    go_ret
    exact ⟨rfl, rAlloc w _⟩

end Go.Proofs.YtcjmhmmjfgjcnaaGreatDoor.Cd

/- An expression's parts, from its end: what the document's own compiler goes by. Plain. -/
namespace Go.Proofs.YtcjmhmmjfgjcnaaGreatDoor.Cd
open Go.Proofs.YtcjmhmmjfgjcnaaGreatDoor.Lx Go.Proofs.YtcjmhmmjfgjcnaaGreatDoor.Pa

def OneE (l : List Stp) : Prop := rightL l 0 = some 1
theorem rightL_snoc (u : List Stp) (s : Stp) (n m : Nat) : rightL (u ++ [s]) n = some m ↔ ∃ h k, rightL u n = some h ∧ takes s = some k ∧ k ≤ h ∧ m + k = h + 1 := by
  rw [rightL_app]
  cases hu : rightL u n with
  | none => simp
  | some h =>
    rw [Option.bind_some, rightL]
    cases ht : takes s with
    | none => simp
    | some k =>
      simp only [rightL]
      constructor
      · intro e
        split at e
        · cases e
        · exact ⟨h, k, rfl, rfl, by omega, by have := Option.some.inj e; omega⟩
      · rintro ⟨h', k', e1, e2, e3, e4⟩
        obtain rfl := Option.some.inj e1
        obtain rfl := Option.some.inj e2
        rw [if_neg (by omega)]
        congr 1
        omega
theorem rightL_pos {u : List Stp} {h : Nat} (hr : rightL u 0 = some h) (hne : u ≠ []) : 1 ≤ h := by
  rw [← List.dropLast_concat_getLast hne, rightL_snoc] at hr
  obtain ⟨h', k, _, _, h1, h2⟩ := hr
  omega
theorem rightL_zero {u : List Stp} (hr : rightL u 0 = some 0) : u = [] := by
  rcases Classical.em (u = []) with h | h
  · exact h
  · have := rightL_pos hr h
    omega
end Go.Proofs.YtcjmhmmjfgjcnaaGreatDoor.Cd

/- codicilref13.compiled: an expression's program from a place on, and where an expression begins. Plain. -/
namespace Go.Proofs.YtcjmhmmjfgjcnaaGreatDoor.Cd
open Go.Proofs.YtcjmhmmjfgjcnaaGreatDoor.Lx Go.Proofs.YtcjmhmmjfgjcnaaGreatDoor.Pa

/-! ### where the last expression begins -/
theorem rightL_len : ∀ (l : List Stp) {n m : Nat}, rightL l n = some m → m ≤ n + l.length
  | [], n, m, h => by simp only [rightL, Option.some.injEq] at h; omega
  | x :: r, n, m, h => by
    rw [rightL] at h
    split at h
    · cases h
    · split at h
      · cases h
      · have := rightL_len r h
        rw [List.length_cons]
        omega
structure BackTo (pre l : List Stp) (i need : Nat) : Prop where
  eq : ∃ u v, l = pre ++ u ++ v ∧ i = pre.length + u.length ∧ rightL u 0 = some need
theorem BackTo.start {pre g : List Stp} (h : OneE g) : BackTo pre (pre ++ g) (pre ++ g).length 1 := ⟨⟨g, [], by simp, by simp, h⟩⟩
theorem BackTo.stop {pre l : List Stp} {i : Nat} (h : BackTo pre l i 0) : i = pre.length := by
  obtain ⟨u, v, -, rfl, hu⟩ := h.eq
  rw [rightL_zero hu]
  rfl
theorem BackTo.step {pre l : List Stp} {i need : Nat} (h : BackTo pre l i need) (hn : need ≠ 0) : ∃ (j : Nat) (x : Stp) (k : Nat), i = j + 1 ∧ l[j]? = some x ∧ takes x = some k ∧ need + k ≤ i ∧ 1 ≤ need + k ∧ BackTo pre l j (need + k - 1) := by
  obtain ⟨u, v, rfl, rfl, hu⟩ := h.eq
  have hne : u ≠ [] := by
    rintro rfl
    simp only [rightL, Option.some.injEq] at hu
    exact hn hu.symm
  obtain ⟨u', x, rfl⟩ : ∃ u' x, u = u' ++ [x] := ⟨_, _, (List.dropLast_concat_getLast hne).symm⟩
  obtain ⟨h', k, h1, h2, h3, h4⟩ := (rightL_snoc u' x 0 need).1 hu
  have hle := rightL_len u' h1
  have hget : (pre ++ (u' ++ [x]) ++ v)[pre.length + u'.length]? = some x := by
    rw [List.append_assoc, List.getElem?_append_right (by omega), Nat.add_sub_cancel_left, List.append_assoc, List.getElem?_append_right (by omega), Nat.sub_self]
    rfl
  refine ⟨pre.length + u'.length, x, k, by rw [List.length_append, List.length_singleton]; omega, hget, h2, by rw [List.length_append, List.length_singleton]; omega, by omega, ⟨⟨u', [x] ++ v, by simp, rfl, ?_⟩⟩⟩
  rw [h1]
  congr 1
  omega

end Go.Proofs.YtcjmhmmjfgjcnaaGreatDoor.Cd
