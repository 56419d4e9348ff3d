/- Parts: PbC. -/
import Derived.Test.YtcjmhmmjfgjcnaaGreatDoorMh28
import Derived.Deep.QuietTactic
import Derived.BigQuiet

/- parse: Takes. -/
namespace Go.Proofs.YtcjmhmmjfgjcnaaGreatDoor.Pa
open Go.RowKit Go.Proofs.YtcjmhmmjfgjcnaaGreatDoor.Lx

structure TkM (w wx : World) (y z : Stp) : Prop where
  c1 : wx.heap[w.heap.size]? = some (.cells #[.int .u8 y.kind, .string ⟨y.text.toArray⟩, .int .i64 y.num] 48)
  c2 : wx.heap[w.heap.size + 1]? = some (.cells #[.int .u8 z.kind, .string ⟨z.text.toArray⟩, .int .i64 z.num] 48)
  bel : Below w.heap.size w wx
theorem TkM.start (w : World) (y z : Stp) (n : Nat) : TkM w (((w.alloc (.cells #[.int .u8 y.kind, .string ⟨y.text.toArray⟩, .int .i64 y.num] 48)).alloc (.cells #[.int .u8 z.kind, .string ⟨z.text.toArray⟩, .int .i64 z.num] 48)).drewN n) y z := by
  have hb : Below ((w.alloc (.cells #[.int .u8 y.kind, .string ⟨y.text.toArray⟩, .int .i64 y.num] 48)).alloc (.cells #[.int .u8 z.kind, .string ⟨z.text.toArray⟩, .int .i64 z.num] 48)).heap.size _ _ := below_drewN (Below.refl _ ((w.alloc (.cells #[.int .u8 y.kind, .string ⟨y.text.toArray⟩, .int .i64 y.num] 48)).alloc (.cells #[.int .u8 z.kind, .string ⟨z.text.toArray⟩, .int .i64 z.num] 48))) n
  refine ⟨(hb.block _ (by simp; omega)).trans ((Below.heap_alloc _ _ _ (by simp)).trans (heap_alloc_new _ _)), (hb.block _ (by simp)).trans ?_, ((((Below.refl _ _).alloc (Nat.le_refl _) _).alloc (by simp) _)).trans (hb.mono (by simp; omega))⟩
  have := heap_alloc_new (w.alloc (.cells #[.int .u8 y.kind, .string ⟨y.text.toArray⟩, .int .i64 y.num] 48)) (.cells #[.int .u8 z.kind, .string ⟨z.text.toArray⟩, .int .i64 z.num] 48)
  simpa using this
theorem TkM.step {w wx w' : World} {y z : Stp} (h : TkM w wx y z) (hb : Below wx.heap.size wx w') : TkM w w' y z :=
  ⟨(hb.block _ (lt_of_heap h.c1)).trans h.c1, (hb.block _ (lt_of_heap h.c2)).trans h.c2, h.bel.trans (hb.mono h.bel.size)⟩
theorem TkM.drew {w wx : World} {y z : Stp} (h : TkM w wx y z) : TkM w wx.drew y z := h.step (Below.refl _ _).drew
theorem TkM.set {w wx : World} {y z : Stp} (h : TkM w wx y z) (z' : Stp) (i : Nat) (v : Value) (e : (#[.int .u8 z.kind, .string ⟨z.text.toArray⟩, .int .i64 z.num] : Array Value).setIfInBounds i v = #[.int .u8 z'.kind, .string ⟨z'.text.toArray⟩, .int .i64 z'.num]) :
    TkM w (wx.setCell ⟨w.heap.size + 1, i, none⟩ v) y z' :=
  ⟨(Below.heap_setCell _ _ _ _ (show w.heap.size ≠ w.heap.size + 1 by omega)).trans h.c1, set_block h.c2 _ _ e, h.bel.setCell (show w.heap.size ≤ w.heap.size + 1 by omega) _⟩
theorem three'' {w : World} {B : Nat} {a b c : Value} {T : TypeId} (h : w.heap[B]? = some (.cells #[a, b, c] T)) :
    (w.cell? ⟨B, 0, none⟩ = some a ∧ w.cell? ⟨B, 1, none⟩ = some b ∧ w.cell? ⟨B, 2, none⟩ = some c) ∧
    (w.frozen? ⟨B, 0, none⟩ = false ∧ w.frozen? ⟨B, 1, none⟩ = false ∧ w.frozen? ⟨B, 2, none⟩ = false) := by
  simp [World.cell?, World.frozen?, h]
theorem takesV_some (k : Nat) : takesV (some k) = .tuple #[.int .i64 k, .bool true] := rfl

attribute [local go_sem high] stp_equal
set_option maxHeartbeats 1000000 in
set_option maxRecDepth 100000 in
theorem takes_k1 (y : Stp) (w : World) (h0 : y.kind = 1) :
    Calls Tryz.prog 19 #[y.val] w fun e w' => e = .returned (takesV (takes y)) ∧ Below w.heap.size w w' := by
  have b23 : (y.kind : Int) < 23 := by omega
  have HT0 : (((true) = true → y = ⟨y.kind, [], 0⟩ → takesV (takes y) = .tuple #[.int .i64 (0), .bool true]) ∧ ((true) = false ∨ y ≠ ⟨y.kind, [], 0⟩ → takesV (takes y) = .tuple #[.int .i64 0, .bool false])) := by
    have ht : takes y = if y.text = [] ∧ y.num = 0 then some 0 else none := by
      unfold takes
      rw [if_pos (by omega)]
    refine ⟨fun _ e => ?_, fun h => ?_⟩
    · rw [ht, if_pos (by rw [e]; exact ⟨rfl, rfl⟩)]; rfl
    · rw [ht, if_neg]
      · rfl
      · rintro ⟨h1, h2⟩
        rcases h with h | h
        · cases h
        · exact h (by cases y; simp_all)
  have HT := Lib.hid HT0
  clear HT0
  have b0 : ((y.kind : Int) == 0) = false := by rw [beq_eq_false_iff_ne]; omega
  have b1 : ((y.kind : Int) == 1) = true := by rw [beq_iff_eq]; omega
  have b2 : ((y.kind : Int) == 2) = false := by rw [beq_eq_false_iff_ne]; omega
  have b3 : ((y.kind : Int) == 3) = false := by rw [beq_eq_false_iff_ne]; omega
  have b4 : ((y.kind : Int) == 4) = false := by rw [beq_eq_false_iff_ne]; omega
  have b5 : ((y.kind : Int) == 5) = false := by rw [beq_eq_false_iff_ne]; omega
  have b6 : ((y.kind : Int) == 6) = false := by rw [beq_eq_false_iff_ne]; omega
  have b7 : ((y.kind : Int) == 7) = false := by rw [beq_eq_false_iff_ne]; omega
  have b8 : ((y.kind : Int) == 8) = false := by rw [beq_eq_false_iff_ne]; omega
  have b9 : ((y.kind : Int) == 9) = false := by rw [beq_eq_false_iff_ne]; omega
  have b10 : ((y.kind : Int) == 10) = false := by rw [beq_eq_false_iff_ne]; omega
  have b11 : ((y.kind : Int) == 11) = false := by rw [beq_eq_false_iff_ne]; omega
  have hz : ∃ z : Stp, z = ⟨y.kind, [], 0⟩ := ⟨_, rfl⟩
  obtain ⟨z, hz⟩ := hz
  have Hz := Lib.hid hz
  have Hs0 := Lib.hid (fun n => TkM.start w y ⟨y.kind, [], 0⟩ n)
  clear hz h0
  unfold Stp.val
  go_enter Tryz.func19, Tryz.ntmps19
  go_wp2_with fail
  go_quiet (fail)
  go_upto_block 0 with fail
  go_cut [5, 6] (fun s5 s6 wx => s5 = .int .i64 (0) ∧ s6 = .bool (true) ∧ Hid (TkM w wx y z))
  case first =>
    go_wp2_with fail
    go_meet
    exact ⟨rfl, rfl, by rw [Hz.out]; exact Hs0.out _⟩
  case rest =>
    obtain ⟨rfl, rfl, M⟩ := hcut
    obtain ⟨⟨k0, k1, k2⟩, -⟩ := three'' M.out.c1
    obtain ⟨⟨q0, q1, q2⟩, -⟩ := three'' M.out.c2
    have hq := stpB_eq y z
    by_cases e : y = z
    · rw [decide_eq_true e] at hq
      have HR := Lib.hid (HT.out.1 (by first | rfl | trivial | assumption) (by rw [← Hz.out]; exact e))
      clear e
      go_wp2_with fail
      go_ret2
      exact ⟨by rw [HR.out]; rfl, M.out.bel⟩
    · rw [decide_eq_false e] at hq
      have HR := Lib.hid (HT.out.2 (.inr (by rw [← Hz.out]; exact e)))
      clear e
      go_wp2_with fail
      go_ret2
      exact ⟨by rw [HR.out]; rfl, M.out.bel⟩

set_option maxHeartbeats 1000000 in
set_option maxRecDepth 100000 in
theorem takes_k2 (y : Stp) (w : World) (h0 : y.kind = 2) :
    Calls Tryz.prog 19 #[y.val] w fun e w' => e = .returned (takesV (takes y)) ∧ Below w.heap.size w w' := by
  have b23 : (y.kind : Int) < 23 := by omega
  have HT0 : (((true) = true → y = ⟨y.kind, [], 0⟩ → takesV (takes y) = .tuple #[.int .i64 (0), .bool true]) ∧ ((true) = false ∨ y ≠ ⟨y.kind, [], 0⟩ → takesV (takes y) = .tuple #[.int .i64 0, .bool false])) := by
    have ht : takes y = if y.text = [] ∧ y.num = 0 then some 0 else none := by
      unfold takes
      rw [if_pos (by omega)]
    refine ⟨fun _ e => ?_, fun h => ?_⟩
    · rw [ht, if_pos (by rw [e]; exact ⟨rfl, rfl⟩)]; rfl
    · rw [ht, if_neg]
      · rfl
      · rintro ⟨h1, h2⟩
        rcases h with h | h
        · cases h
        · exact h (by cases y; simp_all)
  have HT := Lib.hid HT0
  clear HT0
  have b0 : ((y.kind : Int) == 0) = false := by rw [beq_eq_false_iff_ne]; omega
  have b1 : ((y.kind : Int) == 1) = false := by rw [beq_eq_false_iff_ne]; omega
  have b2 : ((y.kind : Int) == 2) = true := by rw [beq_iff_eq]; omega
  have b3 : ((y.kind : Int) == 3) = false := by rw [beq_eq_false_iff_ne]; omega
  have b4 : ((y.kind : Int) == 4) = false := by rw [beq_eq_false_iff_ne]; omega
  have b5 : ((y.kind : Int) == 5) = false := by rw [beq_eq_false_iff_ne]; omega
  have b6 : ((y.kind : Int) == 6) = false := by rw [beq_eq_false_iff_ne]; omega
  have b7 : ((y.kind : Int) == 7) = false := by rw [beq_eq_false_iff_ne]; omega
  have b8 : ((y.kind : Int) == 8) = false := by rw [beq_eq_false_iff_ne]; omega
  have b9 : ((y.kind : Int) == 9) = false := by rw [beq_eq_false_iff_ne]; omega
  have b10 : ((y.kind : Int) == 10) = false := by rw [beq_eq_false_iff_ne]; omega
  have b11 : ((y.kind : Int) == 11) = false := by rw [beq_eq_false_iff_ne]; omega
  have hz : ∃ z : Stp, z = ⟨y.kind, [], 0⟩ := ⟨_, rfl⟩
  obtain ⟨z, hz⟩ := hz
  have Hz := Lib.hid hz
  have Hs0 := Lib.hid (fun n => TkM.start w y ⟨y.kind, [], 0⟩ n)
  clear hz h0
  unfold Stp.val
  go_enter Tryz.func19, Tryz.ntmps19
  go_wp2_with fail
  go_quiet (fail)
  go_upto_block 0 with fail
  go_cut [5, 6] (fun s5 s6 wx => s5 = .int .i64 (0) ∧ s6 = .bool (true) ∧ Hid (TkM w wx y z))
  case first =>
    go_wp2_with fail
    go_meet
    exact ⟨rfl, rfl, by rw [Hz.out]; exact Hs0.out _⟩
  case rest =>
    obtain ⟨rfl, rfl, M⟩ := hcut
    obtain ⟨⟨k0, k1, k2⟩, -⟩ := three'' M.out.c1
    obtain ⟨⟨q0, q1, q2⟩, -⟩ := three'' M.out.c2
    have hq := stpB_eq y z
    by_cases e : y = z
    · rw [decide_eq_true e] at hq
      have HR := Lib.hid (HT.out.1 (by first | rfl | trivial | assumption) (by rw [← Hz.out]; exact e))
      clear e
      go_wp2_with fail
      go_ret2
      exact ⟨by rw [HR.out]; rfl, M.out.bel⟩
    · rw [decide_eq_false e] at hq
      have HR := Lib.hid (HT.out.2 (.inr (by rw [← Hz.out]; exact e)))
      clear e
      go_wp2_with fail
      go_ret2
      exact ⟨by rw [HR.out]; rfl, M.out.bel⟩

set_option maxHeartbeats 1000000 in
set_option maxRecDepth 100000 in
theorem takes_k3 (y : Stp) (w : World) (h0 : y.kind = 3) :
    Calls Tryz.prog 19 #[y.val] w fun e w' => e = .returned (takesV (takes y)) ∧ Below w.heap.size w w' := by
  have b23 : (y.kind : Int) < 23 := by omega
  have HT0 : (((true) = true → y = ⟨y.kind, [], 0⟩ → takesV (takes y) = .tuple #[.int .i64 (0), .bool true]) ∧ ((true) = false ∨ y ≠ ⟨y.kind, [], 0⟩ → takesV (takes y) = .tuple #[.int .i64 0, .bool false])) := by
    have ht : takes y = if y.text = [] ∧ y.num = 0 then some 0 else none := by
      unfold takes
      rw [if_pos (by omega)]
    refine ⟨fun _ e => ?_, fun h => ?_⟩
    · rw [ht, if_pos (by rw [e]; exact ⟨rfl, rfl⟩)]; rfl
    · rw [ht, if_neg]
      · rfl
      · rintro ⟨h1, h2⟩
        rcases h with h | h
        · cases h
        · exact h (by cases y; simp_all)
  have HT := Lib.hid HT0
  clear HT0
  have b0 : ((y.kind : Int) == 0) = false := by rw [beq_eq_false_iff_ne]; omega
  have b1 : ((y.kind : Int) == 1) = false := by rw [beq_eq_false_iff_ne]; omega
  have b2 : ((y.kind : Int) == 2) = false := by rw [beq_eq_false_iff_ne]; omega
  have b3 : ((y.kind : Int) == 3) = true := by rw [beq_iff_eq]; omega
  have b4 : ((y.kind : Int) == 4) = false := by rw [beq_eq_false_iff_ne]; omega
  have b5 : ((y.kind : Int) == 5) = false := by rw [beq_eq_false_iff_ne]; omega
  have b6 : ((y.kind : Int) == 6) = false := by rw [beq_eq_false_iff_ne]; omega
  have b7 : ((y.kind : Int) == 7) = false := by rw [beq_eq_false_iff_ne]; omega
  have b8 : ((y.kind : Int) == 8) = false := by rw [beq_eq_false_iff_ne]; omega
  have b9 : ((y.kind : Int) == 9) = false := by rw [beq_eq_false_iff_ne]; omega
  have b10 : ((y.kind : Int) == 10) = false := by rw [beq_eq_false_iff_ne]; omega
  have b11 : ((y.kind : Int) == 11) = false := by rw [beq_eq_false_iff_ne]; omega
  have hz : ∃ z : Stp, z = ⟨y.kind, [], 0⟩ := ⟨_, rfl⟩
  obtain ⟨z, hz⟩ := hz
  have Hz := Lib.hid hz
  have Hs0 := Lib.hid (fun n => TkM.start w y ⟨y.kind, [], 0⟩ n)
  clear hz h0
  unfold Stp.val
  go_enter Tryz.func19, Tryz.ntmps19
  go_wp2_with fail
  go_quiet (fail)
  go_upto_block 0 with fail
  go_cut [5, 6] (fun s5 s6 wx => s5 = .int .i64 (0) ∧ s6 = .bool (true) ∧ Hid (TkM w wx y z))
  case first =>
    go_wp2_with fail
    go_meet
    exact ⟨rfl, rfl, by rw [Hz.out]; exact Hs0.out _⟩
  case rest =>
    obtain ⟨rfl, rfl, M⟩ := hcut
    obtain ⟨⟨k0, k1, k2⟩, -⟩ := three'' M.out.c1
    obtain ⟨⟨q0, q1, q2⟩, -⟩ := three'' M.out.c2
    have hq := stpB_eq y z
    by_cases e : y = z
    · rw [decide_eq_true e] at hq
      have HR := Lib.hid (HT.out.1 (by first | rfl | trivial | assumption) (by rw [← Hz.out]; exact e))
      clear e
      go_wp2_with fail
      go_ret2
      exact ⟨by rw [HR.out]; rfl, M.out.bel⟩
    · rw [decide_eq_false e] at hq
      have HR := Lib.hid (HT.out.2 (.inr (by rw [← Hz.out]; exact e)))
      clear e
      go_wp2_with fail
      go_ret2
      exact ⟨by rw [HR.out]; rfl, M.out.bel⟩

set_option maxHeartbeats 1000000 in
set_option maxRecDepth 100000 in
theorem takes_k9 (y : Stp) (w : World) (h0 : y.kind = 9) :
    Calls Tryz.prog 19 #[y.val] w fun e w' => e = .returned (takesV (takes y)) ∧ Below w.heap.size w w' := by
  have b23 : (y.kind : Int) < 23 := by omega
  have HT0 : (((true) = true → y = ⟨y.kind, [], 0⟩ → takesV (takes y) = .tuple #[.int .i64 (1), .bool true]) ∧ ((true) = false ∨ y ≠ ⟨y.kind, [], 0⟩ → takesV (takes y) = .tuple #[.int .i64 0, .bool false])) := by
    have ht : takes y = if y.text = [] ∧ y.num = 0 then some 1 else none := by
      unfold takes
      rw [if_neg (by omega), if_neg (by omega), if_neg (by omega), if_neg (by omega), if_neg (by omega), if_neg (by omega), if_pos (by omega)]
    refine ⟨fun _ e => ?_, fun h => ?_⟩
    · rw [ht, if_pos (by rw [e]; exact ⟨rfl, rfl⟩)]; rfl
    · rw [ht, if_neg]
      · rfl
      · rintro ⟨h1, h2⟩
        rcases h with h | h
        · cases h
        · exact h (by cases y; simp_all)
  have HT := Lib.hid HT0
  clear HT0
  have b0 : ((y.kind : Int) == 0) = false := by rw [beq_eq_false_iff_ne]; omega
  have b1 : ((y.kind : Int) == 1) = false := by rw [beq_eq_false_iff_ne]; omega
  have b2 : ((y.kind : Int) == 2) = false := by rw [beq_eq_false_iff_ne]; omega
  have b3 : ((y.kind : Int) == 3) = false := by rw [beq_eq_false_iff_ne]; omega
  have b4 : ((y.kind : Int) == 4) = false := by rw [beq_eq_false_iff_ne]; omega
  have b5 : ((y.kind : Int) == 5) = false := by rw [beq_eq_false_iff_ne]; omega
  have b6 : ((y.kind : Int) == 6) = false := by rw [beq_eq_false_iff_ne]; omega
  have b7 : ((y.kind : Int) == 7) = false := by rw [beq_eq_false_iff_ne]; omega
  have b8 : ((y.kind : Int) == 8) = false := by rw [beq_eq_false_iff_ne]; omega
  have b9 : ((y.kind : Int) == 9) = true := by rw [beq_iff_eq]; omega
  have b10 : ((y.kind : Int) == 10) = false := by rw [beq_eq_false_iff_ne]; omega
  have b11 : ((y.kind : Int) == 11) = false := by rw [beq_eq_false_iff_ne]; omega
  have hz : ∃ z : Stp, z = ⟨y.kind, [], 0⟩ := ⟨_, rfl⟩
  obtain ⟨z, hz⟩ := hz
  have Hz := Lib.hid hz
  have Hs0 := Lib.hid (fun n => TkM.start w y ⟨y.kind, [], 0⟩ n)
  clear hz h0
  unfold Stp.val
  go_enter Tryz.func19, Tryz.ntmps19
  go_wp2_with fail
  go_quiet (fail)
  go_upto_block 0 with fail
  go_cut [5, 6] (fun s5 s6 wx => s5 = .int .i64 (1) ∧ s6 = .bool (true) ∧ Hid (TkM w wx y z))
  case first =>
    go_wp2_with fail
    go_meet
    exact ⟨rfl, rfl, by rw [Hz.out]; exact Hs0.out _⟩
  case rest =>
    obtain ⟨rfl, rfl, M⟩ := hcut
    obtain ⟨⟨k0, k1, k2⟩, -⟩ := three'' M.out.c1
    obtain ⟨⟨q0, q1, q2⟩, -⟩ := three'' M.out.c2
    have hq := stpB_eq y z
    by_cases e : y = z
    · rw [decide_eq_true e] at hq
      have HR := Lib.hid (HT.out.1 (by first | rfl | trivial | assumption) (by rw [← Hz.out]; exact e))
      clear e
      go_wp2_with fail
      go_ret2
      exact ⟨by rw [HR.out]; rfl, M.out.bel⟩
    · rw [decide_eq_false e] at hq
      have HR := Lib.hid (HT.out.2 (.inr (by rw [← Hz.out]; exact e)))
      clear e
      go_wp2_with fail
      go_ret2
      exact ⟨by rw [HR.out]; rfl, M.out.bel⟩

set_option maxHeartbeats 1000000 in
set_option maxRecDepth 100000 in
theorem takes_k10 (y : Stp) (w : World) (h0 : y.kind = 10) :
    Calls Tryz.prog 19 #[y.val] w fun e w' => e = .returned (takesV (takes y)) ∧ Below w.heap.size w w' := by
  have b23 : (y.kind : Int) < 23 := by omega
  have HT0 : (((true) = true → y = ⟨y.kind, [], 0⟩ → takesV (takes y) = .tuple #[.int .i64 (1), .bool true]) ∧ ((true) = false ∨ y ≠ ⟨y.kind, [], 0⟩ → takesV (takes y) = .tuple #[.int .i64 0, .bool false])) := by
    have ht : takes y = if y.text = [] ∧ y.num = 0 then some 1 else none := by
      unfold takes
      rw [if_neg (by omega), if_neg (by omega), if_neg (by omega), if_neg (by omega), if_neg (by omega), if_neg (by omega), if_pos (by omega)]
    refine ⟨fun _ e => ?_, fun h => ?_⟩
    · rw [ht, if_pos (by rw [e]; exact ⟨rfl, rfl⟩)]; rfl
    · rw [ht, if_neg]
      · rfl
      · rintro ⟨h1, h2⟩
        rcases h with h | h
        · cases h
        · exact h (by cases y; simp_all)
  have HT := Lib.hid HT0
  clear HT0
  have b0 : ((y.kind : Int) == 0) = false := by rw [beq_eq_false_iff_ne]; omega
  have b1 : ((y.kind : Int) == 1) = false := by rw [beq_eq_false_iff_ne]; omega
  have b2 : ((y.kind : Int) == 2) = false := by rw [beq_eq_false_iff_ne]; omega
  have b3 : ((y.kind : Int) == 3) = false := by rw [beq_eq_false_iff_ne]; omega
  have b4 : ((y.kind : Int) == 4) = false := by rw [beq_eq_false_iff_ne]; omega
  have b5 : ((y.kind : Int) == 5) = false := by rw [beq_eq_false_iff_ne]; omega
  have b6 : ((y.kind : Int) == 6) = false := by rw [beq_eq_false_iff_ne]; omega
  have b7 : ((y.kind : Int) == 7) = false := by rw [beq_eq_false_iff_ne]; omega
  have b8 : ((y.kind : Int) == 8) = false := by rw [beq_eq_false_iff_ne]; omega
  have b9 : ((y.kind : Int) == 9) = false := by rw [beq_eq_false_iff_ne]; omega
  have b10 : ((y.kind : Int) == 10) = true := by rw [beq_iff_eq]; omega
  have b11 : ((y.kind : Int) == 11) = false := by rw [beq_eq_false_iff_ne]; omega
  have hz : ∃ z : Stp, z = ⟨y.kind, [], 0⟩ := ⟨_, rfl⟩
  obtain ⟨z, hz⟩ := hz
  have Hz := Lib.hid hz
  have Hs0 := Lib.hid (fun n => TkM.start w y ⟨y.kind, [], 0⟩ n)
  clear hz h0
  unfold Stp.val
  go_enter Tryz.func19, Tryz.ntmps19
  go_wp2_with fail
  go_quiet (fail)
  go_upto_block 0 with fail
  go_cut [5, 6] (fun s5 s6 wx => s5 = .int .i64 (1) ∧ s6 = .bool (true) ∧ Hid (TkM w wx y z))
  case first =>
    go_wp2_with fail
    go_meet
    exact ⟨rfl, rfl, by rw [Hz.out]; exact Hs0.out _⟩
  case rest =>
    obtain ⟨rfl, rfl, M⟩ := hcut
    obtain ⟨⟨k0, k1, k2⟩, -⟩ := three'' M.out.c1
    obtain ⟨⟨q0, q1, q2⟩, -⟩ := three'' M.out.c2
    have hq := stpB_eq y z
    by_cases e : y = z
    · rw [decide_eq_true e] at hq
      have HR := Lib.hid (HT.out.1 (by first | rfl | trivial | assumption) (by rw [← Hz.out]; exact e))
      clear e
      go_wp2_with fail
      go_ret2
      exact ⟨by rw [HR.out]; rfl, M.out.bel⟩
    · rw [decide_eq_false e] at hq
      have HR := Lib.hid (HT.out.2 (.inr (by rw [← Hz.out]; exact e)))
      clear e
      go_wp2_with fail
      go_ret2
      exact ⟨by rw [HR.out]; rfl, M.out.bel⟩

set_option maxHeartbeats 1000000 in
set_option maxRecDepth 100000 in
theorem takes_k11 (y : Stp) (w : World) (h0 : y.kind = 11) :
    Calls Tryz.prog 19 #[y.val] w fun e w' => e = .returned (takesV (takes y)) ∧ Below w.heap.size w w' := by
  have b23 : (y.kind : Int) < 23 := by omega
  have HT0 : (((true) = true → y = ⟨y.kind, [], 0⟩ → takesV (takes y) = .tuple #[.int .i64 (1), .bool true]) ∧ ((true) = false ∨ y ≠ ⟨y.kind, [], 0⟩ → takesV (takes y) = .tuple #[.int .i64 0, .bool false])) := by
    have ht : takes y = if y.text = [] ∧ y.num = 0 then some 1 else none := by
      unfold takes
      rw [if_neg (by omega), if_neg (by omega), if_neg (by omega), if_neg (by omega), if_neg (by omega), if_neg (by omega), if_pos (by omega)]
    refine ⟨fun _ e => ?_, fun h => ?_⟩
    · rw [ht, if_pos (by rw [e]; exact ⟨rfl, rfl⟩)]; rfl
    · rw [ht, if_neg]
      · rfl
      · rintro ⟨h1, h2⟩
        rcases h with h | h
        · cases h
        · exact h (by cases y; simp_all)
  have HT := Lib.hid HT0
  clear HT0
  have b0 : ((y.kind : Int) == 0) = false := by rw [beq_eq_false_iff_ne]; omega
  have b1 : ((y.kind : Int) == 1) = false := by rw [beq_eq_false_iff_ne]; omega
  have b2 : ((y.kind : Int) == 2) = false := by rw [beq_eq_false_iff_ne]; omega
  have b3 : ((y.kind : Int) == 3) = false := by rw [beq_eq_false_iff_ne]; omega
  have b4 : ((y.kind : Int) == 4) = false := by rw [beq_eq_false_iff_ne]; omega
  have b5 : ((y.kind : Int) == 5) = false := by rw [beq_eq_false_iff_ne]; omega
  have b6 : ((y.kind : Int) == 6) = false := by rw [beq_eq_false_iff_ne]; omega
  have b7 : ((y.kind : Int) == 7) = false := by rw [beq_eq_false_iff_ne]; omega
  have b8 : ((y.kind : Int) == 8) = false := by rw [beq_eq_false_iff_ne]; omega
  have b9 : ((y.kind : Int) == 9) = false := by rw [beq_eq_false_iff_ne]; omega
  have b10 : ((y.kind : Int) == 10) = false := by rw [beq_eq_false_iff_ne]; omega
  have b11 : ((y.kind : Int) == 11) = true := by rw [beq_iff_eq]; omega
  have hz : ∃ z : Stp, z = ⟨y.kind, [], 0⟩ := ⟨_, rfl⟩
  obtain ⟨z, hz⟩ := hz
  have Hz := Lib.hid hz
  have Hs0 := Lib.hid (fun n => TkM.start w y ⟨y.kind, [], 0⟩ n)
  clear hz h0
  unfold Stp.val
  go_enter Tryz.func19, Tryz.ntmps19
  go_wp2_with fail
  go_quiet (fail)
  go_upto_block 0 with fail
  go_cut [5, 6] (fun s5 s6 wx => s5 = .int .i64 (1) ∧ s6 = .bool (true) ∧ Hid (TkM w wx y z))
  case first =>
    go_wp2_with fail
    go_meet
    exact ⟨rfl, rfl, by rw [Hz.out]; exact Hs0.out _⟩
  case rest =>
    obtain ⟨rfl, rfl, M⟩ := hcut
    obtain ⟨⟨k0, k1, k2⟩, -⟩ := three'' M.out.c1
    obtain ⟨⟨q0, q1, q2⟩, -⟩ := three'' M.out.c2
    have hq := stpB_eq y z
    by_cases e : y = z
    · rw [decide_eq_true e] at hq
      have HR := Lib.hid (HT.out.1 (by first | rfl | trivial | assumption) (by rw [← Hz.out]; exact e))
      clear e
      go_wp2_with fail
      go_ret2
      exact ⟨by rw [HR.out]; rfl, M.out.bel⟩
    · rw [decide_eq_false e] at hq
      have HR := Lib.hid (HT.out.2 (.inr (by rw [← Hz.out]; exact e)))
      clear e
      go_wp2_with fail
      go_ret2
      exact ⟨by rw [HR.out]; rfl, M.out.bel⟩

set_option maxHeartbeats 1000000 in
set_option maxRecDepth 100000 in
theorem takes_two (y : Stp) (w : World) (h0 : 12 ≤ y.kind) (h1 : y.kind < 23) :
    Calls Tryz.prog 19 #[y.val] w fun e w' => e = .returned (takesV (takes y)) ∧ Below w.heap.size w w' := by
  have b23 : (y.kind : Int) < 23 := by omega
  have HT0 : (((true) = true → y = ⟨y.kind, [], 0⟩ → takesV (takes y) = .tuple #[.int .i64 (2), .bool true]) ∧ ((true) = false ∨ y ≠ ⟨y.kind, [], 0⟩ → takesV (takes y) = .tuple #[.int .i64 0, .bool false])) := by
    have ht : takes y = if y.text = [] ∧ y.num = 0 then some 2 else none := by
      unfold takes
      rw [if_neg (by omega), if_neg (by omega), if_neg (by omega), if_neg (by omega), if_neg (by omega), if_neg (by omega), if_neg (by omega), if_pos (by omega)]
    refine ⟨fun _ e => ?_, fun h => ?_⟩
    · rw [ht, if_pos (by rw [e]; exact ⟨rfl, rfl⟩)]; rfl
    · rw [ht, if_neg]
      · rfl
      · rintro ⟨h1, h2⟩
        rcases h with h | h
        · cases h
        · exact h (by cases y; simp_all)
  have HT := Lib.hid HT0
  clear HT0
  have b0 : ((y.kind : Int) == 0) = false := by rw [beq_eq_false_iff_ne]; omega
  have b1 : ((y.kind : Int) == 1) = false := by rw [beq_eq_false_iff_ne]; omega
  have b2 : ((y.kind : Int) == 2) = false := by rw [beq_eq_false_iff_ne]; omega
  have b3 : ((y.kind : Int) == 3) = false := by rw [beq_eq_false_iff_ne]; omega
  have b4 : ((y.kind : Int) == 4) = false := by rw [beq_eq_false_iff_ne]; omega
  have b5 : ((y.kind : Int) == 5) = false := by rw [beq_eq_false_iff_ne]; omega
  have b6 : ((y.kind : Int) == 6) = false := by rw [beq_eq_false_iff_ne]; omega
  have b7 : ((y.kind : Int) == 7) = false := by rw [beq_eq_false_iff_ne]; omega
  have b8 : ((y.kind : Int) == 8) = false := by rw [beq_eq_false_iff_ne]; omega
  have b9 : ((y.kind : Int) == 9) = false := by rw [beq_eq_false_iff_ne]; omega
  have b10 : ((y.kind : Int) == 10) = false := by rw [beq_eq_false_iff_ne]; omega
  have b11 : ((y.kind : Int) == 11) = false := by rw [beq_eq_false_iff_ne]; omega
  have hz : ∃ z : Stp, z = ⟨y.kind, [], 0⟩ := ⟨_, rfl⟩
  obtain ⟨z, hz⟩ := hz
  have Hz := Lib.hid hz
  have Hs0 := Lib.hid (fun n => TkM.start w y ⟨y.kind, [], 0⟩ n)
  clear hz h0 h1
  unfold Stp.val
  go_enter Tryz.func19, Tryz.ntmps19
  go_wp2_with fail
  go_quiet (fail)
  go_upto_block 0 with fail
  go_cut [5, 6] (fun s5 s6 wx => s5 = .int .i64 (2) ∧ s6 = .bool (true) ∧ Hid (TkM w wx y z))
  case first =>
    go_wp2_with fail
    go_meet
    exact ⟨rfl, rfl, by rw [Hz.out]; exact Hs0.out _⟩
  case rest =>
    obtain ⟨rfl, rfl, M⟩ := hcut
    obtain ⟨⟨k0, k1, k2⟩, -⟩ := three'' M.out.c1
    obtain ⟨⟨q0, q1, q2⟩, -⟩ := three'' M.out.c2
    have hq := stpB_eq y z
    by_cases e : y = z
    · rw [decide_eq_true e] at hq
      have HR := Lib.hid (HT.out.1 (by first | rfl | trivial | assumption) (by rw [← Hz.out]; exact e))
      clear e
      go_wp2_with fail
      go_ret2
      exact ⟨by rw [HR.out]; rfl, M.out.bel⟩
    · rw [decide_eq_false e] at hq
      have HR := Lib.hid (HT.out.2 (.inr (by rw [← Hz.out]; exact e)))
      clear e
      go_wp2_with fail
      go_ret2
      exact ⟨by rw [HR.out]; rfl, M.out.bel⟩

set_option maxHeartbeats 1000000 in
set_option maxRecDepth 100000 in
theorem takes_k0 (y : Stp) (w : World) (h0 : y.kind = 0) :
    Calls Tryz.prog 19 #[y.val] w fun e w' => e = .returned (takesV (takes y)) ∧ Below w.heap.size w w' := by
  have b23 : (y.kind : Int) < 23 := by omega
  have HT0 : (((false) = true → y = ⟨y.kind, [], 0⟩ → takesV (takes y) = .tuple #[.int .i64 (2), .bool true]) ∧ ((false) = false ∨ y ≠ ⟨y.kind, [], 0⟩ → takesV (takes y) = .tuple #[.int .i64 0, .bool false])) := by
    have ht : takes y = none := by
      unfold takes
      rw [if_neg (by omega), if_neg (by omega), if_neg (by omega), if_neg (by omega), if_neg (by omega), if_neg (by omega), if_neg (by omega), if_neg (by omega)]
    exact ⟨(fun h => by cases h), (fun _ => by rw [ht]; rfl)⟩
  have HT := Lib.hid HT0
  clear HT0
  have b0 : ((y.kind : Int) == 0) = true := by rw [beq_iff_eq]; omega
  have b1 : ((y.kind : Int) == 1) = false := by rw [beq_eq_false_iff_ne]; omega
  have b2 : ((y.kind : Int) == 2) = false := by rw [beq_eq_false_iff_ne]; omega
  have b3 : ((y.kind : Int) == 3) = false := by rw [beq_eq_false_iff_ne]; omega
  have b4 : ((y.kind : Int) == 4) = false := by rw [beq_eq_false_iff_ne]; omega
  have b5 : ((y.kind : Int) == 5) = false := by rw [beq_eq_false_iff_ne]; omega
  have b6 : ((y.kind : Int) == 6) = false := by rw [beq_eq_false_iff_ne]; omega
  have b7 : ((y.kind : Int) == 7) = false := by rw [beq_eq_false_iff_ne]; omega
  have b8 : ((y.kind : Int) == 8) = false := by rw [beq_eq_false_iff_ne]; omega
  have b9 : ((y.kind : Int) == 9) = false := by rw [beq_eq_false_iff_ne]; omega
  have b10 : ((y.kind : Int) == 10) = false := by rw [beq_eq_false_iff_ne]; omega
  have b11 : ((y.kind : Int) == 11) = false := by rw [beq_eq_false_iff_ne]; omega
  have hz : ∃ z : Stp, z = ⟨y.kind, [], 0⟩ := ⟨_, rfl⟩
  obtain ⟨z, hz⟩ := hz
  have Hz := Lib.hid hz
  have Hs0 := Lib.hid (fun n => TkM.start w y ⟨y.kind, [], 0⟩ n)
  clear hz h0
  unfold Stp.val
  go_enter Tryz.func19, Tryz.ntmps19
  go_wp2_with fail
  go_quiet (fail)
  go_upto_block 0 with fail
  go_cut [5, 6] (fun s5 s6 wx => s5 = .int .i64 (2) ∧ s6 = .bool (false) ∧ Hid (TkM w wx y z))
  case first =>
    go_wp2_with fail
    go_meet
    exact ⟨rfl, rfl, by rw [Hz.out]; exact Hs0.out _⟩
  case rest =>
    obtain ⟨rfl, rfl, M⟩ := hcut
    obtain ⟨⟨k0, k1, k2⟩, -⟩ := three'' M.out.c1
    obtain ⟨⟨q0, q1, q2⟩, -⟩ := three'' M.out.c2
    have hq := stpB_eq y z
    have HR := Lib.hid (HT.out.2 (.inl (by first | rfl | trivial | assumption)))
    clear hq
    go_wp2_with fail
    go_ret2
    exact ⟨by rw [HR.out]; rfl, M.out.bel⟩

set_option maxHeartbeats 1000000 in
set_option maxRecDepth 100000 in
theorem takes_more (y : Stp) (w : World) (h0 : 23 ≤ y.kind) :
    Calls Tryz.prog 19 #[y.val] w fun e w' => e = .returned (takesV (takes y)) ∧ Below w.heap.size w w' := by
  have b23 : ¬ (y.kind : Int) < 23 := by omega
  have b23d : decide ((y.kind : Int) < 23) = false := decide_eq_false b23
  have HT0 : (((false) = true → y = ⟨y.kind, [], 0⟩ → takesV (takes y) = .tuple #[.int .i64 (2), .bool true]) ∧ ((false) = false ∨ y ≠ ⟨y.kind, [], 0⟩ → takesV (takes y) = .tuple #[.int .i64 0, .bool false])) := by
    have ht : takes y = none := by
      unfold takes
      rw [if_neg (by omega), if_neg (by omega), if_neg (by omega), if_neg (by omega), if_neg (by omega), if_neg (by omega), if_neg (by omega), if_neg (by omega)]
    exact ⟨(fun h => by cases h), (fun _ => by rw [ht]; rfl)⟩
  have HT := Lib.hid HT0
  clear HT0
  have b0 : ((y.kind : Int) == 0) = false := by rw [beq_eq_false_iff_ne]; omega
  have b1 : ((y.kind : Int) == 1) = false := by rw [beq_eq_false_iff_ne]; omega
  have b2 : ((y.kind : Int) == 2) = false := by rw [beq_eq_false_iff_ne]; omega
  have b3 : ((y.kind : Int) == 3) = false := by rw [beq_eq_false_iff_ne]; omega
  have b4 : ((y.kind : Int) == 4) = false := by rw [beq_eq_false_iff_ne]; omega
  have b5 : ((y.kind : Int) == 5) = false := by rw [beq_eq_false_iff_ne]; omega
  have b6 : ((y.kind : Int) == 6) = false := by rw [beq_eq_false_iff_ne]; omega
  have b7 : ((y.kind : Int) == 7) = false := by rw [beq_eq_false_iff_ne]; omega
  have b8 : ((y.kind : Int) == 8) = false := by rw [beq_eq_false_iff_ne]; omega
  have b9 : ((y.kind : Int) == 9) = false := by rw [beq_eq_false_iff_ne]; omega
  have b10 : ((y.kind : Int) == 10) = false := by rw [beq_eq_false_iff_ne]; omega
  have b11 : ((y.kind : Int) == 11) = false := by rw [beq_eq_false_iff_ne]; omega
  have hz : ∃ z : Stp, z = ⟨y.kind, [], 0⟩ := ⟨_, rfl⟩
  obtain ⟨z, hz⟩ := hz
  have Hz := Lib.hid hz
  have Hs0 := Lib.hid (fun n => TkM.start w y ⟨y.kind, [], 0⟩ n)
  clear hz h0
  unfold Stp.val
  go_enter Tryz.func19, Tryz.ntmps19
  go_wp2_with fail
  go_quiet (fail)
  go_upto_block 0 with fail
  go_cut [5, 6] (fun s5 s6 wx => s5 = .int .i64 (2) ∧ s6 = .bool (false) ∧ Hid (TkM w wx y z))
  case first =>
    go_wp2_with fail
    go_meet
    exact ⟨rfl, rfl, by rw [Hz.out]; exact Hs0.out _⟩
  case rest =>
    obtain ⟨rfl, rfl, M⟩ := hcut
    obtain ⟨⟨k0, k1, k2⟩, -⟩ := three'' M.out.c1
    obtain ⟨⟨q0, q1, q2⟩, -⟩ := three'' M.out.c2
    have hq := stpB_eq y z
    have HR := Lib.hid (HT.out.2 (.inl (by first | rfl | trivial | assumption)))
    clear hq
    go_wp2_with fail
    go_ret2
    exact ⟨by rw [HR.out]; rfl, M.out.bel⟩


end Go.Proofs.YtcjmhmmjfgjcnaaGreatDoor.Pa
