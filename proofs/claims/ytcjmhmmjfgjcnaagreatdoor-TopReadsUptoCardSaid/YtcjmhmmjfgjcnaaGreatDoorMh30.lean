/- Parts: PbK4N PbK4Y PbK7N PbK7M PbK7Y PbK5N PbK5Y. -/
import Derived.Test.YtcjmhmmjfgjcnaaGreatDoorMh29
import Derived.Deep.RegionWith
import Derived.RegionTactic

/- parse: Takes, k4n. -/
namespace Go.Proofs.YtcjmhmmjfgjcnaaGreatDoor.Pa
open Go.RowKit Go.Proofs.YtcjmhmmjfgjcnaaGreatDoor.Lx
attribute [local go_sem high] stp_equal
set_option maxHeartbeats 1000000 in
set_option maxRecDepth 100000 in
theorem takes_k4n (y : Stp) (w : World) (h0 : y.kind = 4) (h1 : ¬ 0 ≤ y.num) :
    Calls Tryz.prog 19 #[y.val] w fun e w' => e = .returned (takesV (takes y)) ∧ Below w.heap.size w w' := by
  have b23 : (y.kind : Int) < 23 := by omega
  have d1 : decide (0 ≤ y.num) = false := decide_eq_false h1
  have HT0 : (((false) = true → y = ⟨y.kind, [], y.num⟩ → takesV (takes y) = .tuple #[.int .i64 (0), .bool true]) ∧ ((false) = false ∨ y ≠ ⟨y.kind, [], y.num⟩ → takesV (takes y) = .tuple #[.int .i64 0, .bool false])) := by
    have ht : takes y = if y.text = [] ∧ 0 ≤ y.num then some (0) else none := by
      unfold takes
      rw [if_neg (by omega), if_pos (by omega)]
    refine ⟨(fun hok e => ?_), (fun h => ?_)⟩
    · cases hok
    · rw [ht, if_neg]
      · rfl
      · intro hc
        rcases h with h | h
        · exact h1 hc.2
        · exact h1 hc.2
  have HT := Lib.hid HT0
  clear HT0
  have b0 : ((y.kind : Int) == 0) = false := by rw [beq_eq_false_iff_ne]; omega
  have b1 : ((y.kind : Int) == 1) = false := by rw [beq_eq_false_iff_ne]; omega
  have b2 : ((y.kind : Int) == 2) = false := by rw [beq_eq_false_iff_ne]; omega
  have b3 : ((y.kind : Int) == 3) = false := by rw [beq_eq_false_iff_ne]; omega
  have b4 : ((y.kind : Int) == 4) = true := by rw [beq_iff_eq]; omega
  have b5 : ((y.kind : Int) == 5) = false := by rw [beq_eq_false_iff_ne]; omega
  have b6 : ((y.kind : Int) == 6) = false := by rw [beq_eq_false_iff_ne]; omega
  have b7 : ((y.kind : Int) == 7) = false := by rw [beq_eq_false_iff_ne]; omega
  have b8 : ((y.kind : Int) == 8) = false := by rw [beq_eq_false_iff_ne]; omega
  have b9 : ((y.kind : Int) == 9) = false := by rw [beq_eq_false_iff_ne]; omega
  have b10 : ((y.kind : Int) == 10) = false := by rw [beq_eq_false_iff_ne]; omega
  have b11 : ((y.kind : Int) == 11) = false := by rw [beq_eq_false_iff_ne]; omega
  have hz : ∃ z : Stp, z = ⟨y.kind, [], y.num⟩ := ⟨_, rfl⟩
  obtain ⟨z, hz⟩ := hz
  have Hz := Lib.hid hz
  have Hs0 := Lib.hid (fun n => TkM.start w y ⟨y.kind, [], 0⟩ n)
  clear hz h0 h1
  unfold Stp.val
  go_enter Tryz.func19, Tryz.ntmps19
  go_wp2_with fail
  go_cut [5, 6] (fun s5 s6 wx => s5 = .int .i64 2 ∧ s6 = .bool (decide ((y.kind : Int) < 23)) ∧ Hid (TkM w wx y ⟨y.kind, [], 0⟩))
  case first =>
    clear b23
    go_quiet (fail)
    go_wp2_with fail
    go_meet
    exact ⟨rfl, rfl, Hs0.out _⟩
  obtain ⟨rfl, rfl, M0⟩ := hcut
  obtain ⟨⟨k0, k1, k2⟩, -⟩ := three'' M0.out.c1
  obtain ⟨⟨q0, q1, q2⟩, f0, f1, f2⟩ := three'' M0.out.c2
  have hlt0 := lt_of_heap M0.out.c2
  generalize wc = W at *
  go_upto_block 0 with fail
  go_cut [5, 6] (fun s5 s6 wx => s5 = .int .i64 (0) ∧ s6 = .bool (false) ∧ Hid (TkM w wx y z))
  case first =>
    go_wp2_with fail
    go_region
    all_goals
      go_wp2_with fail
      go_meet
      exact ⟨rfl, rfl, by rw [Hz.out]; exact (M0.out.set ⟨y.kind, [], y.num⟩ 2 _ rfl).drew⟩
  case rest =>
    obtain ⟨rfl, rfl, M⟩ := hcut
    clear k0 k1 k2 q0 q1 q2 f0 f1 f2 hlt0
    obtain ⟨⟨k0, k1, k2⟩, -⟩ := three'' M.out.c1
    obtain ⟨⟨q0, q1, q2⟩, -⟩ := three'' M.out.c2
    have hq := stpB_eq y z
    have HR := Lib.hid (HT.out.2 (.inl (by first | rfl | trivial | assumption)))
    clear hq
    go_wp2_with fail
    go_ret2
    exact ⟨by rw [HR.out]; rfl, M.out.bel⟩


end Go.Proofs.YtcjmhmmjfgjcnaaGreatDoor.Pa

/- parse: Takes, k4y. -/
namespace Go.Proofs.YtcjmhmmjfgjcnaaGreatDoor.Pa
open Go.RowKit Go.Proofs.YtcjmhmmjfgjcnaaGreatDoor.Lx
attribute [local go_sem high] stp_equal
set_option maxHeartbeats 1000000 in
set_option maxRecDepth 100000 in
theorem takes_k4y (y : Stp) (w : World) (h0 : y.kind = 4) (h1 : 0 ≤ y.num) :
    Calls Tryz.prog 19 #[y.val] w fun e w' => e = .returned (takesV (takes y)) ∧ Below w.heap.size w w' := by
  have b23 : (y.kind : Int) < 23 := by omega
  have d1 : decide (0 ≤ y.num) = true := decide_eq_true h1
  have HT0 : (((true) = true → y = ⟨y.kind, [], y.num⟩ → takesV (takes y) = .tuple #[.int .i64 (0), .bool true]) ∧ ((true) = false ∨ y ≠ ⟨y.kind, [], y.num⟩ → takesV (takes y) = .tuple #[.int .i64 0, .bool false])) := by
    have ht : takes y = if y.text = [] ∧ 0 ≤ y.num then some (0) else none := by
      unfold takes
      rw [if_neg (by omega), if_pos (by omega)]
    refine ⟨(fun hok e => ?_), (fun h => ?_)⟩
    · rw [ht, if_pos (by rw [e]; exact ⟨rfl, h1⟩)]; simp only [takesV, Option.getD_some, Option.isSome_some]; try rw [Int.toNat_of_nonneg (by omega)]
      try rfl
    · rw [ht, if_neg]
      · rfl
      · intro hc
        rcases h with h | h
        · cases h
        · exact h (by cases y; simp_all)
  have HT := Lib.hid HT0
  clear HT0
  have b0 : ((y.kind : Int) == 0) = false := by rw [beq_eq_false_iff_ne]; omega
  have b1 : ((y.kind : Int) == 1) = false := by rw [beq_eq_false_iff_ne]; omega
  have b2 : ((y.kind : Int) == 2) = false := by rw [beq_eq_false_iff_ne]; omega
  have b3 : ((y.kind : Int) == 3) = false := by rw [beq_eq_false_iff_ne]; omega
  have b4 : ((y.kind : Int) == 4) = true := by rw [beq_iff_eq]; omega
  have b5 : ((y.kind : Int) == 5) = false := by rw [beq_eq_false_iff_ne]; omega
  have b6 : ((y.kind : Int) == 6) = false := by rw [beq_eq_false_iff_ne]; omega
  have b7 : ((y.kind : Int) == 7) = false := by rw [beq_eq_false_iff_ne]; omega
  have b8 : ((y.kind : Int) == 8) = false := by rw [beq_eq_false_iff_ne]; omega
  have b9 : ((y.kind : Int) == 9) = false := by rw [beq_eq_false_iff_ne]; omega
  have b10 : ((y.kind : Int) == 10) = false := by rw [beq_eq_false_iff_ne]; omega
  have b11 : ((y.kind : Int) == 11) = false := by rw [beq_eq_false_iff_ne]; omega
  have hz : ∃ z : Stp, z = ⟨y.kind, [], y.num⟩ := ⟨_, rfl⟩
  obtain ⟨z, hz⟩ := hz
  have Hz := Lib.hid hz
  have Hs0 := Lib.hid (fun n => TkM.start w y ⟨y.kind, [], 0⟩ n)
  clear hz h0 h1
  unfold Stp.val
  go_enter Tryz.func19, Tryz.ntmps19
  go_wp2_with fail
  go_cut [5, 6] (fun s5 s6 wx => s5 = .int .i64 2 ∧ s6 = .bool (decide ((y.kind : Int) < 23)) ∧ Hid (TkM w wx y ⟨y.kind, [], 0⟩))
  case first =>
    clear b23
    go_quiet (fail)
    go_wp2_with fail
    go_meet
    exact ⟨rfl, rfl, Hs0.out _⟩
  obtain ⟨rfl, rfl, M0⟩ := hcut
  obtain ⟨⟨k0, k1, k2⟩, -⟩ := three'' M0.out.c1
  obtain ⟨⟨q0, q1, q2⟩, f0, f1, f2⟩ := three'' M0.out.c2
  have hlt0 := lt_of_heap M0.out.c2
  generalize wc = W at *
  go_upto_block 0 with fail
  go_cut [5, 6] (fun s5 s6 wx => s5 = .int .i64 (0) ∧ s6 = .bool (true) ∧ Hid (TkM w wx y z))
  case first =>
    go_wp2_with fail
    go_region
    all_goals
      go_wp2_with fail
      go_meet
      exact ⟨rfl, rfl, by rw [Hz.out]; exact (M0.out.set ⟨y.kind, [], y.num⟩ 2 _ rfl).drew⟩
  case rest =>
    obtain ⟨rfl, rfl, M⟩ := hcut
    clear k0 k1 k2 q0 q1 q2 f0 f1 f2 hlt0
    obtain ⟨⟨k0, k1, k2⟩, -⟩ := three'' M.out.c1
    obtain ⟨⟨q0, q1, q2⟩, -⟩ := three'' M.out.c2
    have hq := stpB_eq y z
    by_cases e : y = z
    · rw [decide_eq_true e] at hq
      have HR := Lib.hid (HT.out.1 (by first | rfl | trivial | assumption) (by rw [← Hz.out]; exact e))
      clear e
      go_wp2_with fail
      go_ret2
      exact ⟨by rw [HR.out]; rfl, M.out.bel⟩
    · rw [decide_eq_false e] at hq
      have HR := Lib.hid (HT.out.2 (.inr (by rw [← Hz.out]; exact e)))
      clear e
      go_wp2_with fail
      go_ret2
      exact ⟨by rw [HR.out]; rfl, M.out.bel⟩


end Go.Proofs.YtcjmhmmjfgjcnaaGreatDoor.Pa

/- parse: Takes, k7n. -/
namespace Go.Proofs.YtcjmhmmjfgjcnaaGreatDoor.Pa
open Go.RowKit Go.Proofs.YtcjmhmmjfgjcnaaGreatDoor.Lx
attribute [local go_sem high] stp_equal
set_option maxHeartbeats 1000000 in
set_option maxRecDepth 100000 in
theorem takes_k7n (y : Stp) (w : World) (h0 : y.kind = 7) (h1 : ¬ 0 ≤ y.num) :
    Calls Tryz.prog 19 #[y.val] w fun e w' => e = .returned (takesV (takes y)) ∧ Below w.heap.size w w' := by
  have b23 : (y.kind : Int) < 23 := by omega
  have d1 : decide (0 ≤ y.num) = false := decide_eq_false h1
  have HT0 : (((false) = true → y = ⟨y.kind, [], y.num⟩ → takesV (takes y) = .tuple #[.int .i64 (y.num), .bool true]) ∧ ((false) = false ∨ y ≠ ⟨y.kind, [], y.num⟩ → takesV (takes y) = .tuple #[.int .i64 0, .bool false])) := by
    have ht : takes y = if y.text = [] ∧ 0 ≤ y.num ∧ y.num ≤ 64 then some (y.num.toNat) else none := by
      unfold takes
      rw [if_neg (by omega), if_neg (by omega), if_neg (by omega), if_neg (by omega), if_pos (by omega)]
    refine ⟨(fun hok e => ?_), (fun h => ?_)⟩
    · cases hok
    · rw [ht, if_neg]
      · rfl
      · intro hc
        rcases h with h | h
        · exact h1 hc.2.1
        · exact h1 hc.2.1
  have HT := Lib.hid HT0
  clear HT0
  have b0 : ((y.kind : Int) == 0) = false := by rw [beq_eq_false_iff_ne]; omega
  have b1 : ((y.kind : Int) == 1) = false := by rw [beq_eq_false_iff_ne]; omega
  have b2 : ((y.kind : Int) == 2) = false := by rw [beq_eq_false_iff_ne]; omega
  have b3 : ((y.kind : Int) == 3) = false := by rw [beq_eq_false_iff_ne]; omega
  have b4 : ((y.kind : Int) == 4) = false := by rw [beq_eq_false_iff_ne]; omega
  have b5 : ((y.kind : Int) == 5) = false := by rw [beq_eq_false_iff_ne]; omega
  have b6 : ((y.kind : Int) == 6) = false := by rw [beq_eq_false_iff_ne]; omega
  have b7 : ((y.kind : Int) == 7) = true := by rw [beq_iff_eq]; omega
  have b8 : ((y.kind : Int) == 8) = false := by rw [beq_eq_false_iff_ne]; omega
  have b9 : ((y.kind : Int) == 9) = false := by rw [beq_eq_false_iff_ne]; omega
  have b10 : ((y.kind : Int) == 10) = false := by rw [beq_eq_false_iff_ne]; omega
  have b11 : ((y.kind : Int) == 11) = false := by rw [beq_eq_false_iff_ne]; omega
  have hz : ∃ z : Stp, z = ⟨y.kind, [], y.num⟩ := ⟨_, rfl⟩
  obtain ⟨z, hz⟩ := hz
  have Hz := Lib.hid hz
  have Hs0 := Lib.hid (fun n => TkM.start w y ⟨y.kind, [], 0⟩ n)
  clear hz h0 h1
  unfold Stp.val
  go_enter Tryz.func19, Tryz.ntmps19
  go_wp2_with fail
  go_cut [5, 6] (fun s5 s6 wx => s5 = .int .i64 2 ∧ s6 = .bool (decide ((y.kind : Int) < 23)) ∧ Hid (TkM w wx y ⟨y.kind, [], 0⟩))
  case first =>
    clear b23
    go_quiet (fail)
    go_wp2_with fail
    go_meet
    exact ⟨rfl, rfl, Hs0.out _⟩
  obtain ⟨rfl, rfl, M0⟩ := hcut
  obtain ⟨⟨k0, k1, k2⟩, -⟩ := three'' M0.out.c1
  obtain ⟨⟨q0, q1, q2⟩, f0, f1, f2⟩ := three'' M0.out.c2
  have hlt0 := lt_of_heap M0.out.c2
  generalize wc = W at *
  go_upto_block 0 with fail
  go_cut [5, 6] (fun s5 s6 wx => s5 = .int .i64 (y.num) ∧ s6 = .bool (false) ∧ Hid (TkM w wx y z))
  case first =>
    go_wp2_with fail
    go_region
    all_goals
      go_wp2_with fail
      go_meet
      exact ⟨rfl, rfl, by rw [Hz.out]; exact (M0.out.set ⟨y.kind, [], y.num⟩ 2 _ rfl).drew⟩
  case rest =>
    obtain ⟨rfl, rfl, M⟩ := hcut
    clear k0 k1 k2 q0 q1 q2 f0 f1 f2 hlt0
    obtain ⟨⟨k0, k1, k2⟩, -⟩ := three'' M.out.c1
    obtain ⟨⟨q0, q1, q2⟩, -⟩ := three'' M.out.c2
    have hq := stpB_eq y z
    have HR := Lib.hid (HT.out.2 (.inl (by first | rfl | trivial | assumption)))
    clear hq
    go_wp2_with fail
    go_ret2
    exact ⟨by rw [HR.out]; rfl, M.out.bel⟩


end Go.Proofs.YtcjmhmmjfgjcnaaGreatDoor.Pa

/- parse: Takes, k7m. -/
namespace Go.Proofs.YtcjmhmmjfgjcnaaGreatDoor.Pa
open Go.RowKit Go.Proofs.YtcjmhmmjfgjcnaaGreatDoor.Lx
attribute [local go_sem high] stp_equal
set_option maxHeartbeats 1000000 in
set_option maxRecDepth 100000 in
theorem takes_k7m (y : Stp) (w : World) (h0 : y.kind = 7) (h1 : 64 < y.num) :
    Calls Tryz.prog 19 #[y.val] w fun e w' => e = .returned (takesV (takes y)) ∧ Below w.heap.size w w' := by
  have b23 : (y.kind : Int) < 23 := by omega
  have d1 : decide (0 ≤ y.num) = true := decide_eq_true (by omega)
  have d2 : decide (y.num ≤ 64) = false := decide_eq_false (by omega)
  have HT0 : (((false) = true → y = ⟨y.kind, [], y.num⟩ → takesV (takes y) = .tuple #[.int .i64 (y.num), .bool true]) ∧ ((false) = false ∨ y ≠ ⟨y.kind, [], y.num⟩ → takesV (takes y) = .tuple #[.int .i64 0, .bool false])) := by
    have ht : takes y = if y.text = [] ∧ 0 ≤ y.num ∧ y.num ≤ 64 then some (y.num.toNat) else none := by
      unfold takes
      rw [if_neg (by omega), if_neg (by omega), if_neg (by omega), if_neg (by omega), if_pos (by omega)]
    refine ⟨(fun hok e => ?_), (fun h => ?_)⟩
    · cases hok
    · rw [ht, if_neg]
      · rfl
      · intro hc
        rcases h with h | h
        · have := hc.2.2; omega
        · have := hc.2.2; omega
  have HT := Lib.hid HT0
  clear HT0
  have b0 : ((y.kind : Int) == 0) = false := by rw [beq_eq_false_iff_ne]; omega
  have b1 : ((y.kind : Int) == 1) = false := by rw [beq_eq_false_iff_ne]; omega
  have b2 : ((y.kind : Int) == 2) = false := by rw [beq_eq_false_iff_ne]; omega
  have b3 : ((y.kind : Int) == 3) = false := by rw [beq_eq_false_iff_ne]; omega
  have b4 : ((y.kind : Int) == 4) = false := by rw [beq_eq_false_iff_ne]; omega
  have b5 : ((y.kind : Int) == 5) = false := by rw [beq_eq_false_iff_ne]; omega
  have b6 : ((y.kind : Int) == 6) = false := by rw [beq_eq_false_iff_ne]; omega
  have b7 : ((y.kind : Int) == 7) = true := by rw [beq_iff_eq]; omega
  have b8 : ((y.kind : Int) == 8) = false := by rw [beq_eq_false_iff_ne]; omega
  have b9 : ((y.kind : Int) == 9) = false := by rw [beq_eq_false_iff_ne]; omega
  have b10 : ((y.kind : Int) == 10) = false := by rw [beq_eq_false_iff_ne]; omega
  have b11 : ((y.kind : Int) == 11) = false := by rw [beq_eq_false_iff_ne]; omega
  have hz : ∃ z : Stp, z = ⟨y.kind, [], y.num⟩ := ⟨_, rfl⟩
  obtain ⟨z, hz⟩ := hz
  have Hz := Lib.hid hz
  have Hs0 := Lib.hid (fun n => TkM.start w y ⟨y.kind, [], 0⟩ n)
  clear hz h0 h1
  unfold Stp.val
  go_enter Tryz.func19, Tryz.ntmps19
  go_wp2_with fail
  go_cut [5, 6] (fun s5 s6 wx => s5 = .int .i64 2 ∧ s6 = .bool (decide ((y.kind : Int) < 23)) ∧ Hid (TkM w wx y ⟨y.kind, [], 0⟩))
  case first =>
    clear b23
    go_quiet (fail)
    go_wp2_with fail
    go_meet
    exact ⟨rfl, rfl, Hs0.out _⟩
  obtain ⟨rfl, rfl, M0⟩ := hcut
  obtain ⟨⟨k0, k1, k2⟩, -⟩ := three'' M0.out.c1
  obtain ⟨⟨q0, q1, q2⟩, f0, f1, f2⟩ := three'' M0.out.c2
  have hlt0 := lt_of_heap M0.out.c2
  generalize wc = W at *
  go_upto_block 0 with fail
  go_cut [5, 6] (fun s5 s6 wx => s5 = .int .i64 (y.num) ∧ s6 = .bool (false) ∧ Hid (TkM w wx y z))
  case first =>
    go_wp2_with fail
    go_region
    all_goals
      go_wp2_with fail
      go_meet
      exact ⟨rfl, rfl, by rw [Hz.out]; exact (M0.out.set ⟨y.kind, [], y.num⟩ 2 _ rfl).drew⟩
  case rest =>
    obtain ⟨rfl, rfl, M⟩ := hcut
    clear k0 k1 k2 q0 q1 q2 f0 f1 f2 hlt0
    obtain ⟨⟨k0, k1, k2⟩, -⟩ := three'' M.out.c1
    obtain ⟨⟨q0, q1, q2⟩, -⟩ := three'' M.out.c2
    have hq := stpB_eq y z
    have HR := Lib.hid (HT.out.2 (.inl (by first | rfl | trivial | assumption)))
    clear hq
    go_wp2_with fail
    go_ret2
    exact ⟨by rw [HR.out]; rfl, M.out.bel⟩


end Go.Proofs.YtcjmhmmjfgjcnaaGreatDoor.Pa

/- parse: Takes, k7y. -/
namespace Go.Proofs.YtcjmhmmjfgjcnaaGreatDoor.Pa
open Go.RowKit Go.Proofs.YtcjmhmmjfgjcnaaGreatDoor.Lx
attribute [local go_sem high] stp_equal
set_option maxHeartbeats 1000000 in
set_option maxRecDepth 100000 in
theorem takes_k7y (y : Stp) (w : World) (h0 : y.kind = 7) (h1 : 0 ≤ y.num ∧ y.num ≤ 64) :
    Calls Tryz.prog 19 #[y.val] w fun e w' => e = .returned (takesV (takes y)) ∧ Below w.heap.size w w' := by
  have b23 : (y.kind : Int) < 23 := by omega
  have d1 : decide (0 ≤ y.num) = true := decide_eq_true h1.1
  have d2 : decide (y.num ≤ 64) = true := decide_eq_true h1.2
  have l1 := h1.1
  have HT0 : (((true) = true → y = ⟨y.kind, [], y.num⟩ → takesV (takes y) = .tuple #[.int .i64 (y.num), .bool true]) ∧ ((true) = false ∨ y ≠ ⟨y.kind, [], y.num⟩ → takesV (takes y) = .tuple #[.int .i64 0, .bool false])) := by
    have ht : takes y = if y.text = [] ∧ 0 ≤ y.num ∧ y.num ≤ 64 then some (y.num.toNat) else none := by
      unfold takes
      rw [if_neg (by omega), if_neg (by omega), if_neg (by omega), if_neg (by omega), if_pos (by omega)]
    refine ⟨(fun hok e => ?_), (fun h => ?_)⟩
    · rw [ht, if_pos (by rw [e]; exact ⟨rfl, h1⟩)]; simp only [takesV, Option.getD_some, Option.isSome_some]; try rw [Int.toNat_of_nonneg (by omega)]
      try rfl
    · rw [ht, if_neg]
      · rfl
      · intro hc
        rcases h with h | h
        · cases h
        · exact h (by cases y; simp_all)
  have HT := Lib.hid HT0
  clear HT0
  have b0 : ((y.kind : Int) == 0) = false := by rw [beq_eq_false_iff_ne]; omega
  have b1 : ((y.kind : Int) == 1) = false := by rw [beq_eq_false_iff_ne]; omega
  have b2 : ((y.kind : Int) == 2) = false := by rw [beq_eq_false_iff_ne]; omega
  have b3 : ((y.kind : Int) == 3) = false := by rw [beq_eq_false_iff_ne]; omega
  have b4 : ((y.kind : Int) == 4) = false := by rw [beq_eq_false_iff_ne]; omega
  have b5 : ((y.kind : Int) == 5) = false := by rw [beq_eq_false_iff_ne]; omega
  have b6 : ((y.kind : Int) == 6) = false := by rw [beq_eq_false_iff_ne]; omega
  have b7 : ((y.kind : Int) == 7) = true := by rw [beq_iff_eq]; omega
  have b8 : ((y.kind : Int) == 8) = false := by rw [beq_eq_false_iff_ne]; omega
  have b9 : ((y.kind : Int) == 9) = false := by rw [beq_eq_false_iff_ne]; omega
  have b10 : ((y.kind : Int) == 10) = false := by rw [beq_eq_false_iff_ne]; omega
  have b11 : ((y.kind : Int) == 11) = false := by rw [beq_eq_false_iff_ne]; omega
  have hz : ∃ z : Stp, z = ⟨y.kind, [], y.num⟩ := ⟨_, rfl⟩
  obtain ⟨z, hz⟩ := hz
  have Hz := Lib.hid hz
  have Hs0 := Lib.hid (fun n => TkM.start w y ⟨y.kind, [], 0⟩ n)
  clear hz h0 h1
  unfold Stp.val
  go_enter Tryz.func19, Tryz.ntmps19
  go_wp2_with fail
  go_cut [5, 6] (fun s5 s6 wx => s5 = .int .i64 2 ∧ s6 = .bool (decide ((y.kind : Int) < 23)) ∧ Hid (TkM w wx y ⟨y.kind, [], 0⟩))
  case first =>
    clear b23
    go_quiet (fail)
    go_wp2_with fail
    go_meet
    exact ⟨rfl, rfl, Hs0.out _⟩
  obtain ⟨rfl, rfl, M0⟩ := hcut
  obtain ⟨⟨k0, k1, k2⟩, -⟩ := three'' M0.out.c1
  obtain ⟨⟨q0, q1, q2⟩, f0, f1, f2⟩ := three'' M0.out.c2
  have hlt0 := lt_of_heap M0.out.c2
  generalize wc = W at *
  go_upto_block 0 with fail
  go_cut [5, 6] (fun s5 s6 wx => s5 = .int .i64 (y.num) ∧ s6 = .bool (true) ∧ Hid (TkM w wx y z))
  case first =>
    go_wp2_with fail
    go_region
    all_goals
      go_wp2_with fail
      go_meet
      exact ⟨rfl, rfl, by rw [Hz.out]; exact (M0.out.set ⟨y.kind, [], y.num⟩ 2 _ rfl).drew⟩
  case rest =>
    obtain ⟨rfl, rfl, M⟩ := hcut
    clear k0 k1 k2 q0 q1 q2 f0 f1 f2 hlt0
    obtain ⟨⟨k0, k1, k2⟩, -⟩ := three'' M.out.c1
    obtain ⟨⟨q0, q1, q2⟩, -⟩ := three'' M.out.c2
    have hq := stpB_eq y z
    by_cases e : y = z
    · rw [decide_eq_true e] at hq
      have HR := Lib.hid (HT.out.1 (by first | rfl | trivial | assumption) (by rw [← Hz.out]; exact e))
      clear e
      go_wp2_with fail
      go_ret2
      exact ⟨by rw [HR.out]; rfl, M.out.bel⟩
    · rw [decide_eq_false e] at hq
      have HR := Lib.hid (HT.out.2 (.inr (by rw [← Hz.out]; exact e)))
      clear e
      go_wp2_with fail
      go_ret2
      exact ⟨by rw [HR.out]; rfl, M.out.bel⟩


end Go.Proofs.YtcjmhmmjfgjcnaaGreatDoor.Pa

/- parse: Takes, k5n. -/
namespace Go.Proofs.YtcjmhmmjfgjcnaaGreatDoor.Pa
open Go.RowKit Go.Proofs.YtcjmhmmjfgjcnaaGreatDoor.Lx
attribute [local go_sem high] stp_equal
set_option maxHeartbeats 1000000 in
set_option maxRecDepth 100000 in
theorem takes_k5n (y : Stp) (w : World) (h0 : y.kind = 5) (h1 : 1024 < y.text.length) :
    Calls Tryz.prog 19 #[y.val] w fun e w' => e = .returned (takesV (takes y)) ∧ Below w.heap.size w w' := by
  have b23 : (y.kind : Int) < 23 := by omega
  have d1 : decide ((y.text.length : Int) ≤ 1024) = false := decide_eq_false (by omega)
  have d3 : decide (y.text.length ≤ 1024) = false := decide_eq_false (by omega)
  have d2 : ¬ y.text.length ≤ 1024 := by omega
  have HT0 : (((false) = true → y = ⟨y.kind, y.text, 0⟩ → takesV (takes y) = .tuple #[.int .i64 (0), .bool true]) ∧ ((false) = false ∨ y ≠ ⟨y.kind, y.text, 0⟩ → takesV (takes y) = .tuple #[.int .i64 0, .bool false])) := by
    have ht : takes y = if y.num = 0 ∧ y.text.length ≤ 1024 ∧ Lib.validD y.text = true then some (0) else none := by
      unfold takes
      rw [if_neg (by omega), if_neg (by omega), if_pos (by omega)]
    refine ⟨(fun hok e => ?_), (fun h => ?_)⟩
    · cases hok
    · rw [ht, if_neg]
      · rfl
      · intro hc
        rcases h with h | h
        · have := hc.2.1; omega
        · have := hc.2.1; omega
  have HT := Lib.hid HT0
  clear HT0
  have b0 : ((y.kind : Int) == 0) = false := by rw [beq_eq_false_iff_ne]; omega
  have b1 : ((y.kind : Int) == 1) = false := by rw [beq_eq_false_iff_ne]; omega
  have b2 : ((y.kind : Int) == 2) = false := by rw [beq_eq_false_iff_ne]; omega
  have b3 : ((y.kind : Int) == 3) = false := by rw [beq_eq_false_iff_ne]; omega
  have b4 : ((y.kind : Int) == 4) = false := by rw [beq_eq_false_iff_ne]; omega
  have b5 : ((y.kind : Int) == 5) = true := by rw [beq_iff_eq]; omega
  have b6 : ((y.kind : Int) == 6) = false := by rw [beq_eq_false_iff_ne]; omega
  have b7 : ((y.kind : Int) == 7) = false := by rw [beq_eq_false_iff_ne]; omega
  have b8 : ((y.kind : Int) == 8) = false := by rw [beq_eq_false_iff_ne]; omega
  have b9 : ((y.kind : Int) == 9) = false := by rw [beq_eq_false_iff_ne]; omega
  have b10 : ((y.kind : Int) == 10) = false := by rw [beq_eq_false_iff_ne]; omega
  have b11 : ((y.kind : Int) == 11) = false := by rw [beq_eq_false_iff_ne]; omega
  have hz : ∃ z : Stp, z = ⟨y.kind, y.text, 0⟩ := ⟨_, rfl⟩
  obtain ⟨z, hz⟩ := hz
  have Hz := Lib.hid hz
  have Hs0 := Lib.hid (fun n => TkM.start w y ⟨y.kind, [], 0⟩ n)
  clear hz h0 h1
  unfold Stp.val
  go_enter Tryz.func19, Tryz.ntmps19
  go_wp2_with fail
  go_cut [5, 6] (fun s5 s6 wx => s5 = .int .i64 2 ∧ s6 = .bool (decide ((y.kind : Int) < 23)) ∧ Hid (TkM w wx y ⟨y.kind, [], 0⟩))
  case first =>
    clear b23
    go_quiet (fail)
    go_wp2_with fail
    go_meet
    exact ⟨rfl, rfl, Hs0.out _⟩
  obtain ⟨rfl, rfl, M0⟩ := hcut
  obtain ⟨⟨k0, k1, k2⟩, -⟩ := three'' M0.out.c1
  obtain ⟨⟨q0, q1, q2⟩, f0, f1, f2⟩ := three'' M0.out.c2
  have hlt0 := lt_of_heap M0.out.c2
  generalize wc = W at *
  go_upto_block 0 with fail
  go_cut [5, 6] (fun s5 s6 wx => s5 = .int .i64 (0) ∧ s6 = .bool (false) ∧ Hid (TkM w wx y z))
  case first =>
    go_wp2_with fail
    go_region
    all_goals
      go_wp2_with fail
      go_meet
      exact ⟨rfl, rfl, by rw [Hz.out]; exact (M0.out.set ⟨y.kind, y.text, 0⟩ 1 _ rfl).drew⟩
  case rest =>
    obtain ⟨rfl, rfl, M⟩ := hcut
    clear k0 k1 k2 q0 q1 q2 f0 f1 f2 hlt0
    obtain ⟨⟨k0, k1, k2⟩, -⟩ := three'' M.out.c1
    obtain ⟨⟨q0, q1, q2⟩, -⟩ := three'' M.out.c2
    have hq := stpB_eq y z
    have HR := Lib.hid (HT.out.2 (.inl (by first | rfl | trivial | assumption)))
    clear hq
    go_wp2_with fail
    go_ret2
    exact ⟨by rw [HR.out]; rfl, M.out.bel⟩


end Go.Proofs.YtcjmhmmjfgjcnaaGreatDoor.Pa

/- parse: Takes, k5y. -/
namespace Go.Proofs.YtcjmhmmjfgjcnaaGreatDoor.Pa
open Go.RowKit Go.Proofs.YtcjmhmmjfgjcnaaGreatDoor.Lx
attribute [local go_sem high] stp_equal
set_option maxHeartbeats 1000000 in
set_option maxRecDepth 100000 in
theorem takes_k5y (y : Stp) (w : World) (h0 : y.kind = 5) (h1 : y.text.length ≤ 1024) (he : Env w) :
    Calls Tryz.prog 19 #[y.val] w fun e w' => e = .returned (takesV (takes y)) ∧ Below w.heap.size w w' := by
  have b23 : (y.kind : Int) < 23 := by omega
  have d1 : decide ((y.text.length : Int) ≤ 1024) = true := decide_eq_true (by omega)
  have He := Lib.hid he
  have hl := h1
  have HT0 : (((Lib.validD y.text) = true → y = ⟨y.kind, y.text, 0⟩ → takesV (takes y) = .tuple #[.int .i64 (0), .bool true]) ∧ ((Lib.validD y.text) = false ∨ y ≠ ⟨y.kind, y.text, 0⟩ → takesV (takes y) = .tuple #[.int .i64 0, .bool false])) := by
    have ht : takes y = if y.num = 0 ∧ y.text.length ≤ 1024 ∧ Lib.validD y.text = true then some (0) else none := by
      unfold takes
      rw [if_neg (by omega), if_neg (by omega), if_pos (by omega)]
    refine ⟨(fun hok e => ?_), (fun h => ?_)⟩
    · rw [ht, if_pos (by rw [e] at hok ⊢; exact ⟨rfl, h1, hok⟩)]; simp only [takesV, Option.getD_some, Option.isSome_some]; try rw [Int.toNat_of_nonneg (by omega)]
      try rfl
    · rw [ht, if_neg]
      · rfl
      · intro hc
        rcases h with h | h
        · rw [hc.2.2] at h; cases h
        · exact h (by cases y; simp_all)
  have HT := Lib.hid HT0
  clear HT0
  have b0 : ((y.kind : Int) == 0) = false := by rw [beq_eq_false_iff_ne]; omega
  have b1 : ((y.kind : Int) == 1) = false := by rw [beq_eq_false_iff_ne]; omega
  have b2 : ((y.kind : Int) == 2) = false := by rw [beq_eq_false_iff_ne]; omega
  have b3 : ((y.kind : Int) == 3) = false := by rw [beq_eq_false_iff_ne]; omega
  have b4 : ((y.kind : Int) == 4) = false := by rw [beq_eq_false_iff_ne]; omega
  have b5 : ((y.kind : Int) == 5) = true := by rw [beq_iff_eq]; omega
  have b6 : ((y.kind : Int) == 6) = false := by rw [beq_eq_false_iff_ne]; omega
  have b7 : ((y.kind : Int) == 7) = false := by rw [beq_eq_false_iff_ne]; omega
  have b8 : ((y.kind : Int) == 8) = false := by rw [beq_eq_false_iff_ne]; omega
  have b9 : ((y.kind : Int) == 9) = false := by rw [beq_eq_false_iff_ne]; omega
  have b10 : ((y.kind : Int) == 10) = false := by rw [beq_eq_false_iff_ne]; omega
  have b11 : ((y.kind : Int) == 11) = false := by rw [beq_eq_false_iff_ne]; omega
  have hz : ∃ z : Stp, z = ⟨y.kind, y.text, 0⟩ := ⟨_, rfl⟩
  obtain ⟨z, hz⟩ := hz
  have Hz := Lib.hid hz
  have Hs0 := Lib.hid (fun n => TkM.start w y ⟨y.kind, [], 0⟩ n)
  clear hz h0 h1
  unfold Stp.val
  go_enter Tryz.func19, Tryz.ntmps19
  go_wp2_with fail
  go_cut [5, 6] (fun s5 s6 wx => s5 = .int .i64 2 ∧ s6 = .bool (decide ((y.kind : Int) < 23)) ∧ Hid (TkM w wx y ⟨y.kind, [], 0⟩))
  case first =>
    clear b23
    go_quiet (fail)
    go_wp2_with fail
    go_meet
    exact ⟨rfl, rfl, Hs0.out _⟩
  obtain ⟨rfl, rfl, M0⟩ := hcut
  obtain ⟨⟨k0, k1, k2⟩, -⟩ := three'' M0.out.c1
  obtain ⟨⟨q0, q1, q2⟩, f0, f1, f2⟩ := three'' M0.out.c2
  have hlt0 := lt_of_heap M0.out.c2
  generalize wc = W at *
  go_upto_block 0 with fail
  go_cut [5, 6] (fun s5 s6 wx => s5 = .int .i64 (0) ∧ s6 = .bool (Lib.validD y.text) ∧ Hid (TkM w wx y z))
  case first =>
    clear he
    go_wp2_with fail
    go_region_with ((go_at_call 55; refine (valid_calls y.text _ (by rw [size_mk]; omega) (He.out.below M0.out.drew.bel)).mono ?_; rintro e w9 ⟨rfl, hb9⟩; have M9 := M0.out.drew.step hb9; have HM9 := Lib.hid M9; obtain ⟨⟨a0, a1, a2⟩, -⟩ := three'' M9.c1; obtain ⟨⟨e0, e1, e2⟩, f0, f1, f2⟩ := three'' M9.c2; have hlt9 := lt_of_heap M9.c2; clear M9 hb9))
    all_goals
      go_wp2_with fail
      go_meet
      exact ⟨rfl, rfl, by rw [Hz.out]; exact HM9.out.set ⟨y.kind, y.text, 0⟩ 1 _ rfl⟩
  case rest =>
    obtain ⟨rfl, rfl, M⟩ := hcut
    clear k0 k1 k2 q0 q1 q2 f0 f1 f2 hlt0
    obtain ⟨⟨k0, k1, k2⟩, -⟩ := three'' M.out.c1
    obtain ⟨⟨q0, q1, q2⟩, -⟩ := three'' M.out.c2
    have hq := stpB_eq y z
    have Hok := Lib.hid (rfl : (Lib.validD y.text) = (Lib.validD y.text))
    generalize (Lib.validD y.text) = ok at *
    cases ok with
    | true =>
      by_cases e : y = z
      · rw [decide_eq_true e] at hq
        have HR := Lib.hid (HT.out.1 (by first | rfl | trivial | assumption) (by rw [← Hz.out]; exact e))
        clear e
        go_wp2_with fail
        go_ret2
        exact ⟨by rw [HR.out]; rfl, M.out.bel⟩
      · rw [decide_eq_false e] at hq
        have HR := Lib.hid (HT.out.2 (.inr (by rw [← Hz.out]; exact e)))
        clear e
        go_wp2_with fail
        go_ret2
        exact ⟨by rw [HR.out]; rfl, M.out.bel⟩
    | false =>
      have HR := Lib.hid (HT.out.2 (.inl (by first | rfl | trivial | assumption)))
      clear hq
      go_wp2_with fail
      go_ret2
      exact ⟨by rw [HR.out]; rfl, M.out.bel⟩


end Go.Proofs.YtcjmhmmjfgjcnaaGreatDoor.Pa
