/- Parts: PbK6 PbK8N PbK8M PbK8Y PbD PbE. -/
import Derived.Test.YtcjmhmmjfgjcnaaGreatDoorMh29
import Derived.Test.YtcjmhmmjfgjcnaaGreatDoorMh30
import Derived.Deep.RegionWith
import Derived.RegionTactic
import Derived.Deep.RegionHeld3

/- parse: Takes, k6. -/
namespace Go.Proofs.YtcjmhmmjfgjcnaaGreatDoor.Pa
open Go.RowKit Go.Proofs.YtcjmhmmjfgjcnaaGreatDoor.Lx
attribute [local go_sem high] stp_equal
set_option maxHeartbeats 1000000 in
set_option maxRecDepth 100000 in
theorem takes_k6 (y : Stp) (w : World) (h0 : y.kind = 6) (h1 : y.text.length ≤ 1048575) (he : Env w) :
    Calls Tryz.prog 19 #[y.val] w fun e w' => e = .returned (takesV (takes y)) ∧ Below w.heap.size w w' := by
  have b23 : (y.kind : Int) < 23 := by omega
  have He := Lib.hid he
  have hl := h1
  have HT0 : (((pathB y.text) = true → y = ⟨y.kind, y.text, 0⟩ → takesV (takes y) = .tuple #[.int .i64 (0), .bool true]) ∧ ((pathB y.text) = false ∨ y ≠ ⟨y.kind, y.text, 0⟩ → takesV (takes y) = .tuple #[.int .i64 0, .bool false])) := by
    have ht : takes y = if y.num = 0 ∧ pathB y.text = true then some (0) else none := by
      unfold takes
      rw [if_neg (by omega), if_neg (by omega), if_neg (by omega), if_pos (by omega)]
    refine ⟨(fun hok e => ?_), (fun h => ?_)⟩
    · rw [ht, if_pos (by rw [e] at hok ⊢; exact ⟨rfl, hok⟩)]; simp only [takesV, Option.getD_some, Option.isSome_some]; try rw [Int.toNat_of_nonneg (by omega)]
      try rfl
    · rw [ht, if_neg]
      · rfl
      · intro hc
        rcases h with h | h
        · rw [hc.2] at h; cases h
        · exact h (by cases y; simp_all)
  have HT := Lib.hid HT0
  clear HT0
  have b0 : ((y.kind : Int) == 0) = false := by rw [beq_eq_false_iff_ne]; omega
  have b1 : ((y.kind : Int) == 1) = false := by rw [beq_eq_false_iff_ne]; omega
  have b2 : ((y.kind : Int) == 2) = false := by rw [beq_eq_false_iff_ne]; omega
  have b3 : ((y.kind : Int) == 3) = false := by rw [beq_eq_false_iff_ne]; omega
  have b4 : ((y.kind : Int) == 4) = false := by rw [beq_eq_false_iff_ne]; omega
  have b5 : ((y.kind : Int) == 5) = false := by rw [beq_eq_false_iff_ne]; omega
  have b6 : ((y.kind : Int) == 6) = true := by rw [beq_iff_eq]; omega
  have b7 : ((y.kind : Int) == 7) = false := by rw [beq_eq_false_iff_ne]; omega
  have b8 : ((y.kind : Int) == 8) = false := by rw [beq_eq_false_iff_ne]; omega
  have b9 : ((y.kind : Int) == 9) = false := by rw [beq_eq_false_iff_ne]; omega
  have b10 : ((y.kind : Int) == 10) = false := by rw [beq_eq_false_iff_ne]; omega
  have b11 : ((y.kind : Int) == 11) = false := by rw [beq_eq_false_iff_ne]; omega
  have hz : ∃ z : Stp, z = ⟨y.kind, y.text, 0⟩ := ⟨_, rfl⟩
  obtain ⟨z, hz⟩ := hz
  have Hz := Lib.hid hz
  have Hs0 := Lib.hid (fun n => TkM.start w y ⟨y.kind, [], 0⟩ n)
  clear hz h0 h1
  unfold Stp.val
  go_enter Tryz.func19, Tryz.ntmps19
  go_wp2_with fail
  go_cut [5, 6] (fun s5 s6 wx => s5 = .int .i64 2 ∧ s6 = .bool (decide ((y.kind : Int) < 23)) ∧ Hid (TkM w wx y ⟨y.kind, [], 0⟩))
  case first =>
    clear b23
    go_quiet (fail)
    go_wp2_with fail
    go_meet
    exact ⟨rfl, rfl, Hs0.out _⟩
  obtain ⟨rfl, rfl, M0⟩ := hcut
  obtain ⟨⟨k0, k1, k2⟩, -⟩ := three'' M0.out.c1
  obtain ⟨⟨q0, q1, q2⟩, f0, f1, f2⟩ := three'' M0.out.c2
  have hlt0 := lt_of_heap M0.out.c2
  generalize wc = W at *
  go_upto_block 0 with fail
  go_cut [5, 6] (fun s5 s6 wx => s5 = .int .i64 (0) ∧ s6 = .bool (pathB y.text) ∧ Hid (TkM w wx y z))
  case first =>
    clear he
    go_wp2_with fail
    go_region_with ((go_at_call 56; refine (pathS_calls y.text _ (by omega) (He.out.below M0.out.drew.bel)).mono ?_; rintro e w9 ⟨rfl, hb9⟩; have M9 := M0.out.drew.step hb9; have HM9 := Lib.hid M9; obtain ⟨⟨a0, a1, a2⟩, -⟩ := three'' M9.c1; obtain ⟨⟨e0, e1, e2⟩, f0, f1, f2⟩ := three'' M9.c2; have hlt9 := lt_of_heap M9.c2; clear M9 hb9))
    all_goals
      go_wp2_with fail
      go_meet
      exact ⟨rfl, rfl, by rw [Hz.out]; exact HM9.out.set ⟨y.kind, y.text, 0⟩ 1 _ rfl⟩
  case rest =>
    obtain ⟨rfl, rfl, M⟩ := hcut
    clear k0 k1 k2 q0 q1 q2 f0 f1 f2 hlt0
    obtain ⟨⟨k0, k1, k2⟩, -⟩ := three'' M.out.c1
    obtain ⟨⟨q0, q1, q2⟩, -⟩ := three'' M.out.c2
    have hq := stpB_eq y z
    have Hok := Lib.hid (rfl : (pathB y.text) = (pathB y.text))
    generalize (pathB y.text) = ok at *
    cases ok with
    | true =>
      by_cases e : y = z
      · rw [decide_eq_true e] at hq
        have HR := Lib.hid (HT.out.1 (by first | rfl | trivial | assumption) (by rw [← Hz.out]; exact e))
        clear e
        go_wp2_with fail
        go_ret2
        exact ⟨by rw [HR.out]; rfl, M.out.bel⟩
      · rw [decide_eq_false e] at hq
        have HR := Lib.hid (HT.out.2 (.inr (by rw [← Hz.out]; exact e)))
        clear e
        go_wp2_with fail
        go_ret2
        exact ⟨by rw [HR.out]; rfl, M.out.bel⟩
    | false =>
      have HR := Lib.hid (HT.out.2 (.inl (by first | rfl | trivial | assumption)))
      clear hq
      go_wp2_with fail
      go_ret2
      exact ⟨by rw [HR.out]; rfl, M.out.bel⟩


end Go.Proofs.YtcjmhmmjfgjcnaaGreatDoor.Pa

/- parse: Takes, k8n. -/
namespace Go.Proofs.YtcjmhmmjfgjcnaaGreatDoor.Pa
open Go.RowKit Go.Proofs.YtcjmhmmjfgjcnaaGreatDoor.Lx
attribute [local go_sem high] stp_equal
set_option maxHeartbeats 1000000 in
set_option maxRecDepth 100000 in
theorem takes_k8n (y : Stp) (w : World) (h0 : y.kind = 8) (h1 : ¬ 0 ≤ y.num) :
    Calls Tryz.prog 19 #[y.val] w fun e w' => e = .returned (takesV (takes y)) ∧ Below w.heap.size w w' := by
  have b23 : (y.kind : Int) < 23 := by omega
  have d1 : decide (0 ≤ y.num) = false := decide_eq_false h1
  have HT0 : (((false) = true → y = y → takesV (takes y) = .tuple #[.int .i64 (y.num), .bool true]) ∧ ((false) = false ∨ y ≠ y → takesV (takes y) = .tuple #[.int .i64 0, .bool false])) := by
    have ht : takes y = if 0 ≤ y.num ∧ y.num ≤ 64 ∧ namesB y.text y.num = true then some (y.num.toNat) else none := by
      unfold takes
      rw [if_neg (by omega), if_neg (by omega), if_neg (by omega), if_neg (by omega), if_neg (by omega), if_pos (by omega)]
    refine ⟨(fun hok e => ?_), (fun h => ?_)⟩
    · cases hok
    · rw [ht, if_neg]
      · rfl
      · intro hc
        rcases h with h | h
        · exact h1 hc.1
        · exact h1 hc.1
  have HT := Lib.hid HT0
  clear HT0
  have b0 : ((y.kind : Int) == 0) = false := by rw [beq_eq_false_iff_ne]; omega
  have b1 : ((y.kind : Int) == 1) = false := by rw [beq_eq_false_iff_ne]; omega
  have b2 : ((y.kind : Int) == 2) = false := by rw [beq_eq_false_iff_ne]; omega
  have b3 : ((y.kind : Int) == 3) = false := by rw [beq_eq_false_iff_ne]; omega
  have b4 : ((y.kind : Int) == 4) = false := by rw [beq_eq_false_iff_ne]; omega
  have b5 : ((y.kind : Int) == 5) = false := by rw [beq_eq_false_iff_ne]; omega
  have b6 : ((y.kind : Int) == 6) = false := by rw [beq_eq_false_iff_ne]; omega
  have b7 : ((y.kind : Int) == 7) = false := by rw [beq_eq_false_iff_ne]; omega
  have b8 : ((y.kind : Int) == 8) = true := by rw [beq_iff_eq]; omega
  have b9 : ((y.kind : Int) == 9) = false := by rw [beq_eq_false_iff_ne]; omega
  have b10 : ((y.kind : Int) == 10) = false := by rw [beq_eq_false_iff_ne]; omega
  have b11 : ((y.kind : Int) == 11) = false := by rw [beq_eq_false_iff_ne]; omega
  have hz : ∃ z : Stp, z = y := ⟨_, rfl⟩
  obtain ⟨z, hz⟩ := hz
  have Hz := Lib.hid hz
  have Hs0 := Lib.hid (fun n => TkM.start w y ⟨y.kind, [], 0⟩ n)
  clear hz h0 h1
  unfold Stp.val
  go_enter Tryz.func19, Tryz.ntmps19
  go_wp2_with fail
  go_cut [5, 6] (fun s5 s6 wx => s5 = .int .i64 2 ∧ s6 = .bool (decide ((y.kind : Int) < 23)) ∧ Hid (TkM w wx y ⟨y.kind, [], 0⟩))
  case first =>
    clear b23
    go_quiet (fail)
    go_wp2_with fail
    go_meet
    exact ⟨rfl, rfl, Hs0.out _⟩
  obtain ⟨rfl, rfl, M0⟩ := hcut
  obtain ⟨⟨k0, k1, k2⟩, -⟩ := three'' M0.out.c1
  obtain ⟨⟨q0, q1, q2⟩, f0, f1, f2⟩ := three'' M0.out.c2
  have hlt0 := lt_of_heap M0.out.c2
  generalize wc = W at *
  go_upto_block 0 with fail
  go_cut [5, 6] (fun s5 s6 wx => s5 = .int .i64 (y.num) ∧ s6 = .bool (false) ∧ Hid (TkM w wx y z))
  case first =>
    go_wp2_with fail
    go_region
    all_goals
      go_wp2_with fail
      go_meet
      exact ⟨rfl, rfl, by rw [Hz.out]; exact (((M0.out.set ⟨y.kind, [], 0⟩ 0 _ rfl).set ⟨y.kind, y.text, 0⟩ 1 _ rfl).set y 2 _ rfl).drew⟩
  case rest =>
    obtain ⟨rfl, rfl, M⟩ := hcut
    clear k0 k1 k2 q0 q1 q2 f0 f1 f2 hlt0
    obtain ⟨⟨k0, k1, k2⟩, -⟩ := three'' M.out.c1
    obtain ⟨⟨q0, q1, q2⟩, -⟩ := three'' M.out.c2
    have hq := stpB_eq y z
    have HR := Lib.hid (HT.out.2 (.inl (by first | rfl | trivial | assumption)))
    clear hq
    go_wp2_with fail
    go_ret2
    exact ⟨by rw [HR.out]; rfl, M.out.bel⟩


end Go.Proofs.YtcjmhmmjfgjcnaaGreatDoor.Pa

/- parse: Takes, k8m. -/
namespace Go.Proofs.YtcjmhmmjfgjcnaaGreatDoor.Pa
open Go.RowKit Go.Proofs.YtcjmhmmjfgjcnaaGreatDoor.Lx
attribute [local go_sem high] stp_equal
set_option maxHeartbeats 1000000 in
set_option maxRecDepth 100000 in
theorem takes_k8m (y : Stp) (w : World) (h0 : y.kind = 8) (h1 : 64 < y.num) :
    Calls Tryz.prog 19 #[y.val] w fun e w' => e = .returned (takesV (takes y)) ∧ Below w.heap.size w w' := by
  have b23 : (y.kind : Int) < 23 := by omega
  have d1 : decide (0 ≤ y.num) = true := decide_eq_true (by omega)
  have d2 : decide (y.num ≤ 64) = false := decide_eq_false (by omega)
  have HT0 : (((false) = true → y = y → takesV (takes y) = .tuple #[.int .i64 (y.num), .bool true]) ∧ ((false) = false ∨ y ≠ y → takesV (takes y) = .tuple #[.int .i64 0, .bool false])) := by
    have ht : takes y = if 0 ≤ y.num ∧ y.num ≤ 64 ∧ namesB y.text y.num = true then some (y.num.toNat) else none := by
      unfold takes
      rw [if_neg (by omega), if_neg (by omega), if_neg (by omega), if_neg (by omega), if_neg (by omega), if_pos (by omega)]
    refine ⟨(fun hok e => ?_), (fun h => ?_)⟩
    · cases hok
    · rw [ht, if_neg]
      · rfl
      · intro hc
        rcases h with h | h
        · have := hc.2.1; omega
        · have := hc.2.1; omega
  have HT := Lib.hid HT0
  clear HT0
  have b0 : ((y.kind : Int) == 0) = false := by rw [beq_eq_false_iff_ne]; omega
  have b1 : ((y.kind : Int) == 1) = false := by rw [beq_eq_false_iff_ne]; omega
  have b2 : ((y.kind : Int) == 2) = false := by rw [beq_eq_false_iff_ne]; omega
  have b3 : ((y.kind : Int) == 3) = false := by rw [beq_eq_false_iff_ne]; omega
  have b4 : ((y.kind : Int) == 4) = false := by rw [beq_eq_false_iff_ne]; omega
  have b5 : ((y.kind : Int) == 5) = false := by rw [beq_eq_false_iff_ne]; omega
  have b6 : ((y.kind : Int) == 6) = false := by rw [beq_eq_false_iff_ne]; omega
  have b7 : ((y.kind : Int) == 7) = false := by rw [beq_eq_false_iff_ne]; omega
  have b8 : ((y.kind : Int) == 8) = true := by rw [beq_iff_eq]; omega
  have b9 : ((y.kind : Int) == 9) = false := by rw [beq_eq_false_iff_ne]; omega
  have b10 : ((y.kind : Int) == 10) = false := by rw [beq_eq_false_iff_ne]; omega
  have b11 : ((y.kind : Int) == 11) = false := by rw [beq_eq_false_iff_ne]; omega
  have hz : ∃ z : Stp, z = y := ⟨_, rfl⟩
  obtain ⟨z, hz⟩ := hz
  have Hz := Lib.hid hz
  have Hs0 := Lib.hid (fun n => TkM.start w y ⟨y.kind, [], 0⟩ n)
  clear hz h0 h1
  unfold Stp.val
  go_enter Tryz.func19, Tryz.ntmps19
  go_wp2_with fail
  go_cut [5, 6] (fun s5 s6 wx => s5 = .int .i64 2 ∧ s6 = .bool (decide ((y.kind : Int) < 23)) ∧ Hid (TkM w wx y ⟨y.kind, [], 0⟩))
  case first =>
    clear b23
    go_quiet (fail)
    go_wp2_with fail
    go_meet
    exact ⟨rfl, rfl, Hs0.out _⟩
  obtain ⟨rfl, rfl, M0⟩ := hcut
  obtain ⟨⟨k0, k1, k2⟩, -⟩ := three'' M0.out.c1
  obtain ⟨⟨q0, q1, q2⟩, f0, f1, f2⟩ := three'' M0.out.c2
  have hlt0 := lt_of_heap M0.out.c2
  generalize wc = W at *
  go_upto_block 0 with fail
  go_cut [5, 6] (fun s5 s6 wx => s5 = .int .i64 (y.num) ∧ s6 = .bool (false) ∧ Hid (TkM w wx y z))
  case first =>
    go_wp2_with fail
    go_region
    all_goals
      go_wp2_with fail
      go_meet
      exact ⟨rfl, rfl, by rw [Hz.out]; exact (((M0.out.set ⟨y.kind, [], 0⟩ 0 _ rfl).set ⟨y.kind, y.text, 0⟩ 1 _ rfl).set y 2 _ rfl).drew⟩
  case rest =>
    obtain ⟨rfl, rfl, M⟩ := hcut
    clear k0 k1 k2 q0 q1 q2 f0 f1 f2 hlt0
    obtain ⟨⟨k0, k1, k2⟩, -⟩ := three'' M.out.c1
    obtain ⟨⟨q0, q1, q2⟩, -⟩ := three'' M.out.c2
    have hq := stpB_eq y z
    have HR := Lib.hid (HT.out.2 (.inl (by first | rfl | trivial | assumption)))
    clear hq
    go_wp2_with fail
    go_ret2
    exact ⟨by rw [HR.out]; rfl, M.out.bel⟩


end Go.Proofs.YtcjmhmmjfgjcnaaGreatDoor.Pa

/- parse: Takes, k8y. -/
namespace Go.Proofs.YtcjmhmmjfgjcnaaGreatDoor.Pa
open Go.RowKit Go.Proofs.YtcjmhmmjfgjcnaaGreatDoor.Lx
attribute [local go_sem high] stp_equal
def TkZ (w wx : World) (y : Stp) : Prop := ∃ z, TkM w wx y z
theorem TkZ.bel {w wx : World} {y : Stp} (h : TkZ w wx y) : Below w.heap.size w wx := by obtain ⟨z, h⟩ := h; exact h.bel
def TkS (w wx : World) (y : Stp) : Prop := wx.cell? ⟨w.heap.size, 0, none⟩ = some (.int .u8 y.kind) ∧ wx.cell? ⟨w.heap.size, 1, none⟩ = some (.string ⟨y.text.toArray⟩) ∧ wx.cell? ⟨w.heap.size, 2, none⟩ = some (.int .i64 y.num) ∧ TkZ w wx y
theorem tkS_of {w wx : World} {y : Stp} (h : TkZ w wx y) : TkS w wx y := by
  obtain ⟨z, h⟩ := h
  obtain ⟨⟨k0, k1, k2⟩, -⟩ := three'' h.c1
  exact ⟨k0, k1, k2, z, h⟩
theorem tkS_call {w wx w' : World} {y : Stp} (h : TkZ w wx y) (hb : Below wx.heap.size wx w') : TkS w w' y := by
  obtain ⟨z, h⟩ := h
  exact tkS_of ⟨z, h.step hb⟩
theorem tkS_set {w wx : World} {y : Stp} (h : TkS w wx y) : TkS w (((wx.setCell ⟨w.heap.size + 1, 0, none⟩ (.int .u8 y.kind)).setCell ⟨w.heap.size + 1, 1, none⟩ (.string ⟨y.text.toArray⟩)).setCell ⟨w.heap.size + 1, 2, none⟩ (.int .i64 y.num)) y := by
  obtain ⟨-, -, -, z', h⟩ := h
  exact tkS_of ⟨y, ((h.set ⟨y.kind, z'.text, z'.num⟩ 0 _ rfl).set ⟨y.kind, y.text, z'.num⟩ 1 _ rfl).set y 2 _ rfl⟩
set_option maxHeartbeats 2000000 in
set_option maxRecDepth 100000 in
theorem takes_k8y (y : Stp) (w : World) (h0 : y.kind = 8) (h1 : 0 ≤ y.num ∧ y.num ≤ 64) (h2 : y.text.length ≤ 1048575) (he : Env w) :
    Calls Tryz.prog 19 #[y.val] w fun e w' => e = .returned (takesV (takes y)) ∧ Below w.heap.size w w' := by
  have b23 : (y.kind : Int) < 23 := by omega
  have d1 : decide (0 ≤ y.num) = true := decide_eq_true h1.1
  have d2 : decide (y.num ≤ 64) = true := decide_eq_true h1.2
  have l1 := h1.1
  have He := Lib.hid he
  have hl := h2
  have HT0 : (((namesB y.text y.num) = true → y = y → takesV (takes y) = .tuple #[.int .i64 (y.num), .bool true]) ∧ ((namesB y.text y.num) = false ∨ y ≠ y → takesV (takes y) = .tuple #[.int .i64 0, .bool false])) := by
    have ht : takes y = if 0 ≤ y.num ∧ y.num ≤ 64 ∧ namesB y.text y.num = true then some (y.num.toNat) else none := by
      unfold takes
      rw [if_neg (by omega), if_neg (by omega), if_neg (by omega), if_neg (by omega), if_neg (by omega), if_pos (by omega)]
    refine ⟨(fun hok e => ?_), (fun h => ?_)⟩
    · rw [ht, if_pos (by exact ⟨h1.1, h1.2, hok⟩)]; simp only [takesV, Option.getD_some, Option.isSome_some]; try rw [Int.toNat_of_nonneg (by omega)]
      try rfl
    · rw [ht, if_neg]
      · rfl
      · intro hc
        rcases h with h | h
        · rw [hc.2.2] at h; cases h
        · exact h rfl
  have HT := Lib.hid HT0
  clear HT0
  have b0 : ((y.kind : Int) == 0) = false := by rw [beq_eq_false_iff_ne]; omega
  have b1 : ((y.kind : Int) == 1) = false := by rw [beq_eq_false_iff_ne]; omega
  have b2 : ((y.kind : Int) == 2) = false := by rw [beq_eq_false_iff_ne]; omega
  have b3 : ((y.kind : Int) == 3) = false := by rw [beq_eq_false_iff_ne]; omega
  have b4 : ((y.kind : Int) == 4) = false := by rw [beq_eq_false_iff_ne]; omega
  have b5 : ((y.kind : Int) == 5) = false := by rw [beq_eq_false_iff_ne]; omega
  have b6 : ((y.kind : Int) == 6) = false := by rw [beq_eq_false_iff_ne]; omega
  have b7 : ((y.kind : Int) == 7) = false := by rw [beq_eq_false_iff_ne]; omega
  have b8 : ((y.kind : Int) == 8) = true := by rw [beq_iff_eq]; omega
  have b9 : ((y.kind : Int) == 9) = false := by rw [beq_eq_false_iff_ne]; omega
  have b10 : ((y.kind : Int) == 10) = false := by rw [beq_eq_false_iff_ne]; omega
  have b11 : ((y.kind : Int) == 11) = false := by rw [beq_eq_false_iff_ne]; omega
  have hz : ∃ z : Stp, z = y := ⟨_, rfl⟩
  obtain ⟨z, hz⟩ := hz
  have Hz := Lib.hid hz
  have Hs0 := Lib.hid (fun n => TkM.start w y ⟨y.kind, [], 0⟩ n)
  clear hz h0 h1
  unfold Stp.val
  go_enter Tryz.func19, Tryz.ntmps19
  go_wp2_with fail
  go_cut [5, 6] (fun s5 s6 wx => s5 = .int .i64 2 ∧ s6 = .bool (decide ((y.kind : Int) < 23)) ∧ Hid (TkM w wx y ⟨y.kind, [], 0⟩))
  case first =>
    clear b23
    go_quiet (fail)
    go_wp2_with fail
    go_meet
    exact ⟨rfl, rfl, Hs0.out _⟩
  obtain ⟨rfl, rfl, M0⟩ := hcut
  obtain ⟨⟨k0, k1, k2⟩, -⟩ := three'' M0.out.c1
  obtain ⟨⟨q0, q1, q2⟩, f0, f1, f2⟩ := three'' M0.out.c2
  have hlt0 := lt_of_heap M0.out.c2
  generalize wc = W at *
  go_upto_block 0 with fail
  go_cut [5, 6] (fun s5 s6 wx => s5 = .int .i64 (y.num) ∧ s6 = .bool (namesB y.text y.num) ∧ Hid (TkM w wx y z))
  case first =>
    clear he
    go_wp2_with fail
    have hS0 : TkS w W.drew y := tkS_of ⟨_, M0.out.drew⟩
    go_region_held3 (fun w' => w'.cell? ⟨w.heap.size, 0, none⟩ = some (.int .u8 y.kind) ∧ w'.cell? ⟨w.heap.size, 1, none⟩ = some (.string ⟨y.text.toArray⟩) ∧ w'.cell? ⟨w.heap.size, 2, none⟩ = some (.int .i64 y.num) ∧ TkZ w w' y)
      (first | exact hS0 | exact hS6 | exact tkS_set hS6)
      (first | (go_at_call 57; refine (namesS_calls y.text y.num _ hl ?_).mono ?_; (go_split_ands; exact He.out.below (TkZ.bel (by assumption))); rintro e w9 ⟨rfl, hb9⟩; have hS6 : TkS w w9 y := (by go_split_ands; exact tkS_call (by assumption) hb9); obtain ⟨a0, a1, a2, z9, M9⟩ := id hS6; obtain ⟨⟨e0, e1, e2⟩, f0, f1, f2⟩ := three'' M9.c2; have hlt9 := lt_of_heap M9.c2))
    all_goals
      go_wp2_with fail
      go_meet
      exact ⟨rfl, rfl, by rw [Hz.out]; exact ((M9.set ⟨y.kind, z9.text, z9.num⟩ 0 _ rfl).set ⟨y.kind, y.text, z9.num⟩ 1 _ rfl).set y 2 _ rfl⟩
  case rest =>
    obtain ⟨rfl, rfl, M⟩ := hcut
    clear k0 k1 k2 q0 q1 q2 f0 f1 f2 hlt0
    obtain ⟨⟨k0, k1, k2⟩, -⟩ := three'' M.out.c1
    obtain ⟨⟨q0, q1, q2⟩, -⟩ := three'' M.out.c2
    have hq := stpB_eq y z
    have Hok := Lib.hid (rfl : (namesB y.text y.num) = (namesB y.text y.num))
    generalize (namesB y.text y.num) = ok at *
    cases ok with
    | true =>
      by_cases e : y = z
      · rw [decide_eq_true e] at hq
        have HR := Lib.hid (HT.out.1 (by first | rfl | trivial | assumption) (by trivial))
        clear e
        go_wp2_with fail
        go_ret2
        exact ⟨by rw [HR.out]; rfl, M.out.bel⟩
      · exact absurd Hz.out.symm e
    | false =>
      have HR := Lib.hid (HT.out.2 (.inl (by first | rfl | trivial | assumption)))
      clear hq
      go_wp2_with fail
      go_ret2
      exact ⟨by rw [HR.out]; rfl, M.out.bel⟩


end Go.Proofs.YtcjmhmmjfgjcnaaGreatDoor.Pa

/- parse: Takes whole. -/
namespace Go.Proofs.YtcjmhmmjfgjcnaaGreatDoor.Pa
open Go.RowKit Go.Proofs.YtcjmhmmjfgjcnaaGreatDoor.Lx

theorem Takes_calls (y : Stp) (w : World) (ht : y.text.length ≤ 1048575) (he : Env w) :
    Calls Tryz.prog 19 #[y.val] w fun e w' => e = .returned (takesV (takes y)) ∧ Below w.heap.size w w' := by
  by_cases h12 : 12 ≤ y.kind
  · by_cases h23 : y.kind < 23
    · exact takes_two y w h12 h23
    · exact takes_more y w (by omega)
  · by_cases h0 : y.kind = 0
    · exact takes_k0 y w h0
    by_cases h1 : y.kind = 1
    · exact takes_k1 y w h1
    by_cases h2 : y.kind = 2
    · exact takes_k2 y w h2
    by_cases h3 : y.kind = 3
    · exact takes_k3 y w h3
    by_cases h4 : y.kind = 4
    · by_cases hn : 0 ≤ y.num
      · exact takes_k4y y w h4 hn
      · exact takes_k4n y w h4 hn
    by_cases h5 : y.kind = 5
    · by_cases hn : y.text.length ≤ 1024
      · exact takes_k5y y w h5 hn he
      · exact takes_k5n y w h5 (by omega)
    by_cases h6 : y.kind = 6
    · exact takes_k6 y w h6 ht he
    by_cases h7 : y.kind = 7
    · by_cases hn : 0 ≤ y.num
      · by_cases hm : y.num ≤ 64
        · exact takes_k7y y w h7 ⟨hn, hm⟩
        · exact takes_k7m y w h7 (by omega)
      · exact takes_k7n y w h7 hn
    by_cases h8 : y.kind = 8
    · by_cases hn : 0 ≤ y.num
      · by_cases hm : y.num ≤ 64
        · exact takes_k8y y w h8 ⟨hn, hm⟩ ht he
        · exact takes_k8m y w h8 (by omega)
      · exact takes_k8n y w h8 hn
    by_cases h9 : y.kind = 9
    · exact takes_k9 y w h9
    by_cases h10 : y.kind = 10
    · exact takes_k10 y w h10
    · exact takes_k11 y w (by omega)

end Go.Proofs.YtcjmhmmjfgjcnaaGreatDoor.Pa

/- parse: Right. -/
namespace Go.Proofs.YtcjmhmmjfgjcnaaGreatDoor.Pa
open Go.RowKit Go.Proofs.YtcjmhmmjfgjcnaaGreatDoor.Lx

structure StpCells (w : World) (g o : Nat) (y : Stp) : Prop where
  c0 : w.cell? ⟨g, o, none⟩ = some (.int .u8 y.kind)
  c1 : w.cell? ⟨g, o + 1, none⟩ = some (.string ⟨y.text.toArray⟩)
  c2 : w.cell? ⟨g, o + 2, none⟩ = some (.int .i64 y.num)
def StpsIn (w : World) (v : Value) (l : List Stp) : Prop := ∃ (a : Option Addr) (n c : Nat), v = .slice a n c ∧ l.length = n ∧ n ≤ c ∧ ∀ (i : Nat) (h : i < l.length), ∃ g o, a = some ⟨g, o, none⟩ ∧ StpCells w g (o + i * 3) l[i]
theorem StpCells.below {w w' : World} {g o : Nat} {y : Stp} (h : StpCells w g o y) (hb : Below w.heap.size w w') : StpCells w' g o y := by
  have hg : g < w.heap.size := World.block_lt_of_cell? _ _ h.c0
  exact ⟨(hb.cell (p := ⟨g, _, none⟩) hg).trans h.c0, (hb.cell (p := ⟨g, _, none⟩) hg).trans h.c1, (hb.cell (p := ⟨g, _, none⟩) hg).trans h.c2⟩
theorem StpsIn.below {w w' : World} {v : Value} {l : List Stp} (h : StpsIn w v l) (hb : Below w.heap.size w w') : StpsIn w' v l := by
  obtain ⟨a, n, c, rfl, hn, hc, hj⟩ := h
  refine ⟨a, n, c, rfl, hn, hc, fun i hi => ?_⟩
  obtain ⟨g, o, e, hcl⟩ := hj i hi
  exact ⟨g, o, e, hcl.below hb⟩
theorem stpsC_get : ∀ (l : List Stp) (i : Nat) (h : i < l.length), (stpsC l)[i * 3]? = some (.int .u8 l[i].kind) ∧ (stpsC l)[i * 3 + 1]? = some (.string ⟨l[i].text.toArray⟩) ∧ (stpsC l)[i * 3 + 2]? = some (.int .i64 l[i].num)
  | [], i, h => absurd h (Nat.not_lt_zero _)
  | t :: l, 0, _ => ⟨rfl, rfl, rfl⟩
  | t :: l, i + 1, h => by
    have hi := stpsC_get l i (by simpa using h)
    have e : stpsC (t :: l) = t.cells ++ stpsC l := rfl
    have hl : t.cells.length = 3 := rfl
    rw [e]
    refine ⟨?_, ?_, ?_⟩
    · rw [List.getElem?_append_right (by omega), hl, show (i + 1) * 3 - 3 = i * 3 by omega]; exact hi.1
    · rw [List.getElem?_append_right (by omega), hl, show (i + 1) * 3 + 1 - 3 = i * 3 + 1 by omega]; exact hi.2.1
    · rw [List.getElem?_append_right (by omega), hl, show (i + 1) * 3 + 2 - 3 = i * 3 + 2 by omega]; exact hi.2.2
theorem StpsIn.own {w : World} {base n : Nat} {v : Value} {l : List Stp} (h : w.ownsRow base 48 3 v n (stpsC l)) (hn : n = l.length) : StpsIn w v l := by
  subst hn
  rcases h.2 with ⟨rfl, h0⟩ | ⟨g, cap, cur, e, _, h2, h3, _⟩
  · exact ⟨none, 0, 0, rfl, h0, Nat.le_refl _, fun i hi => by omega⟩
  · subst e
    refine ⟨_, _, _, rfl, rfl, h3, fun i hi => ⟨g, 0, rfl, ?_⟩⟩
    obtain ⟨k0, k1, k2⟩ := stpsC_get l i hi
    refine ⟨?_, ?_, ?_⟩
    · rw [World.ownsRow.cellAt h _ (by omega), Nat.zero_add]; exact k0
    · rw [World.ownsRow.cellAt h _ (by omega), Nat.zero_add]; exact k1
    · rw [World.ownsRow.cellAt h _ (by omega), Nat.zero_add]; exact k2

theorem takes_le {y : Stp} {k : Nat} (h : takes y = some k) : k ≤ 64 := by
  unfold takes at h
  repeat' split at h
  all_goals first | (cases h; done) | (simp only [Option.some.injEq] at h; omega)

theorem rightL_cons (y : Stp) (r : List Stp) (n : Nat) : rightL (y :: r) n = match takes y with
    | none => none
    | some k => if n < k then none else rightL r (n - k + 1) := rfl

set_option maxHeartbeats 1000000 in
set_option maxRecDepth 100000 in
theorem Right_calls (w : World) (v : Value) (l : List Stp) (h : StpsIn w v l) (hl : l.length ≤ 1048576) (ht : ∀ y ∈ l, y.text.length ≤ 1048575) (he : Env w) :
    Calls Tryz.prog 24 #[v] w fun e w' => e = .returned (.bool (rightB l)) ∧ Below w.heap.size w w' := by
  obtain ⟨a, n, c, rfl, hn, hc, hj⟩ := h
  have Hn := Lib.hid hn
  have Hj := Lib.hid hj
  have Ht := Lib.hid ht
  have He := Lib.hid he
  have hn2 : n ≤ 1048576 := by omega
  generalize hR : rightB l = R at *
  have HR := Lib.hid (show (decide (rightL (l.drop 0) 0 = some 1) && decide (l.length ≤ 128)) = R from hR)
  clear hn hj ht he hR
  go_enter Tryz.func24, Tryz.ntmps24
  go_wp2_with fail
  go_loopw [3, 10] (fun s3 i wr => ∃ (k m : Nat), k ≤ n ∧ m ≤ k ∧ i = .int .i64 k ∧ s3 = .int .i64 m ∧ Hid (Below w.heap.size w wr ∧ (decide (rightL (l.drop k) m = some 1) && decide (l.length ≤ 128)) = R)) (fun _ i _ => n - (intOf i).toNat)
  case atStart => exact ⟨0, 0, Nat.zero_le _, Nat.le_refl _, rfl, rfl, Below.refl _ _, HR.out⟩
  case round =>
    obtain ⟨k, m, hk, hmk, rfl, rfl, hb, hR⟩ := hrel
    have Hb := Lib.hid hb
    by_cases hlt : k < n
    · have hkl : k < l.length := by rw [Hn.out]; exact hlt
      obtain ⟨g, o, rfl, hcl⟩ := Hj.out k hkl
      obtain ⟨q0, q1, q2⟩ := hcl.below hb
      have htx := Ht.out _ (List.getElem_mem hkl)
      rw [List.drop_eq_getElem_cons hkl] at hR
      have Htk := Lib.hid (fun (w2 : World) (hb2 : Below wr.heap.size wr w2) => Takes_calls l[k] w2 htx ((He.out.below hb).below hb2))
      have hgw : g < wr.heap.size := World.block_lt_of_cell? _ _ q0
      generalize l[k] = y at *
      cases ht : takes y with
      | none =>
        rw [show rightL (y :: List.drop (k + 1) l) m = none by rw [rightL_cons, ht]] at hR
        have HR' := Lib.hid (show false = R by simpa using hR)
        rw [ht] at Htk
        unfold Stp.val takesV at Htk
        clear hR ht hb hcl htx
        go_wp2_with fail
        refine (Htk.out _ (alloc_below _ _)).mono ?_
        rintro e w2 ⟨rfl, hb2⟩
        have Hb2 := Lib.hid (Hb.out.trans (((alloc_below wr _).trans (hb2.mono (alloc_below wr _).size)).mono Hb.out.size))
        clear hb2
        go_wp2_with fail
        go_ret
        exact ⟨ret_bool HR'.out, Hb2.out⟩
      | some j =>
        have hj64 := takes_le ht
        rw [ht] at Htk
        unfold Stp.val takesV at Htk
        simp only [Option.getD_some, Option.isSome_some] at Htk
        by_cases hmj : m < j
        · rw [show rightL (y :: List.drop (k + 1) l) m = none by rw [rightL_cons, ht]; exact if_pos hmj] at hR
          have HR' := Lib.hid (show false = R by simpa using hR)
          clear hR ht hb hcl htx
          go_wp2_with fail
          refine (Htk.out _ (alloc_below _ _)).mono ?_
          rintro e w2 ⟨rfl, hb2⟩
          have Hb2 := Lib.hid (Hb.out.trans (((alloc_below wr _).trans (hb2.mono (alloc_below wr _).size)).mono Hb.out.size))
          clear hb2
          go_wp2_with fail
          go_ret
          exact ⟨ret_bool HR'.out, Hb2.out⟩
        · rw [show rightL (y :: List.drop (k + 1) l) m = rightL (List.drop (k + 1) l) (m - j + 1) by rw [rightL_cons, ht]; exact if_neg hmj] at hR
          have HR' := Lib.hid hR
          have hmj2 : j ≤ m := by omega
          clear hR ht hb hcl htx
          go_wp2_with fail
          refine (Htk.out _ (alloc_below _ _)).mono ?_
          rintro e w2 ⟨rfl, hb2⟩
          have Hb2 := Lib.hid (Hb.out.trans (((alloc_below wr _).trans (hb2.mono (alloc_below wr _).size)).mono Hb.out.size))
          clear hb2
          go_wp2_with fail
          go_roundw
          case rel => exact ⟨k + 1, m - j + 1, by omega, by omega, by go_num, by first | go_num | (congr 1; omega), Hb2.out, HR'.out⟩
          case measure => simp [intOf]; omega
    · have HR' := Lib.hid (show (decide (m = 1) && decide (n ≤ 128)) = R by
        rw [List.drop_of_length_le (by rw [Hn.out]; omega)] at hR
        rw [← hR, Hn.out]
        simp [rightL])
      clear hR hb
      by_cases h1 : m = 1
      · have b1 : ((m : Int) == 1) = true := by rw [beq_iff_eq]; omega
        have Hr := Lib.hid (show decide ((n : Int) ≤ 128) = R by rw [← HR'.out]; simp [h1]; omega)
        clear h1
        go_wp2_with fail
        go_ret
        exact ⟨ret_bool Hr.out, Hb.out⟩
      · have b1 : ((m : Int) == 1) = false := by rw [beq_eq_false_iff_ne]; omega
        have Hr := Lib.hid (show false = R by rw [← HR'.out]; simp [h1])
        clear h1
        go_wp2_with fail
        go_ret
        exact ⟨ret_bool Hr.out, Hb.out⟩

end Go.Proofs.YtcjmhmmjfgjcnaaGreatDoor.Pa
