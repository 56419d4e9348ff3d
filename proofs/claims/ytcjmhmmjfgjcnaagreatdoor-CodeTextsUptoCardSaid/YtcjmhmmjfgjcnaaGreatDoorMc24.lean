/- Parts: RaO. -/
import Derived.Test.YtcjmhmmjfgjcnaaGreatDoorMc22
import Derived.Test.YtcjmhmmjfgjcnaaGreatDoorMc23

/- codicilref10: Takes. -/
namespace Go.Proofs.YtcjmhmmjfgjcnaaGreatDoor.Rf
open Go.RowKit Go.Proofs.YtcjmhmmjfgjcnaaGreatDoor.Lx Go.Proofs.YtcjmhmmjfgjcnaaGreatDoor.Pa

theorem threeR {w : World} {B : Nat} {a b c : Value} {T : TypeId} (h : w.heap[B]? = some (.cells #[a, b, c] T)) :
    (w.cell? ⟨B, 0, none⟩ = some a ∧ w.cell? ⟨B, 1, none⟩ = some b ∧ w.cell? ⟨B, 2, none⟩ = some c) ∧ (w.frozen? ⟨B, 0, none⟩ = false ∧ w.frozen? ⟨B, 1, none⟩ = false ∧ w.frozen? ⟨B, 2, none⟩ = false) := by
  simp [World.cell?, World.frozen?, h]
abbrev stpO (y : Stp) : Obj := .cells #[.int .u8 y.kind, .string ⟨y.text.toArray⟩, .int .i64 y.num] 48

set_option maxHeartbeats 1000000 in
set_option maxRecDepth 100000 in
theorem tkR_0 (w : World) (tx : Txt) (nu : Int) :
    Calls Tryz.prog 20 #[Stp.val ⟨0, tx, nu⟩] w fun e w' => e = .returned (takesV (takes ⟨0, tx, nu⟩)) ∧ Below w.heap.size w w' := by
  have Hv := Lib.hid (show takesV (takes ⟨0, tx, nu⟩) = .tuple #[.int .i64 (0 : Nat), .bool false] by
    have e : takes ⟨0, tx, nu⟩ = none := by
      unfold takes
      simp
    rw [e]; rfl)
  go_enter Tryz.func20, Tryz.ntmps20
  unfold Stp.val
  go_wp2_with fail
  go_ret2
  exact ⟨by rw [Hv.out]; rfl, rAlloc _ _⟩

set_option maxHeartbeats 1000000 in
set_option maxRecDepth 100000 in
theorem tkR_23 (w : World) (k : Nat) (tx : Txt) (nu : Int) (h : 23 ≤ k) :
    Calls Tryz.prog 20 #[Stp.val ⟨k, tx, nu⟩] w fun e w' => e = .returned (takesV (takes ⟨k, tx, nu⟩)) ∧ Below w.heap.size w w' := by
  have Hv := Lib.hid (show takesV (takes ⟨k, tx, nu⟩) = .tuple #[.int .i64 (0 : Nat), .bool false] by
    have e : takes ⟨k, tx, nu⟩ = none := by
      unfold takes
      simp only
      repeat (rw [if_neg (by omega)])
    rw [e]; rfl)
  have h2 : (23 : Int) ≤ k := by omega
  have h1 : ¬ (k : Int) < 1 := by omega
  go_enter Tryz.func20, Tryz.ntmps20
  unfold Stp.val
  go_wp2_with fail
  go_ret2
  exact ⟨by rw [Hv.out]; rfl, rAlloc _ _⟩

set_option maxHeartbeats 1000000 in
set_option maxRecDepth 100000 in
theorem tkR_1x (w : World) (tx : Txt) (nu : Int) (hx : tx ≠ []) :
    Calls Tryz.prog 20 #[Stp.val ⟨1, tx, nu⟩] w fun e w' => e = .returned (takesV (takes ⟨1, tx, nu⟩)) ∧ Below w.heap.size w w' := by
  have Hv := Lib.hid (show takesV (takes ⟨1, tx, nu⟩) = .tuple #[.int .i64 (0 : Nat), .bool false] by
    have e : takes ⟨1, tx, nu⟩ = none := by
      unfold takes
      simp [hx]
    rw [e]; rfl)
  have hx2 : tx.isEmpty = false := by cases tx with | nil => exact absurd rfl hx | cons a b => rfl
  clear hx
  go_enter Tryz.func20, Tryz.ntmps20
  unfold Stp.val
  go_wp2_with fail
  go_ret2
  exact ⟨by rw [Hv.out]; rfl, rAlloc _ _⟩

set_option maxHeartbeats 1000000 in
set_option maxRecDepth 100000 in
theorem tkR_1n (w : World) (nu : Int) (hn : nu ≠ 0) :
    Calls Tryz.prog 20 #[Stp.val ⟨1, [], nu⟩] w fun e w' => e = .returned (takesV (takes ⟨1, [], nu⟩)) ∧ Below w.heap.size w w' := by
  have Hv := Lib.hid (show takesV (takes ⟨1, [], nu⟩) = .tuple #[.int .i64 (0 : Nat), .bool false] by
    have e : takes ⟨1, [], nu⟩ = none := by
      unfold takes
      simp [hn]
    rw [e]; rfl)
  have hn2 : (nu == 0) = false := beq_eq_false_iff_ne.2 hn
  clear hn
  go_enter Tryz.func20, Tryz.ntmps20
  unfold Stp.val
  go_wp2_with fail
  go_ret2
  exact ⟨by rw [Hv.out]; rfl, rAlloc _ _⟩

set_option maxHeartbeats 1000000 in
set_option maxRecDepth 100000 in
theorem tkR_1y (w : World) :
    Calls Tryz.prog 20 #[Stp.val ⟨1, [], 0⟩] w fun e w' => e = .returned (takesV (takes ⟨1, [], 0⟩)) ∧ Below w.heap.size w w' := by
  have Hv := Lib.hid (show takesV (takes ⟨1, [], 0⟩) = .tuple #[.int .i64 (0 : Nat), .bool true] by
    have e : takes ⟨1, [], 0⟩ = some (0 : Nat) := by
      unfold takes
      simp
    rw [e]; rfl)
  go_enter Tryz.func20, Tryz.ntmps20
  unfold Stp.val
  go_wp2_with fail
  go_ret2
  exact ⟨by rw [Hv.out]; rfl, rAlloc _ _⟩

set_option maxHeartbeats 1000000 in
set_option maxRecDepth 100000 in
theorem tkR_2x (w : World) (tx : Txt) (nu : Int) (hx : tx ≠ []) :
    Calls Tryz.prog 20 #[Stp.val ⟨2, tx, nu⟩] w fun e w' => e = .returned (takesV (takes ⟨2, tx, nu⟩)) ∧ Below w.heap.size w w' := by
  have Hv := Lib.hid (show takesV (takes ⟨2, tx, nu⟩) = .tuple #[.int .i64 (0 : Nat), .bool false] by
    have e : takes ⟨2, tx, nu⟩ = none := by
      unfold takes
      simp [hx]
    rw [e]; rfl)
  have hx2 : tx.isEmpty = false := by cases tx with | nil => exact absurd rfl hx | cons a b => rfl
  clear hx
  go_enter Tryz.func20, Tryz.ntmps20
  unfold Stp.val
  go_wp2_with fail
  go_ret2
  exact ⟨by rw [Hv.out]; rfl, rAlloc _ _⟩

set_option maxHeartbeats 1000000 in
set_option maxRecDepth 100000 in
theorem tkR_2n (w : World) (nu : Int) (hn : nu ≠ 0) :
    Calls Tryz.prog 20 #[Stp.val ⟨2, [], nu⟩] w fun e w' => e = .returned (takesV (takes ⟨2, [], nu⟩)) ∧ Below w.heap.size w w' := by
  have Hv := Lib.hid (show takesV (takes ⟨2, [], nu⟩) = .tuple #[.int .i64 (0 : Nat), .bool false] by
    have e : takes ⟨2, [], nu⟩ = none := by
      unfold takes
      simp [hn]
    rw [e]; rfl)
  have hn2 : (nu == 0) = false := beq_eq_false_iff_ne.2 hn
  clear hn
  go_enter Tryz.func20, Tryz.ntmps20
  unfold Stp.val
  go_wp2_with fail
  go_ret2
  exact ⟨by rw [Hv.out]; rfl, rAlloc _ _⟩

set_option maxHeartbeats 1000000 in
set_option maxRecDepth 100000 in
theorem tkR_2y (w : World) :
    Calls Tryz.prog 20 #[Stp.val ⟨2, [], 0⟩] w fun e w' => e = .returned (takesV (takes ⟨2, [], 0⟩)) ∧ Below w.heap.size w w' := by
  have Hv := Lib.hid (show takesV (takes ⟨2, [], 0⟩) = .tuple #[.int .i64 (0 : Nat), .bool true] by
    have e : takes ⟨2, [], 0⟩ = some (0 : Nat) := by
      unfold takes
      simp
    rw [e]; rfl)
  go_enter Tryz.func20, Tryz.ntmps20
  unfold Stp.val
  go_wp2_with fail
  go_ret2
  exact ⟨by rw [Hv.out]; rfl, rAlloc _ _⟩

set_option maxHeartbeats 1000000 in
set_option maxRecDepth 100000 in
theorem tkR_3x (w : World) (tx : Txt) (nu : Int) (hx : tx ≠ []) :
    Calls Tryz.prog 20 #[Stp.val ⟨3, tx, nu⟩] w fun e w' => e = .returned (takesV (takes ⟨3, tx, nu⟩)) ∧ Below w.heap.size w w' := by
  have Hv := Lib.hid (show takesV (takes ⟨3, tx, nu⟩) = .tuple #[.int .i64 (0 : Nat), .bool false] by
    have e : takes ⟨3, tx, nu⟩ = none := by
      unfold takes
      simp [hx]
    rw [e]; rfl)
  have hx2 : tx.isEmpty = false := by cases tx with | nil => exact absurd rfl hx | cons a b => rfl
  clear hx
  go_enter Tryz.func20, Tryz.ntmps20
  unfold Stp.val
  go_wp2_with fail
  go_ret2
  exact ⟨by rw [Hv.out]; rfl, rAlloc _ _⟩

set_option maxHeartbeats 1000000 in
set_option maxRecDepth 100000 in
theorem tkR_3n (w : World) (nu : Int) (hn : nu ≠ 0) :
    Calls Tryz.prog 20 #[Stp.val ⟨3, [], nu⟩] w fun e w' => e = .returned (takesV (takes ⟨3, [], nu⟩)) ∧ Below w.heap.size w w' := by
  have Hv := Lib.hid (show takesV (takes ⟨3, [], nu⟩) = .tuple #[.int .i64 (0 : Nat), .bool false] by
    have e : takes ⟨3, [], nu⟩ = none := by
      unfold takes
      simp [hn]
    rw [e]; rfl)
  have hn2 : (nu == 0) = false := beq_eq_false_iff_ne.2 hn
  clear hn
  go_enter Tryz.func20, Tryz.ntmps20
  unfold Stp.val
  go_wp2_with fail
  go_ret2
  exact ⟨by rw [Hv.out]; rfl, rAlloc _ _⟩

set_option maxHeartbeats 1000000 in
set_option maxRecDepth 100000 in
theorem tkR_3y (w : World) :
    Calls Tryz.prog 20 #[Stp.val ⟨3, [], 0⟩] w fun e w' => e = .returned (takesV (takes ⟨3, [], 0⟩)) ∧ Below w.heap.size w w' := by
  have Hv := Lib.hid (show takesV (takes ⟨3, [], 0⟩) = .tuple #[.int .i64 (0 : Nat), .bool true] by
    have e : takes ⟨3, [], 0⟩ = some (0 : Nat) := by
      unfold takes
      simp
    rw [e]; rfl)
  go_enter Tryz.func20, Tryz.ntmps20
  unfold Stp.val
  go_wp2_with fail
  go_ret2
  exact ⟨by rw [Hv.out]; rfl, rAlloc _ _⟩

set_option maxHeartbeats 1000000 in
set_option maxRecDepth 100000 in
theorem tkR_9x (w : World) (tx : Txt) (nu : Int) (hx : tx ≠ []) :
    Calls Tryz.prog 20 #[Stp.val ⟨9, tx, nu⟩] w fun e w' => e = .returned (takesV (takes ⟨9, tx, nu⟩)) ∧ Below w.heap.size w w' := by
  have Hv := Lib.hid (show takesV (takes ⟨9, tx, nu⟩) = .tuple #[.int .i64 (0 : Nat), .bool false] by
    have e : takes ⟨9, tx, nu⟩ = none := by
      unfold takes
      simp [hx]
    rw [e]; rfl)
  have hx2 : tx.isEmpty = false := by cases tx with | nil => exact absurd rfl hx | cons a b => rfl
  clear hx
  go_enter Tryz.func20, Tryz.ntmps20
  unfold Stp.val
  go_wp2_with fail
  go_ret2
  exact ⟨by rw [Hv.out]; rfl, rAlloc _ _⟩

set_option maxHeartbeats 1000000 in
set_option maxRecDepth 100000 in
theorem tkR_9n (w : World) (nu : Int) (hn : nu ≠ 0) :
    Calls Tryz.prog 20 #[Stp.val ⟨9, [], nu⟩] w fun e w' => e = .returned (takesV (takes ⟨9, [], nu⟩)) ∧ Below w.heap.size w w' := by
  have Hv := Lib.hid (show takesV (takes ⟨9, [], nu⟩) = .tuple #[.int .i64 (0 : Nat), .bool false] by
    have e : takes ⟨9, [], nu⟩ = none := by
      unfold takes
      simp [hn]
    rw [e]; rfl)
  have hn2 : (nu == 0) = false := beq_eq_false_iff_ne.2 hn
  clear hn
  go_enter Tryz.func20, Tryz.ntmps20
  unfold Stp.val
  go_wp2_with fail
  go_ret2
  exact ⟨by rw [Hv.out]; rfl, rAlloc _ _⟩

set_option maxHeartbeats 1000000 in
set_option maxRecDepth 100000 in
theorem tkR_9y (w : World) :
    Calls Tryz.prog 20 #[Stp.val ⟨9, [], 0⟩] w fun e w' => e = .returned (takesV (takes ⟨9, [], 0⟩)) ∧ Below w.heap.size w w' := by
  have Hv := Lib.hid (show takesV (takes ⟨9, [], 0⟩) = .tuple #[.int .i64 (1 : Nat), .bool true] by
    have e : takes ⟨9, [], 0⟩ = some (1 : Nat) := by
      unfold takes
      simp
    rw [e]; rfl)
  go_enter Tryz.func20, Tryz.ntmps20
  unfold Stp.val
  go_wp2_with fail
  go_ret2
  exact ⟨by rw [Hv.out]; rfl, rAlloc _ _⟩

set_option maxHeartbeats 1000000 in
set_option maxRecDepth 100000 in
theorem tkR_10x (w : World) (tx : Txt) (nu : Int) (hx : tx ≠ []) :
    Calls Tryz.prog 20 #[Stp.val ⟨10, tx, nu⟩] w fun e w' => e = .returned (takesV (takes ⟨10, tx, nu⟩)) ∧ Below w.heap.size w w' := by
  have Hv := Lib.hid (show takesV (takes ⟨10, tx, nu⟩) = .tuple #[.int .i64 (0 : Nat), .bool false] by
    have e : takes ⟨10, tx, nu⟩ = none := by
      unfold takes
      simp [hx]
    rw [e]; rfl)
  have hx2 : tx.isEmpty = false := by cases tx with | nil => exact absurd rfl hx | cons a b => rfl
  clear hx
  go_enter Tryz.func20, Tryz.ntmps20
  unfold Stp.val
  go_wp2_with fail
  go_ret2
  exact ⟨by rw [Hv.out]; rfl, rAlloc _ _⟩

set_option maxHeartbeats 1000000 in
set_option maxRecDepth 100000 in
theorem tkR_10n (w : World) (nu : Int) (hn : nu ≠ 0) :
    Calls Tryz.prog 20 #[Stp.val ⟨10, [], nu⟩] w fun e w' => e = .returned (takesV (takes ⟨10, [], nu⟩)) ∧ Below w.heap.size w w' := by
  have Hv := Lib.hid (show takesV (takes ⟨10, [], nu⟩) = .tuple #[.int .i64 (0 : Nat), .bool false] by
    have e : takes ⟨10, [], nu⟩ = none := by
      unfold takes
      simp [hn]
    rw [e]; rfl)
  have hn2 : (nu == 0) = false := beq_eq_false_iff_ne.2 hn
  clear hn
  go_enter Tryz.func20, Tryz.ntmps20
  unfold Stp.val
  go_wp2_with fail
  go_ret2
  exact ⟨by rw [Hv.out]; rfl, rAlloc _ _⟩

set_option maxHeartbeats 1000000 in
set_option maxRecDepth 100000 in
theorem tkR_10y (w : World) :
    Calls Tryz.prog 20 #[Stp.val ⟨10, [], 0⟩] w fun e w' => e = .returned (takesV (takes ⟨10, [], 0⟩)) ∧ Below w.heap.size w w' := by
  have Hv := Lib.hid (show takesV (takes ⟨10, [], 0⟩) = .tuple #[.int .i64 (1 : Nat), .bool true] by
    have e : takes ⟨10, [], 0⟩ = some (1 : Nat) := by
      unfold takes
      simp
    rw [e]; rfl)
  go_enter Tryz.func20, Tryz.ntmps20
  unfold Stp.val
  go_wp2_with fail
  go_ret2
  exact ⟨by rw [Hv.out]; rfl, rAlloc _ _⟩

set_option maxHeartbeats 1000000 in
set_option maxRecDepth 100000 in
theorem tkR_11x (w : World) (tx : Txt) (nu : Int) (hx : tx ≠ []) :
    Calls Tryz.prog 20 #[Stp.val ⟨11, tx, nu⟩] w fun e w' => e = .returned (takesV (takes ⟨11, tx, nu⟩)) ∧ Below w.heap.size w w' := by
  have Hv := Lib.hid (show takesV (takes ⟨11, tx, nu⟩) = .tuple #[.int .i64 (0 : Nat), .bool false] by
    have e : takes ⟨11, tx, nu⟩ = none := by
      unfold takes
      simp [hx]
    rw [e]; rfl)
  have hx2 : tx.isEmpty = false := by cases tx with | nil => exact absurd rfl hx | cons a b => rfl
  clear hx
  go_enter Tryz.func20, Tryz.ntmps20
  unfold Stp.val
  go_wp2_with fail
  go_ret2
  exact ⟨by rw [Hv.out]; rfl, rAlloc _ _⟩

set_option maxHeartbeats 1000000 in
set_option maxRecDepth 100000 in
theorem tkR_11n (w : World) (nu : Int) (hn : nu ≠ 0) :
    Calls Tryz.prog 20 #[Stp.val ⟨11, [], nu⟩] w fun e w' => e = .returned (takesV (takes ⟨11, [], nu⟩)) ∧ Below w.heap.size w w' := by
  have Hv := Lib.hid (show takesV (takes ⟨11, [], nu⟩) = .tuple #[.int .i64 (0 : Nat), .bool false] by
    have e : takes ⟨11, [], nu⟩ = none := by
      unfold takes
      simp [hn]
    rw [e]; rfl)
  have hn2 : (nu == 0) = false := beq_eq_false_iff_ne.2 hn
  clear hn
  go_enter Tryz.func20, Tryz.ntmps20
  unfold Stp.val
  go_wp2_with fail
  go_ret2
  exact ⟨by rw [Hv.out]; rfl, rAlloc _ _⟩

set_option maxHeartbeats 1000000 in
set_option maxRecDepth 100000 in
theorem tkR_11y (w : World) :
    Calls Tryz.prog 20 #[Stp.val ⟨11, [], 0⟩] w fun e w' => e = .returned (takesV (takes ⟨11, [], 0⟩)) ∧ Below w.heap.size w w' := by
  have Hv := Lib.hid (show takesV (takes ⟨11, [], 0⟩) = .tuple #[.int .i64 (1 : Nat), .bool true] by
    have e : takes ⟨11, [], 0⟩ = some (1 : Nat) := by
      unfold takes
      simp
    rw [e]; rfl)
  go_enter Tryz.func20, Tryz.ntmps20
  unfold Stp.val
  go_wp2_with fail
  go_ret2
  exact ⟨by rw [Hv.out]; rfl, rAlloc _ _⟩

set_option maxHeartbeats 1000000 in
set_option maxRecDepth 100000 in
theorem tkR_bx (w : World) (k : Nat) (tx : Txt) (nu : Int) (h : 12 ≤ k ∧ k < 23) (hx : tx ≠ []) :
    Calls Tryz.prog 20 #[Stp.val ⟨k, tx, nu⟩] w fun e w' => e = .returned (takesV (takes ⟨k, tx, nu⟩)) ∧ Below w.heap.size w w' := by
  have Hv := Lib.hid (show takesV (takes ⟨k, tx, nu⟩) = .tuple #[.int .i64 (0 : Nat), .bool false] by
    have e : takes ⟨k, tx, nu⟩ = none := by
      unfold takes
      simp only
      rw [if_neg (by omega), if_neg (by omega), if_neg (by omega), if_neg (by omega), if_neg (by omega), if_neg (by omega), if_neg (by omega), if_pos (by omega)]
      simp [hx]
    rw [e]; rfl)
  have q0 : ¬ (k : Int) < 1 := by omega
  have q1 : ¬ (23 : Int) ≤ k := by omega
  have e4 : ((k : Int) == 4) = false := by rw [beq_eq_false_iff_ne]; omega
  have e5 : ((k : Int) == 5) = false := by rw [beq_eq_false_iff_ne]; omega
  have e6 : ((k : Int) == 6) = false := by rw [beq_eq_false_iff_ne]; omega
  have e7 : ((k : Int) == 7) = false := by rw [beq_eq_false_iff_ne]; omega
  have e8 : ((k : Int) == 8) = false := by rw [beq_eq_false_iff_ne]; omega
  have b4 : ((k : Int) != 4) = true := by rw [bne_iff_ne]; omega
  have b7 : ((k : Int) != 7) = true := by rw [bne_iff_ne]; omega
  have b8 : ((k : Int) != 8) = true := by rw [bne_iff_ne]; omega
  have q7 : ¬ (k : Int) < 7 := by omega
  have q11 : ¬ (k : Int) ≤ 11 := by omega
  have hx2 : tx.isEmpty = false := by cases tx with | nil => exact absurd rfl hx | cons a b => rfl
  clear hx
  go_enter Tryz.func20, Tryz.ntmps20
  unfold Stp.val
  go_wp2_with fail
  go_ret2
  exact ⟨by rw [Hv.out]; rfl, rAlloc _ _⟩

set_option maxHeartbeats 1000000 in
set_option maxRecDepth 100000 in
theorem tkR_bn (w : World) (k : Nat) (nu : Int) (h : 12 ≤ k ∧ k < 23) (hn : nu ≠ 0) :
    Calls Tryz.prog 20 #[Stp.val ⟨k, [], nu⟩] w fun e w' => e = .returned (takesV (takes ⟨k, [], nu⟩)) ∧ Below w.heap.size w w' := by
  have Hv := Lib.hid (show takesV (takes ⟨k, [], nu⟩) = .tuple #[.int .i64 (0 : Nat), .bool false] by
    have e : takes ⟨k, [], nu⟩ = none := by
      unfold takes
      simp only
      rw [if_neg (by omega), if_neg (by omega), if_neg (by omega), if_neg (by omega), if_neg (by omega), if_neg (by omega), if_neg (by omega), if_pos (by omega)]
      simp [hn]
    rw [e]; rfl)
  have q0 : ¬ (k : Int) < 1 := by omega
  have q1 : ¬ (23 : Int) ≤ k := by omega
  have e4 : ((k : Int) == 4) = false := by rw [beq_eq_false_iff_ne]; omega
  have e5 : ((k : Int) == 5) = false := by rw [beq_eq_false_iff_ne]; omega
  have e6 : ((k : Int) == 6) = false := by rw [beq_eq_false_iff_ne]; omega
  have e7 : ((k : Int) == 7) = false := by rw [beq_eq_false_iff_ne]; omega
  have e8 : ((k : Int) == 8) = false := by rw [beq_eq_false_iff_ne]; omega
  have b4 : ((k : Int) != 4) = true := by rw [bne_iff_ne]; omega
  have b7 : ((k : Int) != 7) = true := by rw [bne_iff_ne]; omega
  have b8 : ((k : Int) != 8) = true := by rw [bne_iff_ne]; omega
  have q7 : ¬ (k : Int) < 7 := by omega
  have q11 : ¬ (k : Int) ≤ 11 := by omega
  have hn2 : (nu == 0) = false := beq_eq_false_iff_ne.2 hn
  have hn3 : (nu != 0) = true := by rw [bne_iff_ne]; exact hn
  clear hn
  go_enter Tryz.func20, Tryz.ntmps20
  unfold Stp.val
  go_wp2_with fail
  go_ret2
  exact ⟨by rw [Hv.out]; rfl, rAlloc _ _⟩

set_option maxHeartbeats 1000000 in
set_option maxRecDepth 100000 in
theorem tkR_by (w : World) (k : Nat) (h : 12 ≤ k ∧ k < 23) :
    Calls Tryz.prog 20 #[Stp.val ⟨k, [], 0⟩] w fun e w' => e = .returned (takesV (takes ⟨k, [], 0⟩)) ∧ Below w.heap.size w w' := by
  have Hv := Lib.hid (show takesV (takes ⟨k, [], 0⟩) = .tuple #[.int .i64 (2 : Nat), .bool true] by
    have e : takes ⟨k, [], 0⟩ = some (2 : Nat) := by
      unfold takes
      simp only
      rw [if_neg (by omega), if_neg (by omega), if_neg (by omega), if_neg (by omega), if_neg (by omega), if_neg (by omega), if_neg (by omega), if_pos (by omega)]
      simp
    rw [e]; rfl)
  have q0 : ¬ (k : Int) < 1 := by omega
  have q1 : ¬ (23 : Int) ≤ k := by omega
  have e4 : ((k : Int) == 4) = false := by rw [beq_eq_false_iff_ne]; omega
  have e5 : ((k : Int) == 5) = false := by rw [beq_eq_false_iff_ne]; omega
  have e6 : ((k : Int) == 6) = false := by rw [beq_eq_false_iff_ne]; omega
  have e7 : ((k : Int) == 7) = false := by rw [beq_eq_false_iff_ne]; omega
  have e8 : ((k : Int) == 8) = false := by rw [beq_eq_false_iff_ne]; omega
  have b4 : ((k : Int) != 4) = true := by rw [bne_iff_ne]; omega
  have b7 : ((k : Int) != 7) = true := by rw [bne_iff_ne]; omega
  have b8 : ((k : Int) != 8) = true := by rw [bne_iff_ne]; omega
  have q7 : ¬ (k : Int) < 7 := by omega
  have q11 : ¬ (k : Int) ≤ 11 := by omega
  go_enter Tryz.func20, Tryz.ntmps20
  unfold Stp.val
  go_wp2_with fail
  go_ret2
  exact ⟨by rw [Hv.out]; rfl, rAlloc _ _⟩

set_option maxHeartbeats 1000000 in
set_option maxRecDepth 100000 in
theorem tkR_4x (w : World) (tx : Txt) (nu : Int) (hx : tx ≠ []) :
    Calls Tryz.prog 20 #[Stp.val ⟨4, tx, nu⟩] w fun e w' => e = .returned (takesV (takes ⟨4, tx, nu⟩)) ∧ Below w.heap.size w w' := by
  have Hv := Lib.hid (show takesV (takes ⟨4, tx, nu⟩) = .tuple #[.int .i64 (0 : Nat), .bool false] by
    have e : takes ⟨4, tx, nu⟩ = none := by
      unfold takes
      simp [hx]
    rw [e]; rfl)
  have hx2 : tx.isEmpty = false := by cases tx with | nil => exact absurd rfl hx | cons a b => rfl
  clear hx
  go_enter Tryz.func20, Tryz.ntmps20
  unfold Stp.val
  go_wp2_with fail
  go_ret2
  exact ⟨by rw [Hv.out]; rfl, rAlloc _ _⟩

set_option maxHeartbeats 1000000 in
set_option maxRecDepth 100000 in
theorem tkR_4n (w : World) (nu : Int) (hn : ¬ 0 ≤ nu) :
    Calls Tryz.prog 20 #[Stp.val ⟨4, [], nu⟩] w fun e w' => e = .returned (takesV (takes ⟨4, [], nu⟩)) ∧ Below w.heap.size w w' := by
  have Hv := Lib.hid (show takesV (takes ⟨4, [], nu⟩) = .tuple #[.int .i64 (0 : Nat), .bool false] by
    have e : takes ⟨4, [], nu⟩ = none := by
      unfold takes
      simp
      omega
    rw [e]; rfl)
  go_enter Tryz.func20, Tryz.ntmps20
  unfold Stp.val
  go_wp2_with fail
  go_region
  go_wp2_with fail
  go_ret2
  exact ⟨by rw [Hv.out]; show Ending.returned (.tuple #[.int .i64 0, .bool (decide (0 ≤ nu))]) = _; rw [decide_eq_false (by omega)]; rfl, Below.drew (rAlloc _ _)⟩

set_option maxHeartbeats 1000000 in
set_option maxRecDepth 100000 in
theorem tkR_4y (w : World) (nu : Int) (hn : 0 ≤ nu) :
    Calls Tryz.prog 20 #[Stp.val ⟨4, [], nu⟩] w fun e w' => e = .returned (takesV (takes ⟨4, [], nu⟩)) ∧ Below w.heap.size w w' := by
  have Hv := Lib.hid (show takesV (takes ⟨4, [], nu⟩) = .tuple #[.int .i64 (0 : Nat), .bool true] by
    have e : takes ⟨4, [], nu⟩ = some (0 : Nat) := by
      unfold takes
      simp [hn]
    rw [e]; rfl)
  go_enter Tryz.func20, Tryz.ntmps20
  unfold Stp.val
  go_wp2_with fail
  go_region
  go_wp2_with fail
  go_ret2
  exact ⟨by rw [Hv.out]; rfl, Below.drew (rAlloc _ _)⟩

set_option maxHeartbeats 1000000 in
set_option maxRecDepth 100000 in
theorem tkR_5n (w : World) (tx : Txt) (nu : Int) (hn : nu ≠ 0) :
    Calls Tryz.prog 20 #[Stp.val ⟨5, tx, nu⟩] w fun e w' => e = .returned (takesV (takes ⟨5, tx, nu⟩)) ∧ Below w.heap.size w w' := by
  have Hv := Lib.hid (show takesV (takes ⟨5, tx, nu⟩) = .tuple #[.int .i64 (0 : Nat), .bool false] by
    have e : takes ⟨5, tx, nu⟩ = none := by
      unfold takes
      simp [hn]
    rw [e]; rfl)
  have hn2 : (nu == 0) = false := beq_eq_false_iff_ne.2 hn
  clear hn
  go_enter Tryz.func20, Tryz.ntmps20
  unfold Stp.val
  go_wp2_with fail
  go_ret2
  exact ⟨by rw [Hv.out]; rfl, rAlloc _ _⟩

set_option maxHeartbeats 1000000 in
set_option maxRecDepth 100000 in
theorem tkR_5l (w : World) (tx : Txt) (hl : 1024 < tx.length) :
    Calls Tryz.prog 20 #[Stp.val ⟨5, tx, 0⟩] w fun e w' => e = .returned (takesV (takes ⟨5, tx, 0⟩)) ∧ Below w.heap.size w w' := by
  have Hv := Lib.hid (show takesV (takes ⟨5, tx, 0⟩) = .tuple #[.int .i64 (0 : Nat), .bool false] by
    have e : takes ⟨5, tx, 0⟩ = none := by
      unfold takes
      simp; omega
    rw [e]; rfl)
  have hl2 : ¬ (tx.length : Int) ≤ 1024 := by omega
  go_enter Tryz.func20, Tryz.ntmps20
  unfold Stp.val
  go_wp2_with fail
  go_ret2
  exact ⟨by rw [Hv.out]; rfl, rAlloc _ _⟩

set_option maxHeartbeats 1000000 in
set_option maxRecDepth 100000 in
theorem tkR_5t (w : World) (tx : Txt) (hl : tx.length ≤ 1024) (hv : Lib.validD tx = true) :
    Calls Tryz.prog 20 #[Stp.val ⟨5, tx, 0⟩] w fun e w' => e = .returned (takesV (takes ⟨5, tx, 0⟩)) ∧ Below w.heap.size w w' := by
  have Hv := Lib.hid (show takesV (takes ⟨5, tx, 0⟩) = .tuple #[.int .i64 (0 : Nat), .bool true] by
    have e : takes ⟨5, tx, 0⟩ = some (0 : Nat) := by
      unfold takes
      simp [hl, hv]
    rw [e]; rfl)
  have hl2 : (tx.length : Int) ≤ 1024 := by omega
  have Hu := Lib.hid (fun W => utfR_calls ⟨tx.toArray⟩ W (by rw [size_mk]; omega))
  rw [L_mk, hv] at Hu
  clear hv
  go_enter Tryz.func20, Tryz.ntmps20
  unfold Stp.val
  go_wp2_with fail
  refine (Hu.out _).mono ?_
  rintro e w1 ⟨rfl, hb1⟩
  have Hb1 := Lib.hid (rStep (rAlloc _ _) hb1)
  clear hb1
  go_wp2_with fail
  go_ret2
  exact ⟨by rw [Hv.out]; rfl, Hb1.out⟩

set_option maxHeartbeats 1000000 in
set_option maxRecDepth 100000 in
theorem tkR_5f (w : World) (tx : Txt) (hl : tx.length ≤ 1024) (hv : Lib.validD tx = false) :
    Calls Tryz.prog 20 #[Stp.val ⟨5, tx, 0⟩] w fun e w' => e = .returned (takesV (takes ⟨5, tx, 0⟩)) ∧ Below w.heap.size w w' := by
  have Hv := Lib.hid (show takesV (takes ⟨5, tx, 0⟩) = .tuple #[.int .i64 (0 : Nat), .bool false] by
    have e : takes ⟨5, tx, 0⟩ = none := by
      unfold takes
      simp [hl, hv]
    rw [e]; rfl)
  have hl2 : (tx.length : Int) ≤ 1024 := by omega
  have Hu := Lib.hid (fun W => utfR_calls ⟨tx.toArray⟩ W (by rw [size_mk]; omega))
  rw [L_mk, hv] at Hu
  clear hv
  go_enter Tryz.func20, Tryz.ntmps20
  unfold Stp.val
  go_wp2_with fail
  refine (Hu.out _).mono ?_
  rintro e w1 ⟨rfl, hb1⟩
  have Hb1 := Lib.hid (rStep (rAlloc _ _) hb1)
  clear hb1
  go_wp2_with fail
  go_ret2
  exact ⟨by rw [Hv.out]; rfl, Hb1.out⟩

set_option maxHeartbeats 1000000 in
set_option maxRecDepth 100000 in
theorem tkR_6n (w : World) (tx : Txt) (nu : Int) (hn : nu ≠ 0) :
    Calls Tryz.prog 20 #[Stp.val ⟨6, tx, nu⟩] w fun e w' => e = .returned (takesV (takes ⟨6, tx, nu⟩)) ∧ Below w.heap.size w w' := by
  have Hv := Lib.hid (show takesV (takes ⟨6, tx, nu⟩) = .tuple #[.int .i64 (0 : Nat), .bool false] by
    have e : takes ⟨6, tx, nu⟩ = none := by
      unfold takes
      simp [hn]
    rw [e]; rfl)
  have hn2 : (nu == 0) = false := beq_eq_false_iff_ne.2 hn
  clear hn
  go_enter Tryz.func20, Tryz.ntmps20
  unfold Stp.val
  go_wp2_with fail
  go_ret2
  exact ⟨by rw [Hv.out]; rfl, rAlloc _ _⟩

set_option maxHeartbeats 1000000 in
set_option maxRecDepth 100000 in
theorem tkR_6t (w : World) (tx : Txt) (ht : tx.length ≤ 1048576) (hv : pathB tx = true) :
    Calls Tryz.prog 20 #[Stp.val ⟨6, tx, 0⟩] w fun e w' => e = .returned (takesV (takes ⟨6, tx, 0⟩)) ∧ Below w.heap.size w w' := by
  have Hv := Lib.hid (show takesV (takes ⟨6, tx, 0⟩) = .tuple #[.int .i64 (0 : Nat), .bool true] by
    have e : takes ⟨6, tx, 0⟩ = some (0 : Nat) := by
      unfold takes
      simp [hv]
    rw [e]; rfl)
  have Hu := Lib.hid (fun W => pathR_calls ⟨tx.toArray⟩ W (by rw [size_mk]; omega))
  rw [L_mk, hv] at Hu
  clear hv
  go_enter Tryz.func20, Tryz.ntmps20
  unfold Stp.val
  go_wp2_with fail
  refine (Hu.out _).mono ?_
  rintro e w1 ⟨rfl, hb1⟩
  have Hb1 := Lib.hid (rStep (rAlloc _ _) hb1)
  clear hb1
  go_wp2_with fail
  go_ret2
  exact ⟨by rw [Hv.out]; rfl, Hb1.out⟩

set_option maxHeartbeats 1000000 in
set_option maxRecDepth 100000 in
theorem tkR_6f (w : World) (tx : Txt) (ht : tx.length ≤ 1048576) (hv : pathB tx = false) :
    Calls Tryz.prog 20 #[Stp.val ⟨6, tx, 0⟩] w fun e w' => e = .returned (takesV (takes ⟨6, tx, 0⟩)) ∧ Below w.heap.size w w' := by
  have Hv := Lib.hid (show takesV (takes ⟨6, tx, 0⟩) = .tuple #[.int .i64 (0 : Nat), .bool false] by
    have e : takes ⟨6, tx, 0⟩ = none := by
      unfold takes
      simp [hv]
    rw [e]; rfl)
  have Hu := Lib.hid (fun W => pathR_calls ⟨tx.toArray⟩ W (by rw [size_mk]; omega))
  rw [L_mk, hv] at Hu
  clear hv
  go_enter Tryz.func20, Tryz.ntmps20
  unfold Stp.val
  go_wp2_with fail
  refine (Hu.out _).mono ?_
  rintro e w1 ⟨rfl, hb1⟩
  have Hb1 := Lib.hid (rStep (rAlloc _ _) hb1)
  clear hb1
  go_wp2_with fail
  go_ret2
  exact ⟨by rw [Hv.out]; rfl, Hb1.out⟩

set_option maxHeartbeats 1000000 in
set_option maxRecDepth 100000 in
theorem tkR_7x (w : World) (tx : Txt) (nu : Int) (hx : tx ≠ []) :
    Calls Tryz.prog 20 #[Stp.val ⟨7, tx, nu⟩] w fun e w' => e = .returned (takesV (takes ⟨7, tx, nu⟩)) ∧ Below w.heap.size w w' := by
  have Hv := Lib.hid (show takesV (takes ⟨7, tx, nu⟩) = .tuple #[.int .i64 (0 : Nat), .bool false] by
    have e : takes ⟨7, tx, nu⟩ = none := by
      unfold takes
      simp [hx]
    rw [e]; rfl)
  have hx2 : tx.isEmpty = false := by cases tx with | nil => exact absurd rfl hx | cons a b => rfl
  clear hx
  go_enter Tryz.func20, Tryz.ntmps20
  unfold Stp.val
  go_wp2_with fail
  go_ret2
  exact ⟨by rw [Hv.out]; rfl, rAlloc _ _⟩

set_option maxHeartbeats 1000000 in
set_option maxRecDepth 100000 in
theorem tkR_7n (w : World) (nu : Int) (hn : ¬ 0 ≤ nu) :
    Calls Tryz.prog 20 #[Stp.val ⟨7, [], nu⟩] w fun e w' => e = .returned (takesV (takes ⟨7, [], nu⟩)) ∧ Below w.heap.size w w' := by
  have Hv := Lib.hid (show takesV (takes ⟨7, [], nu⟩) = .tuple #[.int .i64 (0 : Nat), .bool false] by
    have e : takes ⟨7, [], nu⟩ = none := by
      unfold takes
      simp
      omega
    rw [e]; rfl)
  have hn2 : nu < 0 := by omega
  go_enter Tryz.func20, Tryz.ntmps20
  unfold Stp.val
  go_wp2_with fail
  go_ret2
  exact ⟨by rw [Hv.out]; rfl, rAlloc _ _⟩

set_option maxHeartbeats 1000000 in
set_option maxRecDepth 100000 in
theorem tkR_7m (w : World) (nu : Int) (_ : 0 ≤ nu) (hm : 64 < nu) :
    Calls Tryz.prog 20 #[Stp.val ⟨7, [], nu⟩] w fun e w' => e = .returned (takesV (takes ⟨7, [], nu⟩)) ∧ Below w.heap.size w w' := by
  have Hv := Lib.hid (show takesV (takes ⟨7, [], nu⟩) = .tuple #[.int .i64 (0 : Nat), .bool false] by
    have e : takes ⟨7, [], nu⟩ = none := by
      unfold takes
      simp
      omega
    rw [e]; rfl)
  have hn2 : ¬ nu < 0 := by omega
  go_enter Tryz.func20, Tryz.ntmps20
  unfold Stp.val
  go_wp2_with fail
  go_ret2
  exact ⟨by rw [Hv.out]; rfl, rAlloc _ _⟩

set_option maxHeartbeats 1000000 in
set_option maxRecDepth 100000 in
theorem tkR_7y (w : World) (m : Nat) (hm : m ≤ 64) :
    Calls Tryz.prog 20 #[Stp.val ⟨7, [], m⟩] w fun e w' => e = .returned (takesV (takes ⟨7, [], m⟩)) ∧ Below w.heap.size w w' := by
  have Hv := Lib.hid (show takesV (takes ⟨7, [], m⟩) = .tuple #[.int .i64 (m : Nat), .bool true] by
    have e : takes ⟨7, [], m⟩ = some (m : Nat) := by
      unfold takes
      simp; omega
    rw [e]; rfl)
  have hn2 : ¬ (m : Int) < 0 := by omega
  have hm2 : ¬ (64 : Int) < m := by omega
  go_enter Tryz.func20, Tryz.ntmps20
  unfold Stp.val
  go_wp2_with fail
  go_ret2
  exact ⟨by rw [Hv.out]; rfl, rAlloc _ _⟩

set_option maxHeartbeats 1000000 in
set_option maxRecDepth 100000 in
theorem tkR_8n (w : World) (tx : Txt) (nu : Int) (hn : ¬ 0 ≤ nu) :
    Calls Tryz.prog 20 #[Stp.val ⟨8, tx, nu⟩] w fun e w' => e = .returned (takesV (takes ⟨8, tx, nu⟩)) ∧ Below w.heap.size w w' := by
  have Hv := Lib.hid (show takesV (takes ⟨8, tx, nu⟩) = .tuple #[.int .i64 (0 : Nat), .bool false] by
    have e : takes ⟨8, tx, nu⟩ = none := by
      unfold takes
      simp
      omega
    rw [e]; rfl)
  have hn2 : nu < 0 := by omega
  go_enter Tryz.func20, Tryz.ntmps20
  unfold Stp.val
  go_wp2_with fail
  go_ret2
  exact ⟨by rw [Hv.out]; rfl, rAlloc _ _⟩

set_option maxHeartbeats 1000000 in
set_option maxRecDepth 100000 in
theorem tkR_8m (w : World) (tx : Txt) (nu : Int) (_ : 0 ≤ nu) (hm : 64 < nu) :
    Calls Tryz.prog 20 #[Stp.val ⟨8, tx, nu⟩] w fun e w' => e = .returned (takesV (takes ⟨8, tx, nu⟩)) ∧ Below w.heap.size w w' := by
  have Hv := Lib.hid (show takesV (takes ⟨8, tx, nu⟩) = .tuple #[.int .i64 (0 : Nat), .bool false] by
    have e : takes ⟨8, tx, nu⟩ = none := by
      unfold takes
      simp
      omega
    rw [e]; rfl)
  have hn2 : ¬ nu < 0 := by omega
  go_enter Tryz.func20, Tryz.ntmps20
  unfold Stp.val
  go_wp2_with fail
  go_ret2
  exact ⟨by rw [Hv.out]; rfl, rAlloc _ _⟩

set_option maxHeartbeats 1000000 in
set_option maxRecDepth 100000 in
theorem tkR_8t (w : World) (tx : Txt) (m : Nat) (ht : tx.length ≤ 1048576) (hm : m ≤ 64) (hv : namesB tx m = true) :
    Calls Tryz.prog 20 #[Stp.val ⟨8, tx, m⟩] w fun e w' => e = .returned (takesV (takes ⟨8, tx, m⟩)) ∧ Below w.heap.size w w' := by
  have Hv := Lib.hid (show takesV (takes ⟨8, tx, m⟩) = .tuple #[.int .i64 (m : Nat), .bool true] by
    have e : takes ⟨8, tx, m⟩ = some (m : Nat) := by
      unfold takes
      simp [hv]; try omega
    rw [e]; rfl)
  have hn2 : ¬ (m : Int) < 0 := by omega
  have hm2 : ¬ (64 : Int) < m := by omega
  have Hu := Lib.hid (fun W => namesR_calls ⟨tx.toArray⟩ m W (by rw [size_mk]; omega))
  rw [L_mk, hv] at Hu
  clear hv
  go_enter Tryz.func20, Tryz.ntmps20
  unfold Stp.val
  go_wp2_with fail
  refine (Hu.out _).mono ?_
  rintro e w1 ⟨rfl, hb1⟩
  have Hb1 := Lib.hid (rStep (rAlloc _ _) hb1)
  have hbx : w1.heap[w.heap.size]? = some (stpO ⟨8, tx, m⟩) := (hb1.block _ (by simp)).trans (heap_alloc_new w (stpO ⟨8, tx, m⟩))
  obtain ⟨⟨k0, k1, k2⟩, -⟩ := threeR hbx
  clear hbx
  clear hb1
  go_wp2_with fail
  go_ret2
  exact ⟨by rw [Hv.out]; rfl, Hb1.out⟩

set_option maxHeartbeats 1000000 in
set_option maxRecDepth 100000 in
theorem tkR_8f (w : World) (tx : Txt) (m : Nat) (ht : tx.length ≤ 1048576) (hm : m ≤ 64) (hv : namesB tx m = false) :
    Calls Tryz.prog 20 #[Stp.val ⟨8, tx, m⟩] w fun e w' => e = .returned (takesV (takes ⟨8, tx, m⟩)) ∧ Below w.heap.size w w' := by
  have Hv := Lib.hid (show takesV (takes ⟨8, tx, m⟩) = .tuple #[.int .i64 (0 : Nat), .bool false] by
    have e : takes ⟨8, tx, m⟩ = none := by
      unfold takes
      simp [hv]
    rw [e]; rfl)
  have hn2 : ¬ (m : Int) < 0 := by omega
  have hm2 : ¬ (64 : Int) < m := by omega
  have Hu := Lib.hid (fun W => namesR_calls ⟨tx.toArray⟩ m W (by rw [size_mk]; omega))
  rw [L_mk, hv] at Hu
  clear hv
  go_enter Tryz.func20, Tryz.ntmps20
  unfold Stp.val
  go_wp2_with fail
  refine (Hu.out _).mono ?_
  rintro e w1 ⟨rfl, hb1⟩
  have Hb1 := Lib.hid (rStep (rAlloc _ _) hb1)
  clear hb1
  go_wp2_with fail
  go_ret2
  exact ⟨by rw [Hv.out]; rfl, Hb1.out⟩

theorem TakesR_calls (y : Stp) (w : World) (ht : y.text.length ≤ 1048576) :
    Calls Tryz.prog 20 #[y.val] w fun e w' => e = .returned (takesV (takes y)) ∧ Below w.heap.size w w' := by
  obtain ⟨k, tx, nu⟩ := y
  simp only at ht
  have two : ∀ b : Bool, b = true ∨ b = false := fun b => by cases b <;> simp
  have nat : 0 ≤ nu → ∃ m : Nat, nu = m := fun h => ⟨nu.toNat, by omega⟩
  by_cases h23 : 23 ≤ k
  · exact tkR_23 w k tx nu h23
  by_cases h12 : 12 ≤ k
  · by_cases hx : tx = []
    · subst hx
      by_cases hn : nu = 0
      · subst hn; exact tkR_by w k ⟨h12, by omega⟩
      · exact tkR_bn w k nu ⟨h12, by omega⟩ hn
    · exact tkR_bx w k tx nu ⟨h12, by omega⟩ hx
  by_cases h1 : k = 1
  · subst h1
    by_cases hx : tx = []
    · subst hx
      by_cases hn : nu = 0
      · subst hn; exact tkR_1y w
      · exact tkR_1n w nu hn
    · exact tkR_1x w tx nu hx
  by_cases h2 : k = 2
  · subst h2
    by_cases hx : tx = []
    · subst hx
      by_cases hn : nu = 0
      · subst hn; exact tkR_2y w
      · exact tkR_2n w nu hn
    · exact tkR_2x w tx nu hx
  by_cases h3 : k = 3
  · subst h3
    by_cases hx : tx = []
    · subst hx
      by_cases hn : nu = 0
      · subst hn; exact tkR_3y w
      · exact tkR_3n w nu hn
    · exact tkR_3x w tx nu hx
  by_cases h9 : k = 9
  · subst h9
    by_cases hx : tx = []
    · subst hx
      by_cases hn : nu = 0
      · subst hn; exact tkR_9y w
      · exact tkR_9n w nu hn
    · exact tkR_9x w tx nu hx
  by_cases h10 : k = 10
  · subst h10
    by_cases hx : tx = []
    · subst hx
      by_cases hn : nu = 0
      · subst hn; exact tkR_10y w
      · exact tkR_10n w nu hn
    · exact tkR_10x w tx nu hx
  by_cases h11 : k = 11
  · subst h11
    by_cases hx : tx = []
    · subst hx
      by_cases hn : nu = 0
      · subst hn; exact tkR_11y w
      · exact tkR_11n w nu hn
    · exact tkR_11x w tx nu hx
  by_cases h4 : k = 4
  · subst h4
    by_cases hx : tx = []
    · subst hx
      by_cases hn : 0 ≤ nu
      · exact tkR_4y w nu hn
      · exact tkR_4n w nu hn
    · exact tkR_4x w tx nu hx
  by_cases h5 : k = 5
  · subst h5
    by_cases hn : nu = 0
    · subst hn
      by_cases hl : tx.length ≤ 1024
      · rcases two (Lib.validD tx) with hv | hv
        · exact tkR_5t w tx hl hv
        · exact tkR_5f w tx hl hv
      · exact tkR_5l w tx (by omega)
    · exact tkR_5n w tx nu hn
  by_cases h6 : k = 6
  · subst h6
    by_cases hn : nu = 0
    · subst hn
      rcases two (pathB tx) with hv | hv
      · exact tkR_6t w tx ht hv
      · exact tkR_6f w tx ht hv
    · exact tkR_6n w tx nu hn
  by_cases h7 : k = 7
  · subst h7
    by_cases hx : tx = []
    · subst hx
      by_cases hn : 0 ≤ nu
      · by_cases hm : nu ≤ 64
        · obtain ⟨m, rfl⟩ := nat hn
          exact tkR_7y w m (by omega)
        · exact tkR_7m w nu hn (by omega)
      · exact tkR_7n w nu hn
    · exact tkR_7x w tx nu hx
  by_cases h8 : k = 8
  · subst h8
    by_cases hn : 0 ≤ nu
    · by_cases hm : nu ≤ 64
      · obtain ⟨m, rfl⟩ := nat hn
        rcases two (namesB tx m) with hv | hv
        · exact tkR_8t w tx m ht (by omega) hv
        · exact tkR_8f w tx m ht (by omega) hv
      · exact tkR_8m w tx nu hn (by omega)
    · exact tkR_8n w tx nu hn
  obtain rfl : k = 0 := by omega
  exact tkR_0 w tx nu

end Go.Proofs.YtcjmhmmjfgjcnaaGreatDoor.Rf
