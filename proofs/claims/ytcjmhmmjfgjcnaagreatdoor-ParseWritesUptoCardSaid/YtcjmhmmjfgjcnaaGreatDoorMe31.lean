/- Parts: PcE RdH RdI. -/
import Derived.Test.YtcjmhmmjfgjcnaaGreatDoorMe16
import Derived.Test.YtcjmhmmjfgjcnaaGreatDoorMe19
import Derived.Test.YtcjmhmmjfgjcnaaGreatDoorMe29
import Derived.Test.YtcjmhmmjfgjcnaaGreatDoorMe30
import Derived.Deep.RegionWith
import Derived.Deep.RegionHeld3
import Derived.RegionTactic

/- parse: shown, a step of two; all steps. -/
namespace Go.Proofs.YtcjmhmmjfgjcnaaGreatDoor.Pa
open Go.RowKit Go.Proofs.YtcjmhmmjfgjcnaaGreatDoor.Lx

/-- what the text of a step of two is read from -/
structure OpR (w : World) (y : Stp) (g o : Nat) (x z : Txt) (W : World) : Prop where
  k0 : W.cell? ⟨w.heap.size, 0, none⟩ = some (.int .u8 y.kind)
  q0 : W.cell? ⟨g, o, none⟩ = some (.string ⟨x.toArray⟩)
  q1 : W.cell? ⟨g, o + 1, none⟩ = some (.string ⟨z.toArray⟩)
  bel : Below w.heap.size w W
theorem OpR.step {w W W' : World} {y : Stp} {g o : Nat} {x z : Txt} (h : OpR w y g o x z W) (hb : Below W.heap.size W W') : OpR w y g o x z W' :=
  ⟨(hb.cell (p := ⟨w.heap.size, 0, none⟩) (World.block_lt_of_cell? _ _ h.k0)).trans h.k0, (hb.cell (p := ⟨g, o, none⟩) (World.block_lt_of_cell? _ _ h.q0)).trans h.q0, (hb.cell (p := ⟨g, o + 1, none⟩) (World.block_lt_of_cell? _ _ h.q1)).trans h.q1, h.bel.trans (hb.mono h.bel.size)⟩
theorem OpR.ands {w W : World} {y : Stp} {g o : Nat} {x z : Txt} (h : OpR w y g o x z W) : W.cell? ⟨w.heap.size, 0, none⟩ = some (.int .u8 y.kind) ∧ W.cell? ⟨g, o, none⟩ = some (.string ⟨x.toArray⟩) ∧ W.cell? ⟨g, o + 1, none⟩ = some (.string ⟨z.toArray⟩) ∧ Below w.heap.size w W := ⟨h.k0, h.q0, h.q1, h.bel⟩
/-- operators, and what is read behind it -/
theorem ops_keep {w W : World} {y : Stp} {g o i B : Nat} {x z op : Txt} (h : OpR w y g o x z W) (hB : W.heap.size = B) (hi : i < operators.length) (ho : operators[i] = op) :
    Calls Tryz.prog 103 #[] W fun e W' => e = .returned (.slice (some ⟨B, 0, none⟩) 11 11) ∧ W'.cell? ⟨B, i, none⟩ = some (.string ⟨op.toArray⟩) ∧ OpR w y g o x z W' := by
  subst hB
  refine (operators_calls W).mono ?_
  rintro e W' ⟨rfl, rfl⟩
  refine ⟨rfl, ?_, h.step (alloc_below _ _)⟩
  rw [← ho]
  exact (TextsAt.new W operators 11 (strsC operators).toArray 9 (0, 0) rfl rfl).2 i hi
theorem cat7 (a b c d e f g : List UInt8) : (⟨a.toArray⟩ ++ ⟨b.toArray⟩ ++ ⟨c.toArray⟩ ++ ⟨d.toArray⟩ ++ ⟨e.toArray⟩ ++ ⟨f.toArray⟩ ++ ⟨g.toArray⟩ : ByteArray) = ⟨(a ++ b ++ c ++ d ++ e ++ f ++ g).toArray⟩ := by
  rw [cat2, cat2, cat2, cat2, cat2, cat2]

set_option maxHeartbeats 2000000 in
set_option maxRecDepth 100000 in
theorem shown_op (y : Stp) (k : Nat) (l : List Txt) (v : Value) (w : World) (h : ShArgs w y k v l) (hc : 12 ≤ y.kind) :
    Calls Tryz.prog 53 #[y.val, v] w fun e w' => e = .returned (.string ⟨(shown y l).toArray⟩) ∧ Below w.heap.size w w' := by
  have hk2 := takes2_of h.ht hc
  have hk3 := (kind_of_takes h.ht).2
  have HS := Lib.hid (show shown y l = [40] ++ l.getD 0 [] ++ [32] ++ operators.getD (y.kind - 12) [] ++ [32] ++ l.getD 1 [] ++ [41] by
    unfold shown
    rw [if_neg (by omega), if_neg (by omega), if_neg (by omega), if_neg (by omega), if_neg (by omega), if_neg (by omega), if_neg (by omega), if_neg (by omega), if_neg (by omega), if_neg (by omega)])
  obtain ⟨a, n, c, rfl, hn, hcc, hj⟩ := h.hv
  have hl := h.hl
  have hn2 : n = 2 := by omega
  have hl0 : 0 < l.length := by omega
  have hl1 : 1 < l.length := by omega
  obtain ⟨g, o, rfl, q0⟩ := hj 0 hl0
  obtain ⟨g', o', e', q1⟩ := hj 1 hl1
  simp only [Option.some.injEq, Addr.mk.injEq, and_true] at e'
  obtain ⟨rfl, rfl⟩ := e'
  have e0 : l.getD 0 [] = l[0] := by rw [List.getD_eq_getElem?_getD, List.getElem?_eq_getElem hl0]; rfl
  have e1 : l.getD 1 [] = l[1] := by rw [List.getD_eq_getElem?_getD, List.getElem?_eq_getElem hl1]; rfl
  have hs2 := lens_two l
  rw [e0, e1] at hs2
  rw [e0, e1] at HS
  have hsz := Nat.le_trans hs2 h.hlen
  generalize l[0] = x at *
  generalize l[1] = z at *
  obtain ⟨i, hi⟩ : ∃ i, y.kind = i + 12 := ⟨y.kind - 12, by omega⟩
  have hi11 : i < operators.length := by show i < 11; omega
  have eo : operators.getD (y.kind - 12) [] = operators[i] := by rw [List.getD_eq_getElem?_getD, show y.kind - 12 = i by omega, List.getElem?_eq_getElem hi11]; rfl
  have ho3 := op_len (y.kind - 12)
  rw [eo] at HS ho3
  have Hop := Lib.hid (fun (W : World) (hB : W.heap.size = w.heap.size + 1) (hW : OpR w y g o x z W) => ops_keep hW hB hi11 rfl)
  generalize operators[i] = op at *
  have hi' : i < 11 := hi11
  have hsub : IntKind.u8.wrap ((y.kind : Int) - 12) = (i : Int) := by
    rw [hi]
    simp [IntKind.wrap, IntKind.bits]
    omega
  have b1 : ((y.kind : Int) == 1) = false := by rw [beq_eq_false_iff_ne]; omega
  have b2 : ((y.kind : Int) == 2) = false := by rw [beq_eq_false_iff_ne]; omega
  have b3 : ((y.kind : Int) == 3) = false := by rw [beq_eq_false_iff_ne]; omega
  have b4 : ((y.kind : Int) == 4) = false := by rw [beq_eq_false_iff_ne]; omega
  have b5 : ((y.kind : Int) == 5) = false := by rw [beq_eq_false_iff_ne]; omega
  have b6 : ((y.kind : Int) == 6) = false := by rw [beq_eq_false_iff_ne]; omega
  have b7 : ((y.kind : Int) == 7) = false := by rw [beq_eq_false_iff_ne]; omega
  have b8 : ((y.kind : Int) == 8) = false := by rw [beq_eq_false_iff_ne]; omega
  have b9 : ((y.kind : Int) == 9) = false := by rw [beq_eq_false_iff_ne]; omega
  have b10 : ((y.kind : Int) == 10) = false := by rw [beq_eq_false_iff_ne]; omega
  have b11 : ((y.kind : Int) == 11) = false := by rw [beq_eq_false_iff_ne]; omega
  have s0 : 1 + x.length ≤ 9223372036854775807 := by omega
  have r0 : ¬ 9223372036854775807 < 1 + x.length := by omega
  have s1 : 1 + x.length + 1 ≤ 9223372036854775807 := by omega
  have r1 : ¬ 9223372036854775807 < 1 + x.length + 1 := by omega
  have s2 : 1 + x.length + 1 + op.length ≤ 9223372036854775807 := by omega
  have r2 : ¬ 9223372036854775807 < 1 + x.length + 1 + op.length := by omega
  have s3 : 1 + x.length + 1 + op.length + 1 ≤ 9223372036854775807 := by omega
  have r3 : ¬ 9223372036854775807 < 1 + x.length + 1 + op.length + 1 := by omega
  have s4 : 1 + x.length + 1 + op.length + 1 + z.length ≤ 9223372036854775807 := by omega
  have r4 : ¬ 9223372036854775807 < 1 + x.length + 1 + op.length + 1 + z.length := by omega
  have s5 : 1 + x.length + 1 + op.length + 1 + z.length + 1 ≤ 9223372036854775807 := by omega
  have r5 : ¬ 9223372036854775807 < 1 + x.length + 1 + op.length + 1 + z.length + 1 := by omega
  have i0 : (0 : Int) ≤ (i : Int) := by omega
  have i1 : (i : Int) < 11 := by omega
  have i2 : ¬ (11 : Int) ≤ (i : Int) := by omega
  have hR0 : OpR w y g o x z (w.alloc (.cells #[.int .u8 y.kind, .string ⟨y.text.toArray⟩, .int .i64 y.num] 48)) :=
    ⟨by simp, ((alloc_below w _).cell (p := ⟨g, _, none⟩) (World.block_lt_of_cell? _ _ q0)).trans q0, ((alloc_below w _).cell (p := ⟨g, _, none⟩) (World.block_lt_of_cell? _ _ q1)).trans q1, alloc_below _ _⟩
  have HR0 := Lib.hid hR0
  clear h hc hk2 hk3 hn hcc hj hl hl0 hl1 e0 e1 hs2 hi eo hi11 q0 q1 hR0
  subst hn2
  unfold Stp.val
  go_enter Tryz.func53, Tryz.ntmps53
  go_wp2_with fail
  have hS0 := (HR0.out.step ((Below.refl _ _).drew)).ands
  refine wp_region_held_drew (S := fun w' => w'.cell? ⟨w.heap.size, 0, none⟩ = some (.int .u8 y.kind) ∧ w'.cell? ⟨g, o, none⟩ = some (.string ⟨x.toArray⟩) ∧ w'.cell? ⟨g, o + 1, none⟩ = some (.string ⟨z.toArray⟩) ∧ Below w.heap.size w w') (by kernel_rfl) hS0 (fun hHeld => ?_)
  refine wpAnyH_take (i := 0) (v := ?_) rfl (by kernel_rfl) (by kernel_rfl) (by kernel_rfl) (fun _ _ _ h => h) (Or.inl ⟨by rfl, ?_⟩) (by assumption) ?_
  rotate_left
  · (intro w' hSw; (try dsimp only at hSw); go_simp; try with_reducible rfl)
  try simp only [Act.put, List.getElem_toArray, List.getElem_cons_zero, List.setIfInBounds_toArray, List.set_cons_zero, List.set_cons_succ]
  refine wpAnyH_take (i := 1) (v := ?_) rfl (by kernel_rfl) (by kernel_rfl) (by kernel_rfl) (fun _ _ _ h => h) (Or.inl ⟨by rfl, ?_⟩) (by assumption) ?_
  rotate_left
  · (intro w' hSw; (try dsimp only at hSw); go_simp; try with_reducible rfl)
  try simp only [Act.put, List.getElem_toArray, List.getElem_cons_zero, List.getElem_cons_succ, List.setIfInBounds_toArray, List.set_cons_zero, List.set_cons_succ]
  refine wpAnyH_take (i := 2) (v := ?_) rfl (by kernel_rfl) (by kernel_rfl) (by kernel_rfl) (fun _ _ _ h => h) (Or.inl ⟨by rfl, ?_⟩) (by assumption) ?_
  rotate_left
  · (intro w' hSw; (try dsimp only at hSw); go_simp; try with_reducible rfl)
  try simp only [Act.put, List.getElem_toArray, List.getElem_cons_zero, List.getElem_cons_succ, List.setIfInBounds_toArray, List.set_cons_zero, List.set_cons_succ]
  refine wpAnyH_take (i := 3) (v := ?_) rfl (by kernel_rfl) (by kernel_rfl) (by kernel_rfl) (fun _ _ _ h => h) (Or.inl ⟨by rfl, ?_⟩) (by assumption) ?_
  rotate_left
  · (intro w' hSw; (try dsimp only at hSw); go_simp; try with_reducible rfl)
  try simp only [Act.put, List.getElem_toArray, List.getElem_cons_zero, List.getElem_cons_succ, List.setIfInBounds_toArray, List.set_cons_zero, List.set_cons_succ]
  refine wpAnyH_take (i := 4) (v := ?_) rfl (by kernel_rfl) (by kernel_rfl) (by kernel_rfl) (fun _ _ _ h => h) (Or.inl ⟨by rfl, ?_⟩) (by assumption) ?_
  rotate_left
  · (intro w' hSw; (try dsimp only at hSw); go_simp; try with_reducible rfl)
  try simp only [Act.put, List.getElem_toArray, List.getElem_cons_zero, List.getElem_cons_succ, List.setIfInBounds_toArray, List.set_cons_zero, List.set_cons_succ]
  refine wpAnyH_take (i := 6) (v := ?_) rfl (by kernel_rfl) (by kernel_rfl) (by kernel_rfl) (fun _ _ _ h => h) (Or.inl ⟨by rfl, ?_⟩) (by assumption) ?_
  rotate_left
  · (intro w' hSw; (try dsimp only at hSw); go_simp; try with_reducible rfl)
  try simp only [Act.put, List.getElem_toArray, List.getElem_cons_zero, List.getElem_cons_succ, List.setIfInBounds_toArray, List.set_cons_zero, List.set_cons_succ]
  refine wpAnyH_take (i := 7) (v := ?_) rfl (by kernel_rfl) (by kernel_rfl) (by kernel_rfl) (fun _ _ _ h => h) (Or.inl ⟨by rfl, ?_⟩) (by assumption) ?_
  rotate_left
  · (intro w' hSw; (try dsimp only at hSw); go_simp; try with_reducible rfl)
  try simp only [Act.put, List.getElem_toArray, List.getElem_cons_zero, List.getElem_cons_succ, List.setIfInBounds_toArray, List.set_cons_zero, List.set_cons_succ]
  refine wpAnyH_take (i := 8) (v := ?_) rfl (by kernel_rfl) (by kernel_rfl) (by kernel_rfl) (fun _ _ _ h => h) (Or.inl ⟨by rfl, ?_⟩) (by assumption) ?_
  rotate_left
  · (intro w' hSw; (try dsimp only at hSw); go_simp; try with_reducible rfl)
  try simp only [Act.put, List.getElem_toArray, List.getElem_cons_zero, List.getElem_cons_succ, List.setIfInBounds_toArray, List.set_cons_zero, List.set_cons_succ]
  refine wpAnyH_take (i := 13) (v := ?_) rfl (by kernel_rfl) (by kernel_rfl) (by kernel_rfl) (fun _ _ _ h => h) (Or.inl ⟨by rfl, ?_⟩) (by assumption) ?_
  rotate_left
  · (intro w' hSw; (try dsimp only at hSw); go_simp; try with_reducible rfl)
  try simp only [Act.put, List.getElem_toArray, List.getElem_cons_zero, List.getElem_cons_succ, List.setIfInBounds_toArray, List.set_cons_zero, List.set_cons_succ]
  refine wpAnyH_take (i := 14) (v := ?_) rfl (by kernel_rfl) (by kernel_rfl) (by kernel_rfl) (fun _ _ _ h => h) (Or.inl ⟨by rfl, ?_⟩) (by assumption) ?_
  rotate_left
  · (intro w' hSw; (try dsimp only at hSw); go_simp; try with_reducible rfl)
  try simp only [Act.put, List.getElem_toArray, List.getElem_cons_zero, List.getElem_cons_succ, List.setIfInBounds_toArray, List.set_cons_zero, List.set_cons_succ]
  refine wpAnyH_take (i := 15) (v := ?_) rfl (by kernel_rfl) (by kernel_rfl) (by kernel_rfl) (fun _ _ _ h => h) (Or.inl ⟨by rfl, ?_⟩) (by assumption) ?_
  rotate_left
  · (intro w' hSw; (try dsimp only at hSw); go_simp; try with_reducible rfl)
  try simp only [Act.put, List.getElem_toArray, List.getElem_cons_zero, List.getElem_cons_succ, List.setIfInBounds_toArray, List.set_cons_zero, List.set_cons_succ]
  refine wpAnyH_ready (rs := [5]) (by kernel_rfl) (by simp) ?_
  refine AllReadyH.cons (o := _) rfl (fun K hK => ?_) AllReadyH.nil
  go_simp
  go_at_call 103
  refine (Hop.out _ (by simp) ⟨hHeld.1, hHeld.2.1, hHeld.2.2.1, hHeld.2.2.2⟩).mono ?_
  rintro e w9 ⟨rfl, hq9, hR9⟩
  go_wp2_with fail
  refine hK.out _ _ hR9.ands (fun hHeld2 => ?_)
  clear hK K hHeld
  try simp only [Act.put, List.getElem_toArray, List.getElem_cons_zero, List.getElem_cons_succ, List.setIfInBounds_toArray, List.set_cons_zero, List.set_cons_succ]
  refine wpAnyH_take (i := 9) (v := ?_) rfl (by kernel_rfl) (by kernel_rfl) (by kernel_rfl) (fun _ _ _ h => h) (Or.inl ⟨by rfl, ?_⟩) (by assumption) ?_
  rotate_left
  · (intro w' hSw; (try dsimp only at hSw); go_simp; try with_reducible rfl)
  try simp only [Act.put, List.getElem_toArray, List.getElem_cons_zero, List.getElem_cons_succ, List.setIfInBounds_toArray, List.set_cons_zero, List.set_cons_succ]
  refine wpAnyH_ready (rs := [10]) (by kernel_rfl) (by simp) ?_
  refine AllReadyH.cons (o := _) rfl (fun K hK => ?_) AllReadyH.nil
  go_simp
  refine hK.out _ _ hHeld2 (fun hHeld3 => ?_)
  clear hK K
  try simp only [Act.put, List.getElem_toArray, List.getElem_cons_zero, List.getElem_cons_succ, List.setIfInBounds_toArray, List.set_cons_zero, List.set_cons_succ]
  refine wpAnyH_take (i := 11) (v := ?_) rfl (by kernel_rfl) (by kernel_rfl) (by kernel_rfl) (fun _ _ _ h => h) (Or.inl ⟨by rfl, ?_⟩) (by assumption) ?_
  rotate_left
  · (intro w' hSw; (try dsimp only at hSw); go_simp; try with_reducible rfl)
  try simp only [Act.put, List.getElem_toArray, List.getElem_cons_zero, List.getElem_cons_succ, List.setIfInBounds_toArray, List.set_cons_zero, List.set_cons_succ]
  refine wpAnyH_take (i := 12) (v := ?_) rfl (by kernel_rfl) (by kernel_rfl) (by kernel_rfl) (fun _ _ _ h => h) (Or.inl ⟨by rfl, ?_⟩) (by assumption) ?_
  rotate_left
  · (intro w' hSw; (try dsimp only at hSw); go_simp; try with_reducible rfl)
  try simp only [Act.put, List.getElem_toArray, List.getElem_cons_zero, List.getElem_cons_succ, List.setIfInBounds_toArray, List.set_cons_zero, List.set_cons_succ]
  refine wpAnyH_take (i := 16) (v := ?_) rfl (by kernel_rfl) (by kernel_rfl) (by kernel_rfl) (fun _ _ _ h => h) (Or.inl ⟨by rfl, ?_⟩) (by assumption) ?_
  rotate_left
  · (intro w' hSw; (try dsimp only at hSw); go_simp; try with_reducible rfl)
  try simp only [Act.put, List.getElem_toArray, List.getElem_cons_zero, List.getElem_cons_succ, List.setIfInBounds_toArray, List.set_cons_zero, List.set_cons_succ]
  refine wpAnyH_take (i := 17) (v := ?_) rfl (by kernel_rfl) (by kernel_rfl) (by kernel_rfl) (fun _ _ _ h => h) (Or.inl ⟨by rfl, ?_⟩) (by assumption) ?_
  rotate_left
  · (intro w' hSw; (try dsimp only at hSw); go_simp; try with_reducible rfl)
  try simp only [Act.put, List.getElem_toArray, List.getElem_cons_zero, List.getElem_cons_succ, List.setIfInBounds_toArray, List.set_cons_zero, List.set_cons_succ]
  refine wpAnyH_take (i := 18) (v := ?_) rfl (by kernel_rfl) (by kernel_rfl) (by kernel_rfl) (fun _ _ _ h => h) (Or.inl ⟨by rfl, ?_⟩) (by assumption) ?_
  rotate_left
  · (intro w' hSw; (try dsimp only at hSw); go_simp; try with_reducible rfl)
  try simp only [Act.put, List.getElem_toArray, List.getElem_cons_zero, List.getElem_cons_succ, List.setIfInBounds_toArray, List.set_cons_zero, List.set_cons_succ]
  refine wpAnyH_done (by kernel_rfl) ?_ _
  have hb9 := hR9.bel
  go_wp2_with fail
  go_ret
  exact ⟨by rw [HS.out]; exact congrArg (fun x => Ending.returned (.string x)) (cat7 [40] _ [32] _ [32] _ [41]), by assumption⟩

theorem shown_calls (y : Stp) (k : Nat) (l : List Txt) (v : Value) (w : World) (h : ShArgs w y k v l) :
    Calls Tryz.prog 53 #[y.val, v] w fun e w' => e = .returned (.string ⟨(shown y l).toArray⟩) ∧ Below w.heap.size w w' := by
  have hk := kind_of_takes h.ht
  by_cases h12 : 12 ≤ y.kind
  · exact shown_op y k l v w h h12
  by_cases h1 : y.kind = 1
  · exact shown_1 y k l v w h h1
  by_cases h2 : y.kind = 2
  · exact shown_2 y k l v w h h2
  by_cases h3 : y.kind = 3
  · exact shown_3 y k l v w h h3
  by_cases h4 : y.kind = 4
  · exact shown_4 y k l v w h h4
  by_cases h5 : y.kind = 5
  · exact shown_5 y k l v w h h5
  by_cases h6 : y.kind = 6
  · exact shown_6 y k l v w h h6
  by_cases h7 : y.kind = 7
  · exact shown_7 y k l v w h h7
  by_cases h8 : y.kind = 8
  · exact shown_8 y k l v w h h8
  by_cases h9 : y.kind = 9
  · exact shown_9 y k l v w h h9
  by_cases h10 : y.kind = 10
  · exact shown_10 y k l v w h h10
  exact shown_11 y k l v w h (by omega)

end Go.Proofs.YtcjmhmmjfgjcnaaGreatDoor.Pa

/- codicilref10: shown of operators. -/
namespace Go.Proofs.YtcjmhmmjfgjcnaaGreatDoor.Rf
open Go.RowKit Go.Proofs.YtcjmhmmjfgjcnaaGreatDoor.Lx Go.Proofs.YtcjmhmmjfgjcnaaGreatDoor.Pa

set_option maxHeartbeats 2000000 in
set_option maxRecDepth 100000 in
theorem shownR_op (y : Stp) (k : Nat) (l : List Txt) (v : Value) (w : World) (h : ShArgs w y k v l) (hc : 12 ≤ y.kind) :
    Calls Tryz.prog 54 #[y.val, v] w fun e w' => e = .returned (.string ⟨(shown y l).toArray⟩) ∧ Below w.heap.size w w' := by
  have hk2 := takes2_of h.ht hc
  have hk3 := (kind_of_takes h.ht).2
  have HS := Lib.hid (show shown y l = [40] ++ l.getD 0 [] ++ [32] ++ operators.getD (y.kind - 12) [] ++ [32] ++ l.getD 1 [] ++ [41] by
    unfold shown
    rw [if_neg (by omega), if_neg (by omega), if_neg (by omega), if_neg (by omega), if_neg (by omega), if_neg (by omega), if_neg (by omega), if_neg (by omega), if_neg (by omega), if_neg (by omega)])
  obtain ⟨a, n, c, rfl, hn, hcc, hj⟩ := h.hv
  have hl := h.hl
  have hn2 : n = 2 := by omega
  have hl0 : 0 < l.length := by omega
  have hl1 : 1 < l.length := by omega
  obtain ⟨g, o, rfl, q0⟩ := hj 0 hl0
  obtain ⟨g', o', e', q1⟩ := hj 1 hl1
  simp only [Option.some.injEq, Addr.mk.injEq, and_true] at e'
  obtain ⟨rfl, rfl⟩ := e'
  have e0 : l.getD 0 [] = l[0] := by rw [List.getD_eq_getElem?_getD, List.getElem?_eq_getElem hl0]; rfl
  have e1 : l.getD 1 [] = l[1] := by rw [List.getD_eq_getElem?_getD, List.getElem?_eq_getElem hl1]; rfl
  have hs2 := lens_two l
  rw [e0, e1] at hs2
  rw [e0, e1] at HS
  have hsz := Nat.le_trans hs2 h.hlen
  generalize l[0] = x at *
  generalize l[1] = z at *
  obtain ⟨i, hi⟩ : ∃ i, y.kind = i + 12 := ⟨y.kind - 12, by omega⟩
  have hi11 : i < operators.length := by show i < 11; omega
  have eo : operators.getD (y.kind - 12) [] = operators[i] := by rw [List.getD_eq_getElem?_getD, show y.kind - 12 = i by omega, List.getElem?_eq_getElem hi11]; rfl
  have ho3 := op_len (y.kind - 12)
  rw [eo] at HS ho3
  have Hop := Lib.hid (fun (W : World) (hW : OpR w y g o x z W) => show Calls Tryz.prog 107 #[.int .u8 y.kind] W (fun e W' => e = .returned (.string ⟨(operators.getD (y.kind - 12) []).toArray⟩) ∧ OpR w y g o x z W') from (OperatorR_calls y.kind (by omega) W).mono fun e W' h => ⟨h.1, hW.step h.2⟩)
  rw [eo] at Hop
  generalize operators[i] = op at *
  have hi' : i < 11 := hi11
  have hsub : IntKind.u8.wrap ((y.kind : Int) - 12) = (i : Int) := by
    rw [hi]
    simp [IntKind.wrap, IntKind.bits]
    omega
  have b1 : ((y.kind : Int) == 1) = false := by rw [beq_eq_false_iff_ne]; omega
  have b2 : ((y.kind : Int) == 2) = false := by rw [beq_eq_false_iff_ne]; omega
  have b3 : ((y.kind : Int) == 3) = false := by rw [beq_eq_false_iff_ne]; omega
  have b4 : ((y.kind : Int) == 4) = false := by rw [beq_eq_false_iff_ne]; omega
  have b5 : ((y.kind : Int) == 5) = false := by rw [beq_eq_false_iff_ne]; omega
  have b6 : ((y.kind : Int) == 6) = false := by rw [beq_eq_false_iff_ne]; omega
  have b7 : ((y.kind : Int) == 7) = false := by rw [beq_eq_false_iff_ne]; omega
  have b8 : ((y.kind : Int) == 8) = false := by rw [beq_eq_false_iff_ne]; omega
  have b9 : ((y.kind : Int) == 9) = false := by rw [beq_eq_false_iff_ne]; omega
  have b10 : ((y.kind : Int) == 10) = false := by rw [beq_eq_false_iff_ne]; omega
  have b11 : ((y.kind : Int) == 11) = false := by rw [beq_eq_false_iff_ne]; omega
  have s0 : 1 + x.length ≤ 9223372036854775807 := by omega
  have r0 : ¬ 9223372036854775807 < 1 + x.length := by omega
  have s1 : 1 + x.length + 1 ≤ 9223372036854775807 := by omega
  have r1 : ¬ 9223372036854775807 < 1 + x.length + 1 := by omega
  have s2 : 1 + x.length + 1 + op.length ≤ 9223372036854775807 := by omega
  have r2 : ¬ 9223372036854775807 < 1 + x.length + 1 + op.length := by omega
  have s3 : 1 + x.length + 1 + op.length + 1 ≤ 9223372036854775807 := by omega
  have r3 : ¬ 9223372036854775807 < 1 + x.length + 1 + op.length + 1 := by omega
  have s4 : 1 + x.length + 1 + op.length + 1 + z.length ≤ 9223372036854775807 := by omega
  have r4 : ¬ 9223372036854775807 < 1 + x.length + 1 + op.length + 1 + z.length := by omega
  have s5 : 1 + x.length + 1 + op.length + 1 + z.length + 1 ≤ 9223372036854775807 := by omega
  have r5 : ¬ 9223372036854775807 < 1 + x.length + 1 + op.length + 1 + z.length + 1 := by omega
  have i0 : (0 : Int) ≤ (i : Int) := by omega
  have i1 : (i : Int) < 11 := by omega
  have i2 : ¬ (11 : Int) ≤ (i : Int) := by omega
  have hR0 : OpR w y g o x z (w.alloc (.cells #[.int .u8 y.kind, .string ⟨y.text.toArray⟩, .int .i64 y.num] 48)) :=
    ⟨by simp, ((alloc_below w _).cell (p := ⟨g, _, none⟩) (World.block_lt_of_cell? _ _ q0)).trans q0, ((alloc_below w _).cell (p := ⟨g, _, none⟩) (World.block_lt_of_cell? _ _ q1)).trans q1, alloc_below _ _⟩
  have HR0 := Lib.hid hR0
  clear h hc hk2 hk3 hn hcc hj hl hl0 hl1 e0 e1 hs2 hi eo hi11 q0 q1 hR0
  subst hn2
  unfold Stp.val
  go_enter Tryz.func54, Tryz.ntmps54
  go_wp2_with fail
  have hS0 := (HR0.out.step ((Below.refl _ _).drew)).ands
  go_region_held3 (fun w' => w'.cell? ⟨w.heap.size, 0, none⟩ = some (.int .u8 y.kind) ∧ w'.cell? ⟨g, o, none⟩ = some (.string ⟨x.toArray⟩) ∧ w'.cell? ⟨g, o + 1, none⟩ = some (.string ⟨z.toArray⟩) ∧ Below w.heap.size w w')
    (first | exact hS0 | exact hS6)
    (first | (go_at_call 107; refine (Hop.out _ ?_).mono ?_; (go_split_ands; exact ⟨by assumption, by assumption, by assumption, by assumption⟩); rintro e w9 ⟨rfl, hb9⟩; have hS6 := hb9.ands; have hb6 := hb9.bel))
  all_goals
    go_wp2_with fail
    go_ret
    exact ⟨by rw [HS.out]; exact congrArg (fun x => Ending.returned (.string x)) (cat7 [40] _ [32] _ [32] _ [41]), hb6⟩

end Go.Proofs.YtcjmhmmjfgjcnaaGreatDoor.Rf

/- codicilref10: shown of a list. -/
namespace Go.Proofs.YtcjmhmmjfgjcnaaGreatDoor.Rf
open Go.RowKit Go.Proofs.YtcjmhmmjfgjcnaaGreatDoor.Lx Go.Proofs.YtcjmhmmjfgjcnaaGreatDoor.Pa

theorem join_snoc (l : List Txt) (x sep : Txt) : Lib.join (l ++ [x]) sep = if l = [] then x else Lib.join l sep ++ sep ++ x := by
  cases l with
  | nil => rw [if_pos rfl]; exact Lib.join_one x sep
  | cons a r =>
    rw [if_neg (by simp), List.cons_append, Lib.join_cons, Lib.join_cons]
    simp [Lib.joinTail]
theorem join_take (l : List Txt) (k : Nat) (h : k < l.length) (sep : Txt) : Lib.join (l.take (k + 1)) sep = if k = 0 then l[k] else Lib.join (l.take k) sep ++ sep ++ l[k] := by
  rw [List.take_succ_eq_append_getElem h, join_snoc]
  by_cases hk : k = 0
  · subst hk; simp
  · rw [if_neg hk, if_neg]
    intro e
    have := congrArg List.length e
    rw [List.length_take, List.length_nil] at this
    omega

theorem lens_take : ∀ (l : List Txt) (k : Nat), Lib.lens (l.take k) ≤ Lib.lens l
  | [], k => by simp
  | x :: l, 0 => by simp [Lib.lens]
  | x :: l, k + 1 => by
    have := lens_take l k
    rw [List.take_succ_cons, lens_cons, lens_cons]
    omega
set_option maxHeartbeats 1000000 in
set_option maxRecDepth 100000 in
theorem shownR_7 (y : Stp) (k : Nat) (l : List Txt) (v : Value) (w : World) (h : ShArgs w y k v l) (hc : y.kind = 7) :
    Calls Tryz.prog 54 #[y.val, v] w fun e w' => e = .returned (.string ⟨(shown y l).toArray⟩) ∧ Below w.heap.size w w' := by
  have HS := Lib.hid (show shown y l = [91] ++ Lib.join l [44, 32] ++ [93] by unfold shown joined; simp [hc])
  obtain ⟨a, n, c, rfl, hn, hcc, hj⟩ := h.hv
  subst hn
  have htx := h.htx
  have hl64 : l.length ≤ 64 := by
    have ht := h.ht
    have hl := h.hl
    unfold takes at ht
    rw [if_neg (by omega), if_neg (by omega), if_neg (by omega), if_neg (by omega), if_pos hc] at ht
    split at ht
    · rename_i hx
      have := Option.some.inj ht
      omega
    · cases ht
  have Hlen := Lib.hid h.hlen
  have HC := Lib.hid (fun W => show Calls Tryz.prog 106 #[.string ⟨y.text.toArray⟩, .int .u8 44] W _ from CutR_calls ⟨y.text.toArray⟩ 44 W (by rw [size_mk]; omega))
  have Hj := Lib.hid hj
  have b1 : ((y.kind : Int) == 1) = false := by rw [beq_eq_false_iff_ne]; omega
  have b2 : ((y.kind : Int) == 2) = false := by rw [beq_eq_false_iff_ne]; omega
  have b3 : ((y.kind : Int) == 3) = false := by rw [beq_eq_false_iff_ne]; omega
  have b4 : ((y.kind : Int) == 4) = false := by rw [beq_eq_false_iff_ne]; omega
  have b5 : ((y.kind : Int) == 5) = false := by rw [beq_eq_false_iff_ne]; omega
  have b6 : ((y.kind : Int) == 6) = false := by rw [beq_eq_false_iff_ne]; omega
  have b7 : ((y.kind : Int) == 7) = true := by rw [beq_iff_eq]; omega
  have b8 : ((y.kind : Int) == 8) = false := by rw [beq_eq_false_iff_ne]; omega
  have b9 : ((y.kind : Int) == 9) = false := by rw [beq_eq_false_iff_ne]; omega
  have b10 : ((y.kind : Int) == 10) = false := by rw [beq_eq_false_iff_ne]; omega
  have b11 : ((y.kind : Int) == 11) = false := by rw [beq_eq_false_iff_ne]; omega
  clear h hc hj
  unfold Stp.val
  go_enter Tryz.func54, Tryz.ntmps54
  go_wp2_with fail
  refine (HC.out _).mono ?_
  rintro e w2 ⟨v2, rfl, hst⟩
  obtain ⟨a2, c2, rfl⟩ := hst.form
  have hb2 := hst.row.bel
  have Hb2 := Lib.hid (rStep (rAlloc w _) hb2)
  obtain ⟨⟨k0, -, -⟩, -⟩ := threeR ((hb2.block w.heap.size (by simp)).trans (heap_alloc_new w (.cells #[.int .u8 y.kind, .string ⟨y.text.toArray⟩, .int .i64 y.num] 48)))
  clear hst hb2
  go_wp2_with fail
  go_loop [5, 60] (fun s5 s60 => ∃ (k : Nat) (t : Txt), s60 = .int .i64 k ∧ s5 = .string ⟨t.toArray⟩ ∧ k ≤ l.length ∧ Hid (Lib.join (l.take k) [44, 32] = t)) (fun _ s60 => l.length - (intOf s60).toNat)
  case atStart => exact ⟨0, [], rfl, rfl, Nat.zero_le _, Lib.hid rfl⟩
  case round =>
    obtain ⟨k, t, rfl, rfl, hk, ht⟩ := hrel
    have htl : t.length ≤ 70368744177664 + 2 * 64 := by
      rw [← ht.out]
      have h1 := join_len (l.take k) [44, 32]
      have h2 := lens_take l k
      have h3 := Hlen.out
      rw [List.length_take] at h1
      simp only [List.length_cons, List.length_nil] at h1
      omega
    by_cases hlt : k < l.length
    · obtain ⟨g, o, ha, q⟩ := Hj.out k hlt
      subst ha
      have q2 := (Hb2.out.cell (p := ⟨g, o + k, none⟩) (World.block_lt_of_cell? _ _ q)).trans q
      have hxl : l[k].length ≤ 70368744177664 := by
        have h1 := lens_get l k
        rw [List.getD_eq_getElem?_getD, List.getElem?_eq_getElem hlt, Option.getD_some] at h1
        exact Nat.le_trans h1 Hlen.out
      have Hjn := Lib.hid (join_take l k hlt [44, 32])
      rw [ht.out] at Hjn
      clear q
      generalize l[k] = x at q2 hxl Hjn
      by_cases hk0 : k = 0
      · have hneg : ¬ (0 : Int) < k := by omega
        have Ht0 := Lib.hid (show t = [] from ht.out.symm.trans (by rw [hk0]; rfl))
        have Hk0 := Lib.hid hk0
        have hneg2 : decide ((0 : Int) < k) = false := decide_eq_false hneg
        have s0 : t.length + x.length ≤ 9223372036854775807 := by omega
        have r0 : ¬ 9223372036854775807 < t.length + x.length := by omega
        clear hk0
        go_wp2_with fail
        go_round
        case rel => exact ⟨k + 1, x, by go_num, congrArg Value.string ((cat2 t x).trans (by rw [Ht0.out]; rfl)), by omega, Lib.hid (by rw [Hjn.out, if_pos Hk0.out])⟩
        case measure => simp [intOf]; omega
      · have hpos : (0 : Int) < k := by omega
        go_wp2_with fail
        go_round
        case rel => exact ⟨k + 1, t ++ [44, 32] ++ x, by go_num, congrArg Value.string (cat3L t [44, 32] x), by omega, Lib.hid (by rw [Hjn.out, if_neg hk0])⟩
        case measure => simp [intOf]; omega
    · have Ht := Lib.hid (show Lib.join l [44, 32] = t by rw [← ht.out, List.take_of_length_le (by omega)])
      go_wp2_with fail
      go_ret
      exact ⟨by rw [HS.out, Ht.out]; exact congrArg (fun x => Ending.returned (.string x)) (cat3L [91] t [93]), Hb2.out⟩

end Go.Proofs.YtcjmhmmjfgjcnaaGreatDoor.Rf
