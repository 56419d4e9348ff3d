/- Parts: PcE PbA PbB. -/
import Derived.Test.YtcjmhmmjfgjcnaaGreatDoorMh17
import Derived.Test.YtcjmhmmjfgjcnaaGreatDoorMh25
import Derived.Test.YtcjmhmmjfgjcnaaGreatDoorMh27
import Derived.Deep.RegionWith
import Derived.Deep.RegionHeld3
import Derived.RegionTactic
import Derived.Laws.StructEq

/- parse: shown, a step of two; all steps. -/
namespace Go.Proofs.YtcjmhmmjfgjcnaaGreatDoor.Pa
open Go.RowKit Go.Proofs.YtcjmhmmjfgjcnaaGreatDoor.Lx

structure OpR (w : World) (y : Stp) (g o : Nat) (x z : Txt) (W : World) : Prop where
  k0 : W.cell? ⟨w.heap.size, 0, none⟩ = some (.int .u8 y.kind)
  q0 : W.cell? ⟨g, o, none⟩ = some (.string ⟨x.toArray⟩)
  q1 : W.cell? ⟨g, o + 1, none⟩ = some (.string ⟨z.toArray⟩)
  bel : Below w.heap.size w W
theorem OpR.step {w W W' : World} {y : Stp} {g o : Nat} {x z : Txt} (h : OpR w y g o x z W) (hb : Below W.heap.size W W') : OpR w y g o x z W' :=
  ⟨(hb.cell (p := ⟨w.heap.size, 0, none⟩) (World.block_lt_of_cell? _ _ h.k0)).trans h.k0, (hb.cell (p := ⟨g, o, none⟩) (World.block_lt_of_cell? _ _ h.q0)).trans h.q0, (hb.cell (p := ⟨g, o + 1, none⟩) (World.block_lt_of_cell? _ _ h.q1)).trans h.q1, h.bel.trans (hb.mono h.bel.size)⟩
theorem OpR.ands {w W : World} {y : Stp} {g o : Nat} {x z : Txt} (h : OpR w y g o x z W) : W.cell? ⟨w.heap.size, 0, none⟩ = some (.int .u8 y.kind) ∧ W.cell? ⟨g, o, none⟩ = some (.string ⟨x.toArray⟩) ∧ W.cell? ⟨g, o + 1, none⟩ = some (.string ⟨z.toArray⟩) ∧ Below w.heap.size w W := ⟨h.k0, h.q0, h.q1, h.bel⟩
theorem ops_keep {w W : World} {y : Stp} {g o i B : Nat} {x z op : Txt} (h : OpR w y g o x z W) (hB : W.heap.size = B) (hi : i < operators.length) (ho : operators[i] = op) :
    Calls Tryz.prog 103 #[] W fun e W' => e = .returned (.slice (some ⟨B, 0, none⟩) 11 11) ∧ W'.cell? ⟨B, i, none⟩ = some (.string ⟨op.toArray⟩) ∧ OpR w y g o x z W' := by
  subst hB
  refine (operators_calls W).mono ?_
  rintro e W' ⟨rfl, rfl⟩
  refine ⟨rfl, ?_, h.step (alloc_below _ _)⟩
  rw [← ho]
  exact (TextsAt.new W operators 11 (strsC operators).toArray 9 (0, 0) rfl rfl).2 i hi
theorem cat7 (a b c d e f g : List UInt8) : (⟨a.toArray⟩ ++ ⟨b.toArray⟩ ++ ⟨c.toArray⟩ ++ ⟨d.toArray⟩ ++ ⟨e.toArray⟩ ++ ⟨f.toArray⟩ ++ ⟨g.toArray⟩ : ByteArray) = ⟨(a ++ b ++ c ++ d ++ e ++ f ++ g).toArray⟩ := by
  rw [cat2, cat2, cat2, cat2, cat2, cat2]

set_option maxHeartbeats 2000000 in
set_option maxRecDepth 100000 in
theorem shown_op (y : Stp) (k : Nat) (l : List Txt) (v : Value) (w : World) (h : ShArgs w y k v l) (hc : 12 ≤ y.kind) :
    Calls Tryz.prog 53 #[y.val, v] w fun e w' => e = .returned (.string ⟨(shown y l).toArray⟩) ∧ Below w.heap.size w w' := by
  have hk2 := takes2_of h.ht hc
  have hk3 := (kind_of_takes h.ht).2
  have HS := Lib.hid (show shown y l = [40] ++ l.getD 0 [] ++ [32] ++ operators.getD (y.kind - 12) [] ++ [32] ++ l.getD 1 [] ++ [41] by
    unfold shown
    rw [if_neg (by omega), if_neg (by omega), if_neg (by omega), if_neg (by omega), if_neg (by omega), if_neg (by omega), if_neg (by omega), if_neg (by omega), if_neg (by omega), if_neg (by omega)])
  obtain ⟨a, n, c, rfl, hn, hcc, hj⟩ := h.hv
  have hl := h.hl
  have hn2 : n = 2 := by omega
  have hl0 : 0 < l.length := by omega
  have hl1 : 1 < l.length := by omega
  obtain ⟨g, o, rfl, q0⟩ := hj 0 hl0
  obtain ⟨g', o', e', q1⟩ := hj 1 hl1
  simp only [Option.some.injEq, Addr.mk.injEq, and_true] at e'
  obtain ⟨rfl, rfl⟩ := e'
  have e0 : l.getD 0 [] = l[0] := by rw [List.getD_eq_getElem?_getD, List.getElem?_eq_getElem hl0]; rfl
  have e1 : l.getD 1 [] = l[1] := by rw [List.getD_eq_getElem?_getD, List.getElem?_eq_getElem hl1]; rfl
  have hs2 := lens_two l
  rw [e0, e1] at hs2
  rw [e0, e1] at HS
  have hsz := Nat.le_trans hs2 h.hlen
  generalize l[0] = x at *
  generalize l[1] = z at *
  obtain ⟨i, hi⟩ : ∃ i, y.kind = i + 12 := ⟨y.kind - 12, by omega⟩
  have hi11 : i < operators.length := by show i < 11; omega
  have eo : operators.getD (y.kind - 12) [] = operators[i] := by rw [List.getD_eq_getElem?_getD, show y.kind - 12 = i by omega, List.getElem?_eq_getElem hi11]; rfl
  have ho3 := op_len (y.kind - 12)
  rw [eo] at HS ho3
  have Hop := Lib.hid (fun (W : World) (hB : W.heap.size = w.heap.size + 1) (hW : OpR w y g o x z W) => ops_keep hW hB hi11 rfl)
  generalize operators[i] = op at *
  have hi' : i < 11 := hi11
  have hsub : IntKind.u8.wrap ((y.kind : Int) - 12) = (i : Int) := by
    rw [hi]
    simp [IntKind.wrap, IntKind.bits]
    omega
  have b1 : ((y.kind : Int) == 1) = false := by rw [beq_eq_false_iff_ne]; omega
  have b2 : ((y.kind : Int) == 2) = false := by rw [beq_eq_false_iff_ne]; omega
  have b3 : ((y.kind : Int) == 3) = false := by rw [beq_eq_false_iff_ne]; omega
  have b4 : ((y.kind : Int) == 4) = false := by rw [beq_eq_false_iff_ne]; omega
  have b5 : ((y.kind : Int) == 5) = false := by rw [beq_eq_false_iff_ne]; omega
  have b6 : ((y.kind : Int) == 6) = false := by rw [beq_eq_false_iff_ne]; omega
  have b7 : ((y.kind : Int) == 7) = false := by rw [beq_eq_false_iff_ne]; omega
  have b8 : ((y.kind : Int) == 8) = false := by rw [beq_eq_false_iff_ne]; omega
  have b9 : ((y.kind : Int) == 9) = false := by rw [beq_eq_false_iff_ne]; omega
  have b10 : ((y.kind : Int) == 10) = false := by rw [beq_eq_false_iff_ne]; omega
  have b11 : ((y.kind : Int) == 11) = false := by rw [beq_eq_false_iff_ne]; omega
  have s0 : 1 + x.length ≤ 9223372036854775807 := by omega
  have r0 : ¬ 9223372036854775807 < 1 + x.length := by omega
  have s1 : 1 + x.length + 1 ≤ 9223372036854775807 := by omega
  have r1 : ¬ 9223372036854775807 < 1 + x.length + 1 := by omega
  have s2 : 1 + x.length + 1 + op.length ≤ 9223372036854775807 := by omega
  have r2 : ¬ 9223372036854775807 < 1 + x.length + 1 + op.length := by omega
  have s3 : 1 + x.length + 1 + op.length + 1 ≤ 9223372036854775807 := by omega
  have r3 : ¬ 9223372036854775807 < 1 + x.length + 1 + op.length + 1 := by omega
  have s4 : 1 + x.length + 1 + op.length + 1 + z.length ≤ 9223372036854775807 := by omega
  have r4 : ¬ 9223372036854775807 < 1 + x.length + 1 + op.length + 1 + z.length := by omega
  have s5 : 1 + x.length + 1 + op.length + 1 + z.length + 1 ≤ 9223372036854775807 := by omega
  have r5 : ¬ 9223372036854775807 < 1 + x.length + 1 + op.length + 1 + z.length + 1 := by omega
  have i0 : (0 : Int) ≤ (i : Int) := by omega
  have i1 : (i : Int) < 11 := by omega
  have i2 : ¬ (11 : Int) ≤ (i : Int) := by omega
  have hR0 : OpR w y g o x z (w.alloc (.cells #[.int .u8 y.kind, .string ⟨y.text.toArray⟩, .int .i64 y.num] 48)) :=
    ⟨by simp, ((alloc_below w _).cell (p := ⟨g, _, none⟩) (World.block_lt_of_cell? _ _ q0)).trans q0, ((alloc_below w _).cell (p := ⟨g, _, none⟩) (World.block_lt_of_cell? _ _ q1)).trans q1, alloc_below _ _⟩
  have HR0 := Lib.hid hR0
  clear h hc hk2 hk3 hn hcc hj hl hl0 hl1 e0 e1 hs2 hi eo hi11 q0 q1 hR0
  subst hn2
  unfold Stp.val
  go_enter Tryz.func53, Tryz.ntmps53
  go_wp2_with fail
  have hS0 := (HR0.out.step ((Below.refl _ _).drew)).ands
  refine wp_region_held_drew (S := fun w' => w'.cell? ⟨w.heap.size, 0, none⟩ = some (.int .u8 y.kind) ∧ w'.cell? ⟨g, o, none⟩ = some (.string ⟨x.toArray⟩) ∧ w'.cell? ⟨g, o + 1, none⟩ = some (.string ⟨z.toArray⟩) ∧ Below w.heap.size w w') (by kernel_rfl) hS0 (fun hHeld => ?_)
  refine wpAnyH_take (i := 0) (v := ?_) rfl (by kernel_rfl) (by kernel_rfl) (by kernel_rfl) (fun _ _ _ h => h) (Or.inl ⟨by rfl, ?_⟩) (by assumption) ?_
  rotate_left
  · (intro w' hSw; (try dsimp only at hSw); go_simp; try with_reducible rfl)
  try simp only [Act.put, List.getElem_toArray, List.getElem_cons_zero, List.setIfInBounds_toArray, List.set_cons_zero, List.set_cons_succ]
  refine wpAnyH_take (i := 1) (v := ?_) rfl (by kernel_rfl) (by kernel_rfl) (by kernel_rfl) (fun _ _ _ h => h) (Or.inl ⟨by rfl, ?_⟩) (by assumption) ?_
  rotate_left
  · (intro w' hSw; (try dsimp only at hSw); go_simp; try with_reducible rfl)
  try simp only [Act.put, List.getElem_toArray, List.getElem_cons_zero, List.getElem_cons_succ, List.setIfInBounds_toArray, List.set_cons_zero, List.set_cons_succ]
  refine wpAnyH_take (i := 2) (v := ?_) rfl (by kernel_rfl) (by kernel_rfl) (by kernel_rfl) (fun _ _ _ h => h) (Or.inl ⟨by rfl, ?_⟩) (by assumption) ?_
  rotate_left
  · (intro w' hSw; (try dsimp only at hSw); go_simp; try with_reducible rfl)
  try simp only [Act.put, List.getElem_toArray, List.getElem_cons_zero, List.getElem_cons_succ, List.setIfInBounds_toArray, List.set_cons_zero, List.set_cons_succ]
  refine wpAnyH_take (i := 3) (v := ?_) rfl (by kernel_rfl) (by kernel_rfl) (by kernel_rfl) (fun _ _ _ h => h) (Or.inl ⟨by rfl, ?_⟩) (by assumption) ?_
  rotate_left
  · (intro w' hSw; (try dsimp only at hSw); go_simp; try with_reducible rfl)
  try simp only [Act.put, List.getElem_toArray, List.getElem_cons_zero, List.getElem_cons_succ, List.setIfInBounds_toArray, List.set_cons_zero, List.set_cons_succ]
  refine wpAnyH_take (i := 4) (v := ?_) rfl (by kernel_rfl) (by kernel_rfl) (by kernel_rfl) (fun _ _ _ h => h) (Or.inl ⟨by rfl, ?_⟩) (by assumption) ?_
  rotate_left
  · (intro w' hSw; (try dsimp only at hSw); go_simp; try with_reducible rfl)
  try simp only [Act.put, List.getElem_toArray, List.getElem_cons_zero, List.getElem_cons_succ, List.setIfInBounds_toArray, List.set_cons_zero, List.set_cons_succ]
  refine wpAnyH_take (i := 6) (v := ?_) rfl (by kernel_rfl) (by kernel_rfl) (by kernel_rfl) (fun _ _ _ h => h) (Or.inl ⟨by rfl, ?_⟩) (by assumption) ?_
  rotate_left
  · (intro w' hSw; (try dsimp only at hSw); go_simp; try with_reducible rfl)
  try simp only [Act.put, List.getElem_toArray, List.getElem_cons_zero, List.getElem_cons_succ, List.setIfInBounds_toArray, List.set_cons_zero, List.set_cons_succ]
  refine wpAnyH_take (i := 7) (v := ?_) rfl (by kernel_rfl) (by kernel_rfl) (by kernel_rfl) (fun _ _ _ h => h) (Or.inl ⟨by rfl, ?_⟩) (by assumption) ?_
  rotate_left
  · (intro w' hSw; (try dsimp only at hSw); go_simp; try with_reducible rfl)
  try simp only [Act.put, List.getElem_toArray, List.getElem_cons_zero, List.getElem_cons_succ, List.setIfInBounds_toArray, List.set_cons_zero, List.set_cons_succ]
  refine wpAnyH_take (i := 8) (v := ?_) rfl (by kernel_rfl) (by kernel_rfl) (by kernel_rfl) (fun _ _ _ h => h) (Or.inl ⟨by rfl, ?_⟩) (by assumption) ?_
  rotate_left
  · (intro w' hSw; (try dsimp only at hSw); go_simp; try with_reducible rfl)
  try simp only [Act.put, List.getElem_toArray, List.getElem_cons_zero, List.getElem_cons_succ, List.setIfInBounds_toArray, List.set_cons_zero, List.set_cons_succ]
  refine wpAnyH_take (i := 13) (v := ?_) rfl (by kernel_rfl) (by kernel_rfl) (by kernel_rfl) (fun _ _ _ h => h) (Or.inl ⟨by rfl, ?_⟩) (by assumption) ?_
  rotate_left
  · (intro w' hSw; (try dsimp only at hSw); go_simp; try with_reducible rfl)
  try simp only [Act.put, List.getElem_toArray, List.getElem_cons_zero, List.getElem_cons_succ, List.setIfInBounds_toArray, List.set_cons_zero, List.set_cons_succ]
  refine wpAnyH_take (i := 14) (v := ?_) rfl (by kernel_rfl) (by kernel_rfl) (by kernel_rfl) (fun _ _ _ h => h) (Or.inl ⟨by rfl, ?_⟩) (by assumption) ?_
  rotate_left
  · (intro w' hSw; (try dsimp only at hSw); go_simp; try with_reducible rfl)
  try simp only [Act.put, List.getElem_toArray, List.getElem_cons_zero, List.getElem_cons_succ, List.setIfInBounds_toArray, List.set_cons_zero, List.set_cons_succ]
  refine wpAnyH_take (i := 15) (v := ?_) rfl (by kernel_rfl) (by kernel_rfl) (by kernel_rfl) (fun _ _ _ h => h) (Or.inl ⟨by rfl, ?_⟩) (by assumption) ?_
  rotate_left
  · (intro w' hSw; (try dsimp only at hSw); go_simp; try with_reducible rfl)
  try simp only [Act.put, List.getElem_toArray, List.getElem_cons_zero, List.getElem_cons_succ, List.setIfInBounds_toArray, List.set_cons_zero, List.set_cons_succ]
  refine wpAnyH_ready (rs := [5]) (by kernel_rfl) (by simp) ?_
  refine AllReadyH.cons (o := _) rfl (fun K hK => ?_) AllReadyH.nil
  go_simp
  go_at_call 103
  refine (Hop.out _ (by simp) ⟨hHeld.1, hHeld.2.1, hHeld.2.2.1, hHeld.2.2.2⟩).mono ?_
  rintro e w9 ⟨rfl, hq9, hR9⟩
  go_wp2_with fail
  refine hK.out _ _ hR9.ands (fun hHeld2 => ?_)
  clear hK K hHeld
  try simp only [Act.put, List.getElem_toArray, List.getElem_cons_zero, List.getElem_cons_succ, List.setIfInBounds_toArray, List.set_cons_zero, List.set_cons_succ]
  refine wpAnyH_take (i := 9) (v := ?_) rfl (by kernel_rfl) (by kernel_rfl) (by kernel_rfl) (fun _ _ _ h => h) (Or.inl ⟨by rfl, ?_⟩) (by assumption) ?_
  rotate_left
  · (intro w' hSw; (try dsimp only at hSw); go_simp; try with_reducible rfl)
  try simp only [Act.put, List.getElem_toArray, List.getElem_cons_zero, List.getElem_cons_succ, List.setIfInBounds_toArray, List.set_cons_zero, List.set_cons_succ]
  refine wpAnyH_ready (rs := [10]) (by kernel_rfl) (by simp) ?_
  refine AllReadyH.cons (o := _) rfl (fun K hK => ?_) AllReadyH.nil
  go_simp
  refine hK.out _ _ hHeld2 (fun hHeld3 => ?_)
  clear hK K
  try simp only [Act.put, List.getElem_toArray, List.getElem_cons_zero, List.getElem_cons_succ, List.setIfInBounds_toArray, List.set_cons_zero, List.set_cons_succ]
  refine wpAnyH_take (i := 11) (v := ?_) rfl (by kernel_rfl) (by kernel_rfl) (by kernel_rfl) (fun _ _ _ h => h) (Or.inl ⟨by rfl, ?_⟩) (by assumption) ?_
  rotate_left
  · (intro w' hSw; (try dsimp only at hSw); go_simp; try with_reducible rfl)
  try simp only [Act.put, List.getElem_toArray, List.getElem_cons_zero, List.getElem_cons_succ, List.setIfInBounds_toArray, List.set_cons_zero, List.set_cons_succ]
  refine wpAnyH_take (i := 12) (v := ?_) rfl (by kernel_rfl) (by kernel_rfl) (by kernel_rfl) (fun _ _ _ h => h) (Or.inl ⟨by rfl, ?_⟩) (by assumption) ?_
  rotate_left
  · (intro w' hSw; (try dsimp only at hSw); go_simp; try with_reducible rfl)
  try simp only [Act.put, List.getElem_toArray, List.getElem_cons_zero, List.getElem_cons_succ, List.setIfInBounds_toArray, List.set_cons_zero, List.set_cons_succ]
  refine wpAnyH_take (i := 16) (v := ?_) rfl (by kernel_rfl) (by kernel_rfl) (by kernel_rfl) (fun _ _ _ h => h) (Or.inl ⟨by rfl, ?_⟩) (by assumption) ?_
  rotate_left
  · (intro w' hSw; (try dsimp only at hSw); go_simp; try with_reducible rfl)
  try simp only [Act.put, List.getElem_toArray, List.getElem_cons_zero, List.getElem_cons_succ, List.setIfInBounds_toArray, List.set_cons_zero, List.set_cons_succ]
  refine wpAnyH_take (i := 17) (v := ?_) rfl (by kernel_rfl) (by kernel_rfl) (by kernel_rfl) (fun _ _ _ h => h) (Or.inl ⟨by rfl, ?_⟩) (by assumption) ?_
  rotate_left
  · (intro w' hSw; (try dsimp only at hSw); go_simp; try with_reducible rfl)
  try simp only [Act.put, List.getElem_toArray, List.getElem_cons_zero, List.getElem_cons_succ, List.setIfInBounds_toArray, List.set_cons_zero, List.set_cons_succ]
  refine wpAnyH_take (i := 18) (v := ?_) rfl (by kernel_rfl) (by kernel_rfl) (by kernel_rfl) (fun _ _ _ h => h) (Or.inl ⟨by rfl, ?_⟩) (by assumption) ?_
  rotate_left
  · (intro w' hSw; (try dsimp only at hSw); go_simp; try with_reducible rfl)
  try simp only [Act.put, List.getElem_toArray, List.getElem_cons_zero, List.getElem_cons_succ, List.setIfInBounds_toArray, List.set_cons_zero, List.set_cons_succ]
  refine wpAnyH_done (by kernel_rfl) ?_ _
  have hb9 := hR9.bel
  go_wp2_with fail
  go_ret
  exact ⟨by rw [HS.out]; exact congrArg (fun x => Ending.returned (.string x)) (cat7 [40] _ [32] _ [32] _ [41]), by assumption⟩

theorem shown_calls (y : Stp) (k : Nat) (l : List Txt) (v : Value) (w : World) (h : ShArgs w y k v l) :
    Calls Tryz.prog 53 #[y.val, v] w fun e w' => e = .returned (.string ⟨(shown y l).toArray⟩) ∧ Below w.heap.size w w' := by
  have hk := kind_of_takes h.ht
  by_cases h12 : 12 ≤ y.kind
  · exact shown_op y k l v w h h12
  by_cases h1 : y.kind = 1
  · exact shown_1 y k l v w h h1
  by_cases h2 : y.kind = 2
  · exact shown_2 y k l v w h h2
  by_cases h3 : y.kind = 3
  · exact shown_3 y k l v w h h3
  by_cases h4 : y.kind = 4
  · exact shown_4 y k l v w h h4
  by_cases h5 : y.kind = 5
  · exact shown_5 y k l v w h h5
  by_cases h6 : y.kind = 6
  · exact shown_6 y k l v w h h6
  by_cases h7 : y.kind = 7
  · exact shown_7 y k l v w h h7
  by_cases h8 : y.kind = 8
  · exact shown_8 y k l v w h h8
  by_cases h9 : y.kind = 9
  · exact shown_9 y k l v w h h9
  by_cases h10 : y.kind = 10
  · exact shown_10 y k l v w h h10
  exact shown_11 y k l v w h (by omega)

end Go.Proofs.YtcjmhmmjfgjcnaaGreatDoor.Pa

/- parse: paths, a struct's names. -/
namespace Go.Proofs.YtcjmhmmjfgjcnaaGreatDoor.Pa
open Go.RowKit Go.Proofs.YtcjmhmmjfgjcnaaGreatDoor.Lx

theorem pathParts_drop (l : List Txt) (k : Nat) (h : k < l.length) : pathParts k (l.drop k) = ((nameB l[k] || (k != 0 && numberB l[k])) && pathParts (k + 1) (l.drop (k + 1))) := by
  rw [List.drop_eq_getElem_cons h]; rfl

set_option maxRecDepth 100000 in
theorem pathS_calls (s : Txt) (w : World) (hs : s.length ≤ 1073741823) (he : Env w) :
    Calls Tryz.prog 56 #[.string ⟨s.toArray⟩] w fun e w' => e = .returned (.bool (pathB s)) ∧ Below w.heap.size w w' := by
  have Hs := Lib.hid (split_calls s 46 w (by omega) he)
  have hcount := split_count s 46
  have Heach := Lib.hid (split_each s 46)
  have He := Lib.hid he
  have hsz : (⟨s.toArray⟩ : ByteArray).size = s.length := size_mk s
  unfold pathB
  generalize Lib.split s [46] = l at *
  have HT := Lib.hid (TextsAt.new w l l.length _ 9 (0, 0) rfl rfl)
  generalize hn : l.length = n at *
  have Hn := Lib.hid hn
  have Hsz := Lib.hid hsz
  have hn2 : n ≤ 1073741824 := by omega
  have Hs2 := Lib.hid hs
  generalize hR : pathParts 0 l = R at *
  have HR := Lib.hid (show pathParts 0 (l.drop 0) = R by rw [List.drop_zero]; exact hR)
  clear he hn hR hs hsz hcount
  go_enter Tryz.func56, Tryz.ntmps56
  go_wp2_with fail
  refine Hs.out.mono ?_
  rintro e w1 ⟨rfl, rfl⟩
  go_wp2_with fail
  go_loopw [8] (fun i wr => ∃ k : Nat, k ≤ n ∧ i = .int .i64 k ∧ Hid (Below (w.heap.size + 1) (w.alloc (.cells (strsC l).toArray 9)) wr ∧ pathParts k (l.drop k) = R)) (fun i _ => n - (intOf i).toNat)
  case atStart => exact ⟨0, Nat.zero_le _, rfl, Below.refl _ _, HR.out⟩
  case round =>
    obtain ⟨k, hk, rfl, hb, hR⟩ := hrel
    have Hb := Lib.hid hb
    have Hb0 := Lib.hid (show Below w.heap.size w wr from (alloc_below w _).trans (hb.mono (by omega)))
    by_cases hlt : k < n
    · have hkl : k < l.length := by rw [Hn.out]; exact hlt
      have hcell : wr.cell? ⟨w.heap.size, k, none⟩ = some (.string ⟨l[k].toArray⟩) := (hb.cell (p := ⟨w.heap.size, k, none⟩) (by simp)).trans (HT.out.2 k hkl)
      rw [pathParts_drop l k hkl] at hR
      have hlk := Heach.out _ (List.getElem_mem hkl)
      have hlk2 : l[k].length ≤ 1073741824 := by have := Hs2.out; omega
      have Hnm := Lib.hid (nameS_calls l[k] wr hlk2 (He.out.below Hb0.out))
      have Hnu := Lib.hid (fun (w2 : World) (hb2 : Below wr.heap.size wr w2) => number_calls' l[k] w2 hlk2 ((He.out.below Hb0.out).below hb2))
      clear hb hlk hlk2
      generalize l[k] = t at *
      cases hnb : nameB t with
      | true =>
        rw [hnb] at Hnm
        have hR' : pathParts (k + 1) (l.drop (k + 1)) = R := by rw [hnb] at hR; simpa using hR
        have HR' := Lib.hid hR'
        clear hR hR' hnb
        go_wp2_with fail
        refine Hnm.out.mono ?_
        rintro e w2 ⟨rfl, hb2⟩
        have Hb2 := Lib.hid (Hb.out.trans (hb2.mono (by have := Hb.out.size; simpa using this)))
        clear hb2
        go_wp2_with fail
        go_roundw
        case rel => exact ⟨k + 1, by omega, by go_num, Hb2.out, HR'.out⟩
        case measure => simp [intOf]; omega
      | false =>
        rw [hnb] at Hnm
        rcases Nat.eq_zero_or_pos k with h0 | h0
        · subst h0
          have hR' : R = false := by rw [hnb] at hR; simpa using hR.symm
          have HR' := Lib.hid hR'
          clear hR hR' hnb
          go_wp2_with fail
          refine Hnm.out.mono ?_
          rintro e w2 ⟨rfl, hb2⟩
          have Hb2 := Lib.hid (Hb0.out.trans (hb2.mono Hb0.out.size))
          clear hb2
          go_wp2_with fail
          go_ret
          exact ⟨ret_bool (by rw [HR'.out]; rfl), Hb2.out⟩
        · have hk0 : ((k : Int) == 0) = false := by rw [beq_eq_false_iff_ne]; omega
          cases hub : numberB t with
          | true =>
            have hR' : pathParts (k + 1) (l.drop (k + 1)) = R := by rw [hnb, hub, show (k != 0) = true by rw [bne_iff_ne]; omega] at hR; simpa using hR
            have HR' := Lib.hid hR'
            rw [hub] at Hnu
            clear hR hR' hnb hub
            go_wp2_with fail
            refine Hnm.out.mono ?_
            rintro e w2 ⟨rfl, hb2⟩
            have Hb1 := Lib.hid hb2
            clear hb2
            go_wp2_with fail
            refine (Hnu.out _ Hb1.out).mono ?_
            rintro e w3 ⟨rfl, hb3⟩
            have Hb2 := Lib.hid (Hb.out.trans ((Hb1.out.trans (hb3.mono Hb1.out.size)).mono (by have := Hb.out.size; simpa using this)))
            clear hb3
            go_wp2_with fail
            go_roundw
            case rel => exact ⟨k + 1, by omega, by go_num, Hb2.out, HR'.out⟩
            case measure => simp [intOf]; omega
          | false =>
            have hR' : R = false := by rw [hnb, hub] at hR; simpa using hR.symm
            have HR' := Lib.hid hR'
            rw [hub] at Hnu
            clear hR hR' hnb hub
            go_wp2_with fail
            refine Hnm.out.mono ?_
            rintro e w2 ⟨rfl, hb2⟩
            have Hb1 := Lib.hid hb2
            clear hb2
            go_wp2_with fail
            refine (Hnu.out _ Hb1.out).mono ?_
            rintro e w3 ⟨rfl, hb3⟩
            have Hb2 := Lib.hid (Hb0.out.trans ((Hb1.out.trans (hb3.mono Hb1.out.size)).mono Hb0.out.size))
            clear hb3
            go_wp2_with fail
            go_ret
            exact ⟨ret_bool (by rw [HR'.out]; rfl), Hb2.out⟩
    · have HR' := Lib.hid (show R = true by
        rw [List.drop_of_length_le (by rw [Hn.out]; omega)] at hR
        exact hR.symm)
      clear hR hb
      go_wp2_with fail
      go_ret
      exact ⟨ret_bool (by rw [HR'.out]; simp; omega), Hb0.out⟩

/-! ### a struct's names -/
theorem bad_calls (s : Txt) (w : World) (hs : s.length ≤ 1073741824) (he : Env w) :
    Calls Tryz.prog 113 #[.string ⟨s.toArray⟩] w fun e w' => e = .returned (.bool (!nameB s)) ∧ Below w.heap.size w w' := by
  have Hs := Lib.hid (nameS_calls s w hs he)
  clear he hs
  go_enter Tryz.func113, Tryz.ntmps113
  go_wp2_with fail
  refine Hs.out.mono ?_
  rintro e w1 ⟨rfl, hb⟩
  have Hb := Lib.hid hb
  clear hb
  go_wp2_with fail
  go_ret
  exact ⟨ret_bool (by simp), Hb.out⟩

def badI (l : List Txt) : Int := if l.all nameB then -1 else (l.findIdx fun t => !nameB t : Nat)
theorem badI_ge (l : List Txt) : decide (0 ≤ badI l) = !l.all nameB := by
  unfold badI
  split
  · rename_i h; rw [h]; rfl
  · rename_i h; simp at h ⊢; simpa using h
theorem badI_none {l : List Txt} (h : ∀ j (hj : j < l.length), nameB l[j] = true) : badI l = -1 := by
  unfold badI
  rw [if_pos]
  rw [List.all_eq_true]
  intro t ht
  obtain ⟨j, hj, e⟩ := List.getElem_of_mem ht
  rw [← e]; exact h j hj
theorem badI_at {l : List Txt} {k : Nat} (hk : k < l.length) (e : nameB l[k] = false) (h : ∀ j (hj : j < l.length), j < k → nameB l[j] = true) : badI l = k := by
  unfold badI
  rw [if_neg]
  · congr 1
    rw [List.findIdx_eq hk]
    exact ⟨by rw [e]; rfl, fun j hj => by rw [h j (by omega) hj]; rfl⟩
  · intro ha
    rw [List.all_eq_true] at ha
    rw [ha _ (List.getElem_mem hk)] at e
    cases e

set_option maxRecDepth 100000 in
theorem indexBad_calls (w : World) (v : Value) (l : List Txt) (h : StrsAt w v l) (hl : l.length ≤ 1073741824) (hs : ∀ t ∈ l, t.length ≤ 1073741824) (he : Env w) :
    Calls Tryz.prog 144 #[v, .func (.func 113) #[] #[]] w fun e w' => e = .returned (.int .i64 (badI l)) ∧ Below w.heap.size w w' := by
  obtain ⟨a, n, c, rfl, hn, hc, hj⟩ := h
  have Hn := Lib.hid hn
  have Hj := Lib.hid hj
  have Hs := Lib.hid hs
  have He := Lib.hid he
  have hn2 : n ≤ 1073741824 := by omega
  clear hn hj hs he
  go_enter Tryz.func144, Tryz.ntmps144
  go_wp2_with fail
  go_loopw [8] (fun i wr => ∃ k : Nat, k ≤ n ∧ i = .int .i64 k ∧ Hid (Below w.heap.size w wr ∧ ∀ j (hj : j < l.length), j < k → nameB l[j] = true)) (fun i _ => n - (intOf i).toNat)
  case atStart => exact ⟨0, Nat.zero_le _, rfl, Below.refl _ _, fun j _ hj => absurd hj (Nat.not_lt_zero _)⟩
  case round =>
    obtain ⟨k, hk, rfl, hb, hno⟩ := hrel
    have Hb := Lib.hid hb
    have Hno := Lib.hid hno
    by_cases hlt : k < n
    · have hkl : k < l.length := by rw [Hn.out]; exact hlt
      obtain ⟨g, rfl, hcell0⟩ := Hj.out k hkl
      have hcell := (hb.cell (p := ⟨g, k, none⟩) (World.block_lt_of_cell? _ _ hcell0)).trans hcell0
      have hc := bad_calls l[k] wr (Hs.out _ (List.getElem_mem hkl)) (He.out.below hb)
      cases e : nameB l[k] with
      | false =>
        have Hr := Lib.hid (badI_at hkl e hno)
        rw [e] at hc
        have Hc := Lib.hid hc
        generalize l[k] = t at *
        clear hc e hb hno hcell0
        go_wp2_with fail
        refine Hc.out.mono ?_
        rintro e w2 ⟨rfl, hb2⟩
        have Hb2 := Lib.hid (Hb.out.trans (hb2.mono Hb.out.size))
        clear hb2
        go_wp2_with fail
        go_ret
        exact ⟨ret_intI Hr.out.symm, Hb2.out⟩
      | true =>
        have Hr := Lib.hid (show ∀ j (hj : j < l.length), j < k + 1 → nameB l[j] = true from fun j h hj => by
          rcases Nat.lt_or_ge j k with h' | h'
          · exact hno j h h'
          · obtain rfl : j = k := by omega
            exact e)
        rw [e] at hc
        have Hc := Lib.hid hc
        generalize l[k] = t at *
        clear hc e hb hno hcell0
        go_wp2_with fail
        refine Hc.out.mono ?_
        rintro e w2 ⟨rfl, hb2⟩
        have Hb2 := Lib.hid (Hb.out.trans (hb2.mono Hb.out.size))
        clear hb2
        go_wp2_with fail
        go_roundw
        case rel => exact ⟨k + 1, by omega, by go_num, Hb2.out, Hr.out⟩
        case measure => simp [intOf]; omega
    · have Hr := Lib.hid (badI_none (l := l) fun j h => hno j h (by have := Hn.out; omega))
      clear hb hno
      go_wp2_with fail
      go_ret
      exact ⟨ret_intI Hr.out.symm, Hb.out⟩
theorem containsBad_calls (w : World) (v : Value) (l : List Txt) (h : StrsAt w v l) (hl : l.length ≤ 1073741824) (hs : ∀ t ∈ l, t.length ≤ 1073741824) (he : Env w) :
    Calls Tryz.prog 112 #[v, .func (.func 113) #[] #[]] w fun e w' => e = .returned (.bool (!l.all nameB)) ∧ Below w.heap.size w w' := by
  have Hi := Lib.hid (indexBad_calls w v l h hl hs he)
  have hb : -1 ≤ badI l ∧ badI l ≤ 1073741824 := by
    unfold badI
    split
    · omega
    · have := List.findIdx_le_length (p := fun t => !nameB t) (xs := l); omega
  obtain ⟨a, n, c, rfl, -⟩ := h
  have Hg := Lib.hid (badI_ge l)
  clear he hs
  go_enter Tryz.func112, Tryz.ntmps112
  go_wp2_with fail
  refine Hi.out.mono ?_
  rintro e w2 ⟨rfl, hb2⟩
  have Hb2 := Lib.hid hb2
  clear hb2
  go_wp2_with fail
  go_ret
  exact ⟨ret_bool Hg.out, Hb2.out⟩

end Go.Proofs.YtcjmhmmjfgjcnaaGreatDoor.Pa

/- parse: names of a struct, Takes. -/
namespace Go.Proofs.YtcjmhmmjfgjcnaaGreatDoor.Pa
open Go.RowKit Go.Proofs.YtcjmhmmjfgjcnaaGreatDoor.Lx

theorem empty_beq (s : Txt) : ((⟨s.toArray⟩ : ByteArray).toList == (⟨#[]⟩ : ByteArray).toList) = decide (s = []) := bytes_beq s []
set_option maxRecDepth 100000 in
theorem namesS_calls (s : Txt) (n : Int) (w : World) (hs : s.length ≤ 1048575) (he : Env w) :
    Calls Tryz.prog 57 #[.string ⟨s.toArray⟩, .int .i64 n] w fun e w' => e = .returned (.bool (namesB s n)) ∧ Below w.heap.size w w' := by
  have Hq := Lib.hid (empty_beq s)
  by_cases h0 : n = 0
  · subst h0
    have Hn := Lib.hid (show namesB s 0 = decide (s = []) by unfold namesB; rw [if_pos rfl])
    clear he hs
    go_enter Tryz.func57, Tryz.ntmps57
    go_wp2_with fail
    go_ret
    exact ⟨ret_bool (by rw [Hn.out, ← Hq.out]; simp), Below.refl _ _⟩
  · have hb0 : (n == 0) = false := by rw [beq_eq_false_iff_ne]; exact h0
    have Hs := Lib.hid (split_calls s 44 w (by omega) he)
    have hcount := split_count s 44
    have Heach := Lib.hid (split_each s 44)
    have He := Lib.hid he
    have Hn := Lib.hid (show namesB s n = (decide (((Lib.split s [44]).length : Int) = n) && (apartB (Lib.split s [44]) && (Lib.split s [44]).all nameB)) by unfold namesB; rw [if_neg h0])
    generalize namesB s n = R at *
    generalize Lib.split s [44] = l at *
    have HT := Lib.hid (TextsAt.new w l l.length _ 9 (0, 0) rfl rfl).strs
    have Hbel := Lib.hid (alloc_below w (.cells (strsC l).toArray 9))
    generalize hw1 : w.alloc (.cells (strsC l).toArray 9) = w1 at *
    have Hcount := Lib.hid hcount
    have Hs2 := Lib.hid hs
    generalize hm : l.length = m at *
    have Hm := Lib.hid hm
    clear he h0 hs hcount hw1 hm
    by_cases hl : (m : Int) = n
    · have hb1 : ((m : Int) == n) = true := by rw [beq_iff_eq]; exact hl
      have Ha := Lib.hid (apart_calls w1 _ l HT.out (by rw [Hm.out]; have := Hcount.out; have := Hs2.out; omega) (fun t ht => by have := Heach.out t ht; have := Hs2.out; omega))
      cases hap : apartB l with
      | false =>
        have HR := Lib.hid (show R = false by rw [Hn.out, hap]; simp)
        have e1 : decide l.Nodup = false := hap
        rw [e1] at Ha
        clear hl hap e1
        go_enter Tryz.func57, Tryz.ntmps57
        go_wp2_with fail
        refine Hs.out.mono ?_
        rintro e w2 ⟨rfl, rfl⟩
        go_wp2_with fail
        refine Ha.out.mono ?_
        rintro e w3 ⟨rfl, hb3⟩
        have Hb3 := Lib.hid (Hbel.out.trans (hb3.mono Hbel.out.size))
        clear hb3
        go_wp2_with fail
        go_ret
        exact ⟨ret_bool HR.out.symm, Hb3.out⟩
      | true =>
        have HR := Lib.hid (show R = l.all nameB by rw [Hn.out, hap]; simp [hl])
        have e1 : decide l.Nodup = true := hap
        rw [e1] at Ha
        have Hc := Lib.hid (fun (w2 : World) (hb : Below w1.heap.size w1 w2) => containsBad_calls w2 _ l (HT.out.below hb) (by rw [Hm.out]; have := Hcount.out; have := Hs2.out; omega) (fun t ht => by have := Heach.out t ht; have := Hs2.out; omega) ((He.out.below Hbel.out).below hb))
        clear hl hap e1
        go_enter Tryz.func57, Tryz.ntmps57
        go_wp2_with fail
        refine Hs.out.mono ?_
        rintro e w2 ⟨rfl, rfl⟩
        go_wp2_with fail
        refine Ha.out.mono ?_
        rintro e w3 ⟨rfl, hb3⟩
        have Hb3 := Lib.hid hb3
        clear hb3
        go_wp2_with fail
        refine (Hc.out _ Hb3.out).mono ?_
        rintro e w4 ⟨rfl, hb4⟩
        have Hb4 := Lib.hid (Hbel.out.trans ((Hb3.out.trans (hb4.mono Hb3.out.size)).mono Hbel.out.size))
        clear hb4
        go_wp2_with fail
        go_ret
        exact ⟨ret_bool (by rw [HR.out]), Hb4.out⟩
    · have hb1 : ((m : Int) == n) = false := by rw [beq_eq_false_iff_ne]; exact hl
      have HR := Lib.hid (show R = false by rw [Hn.out]; simp [hl])
      clear hl
      go_enter Tryz.func57, Tryz.ntmps57
      go_wp2_with fail
      refine Hs.out.mono ?_
      rintro e w2 ⟨rfl, rfl⟩
      go_wp2_with fail
      go_ret
      exact ⟨ret_bool HR.out.symm, Hbel.out⟩

/-! ### two steps compared -/
def stpB (x0 y0 : Int) (x1 y1 : ByteArray) (x2 y2 : Int) : Bool := (x0 == y0) && ((x1.toList == y1.toList) && (x2 == y2))
theorem stp_equal (d : Nat) (w : World) (x0 y0 : Int) (x1 y1 : ByteArray) (x2 y2 : Int) :
    (Op.equalIn (d + 2) 48 (.agg #[.int .u8 x0, .string x1, .int .i64 x2]) (.agg #[.int .u8 y0, .string y1, .int .i64 y2])).run Tryz.prog w = .ok (stpB x0 y0 x1 y1 x2 y2) w := by
  refine agg_of Tryz.underlying48 (by kernel_rfl) ?_
  refine fields_cons (by rfl) (by go_simp; rfl) (by go_simp; rfl) (by go_simp) ?_
  refine fields_cons (by rfl) (by go_simp; rfl) (by go_simp; rfl) (by go_simp) ?_
  exact fields_last (by rfl) (by go_simp; rfl) (by go_simp; rfl) (by go_simp)
theorem stpB_eq (x y : Stp) : stpB x.kind y.kind ⟨x.text.toArray⟩ ⟨y.text.toArray⟩ x.num y.num = decide (x = y) := by
  rw [Bool.eq_iff_iff, decide_eq_true_iff]
  cases x; cases y
  unfold stpB
  simp only [Bool.and_eq_true, beq_iff_eq, ByteArray.toList_eq, Stp.mk.injEq, Int.natCast_inj]

def takesV (o : Option Nat) : Value := .tuple #[.int .i64 (o.getD 0 : Nat), .bool o.isSome]

end Go.Proofs.YtcjmhmmjfgjcnaaGreatDoor.Pa
