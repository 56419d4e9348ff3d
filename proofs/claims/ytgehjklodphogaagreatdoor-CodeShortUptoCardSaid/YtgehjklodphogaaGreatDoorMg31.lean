/- Parts: PcE PbF. -/
import Derived.Test.YtgehjklodphogaaGreatDoorMg30
import Derived.Deep.RegionWith
import Derived.Deep.RegionHeld3
import Derived.RegionTactic

/- parse: shown, a step of two; all steps. -/
namespace Go.Proofs.YtgehjklodphogaaGreatDoor.Pa
open Go.RowKit Go.Proofs.YtgehjklodphogaaGreatDoor.Lx

/-- what the text of a step of two is read from -/
structure OpR (w : World) (y : Stp) (g o : Nat) (x z : Txt) (W : World) : Prop where
  k0 : W.cell? ⟨w.heap.size, 0, none⟩ = some (.int .u8 y.kind)
  q0 : W.cell? ⟨g, o, none⟩ = some (.string ⟨x.toArray⟩)
  q1 : W.cell? ⟨g, o + 1, none⟩ = some (.string ⟨z.toArray⟩)
  bel : Below w.heap.size w W
theorem OpR.step {w W W' : World} {y : Stp} {g o : Nat} {x z : Txt} (h : OpR w y g o x z W) (hb : Below W.heap.size W W') : OpR w y g o x z W' :=
  ⟨(hb.cell (p := ⟨w.heap.size, 0, none⟩) (World.block_lt_of_cell? _ _ h.k0)).trans h.k0, (hb.cell (p := ⟨g, o, none⟩) (World.block_lt_of_cell? _ _ h.q0)).trans h.q0, (hb.cell (p := ⟨g, o + 1, none⟩) (World.block_lt_of_cell? _ _ h.q1)).trans h.q1, h.bel.trans (hb.mono h.bel.size)⟩
theorem OpR.ands {w W : World} {y : Stp} {g o : Nat} {x z : Txt} (h : OpR w y g o x z W) : W.cell? ⟨w.heap.size, 0, none⟩ = some (.int .u8 y.kind) ∧ W.cell? ⟨g, o, none⟩ = some (.string ⟨x.toArray⟩) ∧ W.cell? ⟨g, o + 1, none⟩ = some (.string ⟨z.toArray⟩) ∧ Below w.heap.size w W := ⟨h.k0, h.q0, h.q1, h.bel⟩
/-- operators, and what is read behind it -/
theorem ops_keep {w W : World} {y : Stp} {g o i B : Nat} {x z op : Txt} (h : OpR w y g o x z W) (hB : W.heap.size = B) (hi : i < operators.length) (ho : operators[i] = op) :
    Calls Tryz.prog 108 #[] W fun e W' => e = .returned (.slice (some ⟨B, 0, none⟩) 11 11) ∧ W'.cell? ⟨B, i, none⟩ = some (.string ⟨op.toArray⟩) ∧ OpR w y g o x z W' := by
  subst hB
  refine (operators_calls W).mono ?_
  rintro e W' ⟨rfl, rfl⟩
  refine ⟨rfl, ?_, h.step (alloc_below _ _)⟩
  rw [← ho]
  exact (TextsAt.new W operators 11 (strsC operators).toArray 9 (0, 0) rfl rfl).2 i hi
theorem cat7 (a b c d e f g : List UInt8) : (⟨a.toArray⟩ ++ ⟨b.toArray⟩ ++ ⟨c.toArray⟩ ++ ⟨d.toArray⟩ ++ ⟨e.toArray⟩ ++ ⟨f.toArray⟩ ++ ⟨g.toArray⟩ : ByteArray) = ⟨(a ++ b ++ c ++ d ++ e ++ f ++ g).toArray⟩ := by
  rw [cat2, cat2, cat2, cat2, cat2, cat2]

set_option maxHeartbeats 2000000 in
set_option maxRecDepth 100000 in
theorem shown_op (y : Stp) (k : Nat) (l : List Txt) (v : Value) (w : World) (h : ShArgs w y k v l) (hc : 12 ≤ y.kind) :
    Calls Tryz.prog 58 #[y.val, v] w fun e w' => e = .returned (.string ⟨(shown y l).toArray⟩) ∧ Below w.heap.size w w' := by
  have hk2 := takes2_of h.ht hc
  have hk3 := (kind_of_takes h.ht).2
  have HS := Lib.hid (show shown y l = [40] ++ l.getD 0 [] ++ [32] ++ operators.getD (y.kind - 12) [] ++ [32] ++ l.getD 1 [] ++ [41] by
    unfold shown
    rw [if_neg (by omega), if_neg (by omega), if_neg (by omega), if_neg (by omega), if_neg (by omega), if_neg (by omega), if_neg (by omega), if_neg (by omega), if_neg (by omega), if_neg (by omega)])
  obtain ⟨a, n, c, rfl, hn, hcc, hj⟩ := h.hv
  have hl := h.hl
  have hn2 : n = 2 := by omega
  have hl0 : 0 < l.length := by omega
  have hl1 : 1 < l.length := by omega
  obtain ⟨g, o, rfl, q0⟩ := hj 0 hl0
  obtain ⟨g', o', e', q1⟩ := hj 1 hl1
  simp only [Option.some.injEq, Addr.mk.injEq, and_true] at e'
  obtain ⟨rfl, rfl⟩ := e'
  have e0 : l.getD 0 [] = l[0] := by rw [List.getD_eq_getElem?_getD, List.getElem?_eq_getElem hl0]; rfl
  have e1 : l.getD 1 [] = l[1] := by rw [List.getD_eq_getElem?_getD, List.getElem?_eq_getElem hl1]; rfl
  have hs2 := lens_two l
  rw [e0, e1] at hs2
  rw [e0, e1] at HS
  have hsz := Nat.le_trans hs2 h.hlen
  generalize l[0] = x at *
  generalize l[1] = z at *
  obtain ⟨i, hi⟩ : ∃ i, y.kind = i + 12 := ⟨y.kind - 12, by omega⟩
  have hi11 : i < operators.length := by show i < 11; omega
  have eo : operators.getD (y.kind - 12) [] = operators[i] := by rw [List.getD_eq_getElem?_getD, show y.kind - 12 = i by omega, List.getElem?_eq_getElem hi11]; rfl
  have ho3 := op_len (y.kind - 12)
  rw [eo] at HS ho3
  have Hop := Lib.hid (fun (W : World) (hB : W.heap.size = w.heap.size + 1) (hW : OpR w y g o x z W) => ops_keep hW hB hi11 rfl)
  generalize operators[i] = op at *
  have hi' : i < 11 := hi11
  have hsub : IntKind.u8.wrap ((y.kind : Int) - 12) = (i : Int) := by
    rw [hi]
    simp [IntKind.wrap, IntKind.bits]
    omega
  have b1 : ((y.kind : Int) == 1) = false := by rw [beq_eq_false_iff_ne]; omega
  have b2 : ((y.kind : Int) == 2) = false := by rw [beq_eq_false_iff_ne]; omega
  have b3 : ((y.kind : Int) == 3) = false := by rw [beq_eq_false_iff_ne]; omega
  have b4 : ((y.kind : Int) == 4) = false := by rw [beq_eq_false_iff_ne]; omega
  have b5 : ((y.kind : Int) == 5) = false := by rw [beq_eq_false_iff_ne]; omega
  have b6 : ((y.kind : Int) == 6) = false := by rw [beq_eq_false_iff_ne]; omega
  have b7 : ((y.kind : Int) == 7) = false := by rw [beq_eq_false_iff_ne]; omega
  have b8 : ((y.kind : Int) == 8) = false := by rw [beq_eq_false_iff_ne]; omega
  have b9 : ((y.kind : Int) == 9) = false := by rw [beq_eq_false_iff_ne]; omega
  have b10 : ((y.kind : Int) == 10) = false := by rw [beq_eq_false_iff_ne]; omega
  have b11 : ((y.kind : Int) == 11) = false := by rw [beq_eq_false_iff_ne]; omega
  have s0 : 1 + x.length ≤ 9223372036854775807 := by omega
  have r0 : ¬ 9223372036854775807 < 1 + x.length := by omega
  have s1 : 1 + x.length + 1 ≤ 9223372036854775807 := by omega
  have r1 : ¬ 9223372036854775807 < 1 + x.length + 1 := by omega
  have s2 : 1 + x.length + 1 + op.length ≤ 9223372036854775807 := by omega
  have r2 : ¬ 9223372036854775807 < 1 + x.length + 1 + op.length := by omega
  have s3 : 1 + x.length + 1 + op.length + 1 ≤ 9223372036854775807 := by omega
  have r3 : ¬ 9223372036854775807 < 1 + x.length + 1 + op.length + 1 := by omega
  have s4 : 1 + x.length + 1 + op.length + 1 + z.length ≤ 9223372036854775807 := by omega
  have r4 : ¬ 9223372036854775807 < 1 + x.length + 1 + op.length + 1 + z.length := by omega
  have s5 : 1 + x.length + 1 + op.length + 1 + z.length + 1 ≤ 9223372036854775807 := by omega
  have r5 : ¬ 9223372036854775807 < 1 + x.length + 1 + op.length + 1 + z.length + 1 := by omega
  have i0 : (0 : Int) ≤ (i : Int) := by omega
  have i1 : (i : Int) < 11 := by omega
  have i2 : ¬ (11 : Int) ≤ (i : Int) := by omega
  have hR0 : OpR w y g o x z (w.alloc (.cells #[.int .u8 y.kind, .string ⟨y.text.toArray⟩, .int .i64 y.num] 34)) :=
    ⟨by simp, ((alloc_below w _).cell (p := ⟨g, _, none⟩) (World.block_lt_of_cell? _ _ q0)).trans q0, ((alloc_below w _).cell (p := ⟨g, _, none⟩) (World.block_lt_of_cell? _ _ q1)).trans q1, alloc_below _ _⟩
  have HR0 := Lib.hid hR0
  clear h hc hk2 hk3 hn hcc hj hl hl0 hl1 e0 e1 hs2 hi eo hi11 q0 q1 hR0
  subst hn2
  unfold Stp.val
  go_enter Tryz.func58, Tryz.ntmps58
  go_wp2_with fail
  have hS0 := (HR0.out.step ((Below.refl _ _).drew)).ands
  refine wp_region_held_drew (S := fun w' => w'.cell? ⟨w.heap.size, 0, none⟩ = some (.int .u8 y.kind) ∧ w'.cell? ⟨g, o, none⟩ = some (.string ⟨x.toArray⟩) ∧ w'.cell? ⟨g, o + 1, none⟩ = some (.string ⟨z.toArray⟩) ∧ Below w.heap.size w w') (by kernel_rfl) hS0 (fun hHeld => ?_)
  refine wpAnyH_take (i := 0) (v := ?_) rfl (by kernel_rfl) (by kernel_rfl) (by kernel_rfl) (fun _ _ _ h => h) (Or.inl ⟨by rfl, ?_⟩) (by assumption) ?_
  rotate_left
  · (intro w' hSw; (try dsimp only at hSw); go_simp; try with_reducible rfl)
  try simp only [Act.put, List.getElem_toArray, List.getElem_cons_zero, List.setIfInBounds_toArray, List.set_cons_zero, List.set_cons_succ]
  refine wpAnyH_take (i := 1) (v := ?_) rfl (by kernel_rfl) (by kernel_rfl) (by kernel_rfl) (fun _ _ _ h => h) (Or.inl ⟨by rfl, ?_⟩) (by assumption) ?_
  rotate_left
  · (intro w' hSw; (try dsimp only at hSw); go_simp; try with_reducible rfl)
  try simp only [Act.put, List.getElem_toArray, List.getElem_cons_zero, List.getElem_cons_succ, List.setIfInBounds_toArray, List.set_cons_zero, List.set_cons_succ]
  refine wpAnyH_take (i := 2) (v := ?_) rfl (by kernel_rfl) (by kernel_rfl) (by kernel_rfl) (fun _ _ _ h => h) (Or.inl ⟨by rfl, ?_⟩) (by assumption) ?_
  rotate_left
  · (intro w' hSw; (try dsimp only at hSw); go_simp; try with_reducible rfl)
  try simp only [Act.put, List.getElem_toArray, List.getElem_cons_zero, List.getElem_cons_succ, List.setIfInBounds_toArray, List.set_cons_zero, List.set_cons_succ]
  refine wpAnyH_take (i := 3) (v := ?_) rfl (by kernel_rfl) (by kernel_rfl) (by kernel_rfl) (fun _ _ _ h => h) (Or.inl ⟨by rfl, ?_⟩) (by assumption) ?_
  rotate_left
  · (intro w' hSw; (try dsimp only at hSw); go_simp; try with_reducible rfl)
  try simp only [Act.put, List.getElem_toArray, List.getElem_cons_zero, List.getElem_cons_succ, List.setIfInBounds_toArray, List.set_cons_zero, List.set_cons_succ]
  refine wpAnyH_take (i := 4) (v := ?_) rfl (by kernel_rfl) (by kernel_rfl) (by kernel_rfl) (fun _ _ _ h => h) (Or.inl ⟨by rfl, ?_⟩) (by assumption) ?_
  rotate_left
  · (intro w' hSw; (try dsimp only at hSw); go_simp; try with_reducible rfl)
  try simp only [Act.put, List.getElem_toArray, List.getElem_cons_zero, List.getElem_cons_succ, List.setIfInBounds_toArray, List.set_cons_zero, List.set_cons_succ]
  refine wpAnyH_take (i := 6) (v := ?_) rfl (by kernel_rfl) (by kernel_rfl) (by kernel_rfl) (fun _ _ _ h => h) (Or.inl ⟨by rfl, ?_⟩) (by assumption) ?_
  rotate_left
  · (intro w' hSw; (try dsimp only at hSw); go_simp; try with_reducible rfl)
  try simp only [Act.put, List.getElem_toArray, List.getElem_cons_zero, List.getElem_cons_succ, List.setIfInBounds_toArray, List.set_cons_zero, List.set_cons_succ]
  refine wpAnyH_take (i := 7) (v := ?_) rfl (by kernel_rfl) (by kernel_rfl) (by kernel_rfl) (fun _ _ _ h => h) (Or.inl ⟨by rfl, ?_⟩) (by assumption) ?_
  rotate_left
  · (intro w' hSw; (try dsimp only at hSw); go_simp; try with_reducible rfl)
  try simp only [Act.put, List.getElem_toArray, List.getElem_cons_zero, List.getElem_cons_succ, List.setIfInBounds_toArray, List.set_cons_zero, List.set_cons_succ]
  refine wpAnyH_take (i := 8) (v := ?_) rfl (by kernel_rfl) (by kernel_rfl) (by kernel_rfl) (fun _ _ _ h => h) (Or.inl ⟨by rfl, ?_⟩) (by assumption) ?_
  rotate_left
  · (intro w' hSw; (try dsimp only at hSw); go_simp; try with_reducible rfl)
  try simp only [Act.put, List.getElem_toArray, List.getElem_cons_zero, List.getElem_cons_succ, List.setIfInBounds_toArray, List.set_cons_zero, List.set_cons_succ]
  refine wpAnyH_take (i := 13) (v := ?_) rfl (by kernel_rfl) (by kernel_rfl) (by kernel_rfl) (fun _ _ _ h => h) (Or.inl ⟨by rfl, ?_⟩) (by assumption) ?_
  rotate_left
  · (intro w' hSw; (try dsimp only at hSw); go_simp; try with_reducible rfl)
  try simp only [Act.put, List.getElem_toArray, List.getElem_cons_zero, List.getElem_cons_succ, List.setIfInBounds_toArray, List.set_cons_zero, List.set_cons_succ]
  refine wpAnyH_take (i := 14) (v := ?_) rfl (by kernel_rfl) (by kernel_rfl) (by kernel_rfl) (fun _ _ _ h => h) (Or.inl ⟨by rfl, ?_⟩) (by assumption) ?_
  rotate_left
  · (intro w' hSw; (try dsimp only at hSw); go_simp; try with_reducible rfl)
  try simp only [Act.put, List.getElem_toArray, List.getElem_cons_zero, List.getElem_cons_succ, List.setIfInBounds_toArray, List.set_cons_zero, List.set_cons_succ]
  refine wpAnyH_take (i := 15) (v := ?_) rfl (by kernel_rfl) (by kernel_rfl) (by kernel_rfl) (fun _ _ _ h => h) (Or.inl ⟨by rfl, ?_⟩) (by assumption) ?_
  rotate_left
  · (intro w' hSw; (try dsimp only at hSw); go_simp; try with_reducible rfl)
  try simp only [Act.put, List.getElem_toArray, List.getElem_cons_zero, List.getElem_cons_succ, List.setIfInBounds_toArray, List.set_cons_zero, List.set_cons_succ]
  refine wpAnyH_ready (rs := [5]) (by kernel_rfl) (by simp) ?_
  refine AllReadyH.cons (o := _) rfl (fun K hK => ?_) AllReadyH.nil
  go_simp
  go_at_call 108
  refine (Hop.out _ (by simp) ⟨hHeld.1, hHeld.2.1, hHeld.2.2.1, hHeld.2.2.2⟩).mono ?_
  rintro e w9 ⟨rfl, hq9, hR9⟩
  go_wp2_with fail
  refine hK.out _ _ hR9.ands (fun hHeld2 => ?_)
  clear hK K hHeld
  try simp only [Act.put, List.getElem_toArray, List.getElem_cons_zero, List.getElem_cons_succ, List.setIfInBounds_toArray, List.set_cons_zero, List.set_cons_succ]
  refine wpAnyH_take (i := 9) (v := ?_) rfl (by kernel_rfl) (by kernel_rfl) (by kernel_rfl) (fun _ _ _ h => h) (Or.inl ⟨by rfl, ?_⟩) (by assumption) ?_
  rotate_left
  · (intro w' hSw; (try dsimp only at hSw); go_simp; try with_reducible rfl)
  try simp only [Act.put, List.getElem_toArray, List.getElem_cons_zero, List.getElem_cons_succ, List.setIfInBounds_toArray, List.set_cons_zero, List.set_cons_succ]
  refine wpAnyH_ready (rs := [10]) (by kernel_rfl) (by simp) ?_
  refine AllReadyH.cons (o := _) rfl (fun K hK => ?_) AllReadyH.nil
  go_simp
  refine hK.out _ _ hHeld2 (fun hHeld3 => ?_)
  clear hK K
  try simp only [Act.put, List.getElem_toArray, List.getElem_cons_zero, List.getElem_cons_succ, List.setIfInBounds_toArray, List.set_cons_zero, List.set_cons_succ]
  refine wpAnyH_take (i := 11) (v := ?_) rfl (by kernel_rfl) (by kernel_rfl) (by kernel_rfl) (fun _ _ _ h => h) (Or.inl ⟨by rfl, ?_⟩) (by assumption) ?_
  rotate_left
  · (intro w' hSw; (try dsimp only at hSw); go_simp; try with_reducible rfl)
  try simp only [Act.put, List.getElem_toArray, List.getElem_cons_zero, List.getElem_cons_succ, List.setIfInBounds_toArray, List.set_cons_zero, List.set_cons_succ]
  refine wpAnyH_take (i := 12) (v := ?_) rfl (by kernel_rfl) (by kernel_rfl) (by kernel_rfl) (fun _ _ _ h => h) (Or.inl ⟨by rfl, ?_⟩) (by assumption) ?_
  rotate_left
  · (intro w' hSw; (try dsimp only at hSw); go_simp; try with_reducible rfl)
  try simp only [Act.put, List.getElem_toArray, List.getElem_cons_zero, List.getElem_cons_succ, List.setIfInBounds_toArray, List.set_cons_zero, List.set_cons_succ]
  refine wpAnyH_take (i := 16) (v := ?_) rfl (by kernel_rfl) (by kernel_rfl) (by kernel_rfl) (fun _ _ _ h => h) (Or.inl ⟨by rfl, ?_⟩) (by assumption) ?_
  rotate_left
  · (intro w' hSw; (try dsimp only at hSw); go_simp; try with_reducible rfl)
  try simp only [Act.put, List.getElem_toArray, List.getElem_cons_zero, List.getElem_cons_succ, List.setIfInBounds_toArray, List.set_cons_zero, List.set_cons_succ]
  refine wpAnyH_take (i := 17) (v := ?_) rfl (by kernel_rfl) (by kernel_rfl) (by kernel_rfl) (fun _ _ _ h => h) (Or.inl ⟨by rfl, ?_⟩) (by assumption) ?_
  rotate_left
  · (intro w' hSw; (try dsimp only at hSw); go_simp; try with_reducible rfl)
  try simp only [Act.put, List.getElem_toArray, List.getElem_cons_zero, List.getElem_cons_succ, List.setIfInBounds_toArray, List.set_cons_zero, List.set_cons_succ]
  refine wpAnyH_take (i := 18) (v := ?_) rfl (by kernel_rfl) (by kernel_rfl) (by kernel_rfl) (fun _ _ _ h => h) (Or.inl ⟨by rfl, ?_⟩) (by assumption) ?_
  rotate_left
  · (intro w' hSw; (try dsimp only at hSw); go_simp; try with_reducible rfl)
  try simp only [Act.put, List.getElem_toArray, List.getElem_cons_zero, List.getElem_cons_succ, List.setIfInBounds_toArray, List.set_cons_zero, List.set_cons_succ]
  refine wpAnyH_done (by kernel_rfl) ?_ _
  have hb9 := hR9.bel
  go_wp2_with fail
  go_ret
  exact ⟨by rw [HS.out]; exact congrArg (fun x => Ending.returned (.string x)) (cat7 [40] _ [32] _ [32] _ [41]), by assumption⟩

theorem shown_calls (y : Stp) (k : Nat) (l : List Txt) (v : Value) (w : World) (h : ShArgs w y k v l) :
    Calls Tryz.prog 58 #[y.val, v] w fun e w' => e = .returned (.string ⟨(shown y l).toArray⟩) ∧ Below w.heap.size w w' := by
  have hk := kind_of_takes h.ht
  by_cases h12 : 12 ≤ y.kind
  · exact shown_op y k l v w h h12
  by_cases h1 : y.kind = 1
  · exact shown_1 y k l v w h h1
  by_cases h2 : y.kind = 2
  · exact shown_2 y k l v w h h2
  by_cases h3 : y.kind = 3
  · exact shown_3 y k l v w h h3
  by_cases h4 : y.kind = 4
  · exact shown_4 y k l v w h h4
  by_cases h5 : y.kind = 5
  · exact shown_5 y k l v w h h5
  by_cases h6 : y.kind = 6
  · exact shown_6 y k l v w h h6
  by_cases h7 : y.kind = 7
  · exact shown_7 y k l v w h h7
  by_cases h8 : y.kind = 8
  · exact shown_8 y k l v w h h8
  by_cases h9 : y.kind = 9
  · exact shown_9 y k l v w h h9
  by_cases h10 : y.kind = 10
  · exact shown_10 y k l v w h h10
  exact shown_11 y k l v w h (by omega)

end Go.Proofs.YtgehjklodphogaaGreatDoor.Pa

/- parse: Closed. -/
namespace Go.Proofs.YtgehjklodphogaaGreatDoor.Pa
open Go.RowKit Go.Proofs.YtgehjklodphogaaGreatDoor.Lx

/-- where the first element that fails `p` stands -/
def firstNot {α : Type} (p : α → Bool) (l : List α) : Int := if l.all p then -1 else (l.findIdx fun t => !p t : Nat)
theorem firstNot_ge {α : Type} (p : α → Bool) (l : List α) : decide (0 ≤ firstNot p l) = !l.all p := by
  unfold firstNot
  split
  · rename_i h; rw [h]; rfl
  · rename_i h; simp at h ⊢; simpa using h
theorem firstNot_none {α : Type} {p : α → Bool} {l : List α} (h : ∀ j (hj : j < l.length), p l[j] = true) : firstNot p l = -1 := by
  unfold firstNot
  rw [if_pos]
  rw [List.all_eq_true]
  intro t ht
  obtain ⟨j, hj, e⟩ := List.getElem_of_mem ht
  rw [← e]; exact h j hj
theorem firstNot_at {α : Type} {p : α → Bool} {l : List α} {k : Nat} (hk : k < l.length) (e : p l[k] = false) (h : ∀ j (hj : j < l.length), j < k → p l[j] = true) : firstNot p l = k := by
  unfold firstNot
  rw [if_neg]
  · congr 1
    rw [List.findIdx_eq hk]
    exact ⟨by rw [e]; rfl, fun j hj => by rw [h j (by omega) hj]; rfl⟩
  · intro ha
    rw [List.all_eq_true] at ha
    rw [ha _ (List.getElem_mem hk)] at e
    cases e
theorem firstNot_le {α : Type} (p : α → Bool) (l : List α) : -1 ≤ firstNot p l ∧ firstNot p l ≤ l.length := by
  unfold firstNot
  split
  · omega
  · have := List.findIdx_le_length (p := fun t => !p t) (xs := l); omega

/-- no aggregate's step -/
def plain6 (y : Stp) : Bool := y.kind != 6
theorem closed_eq (l : List Stp) : closedB l = l.all plain6 := rfl

theorem isSix_calls (y : Stp) (w : World) :
    Calls Tryz.prog 71 #[y.val] w fun e w' => e = .returned (.bool (!plain6 y)) ∧ Below w.heap.size w w' := by
  have Hr := Lib.hid (show ((y.kind : Int) == 6) = !plain6 y by
    unfold plain6
    by_cases h : y.kind = 6
    · rw [h]; rfl
    · rw [show ((y.kind : Int) == 6) = false by rw [beq_eq_false_iff_ne]; omega, show (y.kind != 6) = true by rw [bne_iff_ne]; exact h]; rfl)
  unfold Stp.val
  go_enter Tryz.func71, Tryz.ntmps71
  go_wp2_with fail
  go_ret
  exact ⟨ret_bool (by rw [← Hr.out]), alloc_below _ _⟩

set_option maxRecDepth 100000 in
theorem indexSix_calls (w : World) (v : Value) (l : List Stp) (h : StpsIn w v l) (hl : l.length ≤ 1073741824) :
    Calls Tryz.prog 122 #[v, .func (.func 71) #[] #[]] w fun e w' => e = .returned (.int .i64 (firstNot plain6 l)) ∧ Below w.heap.size w w' := by
  obtain ⟨a, n, c, rfl, hn, hc, hj⟩ := h
  have Hn := Lib.hid hn
  have Hj := Lib.hid hj
  have hn2 : n ≤ 1073741824 := by omega
  clear hn hj
  go_enter Tryz.func122, Tryz.ntmps122
  go_wp2_with fail
  go_loopw [8] (fun i wr => ∃ k : Nat, k ≤ n ∧ i = .int .i64 k ∧ Hid (Below w.heap.size w wr ∧ ∀ j (hj : j < l.length), j < k → plain6 l[j] = true)) (fun i _ => n - (intOf i).toNat)
  case atStart => exact ⟨0, Nat.zero_le _, rfl, Below.refl _ _, fun j _ hj => absurd hj (Nat.not_lt_zero _)⟩
  case round =>
    obtain ⟨k, hk, rfl, hb, hno⟩ := hrel
    have Hb := Lib.hid hb
    have Hno := Lib.hid hno
    by_cases hlt : k < n
    · have hkl : k < l.length := by rw [Hn.out]; exact hlt
      obtain ⟨g, o, rfl, hcl⟩ := Hj.out k hkl
      obtain ⟨q0, q1, q2⟩ := hcl.below hb
      have hc := isSix_calls l[k] wr
      unfold Stp.val at hc
      cases e : plain6 l[k] with
      | false =>
        have Hr := Lib.hid (firstNot_at hkl e hno)
        rw [e] at hc
        have Hc := Lib.hid hc
        generalize l[k] = t at *
        clear hc e hb hno hcl
        go_wp2_with fail
        refine Hc.out.mono ?_
        rintro e w2 ⟨rfl, hb2⟩
        have Hb2 := Lib.hid (Hb.out.trans (hb2.mono Hb.out.size))
        clear hb2
        go_wp2_with fail
        go_ret
        exact ⟨ret_intI Hr.out.symm, Hb2.out⟩
      | true =>
        have Hr := Lib.hid (show ∀ j (hj : j < l.length), j < k + 1 → plain6 l[j] = true from fun j h hj => by
          rcases Nat.lt_or_ge j k with h' | h'
          · exact hno j h h'
          · obtain rfl : j = k := by omega
            exact e)
        rw [e] at hc
        have Hc := Lib.hid hc
        generalize l[k] = t at *
        clear hc e hb hno hcl
        go_wp2_with fail
        refine Hc.out.mono ?_
        rintro e w2 ⟨rfl, hb2⟩
        have Hb2 := Lib.hid (Hb.out.trans (hb2.mono Hb.out.size))
        clear hb2
        go_wp2_with fail
        go_roundw
        case rel => exact ⟨k + 1, by omega, by go_num, Hb2.out, Hr.out⟩
        case measure => simp [intOf]; omega
    · have Hr := Lib.hid (firstNot_none (p := plain6) (l := l) fun j h => hno j h (by have := Hn.out; omega))
      clear hb hno
      go_wp2_with fail
      go_ret
      exact ⟨ret_intI Hr.out.symm, Hb.out⟩
theorem containsSix_calls (w : World) (v : Value) (l : List Stp) (h : StpsIn w v l) (hl : l.length ≤ 1073741824) :
    Calls Tryz.prog 70 #[v, .func (.func 71) #[] #[]] w fun e w' => e = .returned (.bool (!l.all plain6)) ∧ Below w.heap.size w w' := by
  have Hi := Lib.hid (indexSix_calls w v l h hl)
  have hb := firstNot_le plain6 l
  obtain ⟨a, n, c, rfl, -⟩ := h
  have Hg := Lib.hid (firstNot_ge plain6 l)
  generalize firstNot plain6 l = r at *
  go_enter Tryz.func70, Tryz.ntmps70
  go_wp2_with fail
  refine Hi.out.mono ?_
  rintro e w2 ⟨rfl, hb2⟩
  have Hb2 := Lib.hid hb2
  clear hb2
  go_wp2_with fail
  go_ret
  exact ⟨ret_bool Hg.out, Hb2.out⟩
theorem Closed_calls (w : World) (v : Value) (l : List Stp) (h : StpsIn w v l) (hl : l.length ≤ 1073741824) :
    Calls Tryz.prog 31 #[v] w fun e w' => e = .returned (.bool (closedB l)) ∧ Below w.heap.size w w' := by
  have Hi := Lib.hid (containsSix_calls w v l h hl)
  rw [closed_eq]
  obtain ⟨a, n, c, rfl, -⟩ := h
  generalize l.all plain6 = r at *
  go_enter Tryz.func31, Tryz.ntmps31
  go_wp2_with fail
  refine Hi.out.mono ?_
  rintro e w2 ⟨rfl, hb2⟩
  have Hb2 := Lib.hid hb2
  clear hb2
  go_wp2_with fail
  go_ret
  exact ⟨ret_bool (by simp), Hb2.out⟩

end Go.Proofs.YtgehjklodphogaaGreatDoor.Pa
