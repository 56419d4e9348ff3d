/- Parts: PdC. -/
import Derived.Test.YtghnkgeaocpmaaaGreatDoorMg36
import Derived.Deep.RegionHeld3
import Derived.RegionTactic

/- ParseRanks: the walk. -/
namespace Go.Proofs.YtghnkgeaocpmaaaGreatDoor.Pa
open Go.RowKit Go.Proofs.YtghnkgeaocpmaaaGreatDoor.Lx

theorem lt6 {i : Nat} (h : i < 6) : i = 0 ∨ i = 1 ∨ i = 2 ∨ i = 3 ∨ i = 4 ∨ i = 5 := by omega
/-- the three tables -/
structure RkM (w0 W : World) : Prop where
  sg : ∀ i, i < 6 → W.cell? ⟨w0.heap.size, i, none⟩ = some (.string ⟨(rkSigns.getD i []).toArray⟩)
  kd : ∀ i, i < 6 → W.cell? ⟨w0.heap.size + 1, i, none⟩ = some (.int .u8 (rkKinds.getD i 0 : Nat))
  rk : ∀ i, i < 6 → W.cell? ⟨w0.heap.size + 1 + 1, i, none⟩ = some (.int .i64 (rkRank.getD i 0 : Nat))
  bel : Below w0.heap.size w0 W
theorem RkM.step {w0 W W' : World} (h : RkM w0 W) (hb : Below W.heap.size W W') : RkM w0 W' :=
  ⟨fun i hi => keepC (h.sg i hi) hb, fun i hi => keepC (h.kd i hi) hb, fun i hi => keepC (h.rk i hi) hb, h.bel.trans (hb.mono h.bel.size)⟩
def rkW (w0 : World) : World :=
  ((w0.alloc (.cells #[.string ⟨#[79, 82]⟩, .string ⟨#[65, 78, 68]⟩, .string ⟨#[61]⟩, .string ⟨#[43]⟩, .string ⟨#[45]⟩, .string ⟨#[42]⟩] 9)).alloc
    (.cells #[.int .u8 22, .int .u8 21, .int .u8 15, .int .u8 12, .int .u8 13, .int .u8 14] 27)).alloc (.cells #[.int .i64 0, .int .i64 1, .int .i64 2, .int .i64 3, .int .i64 3, .int .i64 4] 3)
theorem cell_row {W : World} {B i : Nat} {cs : Array Value} {T : TypeId} {v : Value} (h : W.heap[B]? = some (.cells cs T)) (hv : cs[i]? = some v) : W.cell? ⟨B, i, none⟩ = some v := by simp [World.cell?, h, hv]
theorem alloc3 (w : World) (a b c : Obj) : (((w.alloc a).alloc b).alloc c).heap[w.heap.size]? = some a ∧ (((w.alloc a).alloc b).alloc c).heap[w.heap.size + 1]? = some b ∧ (((w.alloc a).alloc b).alloc c).heap[w.heap.size + 1 + 1]? = some c := by
  refine ⟨?_, ?_, ?_⟩
  · exact (Below.heap_alloc _ _ _ (by simp; omega)).trans (alloc2_old w a b)
  · exact (Below.heap_alloc _ _ _ (by simp)).trans (alloc2_new w a b)
  · have := heap_alloc_new ((w.alloc a).alloc b) c
    simpa using this
theorem RkM.start (w0 : World) : RkM w0 (rkW w0) := by
  obtain ⟨h0, h1, h2⟩ := alloc3 w0 (.cells #[.string ⟨#[79, 82]⟩, .string ⟨#[65, 78, 68]⟩, .string ⟨#[61]⟩, .string ⟨#[43]⟩, .string ⟨#[45]⟩, .string ⟨#[42]⟩] 9)
    (.cells #[.int .u8 22, .int .u8 21, .int .u8 15, .int .u8 12, .int .u8 13, .int .u8 14] 27) (.cells #[.int .i64 0, .int .i64 1, .int .i64 2, .int .i64 3, .int .i64 3, .int .i64 4] 3)
  refine ⟨fun i hi => cell_row h0 ?_, fun i hi => cell_row h1 ?_, fun i hi => cell_row h2 ?_, ?_⟩
  · rcases lt6 hi with rfl | rfl | rfl | rfl | rfl | rfl <;> rfl
  · rcases lt6 hi with rfl | rfl | rfl | rfl | rfl | rfl <;> rfl
  · rcases lt6 hi with rfl | rfl | rfl | rfl | rfl | rfl <;> rfl
  · exact stepB (stepB (alloc_below _ _) (alloc_below _ _)) (alloc_below _ _)
theorem rkSigns_len {i : Nat} (h : i < 6) : (rkSigns.getD i []).length ≤ 3 := by
  rcases lt6 h with rfl | rfl | rfl | rfl | rfl | rfl <;> decide
theorem rkKinds_ne {i : Nat} (h : i < 6) : rkKinds.getD i 0 ≠ 6 := by
  rcases lt6 h with rfl | rfl | rfl | rfl | rfl | rfl <;> decide
/-- what was read, in a block -/
def RkR (wx : World) (T : Nat) (l : List Stp) : Prop := ∃ g o c, wx.cell? ⟨T, 4, none⟩ = some (.slice (some ⟨g, o, none⟩) 5 c) ∧
  wx.cell? ⟨g, o + 1, none⟩ = some (.string ⟨#[112]⟩) ∧ wx.cell? ⟨g, o + 6, none⟩ = some (.int .u8 ((l.getD 2 ⟨0, [], 0⟩).kind : Nat)) ∧ wx.cell? ⟨g, o + 12, none⟩ = some (.int .u8 ((l.getD 4 ⟨0, [], 0⟩).kind : Nat))
theorem rkSteps_shape (i k : Nat) : (rkSteps i k).length = 5 ∧ ((rkSteps i k).getD 0 ⟨0, [], 0⟩).text = [112] := by
  unfold rkSteps; split <;> exact ⟨rfl, rfl⟩
theorem rk_steps {w : World} {v : Value} {i k : Nat} (h : StpsIn w v (rkSteps i k)) : ∃ (g o c : Nat), v = .slice (some ⟨g, o, none⟩) 5 c ∧ w.cell? ⟨g, o + 1, none⟩ = some (.string ⟨#[112]⟩) ∧
    w.cell? ⟨g, o + 6, none⟩ = some (.int .u8 (((rkSteps i k).getD 2 ⟨0, [], 0⟩).kind : Nat)) ∧ w.cell? ⟨g, o + 12, none⟩ = some (.int .u8 (((rkSteps i k).getD 4 ⟨0, [], 0⟩).kind : Nat)) := by
  obtain ⟨hs1, hs2⟩ := rkSteps_shape i k
  generalize rkSteps i k = l at *
  obtain ⟨a, n, c, rfl, hn, hc, hj⟩ := h
  obtain ⟨g, o, rfl, h0⟩ := hj 0 (by omega)
  obtain ⟨g2, o2, e2, h2⟩ := hj 2 (by omega)
  obtain ⟨g4, o4, e4, h4⟩ := hj 4 (by omega)
  simp only [Option.some.injEq, Addr.mk.injEq, and_true] at e2 e4
  obtain ⟨rfl, rfl⟩ := e2
  obtain ⟨rfl, rfl⟩ := e4
  have hn5 : n = 5 := by omega
  subst hn5
  have e0 : l.getD 0 ⟨0, [], 0⟩ = l[0] := by rw [List.getD_eq_getElem?_getD, List.getElem?_eq_getElem (by omega)]; rfl
  have e2 : l.getD 2 ⟨0, [], 0⟩ = l[2] := by rw [List.getD_eq_getElem?_getD, List.getElem?_eq_getElem (by omega)]; rfl
  have e4 : l.getD 4 ⟨0, [], 0⟩ = l[4] := by rw [List.getD_eq_getElem?_getD, List.getElem?_eq_getElem (by omega)]; rfl
  rw [e0] at hs2
  have q := h0.c1
  rw [hs2] at q
  rw [e2, e4]
  exact ⟨g, o, c, rfl, q, h2.c0, h4.c0⟩
theorem again_cell {W : World} {B : Nat} {a : Addr} {v : Value} (h : W.cell? a = some v) (hne : a.block ≠ B) (st : Stm) (vi ve : Value) : (again W B st vi ve).cell? a = some v :=
  (World.cell?_of_block (a := a) (again_heap hne st vi ve)).trans h
theorem again_four {W : World} {B : Nat} {st0 : Stm} {vi0 ve0 : Value} (h : W.heap[B]? = some (.cells (smC st0 vi0 ve0) 26)) (st : Stm) (vi ve : Value) : (again W B st vi ve).cell? ⟨B, 4, none⟩ = some ve := by
  have b1 := set_block (i := 0) h (.int .u8 st.kind) #[.int .u8 st.kind, .string ⟨st0.table.toArray⟩, .string ⟨st0.field.toArray⟩, vi0, ve0, .bool st0.history, .bool st0.desc] rfl
  have b2 := set_block (i := 1) b1 (.string ⟨st.table.toArray⟩) #[.int .u8 st.kind, .string ⟨st.table.toArray⟩, .string ⟨st0.field.toArray⟩, vi0, ve0, .bool st0.history, .bool st0.desc] rfl
  have b3 := set_block (i := 2) b2 (.string ⟨st.field.toArray⟩) #[.int .u8 st.kind, .string ⟨st.table.toArray⟩, .string ⟨st.field.toArray⟩, vi0, ve0, .bool st0.history, .bool st0.desc] rfl
  have b4 := set_block (i := 3) b3 vi #[.int .u8 st.kind, .string ⟨st.table.toArray⟩, .string ⟨st.field.toArray⟩, vi, ve0, .bool st0.history, .bool st0.desc] rfl
  have b5 := set_block (i := 4) b4 ve #[.int .u8 st.kind, .string ⟨st.table.toArray⟩, .string ⟨st.field.toArray⟩, vi, ve, .bool st0.history, .bool st0.desc] rfl
  have b6 := set_block (i := 5) b5 (.bool st.history) #[.int .u8 st.kind, .string ⟨st.table.toArray⟩, .string ⟨st.field.toArray⟩, vi, ve, .bool st.history, .bool st0.desc] rfl
  have b7 := set_block (i := 6) b6 (.bool st.desc) #[.int .u8 st.kind, .string ⟨st.table.toArray⟩, .string ⟨st.field.toArray⟩, vi, ve, .bool st.history, .bool st.desc] rfl
  exact (seven b7).1.2.2.2.2.1
theorem sets7_heap {W : World} {B g : Nat} (h : g ≠ B) (v0 v1 v2 v3 v4 v5 v6 : Value) : (((((((W.setCell ⟨B, 0, none⟩ v0).setCell ⟨B, 1, none⟩ v1).setCell ⟨B, 2, none⟩ v2).setCell ⟨B, 3, none⟩ v3).setCell ⟨B, 4, none⟩ v4).setCell ⟨B, 5, none⟩ v5).setCell ⟨B, 6, none⟩ v6).heap[g]? = W.heap[g]? := by
  rw [Below.heap_setCell _ _ _ _ h, Below.heap_setCell _ _ _ _ h, Below.heap_setCell _ _ _ _ h, Below.heap_setCell _ _ _ _ h, Below.heap_setCell _ _ _ _ h, Below.heap_setCell _ _ _ _ h, Below.heap_setCell _ _ _ _ h]
theorem sets7_cell {W : World} {B : Nat} {a : Addr} {v : Value} (h : W.cell? a = some v) (hne : a.block ≠ B) (v0 v1 v2 v3 v4 v5 v6 : Value) : (((((((W.setCell ⟨B, 0, none⟩ v0).setCell ⟨B, 1, none⟩ v1).setCell ⟨B, 2, none⟩ v2).setCell ⟨B, 3, none⟩ v3).setCell ⟨B, 4, none⟩ v4).setCell ⟨B, 5, none⟩ v5).setCell ⟨B, 6, none⟩ v6).cell? a = some v :=
  (World.cell?_of_block (a := a) (sets7_heap hne v0 v1 v2 v3 v4 v5 v6)).trans h
theorem sets7_below {W0 W : World} {B base : Nat} (h : Below base W0 W) (hB : base ≤ B) (v0 v1 v2 v3 v4 v5 v6 : Value) : Below base W0 (((((((W.setCell ⟨B, 0, none⟩ v0).setCell ⟨B, 1, none⟩ v1).setCell ⟨B, 2, none⟩ v2).setCell ⟨B, 3, none⟩ v3).setCell ⟨B, 4, none⟩ v4).setCell ⟨B, 5, none⟩ v5).setCell ⟨B, 6, none⟩ v6) :=
  (((((((h.setCell hB _).setCell hB _).setCell hB _).setCell hB _).setCell hB _).setCell hB _).setCell hB _)
theorem rkText_bytes (i k : Nat) : (⟨(rkText i k).toArray⟩ : ByteArray) = ⟨#[68, 69, 76, 69, 84, 69, 32, 70, 82, 79, 77, 32, 116, 32, 87, 72, 69, 82, 69, 32, 112, 32]⟩ ++ ⟨(rkSigns.getD i []).toArray⟩ ++ ⟨#[32, 113, 32]⟩ ++ ⟨(rkSigns.getD k []).toArray⟩ ++ ⟨#[32, 114]⟩ := by
  unfold rkText
  exact (cat5 [68, 69, 76, 69, 84, 69, 32, 70, 82, 79, 77, 32, 116, 32, 87, 72, 69, 82, 69, 32, 112, 32] (rkSigns.getD i []) [32, 113, 32] (rkSigns.getD k []) [32, 114]).symm
theorem rkText_len {i k : Nat} (h : i < 6) (h2 : k < 6) : (rkText i k).length ≤ 100 := by
  have h3 := rkSigns_len h
  have h4 := rkSigns_len h2
  unfold rkText
  simp only [List.length_append, List.length_cons, List.length_nil]
  omega

theorem rkS {W w w' : World} {a b : Addr} {va vb : Value} (h : w.cell? a = some va ∧ w.cell? b = some vb ∧ Below W.heap.size W w) (hb : Below w.heap.size w w') : w'.cell? a = some va ∧ w'.cell? b = some vb ∧ Below W.heap.size W w' :=
  ⟨keepC h.1 hb, keepC h.2.1 hb, stepB h.2.2 hb⟩

set_option maxHeartbeats 12000000 in
set_option maxRecDepth 100000 in
theorem ParseRanks_calls (a b : Int) (w : World) (ha : 0 ≤ a) (ha2 : a < 256) (hb : 0 ≤ b) (hb2 : b < 256) (he : Env w) :
    Calls Tryz.prog 9 #[.int .u8 a, .int .u8 b] w fun e w' => e = .returned (.bool true) ∧ Below w.heap.size w w' := by
  have He := Lib.hid he
  clear he
  obtain ⟨i, hi, hi6⟩ : ∃ i : Nat, a % 6 = (i : Int) ∧ i < 6 := ⟨(a % 6).toNat, by omega, by omega⟩
  obtain ⟨k, hk, hk6⟩ : ∃ k : Nat, b % 6 = (k : Int) ∧ k < 6 := ⟨(b % 6).toNat, by omega, by omega⟩
  go_enter Tryz.func9, Tryz.ntmps9
  go_wp2_with fail
  refine (lives_calls w He.out).mono ?_
  rintro e w0 ⟨rfl, hb0⟩
  have Hb0 := Lib.hid hb0
  clear hb0
  go_wp2_with fail
  have HM := Lib.hid (RkM.start w0)
  generalize hW : rkW w0 = W at HM
  unfold rkW at hW
  rw [hW]
  clear hW
  have s0 := HM.out.sg i hi6
  have s1 := HM.out.sg k hk6
  have hl0 := rkSigns_len hi6
  have hl1 := rkSigns_len hk6
  have Htx := Lib.hid (rkText_bytes i k)
  have Hne := Lib.hid (rkKinds_ne hi6)
  have Hew := Lib.hid (fun (w2 : World) (hb : Below W.heap.size W w2) => (He.out.below (Hb0.out.trans ((HM.out.step hb).bel.mono Hb0.out.size))))
  have hlt := Lib.hid (rkText_len hi6 hk6)
  by_cases hsame : i = 2 ∧ k = 2
  · have Hp := Lib.hid (fun (w2 : World) (hb : Below W.heap.size W w2) => Parse_calls 60 ⟨(rkText i k).toArray⟩ w2 (by rw [size_mk]; have := hlt.out; unfold maxLen; omega) (Hew.out w2 hb) (r := .err 13 26) (by rw [L_mk, hsame.1, hsame.2]; exact rk_same))
    rw [rkText_bytes] at Hp
    have i0 : (0 : Int) ≤ (i : Int) := by omega
    have i1 : (i : Int) < 6 := by omega
    have i2 : ¬ (6 : Int) ≤ (i : Int) := by omega
    have k0 : (0 : Int) ≤ (k : Int) := by omega
    have k1 : (k : Int) < 6 := by omega
    have k2 : ¬ (6 : Int) ≤ (k : Int) := by omega
    generalize hsi : rkSigns.getD i [] = si at *
    generalize hsk : rkSigns.getD k [] = sk at *
    have z0 : 22 + si.length ≤ 9223372036854775807 := by omega
    have z1 : 22 + si.length + 3 ≤ 9223372036854775807 := by omega
    have z2 : 22 + si.length + 3 + sk.length ≤ 9223372036854775807 := by omega
    have z3 : 22 + si.length + 3 + sk.length + 2 ≤ 9223372036854775807 := by omega
    have y0 : ¬ 9223372036854775807 < 22 + si.length := by omega
    have y1 : ¬ 9223372036854775807 < 22 + si.length + 3 := by omega
    have y2 : ¬ 9223372036854775807 < 22 + si.length + 3 + sk.length := by omega
    have y3 : ¬ 9223372036854775807 < 22 + si.length + 3 + sk.length + 2 := by omega
    rw [hi, hk]
    clear hsi hsk Htx
    have Hsame := Lib.hid hsame
    clear hsame
    go_cut [10, 11] (fun s10 s11 wx => ∃ T, s10 = .pointer (some ⟨T, 0, none⟩) ∧ s11 = .int .i64 13 ∧ Hid (Below w0.heap.size w0 wx))
    case first =>
      have hS0 : W.drew.cell? ⟨w0.heap.size, i, none⟩ = some (.string ⟨si.toArray⟩) ∧ W.drew.cell? ⟨w0.heap.size, k, none⟩ = some (.string ⟨sk.toArray⟩) ∧ Below W.heap.size W W.drew := ⟨s0, s1, (Below.refl _ _).drew⟩
      have hw0 := World.block_lt_of_cell? _ _ s0
      have Hne7 := Lib.hid (show w0.heap.size ≠ W.heap.size by have : w0.heap.size < W.heap.size := hw0; omega)
      refine wp_region_held_drew (S := fun w' => w'.cell? ⟨w0.heap.size, i, none⟩ = some (.string ⟨si.toArray⟩) ∧ w'.cell? ⟨w0.heap.size, k, none⟩ = some (.string ⟨sk.toArray⟩) ∧ Below W.heap.size W w') (by kernel_rfl) hS0 (fun hS1 => ?_)
      have hdz : Hid ((World.drew W).heap.size = W.heap.size) := rfl
      have hbD := hS1.2.2
      clear hS0
      generalize World.drew W = wD at *
      refine wpAnyH_take (i := 0) (v := ?_) rfl (by kernel_rfl) (by kernel_rfl) (by kernel_rfl) (fun _ _ _ h => h) (Or.inl ⟨by rfl, ?_⟩) (by assumption) ?_
      rotate_left
      · (intro w' hSw; (try dsimp only at hSw); go_simp; try with_reducible rfl)
      try simp only [Act.put, List.getElem_toArray, List.getElem_cons_zero, List.getElem_cons_succ, List.setIfInBounds_toArray, List.set_cons_zero, List.set_cons_succ]
      refine wpAnyH_take (i := 1) (v := ?_) rfl (by kernel_rfl) (by kernel_rfl) (by kernel_rfl) (fun _ _ _ h => h) (Or.inl ⟨by rfl, ?_⟩) (by assumption) ?_
      rotate_left
      · (intro w' hSw; (try dsimp only at hSw); go_simp; try with_reducible rfl)
      try simp only [Act.put, List.getElem_toArray, List.getElem_cons_zero, List.getElem_cons_succ, List.setIfInBounds_toArray, List.set_cons_zero, List.set_cons_succ]
      refine wpAnyH_take (i := 2) (v := ?_) rfl (by kernel_rfl) (by kernel_rfl) (by kernel_rfl) (fun _ _ _ h => h) (Or.inl ⟨by rfl, ?_⟩) (by assumption) ?_
      rotate_left
      · (intro w' hSw; (try dsimp only at hSw); go_simp; try with_reducible rfl)
      try simp only [Act.put, List.getElem_toArray, List.getElem_cons_zero, List.getElem_cons_succ, List.setIfInBounds_toArray, List.set_cons_zero, List.set_cons_succ]
      refine wpAnyH_take (i := 3) (v := ?_) rfl (by kernel_rfl) (by kernel_rfl) (by kernel_rfl) (fun _ _ _ h => h) (Or.inl ⟨by rfl, ?_⟩) (by assumption) ?_
      rotate_left
      · (intro w' hSw; (try dsimp only at hSw); go_simp; try with_reducible rfl)
      try simp only [Act.put, List.getElem_toArray, List.getElem_cons_zero, List.getElem_cons_succ, List.setIfInBounds_toArray, List.set_cons_zero, List.set_cons_succ]
      refine wpAnyH_take (i := 4) (v := ?_) rfl (by kernel_rfl) (by kernel_rfl) (by kernel_rfl) (fun _ _ _ h => h) (Or.inl ⟨by rfl, ?_⟩) (by assumption) ?_
      rotate_left
      · (intro w' hSw; (try dsimp only at hSw); go_simp; try with_reducible rfl)
      try simp only [Act.put, List.getElem_toArray, List.getElem_cons_zero, List.getElem_cons_succ, List.setIfInBounds_toArray, List.set_cons_zero, List.set_cons_succ]
      refine wpAnyH_take (i := 5) (v := ?_) rfl (by kernel_rfl) (by kernel_rfl) (by kernel_rfl) (fun _ _ _ h => h) (Or.inl ⟨by rfl, ?_⟩) (by assumption) ?_
      rotate_left
      · (intro w' hSw; (try dsimp only at hSw); go_simp; try with_reducible rfl)
      try simp only [Act.put, List.getElem_toArray, List.getElem_cons_zero, List.getElem_cons_succ, List.setIfInBounds_toArray, List.set_cons_zero, List.set_cons_succ]
      refine wpAnyH_take (i := 6) (v := ?_) rfl (by kernel_rfl) (by kernel_rfl) (by kernel_rfl) (fun _ _ _ h => h) (Or.inl ⟨by rfl, ?_⟩) (by assumption) ?_
      rotate_left
      · (intro w' hSw; (try dsimp only at hSw); go_simp; try with_reducible rfl)
      try simp only [Act.put, List.getElem_toArray, List.getElem_cons_zero, List.getElem_cons_succ, List.setIfInBounds_toArray, List.set_cons_zero, List.set_cons_succ]
      refine wpAnyH_take (i := 7) (v := ?_) rfl (by kernel_rfl) (by kernel_rfl) (by kernel_rfl) (fun _ _ _ h => h) (Or.inl ⟨by rfl, ?_⟩) (by assumption) ?_
      rotate_left
      · (intro w' hSw; (try dsimp only at hSw); go_simp; try with_reducible rfl)
      try simp only [Act.put, List.getElem_toArray, List.getElem_cons_zero, List.getElem_cons_succ, List.setIfInBounds_toArray, List.set_cons_zero, List.set_cons_succ]
      refine wpAnyH_take (i := 8) (v := ?_) rfl (by kernel_rfl) (by kernel_rfl) (by kernel_rfl) (fun _ _ _ h => h) (Or.inl ⟨by rfl, ?_⟩) (by assumption) ?_
      rotate_left
      · (intro w' hSw; (try dsimp only at hSw); go_simp; try with_reducible rfl)
      try simp only [Act.put, List.getElem_toArray, List.getElem_cons_zero, List.getElem_cons_succ, List.setIfInBounds_toArray, List.set_cons_zero, List.set_cons_succ]
      refine wpAnyH_take (i := 9) (v := ?_) rfl (by kernel_rfl) (by kernel_rfl) (by kernel_rfl) (fun _ _ _ h => h) (Or.inl ⟨by rfl, ?_⟩) (by assumption) ?_
      rotate_left
      · (intro w' hSw; (try dsimp only at hSw); go_simp; try with_reducible rfl)
      try simp only [Act.put, List.getElem_toArray, List.getElem_cons_zero, List.getElem_cons_succ, List.setIfInBounds_toArray, List.set_cons_zero, List.set_cons_succ]
      refine wpAnyH_take (i := 10) (v := ?_) rfl (by kernel_rfl) (by kernel_rfl) (by kernel_rfl) (fun _ _ _ h => h) (Or.inl ⟨by rfl, ?_⟩) (by assumption) ?_
      rotate_left
      · (intro w' hSw; (try dsimp only at hSw); go_simp; try with_reducible rfl)
      try simp only [Act.put, List.getElem_toArray, List.getElem_cons_zero, List.getElem_cons_succ, List.setIfInBounds_toArray, List.set_cons_zero, List.set_cons_succ]
      refine wpAnyH_take (i := 11) (v := ?_) rfl (by kernel_rfl) (by kernel_rfl) (by kernel_rfl) (fun _ _ _ h => h) (Or.inl ⟨by rfl, ?_⟩) (by assumption) ?_
      rotate_left
      · (intro w' hSw; (try dsimp only at hSw); go_simp; try with_reducible rfl)
      try simp only [Act.put, List.getElem_toArray, List.getElem_cons_zero, List.getElem_cons_succ, List.setIfInBounds_toArray, List.set_cons_zero, List.set_cons_succ]
      refine wpAnyH_ready (rs := [12, 17]) (by kernel_rfl) (by simp) ?_
      refine AllReadyH.cons (o := _) rfl (fun K hK => ?_) (AllReadyH.cons (o := _) rfl (fun K hK => ?_) AllReadyH.nil)
      · go_simp
        go_at_call 24
        refine (Hp.out _ hbD).mono ?_
        rintro e w9 ⟨hb9, hg⟩
        simp only at hg
        subst hg
        unfold Stm.val stm0
        go_wp2_with fail
        refine hK.out _ _ (rkS hS1 hb9) (fun hS2 => ?_)
        clear hK K
        try simp only [Act.put, List.getElem_toArray, List.getElem_cons_zero, List.getElem_cons_succ, List.setIfInBounds_toArray, List.set_cons_zero, List.set_cons_succ]
        have hb2 := hS2.2.2
        refine wpAnyH_take (i := 13) (v := ?_) rfl (by kernel_rfl) (by kernel_rfl) (by kernel_rfl) (fun _ _ _ h => h) (Or.inl ⟨by rfl, ?_⟩) (by assumption) ?_
        rotate_left
        · (intro w' hSw; (try dsimp only at hSw); go_simp; try with_reducible rfl)
        try simp only [Act.put, List.getElem_toArray, List.getElem_cons_zero, List.getElem_cons_succ, List.setIfInBounds_toArray, List.set_cons_zero, List.set_cons_succ]
        refine wpAnyH_take (i := 14) (v := ?_) rfl (by kernel_rfl) (by kernel_rfl) (by kernel_rfl) (fun _ _ _ h => h) (Or.inl ⟨by rfl, ?_⟩) (by assumption) ?_
        rotate_left
        · (intro w' hSw; (try dsimp only at hSw); go_simp; try with_reducible rfl)
        try simp only [Act.put, List.getElem_toArray, List.getElem_cons_zero, List.getElem_cons_succ, List.setIfInBounds_toArray, List.set_cons_zero, List.set_cons_succ]
        refine wpAnyH_take (i := 15) (v := ?_) rfl (by kernel_rfl) (by kernel_rfl) (by kernel_rfl) (fun _ _ _ h => h) (Or.inl ⟨by rfl, ?_⟩) (by assumption) ?_
        rotate_left
        · (intro w' hSw; (try dsimp only at hSw); go_simp; try with_reducible rfl)
        try simp only [Act.put, List.getElem_toArray, List.getElem_cons_zero, List.getElem_cons_succ, List.setIfInBounds_toArray, List.set_cons_zero, List.set_cons_succ]
        refine wpAnyH_take (i := 16) (v := ?_) rfl (by kernel_rfl) (by kernel_rfl) (by kernel_rfl) (fun _ _ _ h => h) (Or.inl ⟨by rfl, ?_⟩) (by assumption) ?_
        rotate_left
        · (intro w' hSw; (try dsimp only at hSw); go_simp; try with_reducible rfl)
        try simp only [Act.put, List.getElem_toArray, List.getElem_cons_zero, List.getElem_cons_succ, List.setIfInBounds_toArray, List.set_cons_zero, List.set_cons_succ]
        refine wpAnyH_ready (rs := [17]) (by kernel_rfl) (by simp) ?_
        refine AllReadyH.cons (o := _) rfl (fun K hK => ?_) AllReadyH.nil
        go_simp
        refine hK.out _ _ (rkS hS2 (alloc_below _ _)) (fun hS3 => ?_)
        clear hK K
        try simp only [Act.put, List.getElem_toArray, List.getElem_cons_zero, List.getElem_cons_succ, List.setIfInBounds_toArray, List.set_cons_zero, List.set_cons_succ]
        have HE := Lib.hid (stepB (stepB HM.out.bel hb2) (alloc_below w9 (.cells (smC stm0 (.slice none 0 0) (.slice none 0 0)) 26)))
        refine wpAnyH_ready (rs := [18]) (by kernel_rfl) (by simp) ?_
        refine AllReadyH.cons (o := _) rfl (fun K hK => ?_) AllReadyH.nil
        go_simp
        refine hK.out _ _ (rkS hS2 (alloc_below _ _)) (fun hS4 => ?_)
        clear hK K
        try simp only [Act.put, List.getElem_toArray, List.getElem_cons_zero, List.getElem_cons_succ, List.setIfInBounds_toArray, List.set_cons_zero, List.set_cons_succ]
        refine wpAnyH_take (i := 19) (v := ?_) rfl (by kernel_rfl) (by kernel_rfl) (by kernel_rfl) (fun _ _ _ h => h) (Or.inl ⟨by rfl, ?_⟩) (by assumption) ?_
        rotate_left
        · (intro w' hSw; (try dsimp only at hSw); go_simp; try with_reducible rfl)
        try simp only [Act.put, List.getElem_toArray, List.getElem_cons_zero, List.getElem_cons_succ, List.setIfInBounds_toArray, List.set_cons_zero, List.set_cons_succ]
        refine wpAnyH_take (i := 20) (v := ?_) rfl (by kernel_rfl) (by kernel_rfl) (by kernel_rfl) (fun _ _ _ h => h) (Or.inl ⟨by rfl, ?_⟩) (by assumption) ?_
        rotate_left
        · (intro w' hSw; (try dsimp only at hSw); go_simp; try with_reducible rfl)
        try simp only [Act.put, List.getElem_toArray, List.getElem_cons_zero, List.getElem_cons_succ, List.setIfInBounds_toArray, List.set_cons_zero, List.set_cons_succ]
        refine wpAnyH_done (by kernel_rfl) ?_ _
        go_wp2_with fail
        go_meet
        exact ⟨_, rfl, rfl, HE⟩
      · go_simp
        refine hK.out _ _ (rkS hS1 (alloc_below _ _)) (fun hS2 => ?_)
        clear hK K
        try simp only [Act.put, List.getElem_toArray, List.getElem_cons_zero, List.getElem_cons_succ, List.setIfInBounds_toArray, List.set_cons_zero, List.set_cons_succ]
        refine wpAnyH_ready (rs := [12]) (by kernel_rfl) (by simp) ?_
        refine AllReadyH.cons (o := _) rfl (fun K hK => ?_) AllReadyH.nil
        go_simp
        go_at_call 24
        refine (Hp.out _ hS2.2.2).mono ?_
        rintro e w9 ⟨hb9, hg⟩
        simp only at hg
        subst hg
        unfold Stm.val stm0
        go_wp2_with fail
        refine hK.out _ _ (rkS hS2 hb9) (fun hS3 => ?_)
        clear hK K
        try simp only [Act.put, List.getElem_toArray, List.getElem_cons_zero, List.getElem_cons_succ, List.setIfInBounds_toArray, List.set_cons_zero, List.set_cons_succ]
        refine wpAnyH_take (i := 13) (v := ?_) rfl (by kernel_rfl) (by kernel_rfl) (by kernel_rfl) (fun _ _ _ h => h) (Or.inl ⟨by rfl, ?_⟩) (by assumption) ?_
        rotate_left
        · (intro w' hSw; (try dsimp only at hSw); go_simp; try with_reducible rfl)
        try simp only [Act.put, List.getElem_toArray, List.getElem_cons_zero, List.getElem_cons_succ, List.setIfInBounds_toArray, List.set_cons_zero, List.set_cons_succ]
        refine wpAnyH_take (i := 14) (v := ?_) rfl (by kernel_rfl) (by kernel_rfl) (by kernel_rfl) (fun _ _ _ h => h) (Or.inl ⟨by rfl, ?_⟩) (by assumption) ?_
        rotate_left
        · (intro w' hSw; (try dsimp only at hSw); go_simp; try with_reducible rfl)
        try simp only [Act.put, List.getElem_toArray, List.getElem_cons_zero, List.getElem_cons_succ, List.setIfInBounds_toArray, List.set_cons_zero, List.set_cons_succ]
        refine wpAnyH_take (i := 15) (v := ?_) rfl (by kernel_rfl) (by kernel_rfl) (by kernel_rfl) (fun _ _ _ h => h) (Or.inl ⟨by rfl, ?_⟩) (by assumption) ?_
        rotate_left
        · (intro w' hSw; (try dsimp only at hSw); go_simp; try with_reducible rfl)
        try simp only [Act.put, List.getElem_toArray, List.getElem_cons_zero, List.getElem_cons_succ, List.setIfInBounds_toArray, List.set_cons_zero, List.set_cons_succ]
        refine wpAnyH_take (i := 16) (v := ?_) rfl (by kernel_rfl) (by kernel_rfl) (by kernel_rfl) (fun _ _ _ h => h) (Or.inl ⟨by rfl, ?_⟩) (by assumption) ?_
        rotate_left
        · (intro w' hSw; (try dsimp only at hSw); go_simp; try with_reducible rfl)
        try simp only [Act.put, List.getElem_toArray, List.getElem_cons_zero, List.getElem_cons_succ, List.setIfInBounds_toArray, List.set_cons_zero, List.set_cons_succ]
        have hz9 := (hb9.block wD.heap.size (lt_of_heap (heap_alloc_new wD _))).trans (heap_alloc_new wD (.cells (smC stm0 (.slice none 0 0) (.slice none 0 0)) 26))
        obtain ⟨⟨t0, t1, t2, t3, t4, t5, t6⟩, u0, u1, u2, u3, u4, u5, u6⟩ := seven hz9
        have hX9 := lt_of_heap hz9
        have hW0 : w0.heap.size < W.heap.size := World.block_lt_of_cell? _ _ s0
        have hlo : W.heap.size ≤ wD.heap.size := by rw [hdz.out]; exact Nat.le_refl _
        have hE0 := stepB HM.out.bel hS3.2.2
        have hw0D : w0.heap.size ≠ wD.heap.size := by omega
        clear hz9
        refine wpAnyH_ready (rs := [18]) (by kernel_rfl) (by simp) ?_
        refine AllReadyH.cons (o := _) rfl (fun K hK => ?_) AllReadyH.nil
        go_simp
        refine hK.out _ _ ⟨sets7_cell hS3.1 hw0D _ _ _ _ _ _ _, sets7_cell hS3.2.1 hw0D _ _ _ _ _ _ _, sets7_below hS3.2.2 hlo _ _ _ _ _ _ _⟩ (fun hS4 => ?_)
        clear hK K
        try simp only [Act.put, List.getElem_toArray, List.getElem_cons_zero, List.getElem_cons_succ, List.setIfInBounds_toArray, List.set_cons_zero, List.set_cons_succ]
        refine wpAnyH_take (i := 19) (v := ?_) rfl (by kernel_rfl) (by kernel_rfl) (by kernel_rfl) (fun _ _ _ h => h) (Or.inl ⟨by rfl, ?_⟩) (by assumption) ?_
        rotate_left
        · (intro w' hSw; (try dsimp only at hSw); go_simp; try with_reducible rfl)
        try simp only [Act.put, List.getElem_toArray, List.getElem_cons_zero, List.getElem_cons_succ, List.setIfInBounds_toArray, List.set_cons_zero, List.set_cons_succ]
        refine wpAnyH_take (i := 20) (v := ?_) rfl (by kernel_rfl) (by kernel_rfl) (by kernel_rfl) (fun _ _ _ h => h) (Or.inl ⟨by rfl, ?_⟩) (by assumption) ?_
        rotate_left
        · (intro w' hSw; (try dsimp only at hSw); go_simp; try with_reducible rfl)
        try simp only [Act.put, List.getElem_toArray, List.getElem_cons_zero, List.getElem_cons_succ, List.setIfInBounds_toArray, List.set_cons_zero, List.set_cons_succ]
        refine wpAnyH_done (by kernel_rfl) ?_ _
        go_wp2_with fail
        go_meet
        exact ⟨_, rfl, rfl, sets7_below hE0 (Nat.le_of_lt (by omega)) _ _ _ _ _ _ _⟩
    case rest =>
      obtain ⟨T, rfl, rfl, HR⟩ := hcut
      have h1 : ((i : Int) == 2) = true := by rw [Hsame.out.1]; rfl
      have h2 : ((k : Int) == 2) = true := by rw [Hsame.out.2]; rfl
      clear s0 s1 z0 z1 z2 z3 y0 y1 y2 y3 Hp
      go_wp2_with fail
      go_ret
      exact ⟨rfl, stepB Hb0.out HR.out⟩
  · have Hp := Lib.hid (fun (w2 : World) (hb : Below W.heap.size W w2) => Parse_calls 60 ⟨(rkText i k).toArray⟩ w2 (by rw [size_mk]; have := hlt.out; unfold maxLen; omega) (Hew.out w2 hb) (r := .ok (rkX i k)) (by rw [L_mk]; exact rk_read ⟨i, hi6⟩ ⟨k, hk6⟩ hsame))
    rw [rkText_bytes] at Hp
    have i0 : (0 : Int) ≤ (i : Int) := by omega
    have i1 : (i : Int) < 6 := by omega
    have i2 : ¬ (6 : Int) ≤ (i : Int) := by omega
    have k0 : (0 : Int) ≤ (k : Int) := by omega
    have k1 : (k : Int) < 6 := by omega
    have k2 : ¬ (6 : Int) ≤ (k : Int) := by omega
    generalize hsi : rkSigns.getD i [] = si at *
    generalize hsk : rkSigns.getD k [] = sk at *
    have z0 : 22 + si.length ≤ 9223372036854775807 := by omega
    have z1 : 22 + si.length + 3 ≤ 9223372036854775807 := by omega
    have z2 : 22 + si.length + 3 + sk.length ≤ 9223372036854775807 := by omega
    have z3 : 22 + si.length + 3 + sk.length + 2 ≤ 9223372036854775807 := by omega
    have y0 : ¬ 9223372036854775807 < 22 + si.length := by omega
    have y1 : ¬ 9223372036854775807 < 22 + si.length + 3 := by omega
    have y2 : ¬ 9223372036854775807 < 22 + si.length + 3 + sk.length := by omega
    have y3 : ¬ 9223372036854775807 < 22 + si.length + 3 + sk.length + 2 := by omega
    rw [hi, hk]
    clear hsi hsk Htx
    go_cut [10, 11] (fun s10 s11 wx => ∃ T, s10 = .pointer (some ⟨T, 0, none⟩) ∧ s11 = .int .i64 0 ∧ Hid (RkM w0 wx ∧ RkR wx T (rkSteps i k)))
    case first =>
      have hS0 : W.drew.cell? ⟨w0.heap.size, i, none⟩ = some (.string ⟨si.toArray⟩) ∧ W.drew.cell? ⟨w0.heap.size, k, none⟩ = some (.string ⟨sk.toArray⟩) ∧ Below W.heap.size W W.drew := ⟨s0, s1, (Below.refl _ _).drew⟩
      have hw0 := World.block_lt_of_cell? _ _ s0
      have Hne7 := Lib.hid (show w0.heap.size ≠ W.heap.size by have : w0.heap.size < W.heap.size := hw0; omega)
      refine wp_region_held_drew (S := fun w' => w'.cell? ⟨w0.heap.size, i, none⟩ = some (.string ⟨si.toArray⟩) ∧ w'.cell? ⟨w0.heap.size, k, none⟩ = some (.string ⟨sk.toArray⟩) ∧ Below W.heap.size W w') (by kernel_rfl) hS0 (fun hS1 => ?_)
      have hdz : Hid ((World.drew W).heap.size = W.heap.size) := rfl
      have hbD := hS1.2.2
      clear hS0
      generalize World.drew W = wD at *
      refine wpAnyH_take (i := 0) (v := ?_) rfl (by kernel_rfl) (by kernel_rfl) (by kernel_rfl) (fun _ _ _ h => h) (Or.inl ⟨by rfl, ?_⟩) (by assumption) ?_
      rotate_left
      · (intro w' hSw; (try dsimp only at hSw); go_simp; try with_reducible rfl)
      try simp only [Act.put, List.getElem_toArray, List.getElem_cons_zero, List.getElem_cons_succ, List.setIfInBounds_toArray, List.set_cons_zero, List.set_cons_succ]
      refine wpAnyH_take (i := 1) (v := ?_) rfl (by kernel_rfl) (by kernel_rfl) (by kernel_rfl) (fun _ _ _ h => h) (Or.inl ⟨by rfl, ?_⟩) (by assumption) ?_
      rotate_left
      · (intro w' hSw; (try dsimp only at hSw); go_simp; try with_reducible rfl)
      try simp only [Act.put, List.getElem_toArray, List.getElem_cons_zero, List.getElem_cons_succ, List.setIfInBounds_toArray, List.set_cons_zero, List.set_cons_succ]
      refine wpAnyH_take (i := 2) (v := ?_) rfl (by kernel_rfl) (by kernel_rfl) (by kernel_rfl) (fun _ _ _ h => h) (Or.inl ⟨by rfl, ?_⟩) (by assumption) ?_
      rotate_left
      · (intro w' hSw; (try dsimp only at hSw); go_simp; try with_reducible rfl)
      try simp only [Act.put, List.getElem_toArray, List.getElem_cons_zero, List.getElem_cons_succ, List.setIfInBounds_toArray, List.set_cons_zero, List.set_cons_succ]
      refine wpAnyH_take (i := 3) (v := ?_) rfl (by kernel_rfl) (by kernel_rfl) (by kernel_rfl) (fun _ _ _ h => h) (Or.inl ⟨by rfl, ?_⟩) (by assumption) ?_
      rotate_left
      · (intro w' hSw; (try dsimp only at hSw); go_simp; try with_reducible rfl)
      try simp only [Act.put, List.getElem_toArray, List.getElem_cons_zero, List.getElem_cons_succ, List.setIfInBounds_toArray, List.set_cons_zero, List.set_cons_succ]
      refine wpAnyH_take (i := 4) (v := ?_) rfl (by kernel_rfl) (by kernel_rfl) (by kernel_rfl) (fun _ _ _ h => h) (Or.inl ⟨by rfl, ?_⟩) (by assumption) ?_
      rotate_left
      · (intro w' hSw; (try dsimp only at hSw); go_simp; try with_reducible rfl)
      try simp only [Act.put, List.getElem_toArray, List.getElem_cons_zero, List.getElem_cons_succ, List.setIfInBounds_toArray, List.set_cons_zero, List.set_cons_succ]
      refine wpAnyH_take (i := 5) (v := ?_) rfl (by kernel_rfl) (by kernel_rfl) (by kernel_rfl) (fun _ _ _ h => h) (Or.inl ⟨by rfl, ?_⟩) (by assumption) ?_
      rotate_left
      · (intro w' hSw; (try dsimp only at hSw); go_simp; try with_reducible rfl)
      try simp only [Act.put, List.getElem_toArray, List.getElem_cons_zero, List.getElem_cons_succ, List.setIfInBounds_toArray, List.set_cons_zero, List.set_cons_succ]
      refine wpAnyH_take (i := 6) (v := ?_) rfl (by kernel_rfl) (by kernel_rfl) (by kernel_rfl) (fun _ _ _ h => h) (Or.inl ⟨by rfl, ?_⟩) (by assumption) ?_
      rotate_left
      · (intro w' hSw; (try dsimp only at hSw); go_simp; try with_reducible rfl)
      try simp only [Act.put, List.getElem_toArray, List.getElem_cons_zero, List.getElem_cons_succ, List.setIfInBounds_toArray, List.set_cons_zero, List.set_cons_succ]
      refine wpAnyH_take (i := 7) (v := ?_) rfl (by kernel_rfl) (by kernel_rfl) (by kernel_rfl) (fun _ _ _ h => h) (Or.inl ⟨by rfl, ?_⟩) (by assumption) ?_
      rotate_left
      · (intro w' hSw; (try dsimp only at hSw); go_simp; try with_reducible rfl)
      try simp only [Act.put, List.getElem_toArray, List.getElem_cons_zero, List.getElem_cons_succ, List.setIfInBounds_toArray, List.set_cons_zero, List.set_cons_succ]
      refine wpAnyH_take (i := 8) (v := ?_) rfl (by kernel_rfl) (by kernel_rfl) (by kernel_rfl) (fun _ _ _ h => h) (Or.inl ⟨by rfl, ?_⟩) (by assumption) ?_
      rotate_left
      · (intro w' hSw; (try dsimp only at hSw); go_simp; try with_reducible rfl)
      try simp only [Act.put, List.getElem_toArray, List.getElem_cons_zero, List.getElem_cons_succ, List.setIfInBounds_toArray, List.set_cons_zero, List.set_cons_succ]
      refine wpAnyH_take (i := 9) (v := ?_) rfl (by kernel_rfl) (by kernel_rfl) (by kernel_rfl) (fun _ _ _ h => h) (Or.inl ⟨by rfl, ?_⟩) (by assumption) ?_
      rotate_left
      · (intro w' hSw; (try dsimp only at hSw); go_simp; try with_reducible rfl)
      try simp only [Act.put, List.getElem_toArray, List.getElem_cons_zero, List.getElem_cons_succ, List.setIfInBounds_toArray, List.set_cons_zero, List.set_cons_succ]
      refine wpAnyH_take (i := 10) (v := ?_) rfl (by kernel_rfl) (by kernel_rfl) (by kernel_rfl) (fun _ _ _ h => h) (Or.inl ⟨by rfl, ?_⟩) (by assumption) ?_
      rotate_left
      · (intro w' hSw; (try dsimp only at hSw); go_simp; try with_reducible rfl)
      try simp only [Act.put, List.getElem_toArray, List.getElem_cons_zero, List.getElem_cons_succ, List.setIfInBounds_toArray, List.set_cons_zero, List.set_cons_succ]
      refine wpAnyH_take (i := 11) (v := ?_) rfl (by kernel_rfl) (by kernel_rfl) (by kernel_rfl) (fun _ _ _ h => h) (Or.inl ⟨by rfl, ?_⟩) (by assumption) ?_
      rotate_left
      · (intro w' hSw; (try dsimp only at hSw); go_simp; try with_reducible rfl)
      try simp only [Act.put, List.getElem_toArray, List.getElem_cons_zero, List.getElem_cons_succ, List.setIfInBounds_toArray, List.set_cons_zero, List.set_cons_succ]
      refine wpAnyH_ready (rs := [12, 17]) (by kernel_rfl) (by simp) ?_
      refine AllReadyH.cons (o := _) rfl (fun K hK => ?_) (AllReadyH.cons (o := _) rfl (fun K hK => ?_) AllReadyH.nil)
      · go_simp
        go_at_call 24
        refine (Hp.out _ hbD).mono ?_
        rintro e w9 ⟨hb9, vi, ve, rfl, hi9, hv9, hf9, hvi9, hve9⟩
        obtain ⟨ai, ni, ci, rfl, -⟩ := id hi9
        obtain ⟨g9, o9, c9, rfl, q1, q6, q12⟩ := rk_steps hv9
        clear hi9 hf9
        unfold Stm.val
        go_wp2_with fail
        refine hK.out _ _ (rkS hS1 hb9) (fun hS2 => ?_)
        clear hK K
        try simp only [Act.put, List.getElem_toArray, List.getElem_cons_zero, List.getElem_cons_succ, List.setIfInBounds_toArray, List.set_cons_zero, List.set_cons_succ]
        have hb2 := hS2.2.2
        refine wpAnyH_take (i := 13) (v := ?_) rfl (by kernel_rfl) (by kernel_rfl) (by kernel_rfl) (fun _ _ _ h => h) (Or.inl ⟨by rfl, ?_⟩) (by assumption) ?_
        rotate_left
        · (intro w' hSw; (try dsimp only at hSw); go_simp; try with_reducible rfl)
        try simp only [Act.put, List.getElem_toArray, List.getElem_cons_zero, List.getElem_cons_succ, List.setIfInBounds_toArray, List.set_cons_zero, List.set_cons_succ]
        refine wpAnyH_take (i := 14) (v := ?_) rfl (by kernel_rfl) (by kernel_rfl) (by kernel_rfl) (fun _ _ _ h => h) (Or.inl ⟨by rfl, ?_⟩) (by assumption) ?_
        rotate_left
        · (intro w' hSw; (try dsimp only at hSw); go_simp; try with_reducible rfl)
        try simp only [Act.put, List.getElem_toArray, List.getElem_cons_zero, List.getElem_cons_succ, List.setIfInBounds_toArray, List.set_cons_zero, List.set_cons_succ]
        refine wpAnyH_take (i := 15) (v := ?_) rfl (by kernel_rfl) (by kernel_rfl) (by kernel_rfl) (fun _ _ _ h => h) (Or.inl ⟨by rfl, ?_⟩) (by assumption) ?_
        rotate_left
        · (intro w' hSw; (try dsimp only at hSw); go_simp; try with_reducible rfl)
        try simp only [Act.put, List.getElem_toArray, List.getElem_cons_zero, List.getElem_cons_succ, List.setIfInBounds_toArray, List.set_cons_zero, List.set_cons_succ]
        refine wpAnyH_take (i := 16) (v := ?_) rfl (by kernel_rfl) (by kernel_rfl) (by kernel_rfl) (fun _ _ _ h => h) (Or.inl ⟨by rfl, ?_⟩) (by assumption) ?_
        rotate_left
        · (intro w' hSw; (try dsimp only at hSw); go_simp; try with_reducible rfl)
        try simp only [Act.put, List.getElem_toArray, List.getElem_cons_zero, List.getElem_cons_succ, List.setIfInBounds_toArray, List.set_cons_zero, List.set_cons_succ]
        refine wpAnyH_ready (rs := [17]) (by kernel_rfl) (by simp) ?_
        refine AllReadyH.cons (o := _) rfl (fun K hK => ?_) AllReadyH.nil
        go_simp
        refine hK.out _ _ (rkS hS2 (alloc_below _ _)) (fun hS3 => ?_)
        clear hK K
        try simp only [Act.put, List.getElem_toArray, List.getElem_cons_zero, List.getElem_cons_succ, List.setIfInBounds_toArray, List.set_cons_zero, List.set_cons_succ]
        have hn9 := heap_alloc_new w9 (.cells (smC (rkX i k) (.slice ai ni ci) (.slice (some ⟨g9, o9, none⟩) 5 c9)) 26)
        have hba := alloc_below w9 (.cells (smC (rkX i k) (.slice ai ni ci) (.slice (some ⟨g9, o9, none⟩) 5 c9)) 26)
        have HE := Lib.hid (And.intro (HM.out.step (stepB hb2 hba)) (show RkR (w9.alloc (.cells (smC (rkX i k) (.slice ai ni ci) (.slice (some ⟨g9, o9, none⟩) 5 c9)) 26)) w9.heap.size (rkSteps i k) from ⟨g9, o9, c9, (seven hn9).1.2.2.2.2.1, keepC q1 hba, keepC q6 hba, keepC q12 hba⟩))
        clear hn9 hba
        refine wpAnyH_ready (rs := [18]) (by kernel_rfl) (by simp) ?_
        refine AllReadyH.cons (o := _) rfl (fun K hK => ?_) AllReadyH.nil
        go_simp
        refine hK.out _ _ (rkS hS2 (alloc_below _ _)) (fun hS4 => ?_)
        clear hK K
        try simp only [Act.put, List.getElem_toArray, List.getElem_cons_zero, List.getElem_cons_succ, List.setIfInBounds_toArray, List.set_cons_zero, List.set_cons_succ]
        refine wpAnyH_take (i := 19) (v := ?_) rfl (by kernel_rfl) (by kernel_rfl) (by kernel_rfl) (fun _ _ _ h => h) (Or.inl ⟨by rfl, ?_⟩) (by assumption) ?_
        rotate_left
        · (intro w' hSw; (try dsimp only at hSw); go_simp; try with_reducible rfl)
        try simp only [Act.put, List.getElem_toArray, List.getElem_cons_zero, List.getElem_cons_succ, List.setIfInBounds_toArray, List.set_cons_zero, List.set_cons_succ]
        refine wpAnyH_take (i := 20) (v := ?_) rfl (by kernel_rfl) (by kernel_rfl) (by kernel_rfl) (fun _ _ _ h => h) (Or.inl ⟨by rfl, ?_⟩) (by assumption) ?_
        rotate_left
        · (intro w' hSw; (try dsimp only at hSw); go_simp; try with_reducible rfl)
        try simp only [Act.put, List.getElem_toArray, List.getElem_cons_zero, List.getElem_cons_succ, List.setIfInBounds_toArray, List.set_cons_zero, List.set_cons_succ]
        refine wpAnyH_done (by kernel_rfl) ?_ _
        go_wp2_with fail
        go_meet
        exact ⟨_, rfl, rfl, HE⟩
      · go_simp
        refine hK.out _ _ (rkS hS1 (alloc_below _ _)) (fun hS2 => ?_)
        clear hK K
        try simp only [Act.put, List.getElem_toArray, List.getElem_cons_zero, List.getElem_cons_succ, List.setIfInBounds_toArray, List.set_cons_zero, List.set_cons_succ]
        refine wpAnyH_ready (rs := [12]) (by kernel_rfl) (by simp) ?_
        refine AllReadyH.cons (o := _) rfl (fun K hK => ?_) AllReadyH.nil
        go_simp
        go_at_call 24
        refine (Hp.out _ hS2.2.2).mono ?_
        rintro e w9 ⟨hb9, vi, ve, rfl, hi9, hv9, hf9, hvi9, hve9⟩
        obtain ⟨ai, ni, ci, rfl, -⟩ := id hi9
        obtain ⟨g9, o9, c9, rfl, q1, q6, q12⟩ := rk_steps hv9
        clear hi9 hf9
        unfold Stm.val
        go_wp2_with fail
        refine hK.out _ _ (rkS hS2 hb9) (fun hS3 => ?_)
        clear hK K
        try simp only [Act.put, List.getElem_toArray, List.getElem_cons_zero, List.getElem_cons_succ, List.setIfInBounds_toArray, List.set_cons_zero, List.set_cons_succ]
        refine wpAnyH_take (i := 13) (v := ?_) rfl (by kernel_rfl) (by kernel_rfl) (by kernel_rfl) (fun _ _ _ h => h) (Or.inl ⟨by rfl, ?_⟩) (by assumption) ?_
        rotate_left
        · (intro w' hSw; (try dsimp only at hSw); go_simp; try with_reducible rfl)
        try simp only [Act.put, List.getElem_toArray, List.getElem_cons_zero, List.getElem_cons_succ, List.setIfInBounds_toArray, List.set_cons_zero, List.set_cons_succ]
        refine wpAnyH_take (i := 14) (v := ?_) rfl (by kernel_rfl) (by kernel_rfl) (by kernel_rfl) (fun _ _ _ h => h) (Or.inl ⟨by rfl, ?_⟩) (by assumption) ?_
        rotate_left
        · (intro w' hSw; (try dsimp only at hSw); go_simp; try with_reducible rfl)
        try simp only [Act.put, List.getElem_toArray, List.getElem_cons_zero, List.getElem_cons_succ, List.setIfInBounds_toArray, List.set_cons_zero, List.set_cons_succ]
        refine wpAnyH_take (i := 15) (v := ?_) rfl (by kernel_rfl) (by kernel_rfl) (by kernel_rfl) (fun _ _ _ h => h) (Or.inl ⟨by rfl, ?_⟩) (by assumption) ?_
        rotate_left
        · (intro w' hSw; (try dsimp only at hSw); go_simp; try with_reducible rfl)
        try simp only [Act.put, List.getElem_toArray, List.getElem_cons_zero, List.getElem_cons_succ, List.setIfInBounds_toArray, List.set_cons_zero, List.set_cons_succ]
        refine wpAnyH_take (i := 16) (v := ?_) rfl (by kernel_rfl) (by kernel_rfl) (by kernel_rfl) (fun _ _ _ h => h) (Or.inl ⟨by rfl, ?_⟩) (by assumption) ?_
        rotate_left
        · (intro w' hSw; (try dsimp only at hSw); go_simp; try with_reducible rfl)
        try simp only [Act.put, List.getElem_toArray, List.getElem_cons_zero, List.getElem_cons_succ, List.setIfInBounds_toArray, List.set_cons_zero, List.set_cons_succ]
        have hz9 := (hb9.block wD.heap.size (lt_of_heap (heap_alloc_new wD _))).trans (heap_alloc_new wD (.cells (smC stm0 (.slice none 0 0) (.slice none 0 0)) 26))
        obtain ⟨⟨t0, t1, t2, t3, t4, t5, t6⟩, u0, u1, u2, u3, u4, u5, u6⟩ := seven hz9
        have hX9 := lt_of_heap hz9
        have hW0 : w0.heap.size < W.heap.size := World.block_lt_of_cell? _ _ s0
        have hgB : g9 ≠ wD.heap.size := by have := hve9 g9 rfl; simp at this; omega
        have hlo : W.heap.size ≤ wD.heap.size := by rw [hdz.out]; exact Nat.le_refl _
        have HE := Lib.hid (And.intro (HM.out.step (hS3.2.2.trans ((again_below (Nat.le_refl _) (rkX i k) (.slice ai ni ci) (.slice (some ⟨g9, o9, none⟩) 5 c9)).mono hlo))) (show RkR (again w9 wD.heap.size (rkX i k) (.slice ai ni ci) (.slice (some ⟨g9, o9, none⟩) 5 c9)) wD.heap.size (rkSteps i k) from ⟨g9, o9, c9, again_four hz9 _ _ _, again_cell q1 hgB _ _ _, again_cell q6 hgB _ _ _, again_cell q12 hgB _ _ _⟩))
        have hw0D : w0.heap.size ≠ wD.heap.size := by omega
        clear hz9
        refine wpAnyH_ready (rs := [18]) (by kernel_rfl) (by simp) ?_
        refine AllReadyH.cons (o := _) rfl (fun K hK => ?_) AllReadyH.nil
        go_simp
        refine hK.out _ _ ⟨sets7_cell hS3.1 hw0D _ _ _ _ _ _ _, sets7_cell hS3.2.1 hw0D _ _ _ _ _ _ _, sets7_below hS3.2.2 hlo _ _ _ _ _ _ _⟩ (fun hS4 => ?_)
        clear hK K
        try simp only [Act.put, List.getElem_toArray, List.getElem_cons_zero, List.getElem_cons_succ, List.setIfInBounds_toArray, List.set_cons_zero, List.set_cons_succ]
        refine wpAnyH_take (i := 19) (v := ?_) rfl (by kernel_rfl) (by kernel_rfl) (by kernel_rfl) (fun _ _ _ h => h) (Or.inl ⟨by rfl, ?_⟩) (by assumption) ?_
        rotate_left
        · (intro w' hSw; (try dsimp only at hSw); go_simp; try with_reducible rfl)
        try simp only [Act.put, List.getElem_toArray, List.getElem_cons_zero, List.getElem_cons_succ, List.setIfInBounds_toArray, List.set_cons_zero, List.set_cons_succ]
        refine wpAnyH_take (i := 20) (v := ?_) rfl (by kernel_rfl) (by kernel_rfl) (by kernel_rfl) (fun _ _ _ h => h) (Or.inl ⟨by rfl, ?_⟩) (by assumption) ?_
        rotate_left
        · (intro w' hSw; (try dsimp only at hSw); go_simp; try with_reducible rfl)
        try simp only [Act.put, List.getElem_toArray, List.getElem_cons_zero, List.getElem_cons_succ, List.setIfInBounds_toArray, List.set_cons_zero, List.set_cons_succ]
        refine wpAnyH_done (by kernel_rfl) ?_ _
        go_wp2_with fail
        go_meet
        exact ⟨_, rfl, rfl, HE⟩
    case rest =>
      obtain ⟨T, rfl, rfl, HR⟩ := hcut
      obtain ⟨gx, ox, cx, x4, x0, x2, x6⟩ := HR.out.2
      have d0 := HR.out.1.kd i hi6
      have d1 := HR.out.1.kd k hk6
      have r0 := HR.out.1.rk i hi6
      have r1 := HR.out.1.rk k hk6
      have hns : ((i : Int) == 2) = false ∨ (((i : Int) == 2) = true ∧ ((k : Int) == 2) = false) := by
        by_cases h2 : i = 2
        · exact .inr ⟨by rw [h2]; rfl, by rw [beq_eq_false_iff_ne]; intro h; exact hsame ⟨h2, by omega⟩⟩
        · exact .inl (by rw [beq_eq_false_iff_ne]; omega)
      have hne := Hne.out
      clear s0 s1 z0 z1 z2 z3 y0 y1 y2 y3 Hp hsame
      by_cases hr : rkRank.getD k 0 ≤ rkRank.getD i 0
      · have hst : rkSteps i k = [⟨6, [112], 0⟩, ⟨6, [113], 0⟩, ⟨rkKinds.getD i 0, [], 0⟩, ⟨6, [114], 0⟩, ⟨rkKinds.getD k 0, [], 0⟩] := by unfold rkSteps; rw [if_pos hr]
        rw [hst] at x2 x6
        simp only [List.getD_cons_zero, List.getD_cons_succ] at x2 x6
        generalize rkKinds.getD i 0 = ki at *
        generalize rkKinds.getD k 0 = kk at *
        generalize rkRank.getD i 0 = ri at *
        generalize rkRank.getD k 0 = rk at *
        have hri : ¬ ((ri : Int) < rk) := by omega
        have hri2 : (rk : Int) ≤ ri := by omega
        clear hst hr
        rcases hns with h1 | ⟨h1, h2⟩
        all_goals
          go_wp2_with fail
          go_quiet (fail)
          go_wp2_with fail
          go_quiet (fail)
          go_wp2_with fail
          go_quiet (fail)
          go_wp2_with fail
          go_ret
          exact ⟨ret_bool (by simp), below_drewN (below_drewN (below_drewN (stepB Hb0.out HR.out.1.bel) _) _) _⟩
      · have hst : rkSteps i k = [⟨6, [112], 0⟩, ⟨6, [113], 0⟩, ⟨6, [114], 0⟩, ⟨rkKinds.getD k 0, [], 0⟩, ⟨rkKinds.getD i 0, [], 0⟩] := by unfold rkSteps; rw [if_neg hr]
        rw [hst] at x2 x6
        simp only [List.getD_cons_zero, List.getD_cons_succ] at x2 x6
        generalize rkKinds.getD i 0 = ki at *
        generalize rkKinds.getD k 0 = kk at *
        generalize rkRank.getD i 0 = ri at *
        generalize rkRank.getD k 0 = rk at *
        have hri : ((ri : Int) < rk) := by omega
        have hri2 : ¬ (rk : Int) ≤ ri := by omega
        have hk6b : ((6 : Int) == ki) = false := by rw [beq_eq_false_iff_ne]; omega
        have hrn : ¬ rk ≤ ri := hr
        clear hst hr
        rcases hns with h1 | ⟨h1, h2⟩
        all_goals
          go_wp2_with fail
          go_quiet (fail)
          go_wp2_with fail
          go_quiet (fail)
          go_wp2_with fail
          go_quiet (fail)
          go_wp2_with fail
          go_ret
          exact ⟨ret_bool (by simp), below_drewN (below_drewN (below_drewN (stepB Hb0.out HR.out.1.bel) _) _) _⟩

end Go.Proofs.YtghnkgeaocpmaaaGreatDoor.Pa
