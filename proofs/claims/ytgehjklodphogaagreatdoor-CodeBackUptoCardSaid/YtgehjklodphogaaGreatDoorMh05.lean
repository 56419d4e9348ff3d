/- Parts: QbL. -/
import Derived.Test.YtgehjklodphogaaGreatDoorMh04

/- A law's argument, opened: a list of instructions. -/
namespace Go.Proofs.YtgehjklodphogaaGreatDoor.Cd
open Go.RowKit Go.ChangeShapes Go.WideShapes Go.Deep Go.Proofs.YtgehjklodphogaaGreatDoor.Lx Go.Proofs.YtgehjklodphogaaGreatDoor.Pa

set_option maxRecDepth 100000 in
theorem open_in {H : Type} {enc : TypeId × Value → H} {W : World} {n : Nat} {cs : List Value} {d : DataW H} {ps : List MemPlace} (h : DataW.trod enc Tryz.prog W 0 (fun _ => true) true n 36 cs = some (d, ps)) :
    ∃ (y : Ins), (y.st.text.length + 4 ≤ Rows.uptoBulk d ∧ y.st.num ≤ 9223372036854775807) ∧ cs = [.int .u8 y.op, .int .u8 y.st.kind, .string ⟨y.st.text.toArray⟩, .int .i64 y.st.num, .int .i64 y.to] := by
  obtain ⟨y0, y1, y2, k, hx, hl, h0, h1, h2⟩ := trod_struct3 Tryz.underlying36 h
  rw [show Tryz.prog.cellsOf 36 = 5 by kernel_rfl] at hl
  obtain ⟨v0, v1, v2, v3, v4, rfl⟩ : ∃ v0 v1 v2 v3 v4, cs = [v0, v1, v2, v3, v4] := by
    match cs, hl with
    | [v0, v1, v2, v3, v4], _ => exact ⟨v0, v1, v2, v3, v4, rfl⟩
  rw [show Tryz.prog.cellsOf 31 = 1 by kernel_rfl] at h0
  rw [show Tryz.prog.cellsOf 34 = 3 by kernel_rfl] at h1
  rw [show Tryz.prog.cellsOf 3 = 1 by kernel_rfl] at h2
  obtain ⟨n0, e0, x0, w0⟩ := DataW.trod_int Tryz.underlying31 h0
  obtain ⟨s, hs, e1⟩ := open_stp h1
  obtain ⟨n2, e2, x2, w2⟩ := DataW.trod_int Tryz.underlying3 h2
  have e0' : v0 = .int .u8 n0 := by simpa using e0
  have e1' : v1 = .int .u8 s.kind ∧ v2 = .string ⟨s.text.toArray⟩ ∧ v3 = .int .i64 s.num := by simpa using e1
  have e2' : v4 = .int .i64 n2 := by simpa using e2
  simp only [Lit.wf, Bool.and_eq_true, decide_eq_true_eq] at w0
  have k0 : (0 : Int) ≤ n0 := w0.1
  simp only [Prod.mk.injEq] at hx
  refine ⟨⟨n0.toNat, s, n2⟩, ⟨?_, hs.2⟩, ?_⟩
  · rw [hx.1]
    have := hs.1
    simp only [Rows.uptoBulk, Rows.uptoBulkAll]
    omega
  · rw [e0', e1'.1, e1'.2.1, e1'.2.2, e2', Int.toNat_of_nonneg k0]

theorem bulk_len4 {H : Type} : ∀ (l : List (DataW H)), (∀ d ∈ l, 4 ≤ Rows.uptoBulk d) → 4 * l.length ≤ Rows.uptoBulkAll l
  | [], _ => by simp
  | x :: l, h => by
    have h1 := bulk_len4 l (fun d hd => h d (List.mem_cons_of_mem _ hd))
    have h2 := h x List.mem_cons_self
    simp only [Rows.uptoBulkAll, List.length_cons]; omega

instance : Inhabited Ins := ⟨ins0 0⟩

set_option maxRecDepth 100000 in
theorem open_ins' {H : Type} {enc : TypeId × Value → H} {W : World} {fuel : Nat} {v : Value} {d : DataW H} {ps : List MemPlace} (hf : DataW.trod enc Tryz.prog W 0 (fun _ => true) true fuel 23 [v] = some (d, ps)) :
    ∃ (l : List Ins), InsIn W v l ∧ 4 * l.length + 1 ≤ Rows.uptoBulk d ∧ ∀ y ∈ l, y.st.text.length + 4 ≤ Rows.uptoBulk d ∧ y.st.num ≤ 9223372036854775807 := by
  rcases open_slice Tryz.underlying23 hf with ⟨hc, hx⟩ | ⟨a, len, cap, mm, n, D, Pl, hc, _, hl, hm, hmm, hx, hall⟩
  · simp only [List.cons.injEq, and_true] at hc
    subst hc
    exact ⟨[], ⟨none, 0, 0, rfl, rfl, Nat.le_refl _, fun i hi => absurd hi (Nat.not_lt_zero _)⟩, bulk_pos d, by simp⟩
  · simp only [List.cons.injEq, and_true] at hc
    subst hc
    simp only [if_true] at hmm
    subst hmm
    simp only [Prod.mk.injEq] at hx
    obtain ⟨rfl, rfl⟩ := hx
    rw [show Tryz.prog.cellsOf 36 = 5 by kernel_rfl] at hall
    have each : ∀ i, i < len → ∃ y : Ins, (∃ g o, a = ⟨g, o, none⟩ ∧ InsCells W g (o + i * 5) y) ∧ y.st.text.length + 4 ≤ Rows.uptoBulk (D i) ∧ y.st.num ≤ 9223372036854775807 := fun i hi => by
      obtain ⟨cs', h1, h2⟩ := hall i (by omega)
      obtain ⟨y, hfit, rfl⟩ := open_in h2
      obtain ⟨cs0, h01, _⟩ := hall 0 (by omega)
      obtain ⟨_, hl0, hcell0⟩ := World.cells?_some h01
      obtain ⟨_, _, hcell⟩ := World.cells?_some h1
      obtain ⟨g, o, spot⟩ := a
      have hspot : spot = none := by
        have h00 := hcell0 0 (by omega)
        rw [List.getElem?_eq_getElem (by omega)] at h00
        simpa [Addr.add] using World.cell?_spot h00
      subst hspot
      have q0 := hcell 0 (by omega)
      have q1 := hcell 1 (by omega)
      have q2 := hcell 2 (by omega)
      have q3 := hcell 3 (by omega)
      have q4 := hcell 4 (by omega)
      rw [add_add, Addr.add_lit] at q0 q1 q2 q3 q4
      exact ⟨y, ⟨g, o, rfl, q0, q1, q2, q3, q4⟩, hfit⟩
    obtain ⟨f, hf2⟩ := choose_lt each
    have hbd : ∀ i, i < len → Rows.uptoBulk (D i) ≤ Rows.uptoBulkAll ((List.range len).map D) := fun i hi => bulk_mem (List.mem_map.2 ⟨i, List.mem_range.2 hi, rfl⟩)
    have hlen := bulk_len4 ((List.range len).map D) (fun d hd => by obtain ⟨i, hi, rfl⟩ := List.mem_map.1 hd; have := (hf2 i (List.mem_range.1 hi)).2.1; omega)
    rw [List.length_map, List.length_range] at hlen
    refine ⟨(List.range len).map f, ⟨_, len, _, rfl, by simp, hl, fun i hi => ?_⟩, ?_, fun y hy => ?_⟩
    · have hi' : i < len := by simpa using hi
      obtain ⟨⟨g, o, e, hcl⟩, _⟩ := hf2 i hi'
      refine ⟨g, o, by rw [e], ?_⟩
      simpa using hcl
    · simp only [Rows.uptoBulk, List.length_map, List.length_range]; omega
    · obtain ⟨i, hi, rfl⟩ := List.mem_map.1 hy
      have hi' := List.mem_range.1 hi
      have h1 := (hf2 i hi').2
      have h2 := hbd i hi'
      simp only [Rows.uptoBulk]
      exact ⟨by omega, h1.2⟩
set_option maxRecDepth 100000 in
theorem open_ins {H : Type} {enc : TypeId × Value → H} {W : World} {b0 : Nat} {v : Value} {d : DataW H} {ps : List MemPlace} (hv : Value.okWide Tryz.prog W .any b0 23 v)
    (h : DataW.Trod enc Tryz.prog W 0 (fun _ => true) true 23 v d ps) :
    ∃ (l : List Ins), InsIn W v l ∧ 4 * l.length + 1 ≤ Rows.uptoBulk d ∧ ∀ y ∈ l, y.st.text.length + 4 ≤ Rows.uptoBulk d ∧ y.st.num ≤ 9223372036854775807 := by
  obtain ⟨a0, n0, c0, rfl⟩ := okWide_slice Tryz.underlying23 hv
  obtain ⟨fuel, hf⟩ := h
  exact open_ins' hf

end Go.Proofs.YtgehjklodphogaaGreatDoor.Cd
