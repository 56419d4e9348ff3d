/- Parts: PfD. -/
import Derived.Test.YtcjmhmmjfgjcnaaGreatDoorMe40
import Derived.Test.YtcjmhmmjfgjcnaaGreatDoorMe51

/- The parse laws' arguments, opened: items, a statement. -/
namespace Go.Proofs.YtcjmhmmjfgjcnaaGreatDoor.Pa
open Go.RowKit Go.ChangeShapes Go.WideShapes Go.Deep Go.Proofs.YtcjmhmmjfgjcnaaGreatDoor.Lx

/-- what a list of steps that came in is bounded by -/
structure StpsB (l : List Stp) (n : Nat) : Prop where
  len : l.length ≤ n
  each : ∀ y ∈ l, y.text.length + 4 ≤ n ∧ y.num ≤ 9223372036854775807
theorem StpsB.mono {l : List Stp} {n m : Nat} (h : StpsB l n) (hm : n ≤ m) : StpsB l m := ⟨by have := h.len; omega, fun y hy => by have := h.each y hy; exact ⟨by omega, this.2⟩⟩
/-- an item that came in -/
structure ItmB (t : Itm) (n : Nat) : Prop where
  name : t.name.length ≤ n
  expr : StpsB t.expr n
theorem ItmB.mono {t : Itm} {n m : Nat} (h : ItmB t n) (hm : n ≤ m) : ItmB t m := ⟨by have := h.name; omega, h.expr.mono hm⟩

theorem two_fields {H : Type} {enc : TypeId × Value → H} {P : Program} {w : World} {base : Nat} {spare : Nat → Bool} {held : Bool} {t : TypeId} {f0 f1 : Field} {fuel : Nat} {cs : List Value} {x : DataW H × List MemPlace} (ht : P.underlying t = some (.struct #[f0, f1])) (h : DataW.trod enc P w base spare held fuel t cs = some x) :
    ∃ y0 y1 n, x = (.agg [y0.1, y1.1], [y0, y1].flatMap (·.2)) ∧ cs.length = P.cellsOf t ∧ DataW.trod enc P w base spare held n f0.type ((cs.drop f0.offset).take (P.cellsOf f0.type)) = some y0 ∧
      DataW.trod enc P w base spare held n f1.type ((cs.drop f1.offset).take (P.cellsOf f1.type)) = some y1 := by
  obtain ⟨xs, n, _, rfl, hl, hlen, hf⟩ := DataW.trod_struct ht h
  match xs, hlen with
  | [y0, y1], _ => exact ⟨y0, y1, n, by simp, hl, by simpa using hf 0 f0 rfl, by simpa using hf 1 f1 rfl⟩
theorem seven_fields {H : Type} {enc : TypeId × Value → H} {P : Program} {w : World} {base : Nat} {spare : Nat → Bool} {held : Bool} {t : TypeId} {f0 f1 f2 f3 f4 f5 f6 : Field} {fuel : Nat} {cs : List Value} {x : DataW H × List MemPlace} (ht : P.underlying t = some (.struct #[f0, f1, f2, f3, f4, f5, f6])) (h : DataW.trod enc P w base spare held fuel t cs = some x) :
    ∃ y0 y1 y2 y3 y4 y5 y6 n, x = (.agg [y0.1, y1.1, y2.1, y3.1, y4.1, y5.1, y6.1], [y0, y1, y2, y3, y4, y5, y6].flatMap (·.2)) ∧ cs.length = P.cellsOf t ∧ DataW.trod enc P w base spare held n f0.type ((cs.drop f0.offset).take (P.cellsOf f0.type)) = some y0 ∧
      DataW.trod enc P w base spare held n f1.type ((cs.drop f1.offset).take (P.cellsOf f1.type)) = some y1 ∧
      DataW.trod enc P w base spare held n f2.type ((cs.drop f2.offset).take (P.cellsOf f2.type)) = some y2 ∧
      DataW.trod enc P w base spare held n f3.type ((cs.drop f3.offset).take (P.cellsOf f3.type)) = some y3 ∧
      DataW.trod enc P w base spare held n f4.type ((cs.drop f4.offset).take (P.cellsOf f4.type)) = some y4 ∧
      DataW.trod enc P w base spare held n f5.type ((cs.drop f5.offset).take (P.cellsOf f5.type)) = some y5 ∧
      DataW.trod enc P w base spare held n f6.type ((cs.drop f6.offset).take (P.cellsOf f6.type)) = some y6 := by
  obtain ⟨xs, n, _, rfl, hl, hlen, hf⟩ := DataW.trod_struct ht h
  match xs, hlen with
  | [y0, y1, y2, y3, y4, y5, y6], _ => exact ⟨y0, y1, y2, y3, y4, y5, y6, n, by simp, hl, by simpa using hf 0 f0 rfl, by simpa using hf 1 f1 rfl, by simpa using hf 2 f2 rfl, by simpa using hf 3 f3 rfl, by simpa using hf 4 f4 rfl, by simpa using hf 5 f5 rfl, by simpa using hf 6 f6 rfl⟩
set_option maxRecDepth 100000 in
theorem open_itm {H : Type} {enc : TypeId × Value → H} {W : World} {n : Nat} {cs : List Value} {d : DataW H} {ps : List MemPlace} (h : DataW.trod enc Tryz.prog W 0 (fun _ => true) true n 95 cs = some (d, ps)) :
    ∃ (t : Itm) (ve : Value), ItmB t (Rows.uptoBulk d) ∧ cs = [.string ⟨t.name.toArray⟩, ve] ∧ StpsIn W ve t.expr := by
  obtain ⟨y0, y1, n', hx, hl, h0, h1⟩ := two_fields Tryz.underlying95 h
  rw [show Tryz.prog.cellsOf 95 = 2 by kernel_rfl] at hl
  obtain ⟨v0, v1, rfl⟩ : ∃ v0 v1, cs = [v0, v1] := by
    match cs, hl with
    | [v0, v1], _ => exact ⟨v0, v1, rfl⟩
  have c0 : Tryz.prog.cellsOf 9 = 1 := by kernel_rfl
  have c1 : Tryz.prog.cellsOf 22 = 1 := by kernel_rfl
  simp only [c0, c1] at h0 h1
  obtain ⟨s, e1, x1, w1⟩ := DataW.trod_string Tryz.underlying9 h0
  have e1' : v0 = .string s := by simpa using e1
  have h1' : DataW.trod enc Tryz.prog W 0 (fun _ => true) true n' 22 [v1] = some (y1.1, y1.2) := by simpa using h1
  obtain ⟨l, hst, hln, hea⟩ := open_steps' h1'
  simp only [Prod.mk.injEq] at hx
  have hb : s.data.toList.length + 1 + Rows.uptoBulk y1.1 ≤ Rows.uptoBulk d := by
    rw [hx.1]
    simp only [Rows.uptoBulk, Rows.uptoBulkAll, x1]
    omega
  exact ⟨⟨s.data.toList, l⟩, v1, ⟨by simp only; omega, (show StpsB l _ from ⟨hln, hea⟩).mono (by omega)⟩, by rw [e1'], hst⟩

instance : Inhabited Itm := ⟨⟨[], []⟩⟩

set_option maxRecDepth 100000 in
theorem open_itms' {H : Type} {enc : TypeId × Value → H} {W : World} {fuel : Nat} {v : Value} {d : DataW H} {ps : List MemPlace} (hf : DataW.trod enc Tryz.prog W 0 (fun _ => true) true fuel 31 [v] = some (d, ps)) :
    ∃ (l : List Itm), ItmsIn W v l ∧ (v = .slice none 0 0 ∨ ∃ (a : Addr) (n c : Nat), v = .slice (some a) n c) ∧ l.length ≤ Rows.uptoBulk d ∧ ∀ t ∈ l, ItmB t (Rows.uptoBulk d) := by
  rcases open_slice Tryz.underlying31 hf with ⟨hc, hx⟩ | ⟨a, len, cap, mm, n, D, Pl, hc, _, hl, hm, hmm, hx, hall⟩
  · simp only [List.cons.injEq, and_true] at hc
    subst hc
    exact ⟨[], ⟨none, 0, 0, rfl, rfl, Nat.le_refl _, fun i hi => absurd hi (Nat.not_lt_zero _)⟩, .inl rfl, Nat.zero_le _, by simp⟩
  · simp only [List.cons.injEq, and_true] at hc
    subst hc
    simp only [if_true] at hmm
    subst hmm
    simp only [Prod.mk.injEq] at hx
    obtain ⟨rfl, rfl⟩ := hx
    rw [show Tryz.prog.cellsOf 95 = 2 by kernel_rfl] at hall
    have each : ∀ i, i < len → ∃ t : Itm, (∃ g o ve, a = ⟨g, o, none⟩ ∧ W.cell? ⟨g, o + i * 2, none⟩ = some (.string ⟨t.name.toArray⟩) ∧ W.cell? ⟨g, o + i * 2 + 1, none⟩ = some ve ∧ StpsIn W ve t.expr) ∧ ItmB t (Rows.uptoBulk (D i)) := fun i hi => by
      obtain ⟨cs', h1, h2⟩ := hall i (by omega)
      obtain ⟨t, ve, hfit, rfl, hst⟩ := open_itm h2
      obtain ⟨cs0, h01, _⟩ := hall 0 (by omega)
      obtain ⟨_, hl0, hcell0⟩ := World.cells?_some h01
      obtain ⟨_, _, hcell⟩ := World.cells?_some h1
      obtain ⟨g, o, spot⟩ := a
      have hspot : spot = none := by
        have h00 := hcell0 0 (by omega)
        rw [List.getElem?_eq_getElem (by omega)] at h00
        simpa [Addr.add] using World.cell?_spot h00
      subst hspot
      have q0 := hcell 0 (by omega)
      have q1 := hcell 1 (by omega)
      rw [add_add, Addr.add_lit] at q0 q1
      exact ⟨t, ⟨g, o, ve, rfl, q0, q1, hst⟩, hfit⟩
    obtain ⟨f, hf2⟩ := choose_lt each
    have hbd : ∀ i, i < len → Rows.uptoBulk (D i) ≤ Rows.uptoBulkAll ((List.range len).map D) := fun i hi => bulk_mem (List.mem_map.2 ⟨i, List.mem_range.2 hi, rfl⟩)
    have hlen := bulk_len ((List.range len).map D)
    rw [List.length_map, List.length_range] at hlen
    refine ⟨(List.range len).map f, ⟨_, len, _, rfl, by simp, hl, fun i hi => ?_⟩, .inr ⟨_, _, _, rfl⟩, ?_, fun y hy => ?_⟩
    · have hi' : i < len := by simpa using hi
      obtain ⟨⟨g, o, ve, e, q0, q1, hst⟩, _⟩ := hf2 i hi'
      refine ⟨g, o, ve, by rw [e], ?_⟩
      simpa using ⟨q0, q1, hst⟩
    · simp only [Rows.uptoBulk, List.length_map, List.length_range]; omega
    · obtain ⟨i, hi, rfl⟩ := List.mem_map.1 hy
      have hi' := List.mem_range.1 hi
      have h2 := hbd i hi'
      exact (hf2 i hi').2.mono (by simp only [Rows.uptoBulk]; omega)

/-- a statement that came in -/
structure StmB (st : Stm) (n : Nat) : Prop where
  table : st.table.length + 1 ≤ n
  field : st.field.length + 1 ≤ n
  expr : StpsB st.expr n
  few : st.items.length + 1 ≤ n
  items : ∀ t ∈ st.items, ItmB t n
set_option maxRecDepth 100000 in
theorem open_stmt {H : Type} {enc : TypeId × Value → H} {W : World} {b0 : Nat} {v : Value} {d : DataW H} {ps : List MemPlace} (hv : Value.okWide Tryz.prog W .any b0 33 v)
    (h : DataW.Trod enc Tryz.prog W 0 (fun _ => true) true 33 v d ps) :
    ∃ (st : Stm) (vi ve : Value), v = st.val vi ve ∧ ItmsIn W vi st.items ∧ StpsIn W ve st.expr ∧ StmB st (Rows.uptoBulk d) ∧ (vi = .slice none 0 0 ∨ ∃ (a : Addr) (n c : Nat), vi = .slice (some a) n c) := by
  obtain ⟨cs, rfl, hsz⟩ := okWide_struct Tryz.underlying33 hv
  obtain ⟨fuel, hf⟩ := h
  have hf' : DataW.trod enc Tryz.prog W 0 (fun _ => true) true fuel 33 cs.toList = some (d, ps) := hf
  obtain ⟨y0, y1, y2, y3, y4, y5, y6, n', hx, hl, h0, h1, h2, h3, h4, h5, h6⟩ := seven_fields Tryz.underlying33 hf'
  rw [show Tryz.prog.cellsOf 33 = 7 by kernel_rfl] at hl
  obtain ⟨v0, v1, v2, v3, v4, v5, v6, hcs⟩ : ∃ v0 v1 v2 v3 v4 v5 v6, cs.toList = [v0, v1, v2, v3, v4, v5, v6] := by
    match cs.toList, hl with
    | [v0, v1, v2, v3, v4, v5, v6], _ => exact ⟨v0, v1, v2, v3, v4, v5, v6, rfl⟩
  rw [hcs] at h0 h1 h2 h3 h4 h5 h6
  have c0 : Tryz.prog.cellsOf 30 = 1 := by kernel_rfl
  have c1 : Tryz.prog.cellsOf 9 = 1 := by kernel_rfl
  have c3 : Tryz.prog.cellsOf 31 = 1 := by kernel_rfl
  have c4 : Tryz.prog.cellsOf 22 = 1 := by kernel_rfl
  have c5 : Tryz.prog.cellsOf 4 = 1 := by kernel_rfl
  simp only [c0, c1, c3, c4, c5] at h0 h1 h2 h3 h4 h5 h6
  obtain ⟨n0, e0, x0, w0⟩ := DataW.trod_int Tryz.underlying30 h0
  obtain ⟨s1, e1, x1, w1⟩ := DataW.trod_string Tryz.underlying9 h1
  obtain ⟨s2, e2, x2, w2⟩ := DataW.trod_string Tryz.underlying9 h2
  have h3' : DataW.trod enc Tryz.prog W 0 (fun _ => true) true n' 31 [v3] = some (y3.1, y3.2) := by simpa using h3
  have h4' : DataW.trod enc Tryz.prog W 0 (fun _ => true) true n' 22 [v4] = some (y4.1, y4.2) := by simpa using h4
  obtain ⟨its, hi, hvi, hil, hie⟩ := open_itms' h3'
  obtain ⟨l, hst, hln, hea⟩ := open_steps' h4'
  obtain ⟨b5, e5, x5⟩ := DataW.trod_bool Tryz.underlying4 h5
  obtain ⟨b6, e6, x6⟩ := DataW.trod_bool Tryz.underlying4 h6
  have e0' : v0 = .int .u8 n0 := by simpa using e0
  have e1' : v1 = .string s1 := by simpa using e1
  have e2' : v2 = .string s2 := by simpa using e2
  have e5' : v5 = .bool b5 := by simpa using e5
  have e6' : v6 = .bool b6 := by simpa using e6
  simp only [Lit.wf, Bool.and_eq_true, decide_eq_true_eq] at w0
  have k0 : (0 : Int) ≤ n0 := w0.1
  simp only [Prod.mk.injEq] at hx
  have hb : s1.data.toList.length + 1 + (s2.data.toList.length + 1) + Rows.uptoBulk y3.1 + Rows.uptoBulk y4.1 + 1 ≤ Rows.uptoBulk d := by
    rw [hx.1]
    simp only [Rows.uptoBulk, Rows.uptoBulkAll, x1, x2]
    omega
  refine ⟨⟨n0.toNat, s1.data.toList, s2.data.toList, its, l, b5, b6⟩, v3, v4, ?_, hi, hst, ⟨by simp only; omega, by simp only; omega, (show StpsB l _ from ⟨hln, hea⟩).mono (by omega), by simp only; omega, fun t ht => (hie t ht).mono (by omega)⟩, hvi⟩
  have : cs = #[v0, v1, v2, v3, v4, v5, v6] := by
    apply Array.ext'
    rw [hcs]
  rw [this, e0', e1', e2', e5', e6']
  unfold Stm.val
  simp only [Int.toNat_of_nonneg k0]
/-- what the walks ask -/
theorem StmB.args {w : World} {st : Stm} {vi ve : Value} {n : Nat} (h : StmB st n) (hn : n ≤ 1048576) (hi : ItmsIn w vi st.items) (hv : StpsIn w ve st.expr) (he : Env w) : PrArgs w st vi ve :=
  ⟨⟨hi, hv, by have := h.table; omega, by have := h.field; omega, by have := h.expr.len; omega, fun y hy => by have := (h.expr.each y hy).1; omega, by have := h.few; omega,
    fun t ht => ⟨by have := (h.items t ht).name; omega, by have := (h.items t ht).expr.len; omega, fun y hy => by have := ((h.items t ht).expr.each y hy).1; omega⟩, he⟩,
    fun y hy => (h.expr.each y hy).2, fun t ht y hy => ((h.items t ht).expr.each y hy).2⟩

end Go.Proofs.YtcjmhmmjfgjcnaaGreatDoor.Pa
