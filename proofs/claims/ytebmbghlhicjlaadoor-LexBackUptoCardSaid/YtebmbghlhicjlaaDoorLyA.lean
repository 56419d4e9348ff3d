/- LexBack: a list of tokens that comes in, opened. -/
import Derived.Test.YtebmbghlhicjlaaDoorLxZ
import Derived.Test.YtebmbghlhicjlaaDoorLxX
import Derived.Deep.Slices
import Derived.Lib.SmallJoins
namespace Go.Proofs.YtebmbghlhicjlaaDoor.Lx
open Go.RowKit Go.ChangeShapes Go.WideShapes Go.Deep Go.Joins

/-- a token's cells, wherever they lie -/
structure ArgCells (w : World) (g o : Nat) (t : Tok) (p : Int) : Prop where
  c0 : w.cell? ⟨g, o, none⟩ = some (.int .u8 t.kind)
  c1 : w.cell? ⟨g, o + 1, none⟩ = some (.string ⟨t.text.toArray⟩)
  c2 : w.cell? ⟨g, o + 2, none⟩ = some (.int .i64 t.num)
  c3 : w.cell? ⟨g, o + 3, none⟩ = some (.int .i64 p)
theorem ArgCells.below {w w' : World} {g o : Nat} {t : Tok} {p : Int} (h : ArgCells w g o t p) (hb : Below w.heap.size w w') : ArgCells w' g o t p := by
  have hg : g < w.heap.size := World.block_lt_of_cell? _ _ h.c0
  exact ⟨(hb.cell (p := ⟨g, _, none⟩) hg).trans h.c0, (hb.cell (p := ⟨g, _, none⟩) hg).trans h.c1, (hb.cell (p := ⟨g, _, none⟩) hg).trans h.c2, (hb.cell (p := ⟨g, _, none⟩) hg).trans h.c3⟩
structure ArgFits (t : Tok) : Prop where
  txt : t.text.length ≤ 1048576
  lo : -9223372036854775808 ≤ t.num
  hi : t.num ≤ 9223372036854775807
def ArgToks (w : World) (a : Option Addr) (n : Nat) : Prop := ∀ i, i < n → ∃ (g o : Nat) (t : Tok) (p : Int), a = some ⟨g, o, none⟩ ∧ ArgFits t ∧ ArgCells w g (o + i * 4) t p

theorem bulk_mem {H : Type} {d : DataW H} : ∀ {l : List (DataW H)}, d ∈ l → Rows.uptoBulk d ≤ Rows.uptoBulkAll l
  | [], h => by cases h
  | x :: l, h => by
    rcases List.mem_cons.1 h with rfl | h
    · simp [Rows.uptoBulkAll]
    · have := bulk_mem h; simp only [Rows.uptoBulkAll]; omega

set_option maxRecDepth 100000 in
theorem open_tok {H : Type} {enc : TypeId × Value → H} {W : World} {n : Nat} {cs : List Value} {d : DataW H} {ps : List MemPlace} (h : DataW.trod enc Tryd.prog W 0 (fun _ => true) true n 26 cs = some (d, ps)) (hb : Rows.uptoBulk d ≤ 1048576) :
    ∃ (t : Tok) (p : Int), ArgFits t ∧ cs = [.int .u8 t.kind, .string ⟨t.text.toArray⟩, .int .i64 t.num, .int .i64 p] := by
  obtain ⟨y0, y1, y2, y3, k, hx, hl, h0, h1, h2, h3⟩ := trod_struct4 Tryd.underlying26 h
  rw [show Tryd.prog.cellsOf 26 = 4 by kernel_rfl] at hl
  obtain ⟨v0, v1, v2, v3, rfl⟩ : ∃ v0 v1 v2 v3, cs = [v0, v1, v2, v3] := by
    match cs, hl with
    | [v0, v1, v2, v3], _ => exact ⟨v0, v1, v2, v3, rfl⟩
  have c0 : Tryd.prog.cellsOf 24 = 1 := by kernel_rfl
  have c1 : Tryd.prog.cellsOf 9 = 1 := by kernel_rfl
  have c2 : Tryd.prog.cellsOf 2 = 1 := by kernel_rfl
  have c3 : Tryd.prog.cellsOf 3 = 1 := by kernel_rfl
  rw [c0] at h0
  rw [c1] at h1
  rw [c2] at h2
  rw [c3] at h3
  obtain ⟨n0, e0, x0, w0⟩ := DataW.trod_int Tryd.underlying24 h0
  obtain ⟨s, e1, x1, w1⟩ := DataW.trod_string Tryd.underlying9 h1
  obtain ⟨n2, e2, x2, w2⟩ := DataW.trod_int Tryd.underlying2 h2
  obtain ⟨n3, e3, x3, w3⟩ := DataW.trod_int Tryd.underlying3 h3
  have e0' : v0 = .int .u8 n0 := by simpa using e0
  have e1' : v1 = .string s := by simpa using e1
  have e2' : v2 = .int .i64 n2 := by simpa using e2
  have e3' : v3 = .int .i64 n3 := by simpa using e3
  simp only [Lit.wf, Bool.and_eq_true, decide_eq_true_eq] at w0 w2
  have k0 : (0 : Int) ≤ n0 := w0.1
  have k1 : (-9223372036854775808 : Int) ≤ n2 := w2.1
  have k2 : n2 ≤ (9223372036854775807 : Int) := w2.2
  simp only [Prod.mk.injEq] at hx
  have hs : s.data.toList.length ≤ 1048576 := by
    rw [hx.1, x1] at hb
    simp only [Rows.uptoBulk, Rows.uptoBulkAll] at hb
    omega
  refine ⟨⟨n0.toNat, s.data.toList, n2, 0⟩, n3, ⟨hs, k1, k2⟩, ?_⟩
  rw [e0', e1', e2', e3', Int.toNat_of_nonneg k0]

set_option maxRecDepth 100000 in
theorem open_toks {H : Type} {enc : TypeId × Value → H} {W : World} {b0 : Nat} {v : Value} {d : DataW H} {ps : List MemPlace} (hv : Value.okWide Tryd.prog W .any b0 22 v)
    (h : DataW.Trod enc Tryd.prog W 0 (fun _ => true) true 22 v d ps) (hb : Rows.uptoBulk d ≤ 1048576) :
    ∃ (a : Option Addr) (n c : Nat), v = .slice a n c ∧ n ≤ c ∧ c ≤ maxLen ∧ ArgToks W a n := by
  obtain ⟨a0, n0, c0, rfl⟩ := okWide_slice Tryd.underlying22 hv
  obtain ⟨fuel, hf⟩ := h
  rcases open_slice Tryd.underlying22 hf with ⟨hc, hx⟩ | ⟨a, len, cap, mm, n, D, Pl, hc, _, hl, hm, hmm, hx, hall⟩
  · have hc : [Value.slice a0 n0 c0] = [Value.slice none 0 0] := hc
    simp only [List.cons.injEq, Value.slice.injEq, and_true] at hc
    obtain ⟨rfl, rfl, rfl⟩ := hc
    exact ⟨none, 0, 0, rfl, Nat.le_refl _, Nat.zero_le _, fun i hi => absurd hi (Nat.not_lt_zero _)⟩
  · have hc : [Value.slice a0 n0 c0] = [Value.slice (some a) len cap] := hc
    simp only [List.cons.injEq, Value.slice.injEq, and_true] at hc
    obtain ⟨rfl, rfl, rfl⟩ := hc
    simp only [if_true] at hmm
    subst hmm
    simp only [Prod.mk.injEq] at hx
    obtain ⟨rfl, rfl⟩ := hx
    rw [show Tryd.prog.cellsOf 26 = 4 by kernel_rfl] at hall
    refine ⟨_, _, _, rfl, hl, hm, fun i hi => ?_⟩
    obtain ⟨cs', h1, h2⟩ := hall i (by omega)
    have hbi : Rows.uptoBulk (D i) ≤ 1048576 := by
      have := bulk_mem (d := D i) (l := (List.range n0).map D) (List.mem_map.2 ⟨i, List.mem_range.2 hi, rfl⟩)
      simp only [Rows.uptoBulk] at hb
      omega
    obtain ⟨t, p, hfit, rfl⟩ := open_tok h2 hbi
    obtain ⟨cs0, h01, _⟩ := hall 0 (by omega)
    obtain ⟨_, hl0, hcell0⟩ := World.cells?_some h01
    obtain ⟨_, _, hcell⟩ := World.cells?_some h1
    obtain ⟨g, o, spot⟩ := a
    have hspot : spot = none := by
      have h00 := hcell0 0 (by omega)
      rw [List.getElem?_eq_getElem (by omega)] at h00
      simpa [Addr.add] using World.cell?_spot h00
    subst hspot
    have q0 := hcell 0 (by omega)
    have q1 := hcell 1 (by omega)
    have q2 := hcell 2 (by omega)
    have q3 := hcell 3 (by omega)
    rw [add_add, Addr.add_lit] at q0 q1 q2 q3
    exact ⟨g, o, t, p, rfl, hfit, q0, q1, q2, q3⟩

end Go.Proofs.YtebmbghlhicjlaaDoor.Lx
