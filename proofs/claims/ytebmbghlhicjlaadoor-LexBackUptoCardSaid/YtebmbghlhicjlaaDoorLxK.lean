/- Lists of tokens in memory. -/
import Derived.Test.YtebmbghlhicjlaaDoorLxM
import Derived.Laws.OwnMore
namespace Go.Proofs.YtebmbghlhicjlaaDoor.Lx
open Go.RowKit

/-- the four cells of token number i in block g -/
structure TokCells (w : World) (g i : Nat) (t : Tok) : Prop where
  c0 : w.cell? ⟨g, i * 4, none⟩ = some (.int .u8 t.kind)
  c1 : w.cell? ⟨g, i * 4 + 1, none⟩ = some (.string ⟨t.text.toArray⟩)
  c2 : w.cell? ⟨g, i * 4 + 2, none⟩ = some (.int .i64 t.num)
  c3 : w.cell? ⟨g, i * 4 + 3, none⟩ = some (.int .i64 t.pos)
/-- a list of tokens to be read -/
def ToksIn (w : World) (a : Option Addr) (l : List Tok) : Prop := ∀ i (h : i < l.length), ∃ g, a = some ⟨g, 0, none⟩ ∧ TokCells w g i l[i]

theorem toksC_length (l : List Tok) : (toksC l).length = 4 * l.length := by
  induction l with
  | nil => rfl
  | cons t l ih => simp only [toksC, List.flatMap_cons, List.length_append] at ih ⊢; rw [ih]; simp [Tok.cells]; omega
theorem toksC_get : ∀ (l : List Tok) (i : Nat) (h : i < l.length), (toksC l)[4 * i]? = some (.int .u8 l[i].kind) ∧ (toksC l)[4 * i + 1]? = some (.string ⟨l[i].text.toArray⟩) ∧ (toksC l)[4 * i + 2]? = some (.int .i64 l[i].num) ∧ (toksC l)[4 * i + 3]? = some (.int .i64 l[i].pos)
  | [], i, h => absurd h (Nat.not_lt_zero _)
  | t :: l, 0, _ => ⟨rfl, rfl, rfl, rfl⟩
  | t :: l, i + 1, h => by
    have hi := toksC_get l i (by simpa using h)
    have e : toksC (t :: l) = t.cells ++ toksC l := rfl
    have hl : t.cells.length = 4 := rfl
    rw [e]
    refine ⟨?_, ?_, ?_, ?_⟩
    · rw [List.getElem?_append_right (by omega), hl, show 4 * (i + 1) - 4 = 4 * i by omega]; exact hi.1
    · rw [List.getElem?_append_right (by omega), hl, show 4 * (i + 1) + 1 - 4 = 4 * i + 1 by omega]; exact hi.2.1
    · rw [List.getElem?_append_right (by omega), hl, show 4 * (i + 1) + 2 - 4 = 4 * i + 2 by omega]; exact hi.2.2.1
    · rw [List.getElem?_append_right (by omega), hl, show 4 * (i + 1) + 3 - 4 = 4 * i + 3 by omega]; exact hi.2.2.2
theorem ownsRow_toks {w : World} {base n c : Nat} {a : Option Addr} {l : List Tok} (h : w.ownsRow base 26 4 (.slice a n c) n (toksC l)) (hn : n = l.length) : ToksIn w a l := by
  intro i hi
  obtain ⟨g, cap, e, -, -⟩ := World.ownsRow.form h (by omega)
  simp only [Value.slice.injEq] at e
  obtain ⟨rfl, -, rfl⟩ := e
  obtain ⟨h0, h1, h2, h3⟩ := toksC_get l i hi
  refine ⟨g, rfl, ?_, ?_, ?_, ?_⟩
  · rw [World.ownsRow.cellAt h _ (by omega), Nat.mul_comm i 4]; exact h0
  · rw [World.ownsRow.cellAt h _ (by omega), Nat.mul_comm i 4]; exact h1
  · rw [World.ownsRow.cellAt h _ (by omega), Nat.mul_comm i 4]; exact h2
  · rw [World.ownsRow.cellAt h _ (by omega), Nat.mul_comm i 4]; exact h3
theorem ToksIn.below {w w' : World} {a : Option Addr} {l : List Tok} (h : ToksIn w a l) (hb : Below w.heap.size w w') : ToksIn w' a l := by
  intro i hi
  obtain ⟨g, e, hc⟩ := h i hi
  have hg : g < w.heap.size := World.block_lt_of_cell? _ _ hc.c0
  exact ⟨g, e, (hb.cell (p := ⟨g, _, none⟩) hg).trans hc.c0, (hb.cell (p := ⟨g, _, none⟩) hg).trans hc.c1, (hb.cell (p := ⟨g, _, none⟩) hg).trans hc.c2, (hb.cell (p := ⟨g, _, none⟩) hg).trans hc.c3⟩

end Go.Proofs.YtebmbghlhicjlaaDoor.Lx
