/- Lists of tokens in memory; codicilref09.Same; lives. -/
import Derived.Test.YtebmbghlhicjlaaDoorLxM
import Derived.Laws.OwnMore
namespace Go.Proofs.YtebmbghlhicjlaaDoor.Lx
open Go.RowKit

/-- the four cells of token number i in block g -/
structure TokCells (w : World) (g i : Nat) (t : Tok) : Prop where
  c0 : w.cell? ⟨g, i * 4, none⟩ = some (.int .u8 t.kind)
  c1 : w.cell? ⟨g, i * 4 + 1, none⟩ = some (.string ⟨t.text.toArray⟩)
  c2 : w.cell? ⟨g, i * 4 + 2, none⟩ = some (.int .i64 t.num)
  c3 : w.cell? ⟨g, i * 4 + 3, none⟩ = some (.int .i64 t.pos)
/-- a list of tokens to be read -/
def ToksIn (w : World) (a : Option Addr) (l : List Tok) : Prop := ∀ i (h : i < l.length), ∃ g, a = some ⟨g, 0, none⟩ ∧ TokCells w g i l[i]

theorem toksC_length (l : List Tok) : (toksC l).length = 4 * l.length := by
  induction l with
  | nil => rfl
  | cons t l ih => simp only [toksC, List.flatMap_cons, List.length_append] at ih ⊢; rw [ih]; simp [Tok.cells]; omega
theorem toksC_get : ∀ (l : List Tok) (i : Nat) (h : i < l.length), (toksC l)[4 * i]? = some (.int .u8 l[i].kind) ∧ (toksC l)[4 * i + 1]? = some (.string ⟨l[i].text.toArray⟩) ∧ (toksC l)[4 * i + 2]? = some (.int .i64 l[i].num) ∧ (toksC l)[4 * i + 3]? = some (.int .i64 l[i].pos)
  | [], i, h => absurd h (Nat.not_lt_zero _)
  | t :: l, 0, _ => ⟨rfl, rfl, rfl, rfl⟩
  | t :: l, i + 1, h => by
    have hi := toksC_get l i (by simpa using h)
    have e : toksC (t :: l) = t.cells ++ toksC l := rfl
    have hl : t.cells.length = 4 := rfl
    rw [e]
    refine ⟨?_, ?_, ?_, ?_⟩
    · rw [List.getElem?_append_right (by omega), hl, show 4 * (i + 1) - 4 = 4 * i by omega]; exact hi.1
    · rw [List.getElem?_append_right (by omega), hl, show 4 * (i + 1) + 1 - 4 = 4 * i + 1 by omega]; exact hi.2.1
    · rw [List.getElem?_append_right (by omega), hl, show 4 * (i + 1) + 2 - 4 = 4 * i + 2 by omega]; exact hi.2.2.1
    · rw [List.getElem?_append_right (by omega), hl, show 4 * (i + 1) + 3 - 4 = 4 * i + 3 by omega]; exact hi.2.2.2
theorem ownsRow_toks {w : World} {base n c : Nat} {a : Option Addr} {l : List Tok} (h : w.ownsRow base 26 4 (.slice a n c) n (toksC l)) (hn : n = l.length) : ToksIn w a l := by
  intro i hi
  obtain ⟨g, cap, e, -, -⟩ := World.ownsRow.form h (by omega)
  simp only [Value.slice.injEq] at e
  obtain ⟨rfl, -, rfl⟩ := e
  obtain ⟨h0, h1, h2, h3⟩ := toksC_get l i hi
  refine ⟨g, rfl, ?_, ?_, ?_, ?_⟩
  · rw [World.ownsRow.cellAt h _ (by omega), Nat.mul_comm i 4]; exact h0
  · rw [World.ownsRow.cellAt h _ (by omega), Nat.mul_comm i 4]; exact h1
  · rw [World.ownsRow.cellAt h _ (by omega), Nat.mul_comm i 4]; exact h2
  · rw [World.ownsRow.cellAt h _ (by omega), Nat.mul_comm i 4]; exact h3
theorem ToksIn.below {w w' : World} {a : Option Addr} {l : List Tok} (h : ToksIn w a l) (hb : Below w.heap.size w w') : ToksIn w' a l := by
  intro i hi
  obtain ⟨g, e, hc⟩ := h i hi
  have hg : g < w.heap.size := World.block_lt_of_cell? _ _ hc.c0
  exact ⟨g, e, (hb.cell (p := ⟨g, _, none⟩) hg).trans hc.c0, (hb.cell (p := ⟨g, _, none⟩) hg).trans hc.c1, (hb.cell (p := ⟨g, _, none⟩) hg).trans hc.c2, (hb.cell (p := ⟨g, _, none⟩) hg).trans hc.c3⟩

theorem list_step {α : Type} {x y : List α} {i : Nat} (hx : i < x.length) (hy : i < y.length) (h : x.take i = y.take i) (e : x[i] = y[i]) : x.take (i + 1) = y.take (i + 1) := by
  rw [List.take_succ_eq_append_getElem hx, List.take_succ_eq_append_getElem hy, h, e]

attribute [local go_sem high] tok_equal
set_option maxRecDepth 100000 in
theorem same_n (a b : Option Addr) (x y : List Tok) (n m c d : Nat) (w : World) (hx : ToksIn w a x) (hy : ToksIn w b y) (hl : n ≤ maxLen) (hl2 : m ≤ maxLen) (hxn : x.length = n) (hym : y.length = m) :
    Calls Tryd.prog 10 #[.slice a n c, .slice b m d] w fun e w' => e = .returned (.bool (decide (x = y))) ∧ Below w.heap.size w w' := by
  unfold maxLen at hl hl2
  have Hx := Lib.hid hx
  have Hy := Lib.hid hy
  have Hxn := Lib.hid hxn
  have Hym := Lib.hid hym
  clear hx hy hxn hym
  by_cases hn : n = m
  · subst hn
    go_enter Tryd.func10, Tryd.ntmps10
    go_wp2_with fail
    go_loopw [13] (fun i wr => ∃ k : Nat, k ≤ n ∧ i = .int .i64 k ∧ Hid (Below w.heap.size w wr) ∧ Hid (x.take k = y.take k)) (fun i _ => n - (intOf i).toNat)
    case atStart => exact ⟨0, Nat.zero_le _, rfl, Below.refl _ _, rfl⟩
    case round =>
      obtain ⟨k, hk, rfl, Hb, Hk⟩ := hrel
      by_cases hlt : k < n
      · have hkx : k < x.length := by rw [Hxn.out]; exact hlt
        have hky : k < y.length := by rw [Hym.out]; exact hlt
        obtain ⟨g, rfl, c0, c1, c2, c3⟩ := (Hx.out.below Hb.out) k hkx
        obtain ⟨g', rfl, d0, d1, d2, d3⟩ := (Hy.out.below Hb.out) k hky
        have ht := tokB_eq x[k] y[k] x[k].pos y[k].pos
        have hstep := list_step hkx hky Hk.out
        generalize hxk : x[k] = xk at c0 c1 c2 c3 ht hstep
        generalize hyk : y[k] = yk at d0 d1 d2 d3 ht hstep
        have Hxk := Lib.hid hxk
        have Hyk := Lib.hid hyk
        clear hxk hyk
        by_cases he : xk = yk
        · rw [decide_eq_true (by exact he)] at ht
          have Hs := Lib.hid (hstep he)
          clear he hstep
          go_wp2_with fail
          go_quiet (fail)
          go_wp2_with fail
          go_roundw
          case rel => exact ⟨k + 1, by omega, by go_num, below_drewN Hb.out _, Hs⟩
          case measure => simp [intOf]; omega
        · rw [decide_eq_false (by exact he)] at ht
          have Hne := Lib.hid (show x ≠ y from fun h => by subst h; exact he (Hxk.out.symm.trans Hyk.out))
          clear he hstep
          go_wp2_with fail
          go_quiet (fail)
          go_wp2_with fail
          go_ret
          exact ⟨ret_bool (decide_eq_false Hne.out).symm, below_drewN Hb.out _⟩
      · have Hs := Lib.hid (show x = y by
          have := Hk.out
          have h1 := Hxn.out
          have h2 := Hym.out
          rwa [List.take_of_length_le (by omega), List.take_of_length_le (by omega)] at this)
        go_wp2_with fail
        go_ret
        exact ⟨ret_bool (decide_eq_true Hs.out).symm, Hb.out⟩
  · have Hne := Lib.hid (show x ≠ y from fun h => hn (by rw [← Hxn.out, ← Hym.out, h]))
    go_enter Tryd.func10, Tryd.ntmps10
    go_wp2_with fail
    go_ret
    exact ⟨ret_bool (decide_eq_false Hne.out).symm, Below.refl _ _⟩

end Go.Proofs.YtebmbghlhicjlaaDoor.Lx
