/- Parts: QaM. -/
import Derived.Test.YtgehjklodphogaaGreatDoorMg04
import Derived.Test.YtgehjklodphogaaGreatDoorProg
import Derived.Maps.AppendAt
import Derived.Deep.DeepMust
import Derived.Laws.OwnMore
import Derived.Deep.AppendLies
import Derived.Laws.StructEq

/- Instructions in memory. -/
namespace Go.Proofs.YtgehjklodphogaaGreatDoor.Cd
open Go.RowKit Go.Proofs.YtgehjklodphogaaGreatDoor.Lx Go.Proofs.YtgehjklodphogaaGreatDoor.Pa

/-! ### blocks -/
theorem ltH {w : World} {b : Nat} {o : Obj} (h : w.heap[b]? = some o) : b < w.heap.size := (Array.getElem?_eq_some_iff.1 h).1
theorem allocB (w : World) (o : Obj) : Below w.heap.size w (w.alloc o) := (Below.refl _ _).alloc (Nat.le_refl _) _
theorem stepH {a b c : World} (h1 : Below a.heap.size a b) (h2 : Below b.heap.size b c) : Below a.heap.size a c := h1.trans (h2.mono h1.size)
theorem ownSame {w w' : World} {base : Nat} {e : TypeId} {size n : Nat} {v : Value} {xs : List Value} (h : w.ownsRow base e size v n xs)
    (hb : ∀ g, v.ownBlock = some g → g < w.heap.size → w'.heap[g]? = w.heap[g]?) : w'.ownsRow base e size v n xs := by
  refine ⟨h.1, ?_⟩
  rcases h.2 with h2 | ⟨g, cap, cur, rfl, h3, h4, h5⟩
  · exact .inl h2
  · refine .inr ⟨g, cap, cur, rfl, h3, ?_, h5⟩
    rw [hb g rfl (Array.getElem?_eq_some_iff.1 h4).1]
    exact h4
theorem ownForm {w : World} {base n : Nat} {e : TypeId} {size : Nat} {v : Value} {xs : List Value} (h : w.ownsRow base e size v n xs) : ∃ a c, v = .slice a n c := by
  rcases h.2 with ⟨rfl, rfl⟩ | ⟨g, cap, cur, rfl, _⟩
  · exact ⟨_, _, rfl⟩
  · exact ⟨_, _, rfl⟩
theorem ownBase {w : World} {base base' n size : Nat} {e : TypeId} {v : Value} {xs : List Value} (h : w.ownsRow base e size v n xs) (hb : base' ≤ base) : w.ownsRow base' e size v n xs := by
  refine ⟨h.1, ?_⟩
  rcases h.2 with h2 | ⟨g, cap, cur, e, h1, h2⟩
  · exact .inl h2
  · exact .inr ⟨g, cap, cur, e, by omega, h2⟩

/-! ### instructions -/
def Ins.cells (x : Ins) : List Value := [.int .u8 x.op, .int .u8 x.st.kind, .string ⟨x.st.text.toArray⟩, .int .i64 x.st.num, .int .i64 x.to]
def insC (l : List Ins) : List Value := l.flatMap Ins.cells
theorem insC_snoc (l : List Ins) (x : Ins) : insC (l ++ [x]) = insC l ++ x.cells := by simp [insC]
theorem insC_length (l : List Ins) : (insC l).length = l.length * 5 := by
  induction l with
  | nil => rfl
  | cons x l ih =>
    show (x.cells ++ insC l).length = _
    rw [List.length_append, ih, List.length_cons, Nat.add_mul, Nat.add_comm]
    rfl
theorem insC_get : ∀ (l : List Ins) (i : Nat) (h : i < l.length), (insC l)[i * 5]? = some (.int .u8 l[i].op) ∧ (insC l)[i * 5 + 1]? = some (.int .u8 l[i].st.kind) ∧ (insC l)[i * 5 + 2]? = some (.string ⟨l[i].st.text.toArray⟩) ∧ (insC l)[i * 5 + 3]? = some (.int .i64 l[i].st.num) ∧ (insC l)[i * 5 + 4]? = some (.int .i64 l[i].to)
  | [], i, h => absurd h (Nat.not_lt_zero _)
  | t :: l, 0, _ => ⟨rfl, rfl, rfl, rfl, rfl⟩
  | t :: l, i + 1, h => by
    have hi := insC_get l i (by simpa using h)
    have e : insC (t :: l) = t.cells ++ insC l := rfl
    have hl : t.cells.length = 5 := rfl
    rw [e]
    refine ⟨?_, ?_, ?_, ?_, ?_⟩
    · rw [List.getElem?_append_right (by omega), hl, show (i + 1) * 5 - 5 = i * 5 by omega]; exact hi.1
    · rw [List.getElem?_append_right (by omega), hl, show (i + 1) * 5 + 1 - 5 = i * 5 + 1 by omega]; exact hi.2.1
    · rw [List.getElem?_append_right (by omega), hl, show (i + 1) * 5 + 2 - 5 = i * 5 + 2 by omega]; exact hi.2.2.1
    · rw [List.getElem?_append_right (by omega), hl, show (i + 1) * 5 + 3 - 5 = i * 5 + 3 by omega]; exact hi.2.2.2.1
    · rw [List.getElem?_append_right (by omega), hl, show (i + 1) * 5 + 4 - 5 = i * 5 + 4 by omega]; exact hi.2.2.2.2
structure InsCells (w : World) (g o : Nat) (x : Ins) : Prop where
  c0 : w.cell? ⟨g, o, none⟩ = some (.int .u8 x.op)
  c1 : w.cell? ⟨g, o + 1, none⟩ = some (.int .u8 x.st.kind)
  c2 : w.cell? ⟨g, o + 2, none⟩ = some (.string ⟨x.st.text.toArray⟩)
  c3 : w.cell? ⟨g, o + 3, none⟩ = some (.int .i64 x.st.num)
  c4 : w.cell? ⟨g, o + 4, none⟩ = some (.int .i64 x.to)
theorem InsCells.keep {w w' : World} {g o : Nat} {x : Ins} (h : InsCells w g o x) (hb : w'.heap[g]? = w.heap[g]?) : InsCells w' g o x :=
  ⟨(World.cell?_of_block (w := w) (a := ⟨g, _, none⟩) hb).trans h.c0, (World.cell?_of_block (w := w) (a := ⟨g, _, none⟩) hb).trans h.c1, (World.cell?_of_block (w := w) (a := ⟨g, _, none⟩) hb).trans h.c2, (World.cell?_of_block (w := w) (a := ⟨g, _, none⟩) hb).trans h.c3, (World.cell?_of_block (w := w) (a := ⟨g, _, none⟩) hb).trans h.c4⟩
theorem InsCells.lt {w : World} {g o : Nat} {x : Ins} (h : InsCells w g o x) : g < w.heap.size := World.block_lt_of_cell? _ _ h.c0
theorem InsCells.below {w w' : World} {g o : Nat} {x : Ins} (h : InsCells w g o x) (hb : Below w.heap.size w w') : InsCells w' g o x := h.keep (hb.block g h.lt)
/-- a slice that reads as instructions, wherever it begins -/
def InsIn (w : World) (v : Value) (l : List Ins) : Prop := ∃ (a : Option Addr) (n c : Nat), v = .slice a n c ∧ l.length = n ∧ n ≤ c ∧ ∀ (i : Nat) (h : i < l.length), ∃ g o, a = some ⟨g, o, none⟩ ∧ InsCells w g (o + i * 5) l[i]
/-- the block stays -/
theorem InsIn.keep {w w' : World} {v : Value} {l : List Ins} (h : InsIn w v l) (hb : ∀ g, v.ownBlock = some g → g < w.heap.size → w'.heap[g]? = w.heap[g]?) : InsIn w' v l := by
  obtain ⟨a, n, c, rfl, hn, hc, hj⟩ := h
  refine ⟨a, n, c, rfl, hn, hc, fun i hi => ?_⟩
  obtain ⟨g, o, rfl, hcl⟩ := hj i hi
  exact ⟨g, o, rfl, hcl.keep (hb g rfl hcl.lt)⟩
theorem InsIn.below {w w' : World} {v : Value} {l : List Ins} (h : InsIn w v l) (hb : Below w.heap.size w w') : InsIn w' v l := h.keep fun g _ hg => hb.block g hg
theorem InsIn.own {w : World} {base n : Nat} {v : Value} {l : List Ins} (h : w.ownsRow base 36 5 v n (insC l)) (hn : n = l.length) : InsIn w v l := by
  subst hn
  rcases h.2 with ⟨rfl, h0⟩ | ⟨g, cap, cur, e, _, h2, h3, _⟩
  · exact ⟨none, 0, 0, rfl, h0, Nat.le_refl _, fun i hi => by omega⟩
  · subst e
    refine ⟨_, _, _, rfl, rfl, h3, fun i hi => ⟨g, 0, rfl, ?_⟩⟩
    obtain ⟨k0, k1, k2, k3, k4⟩ := insC_get l i hi
    refine ⟨?_, ?_, ?_, ?_, ?_⟩
    · rw [World.ownsRow.cellAt h _ (by omega), Nat.zero_add]; exact k0
    · rw [World.ownsRow.cellAt h _ (by omega), Nat.zero_add]; exact k1
    · rw [World.ownsRow.cellAt h _ (by omega), Nat.zero_add]; exact k2
    · rw [World.ownsRow.cellAt h _ (by omega), Nat.zero_add]; exact k3
    · rw [World.ownsRow.cellAt h _ (by omega), Nat.zero_add]; exact k4
theorem insInfo : (Tryz.prog.info? 36).map (fun i => (i.zero, i.size, i.bytes)) = some (some (.agg #[.int .u8 0, .int .u8 0, .string ⟨#[]⟩, .int .i64 0, .int .i64 0]), 5, 48) := by kernel_rfl
/-- a slice of programs -/
def ProgsIn (w : World) (v : Value) (ps : List (List Ins)) : Prop := ∃ (a : Option Addr) (n c : Nat), v = .slice a n c ∧ ps.length = n ∧ n ≤ c ∧ ∀ (i : Nat) (h : i < ps.length), ∃ g o ve, a = some ⟨g, o, none⟩ ∧ w.cell? ⟨g, o + i, none⟩ = some ve ∧ InsIn w ve ps[i]
theorem ProgsIn.below {w w' : World} {v : Value} {ps : List (List Ins)} (h : ProgsIn w v ps) (hb : Below w.heap.size w w') : ProgsIn w' v ps := by
  obtain ⟨a, n, c, rfl, hn, hc, hj⟩ := h
  refine ⟨a, n, c, rfl, hn, hc, fun i hi => ?_⟩
  obtain ⟨g, o, ve, e, h0, h1⟩ := hj i hi
  have hg : g < w.heap.size := World.block_lt_of_cell? _ _ h0
  exact ⟨g, o, ve, e, (hb.cell (p := ⟨g, _, none⟩) hg).trans h0, h1.below hb⟩
theorem fiveB {w : World} {B : Nat} {a b c d e : Value} {T : TypeId} (h : w.heap[B]? = some (.cells #[a, b, c, d, e] T)) :
    (w.cell? ⟨B, 0, none⟩ = some a ∧ w.cell? ⟨B, 1, none⟩ = some b ∧ w.cell? ⟨B, 2, none⟩ = some c ∧ w.cell? ⟨B, 3, none⟩ = some d ∧ w.cell? ⟨B, 4, none⟩ = some e) ∧
    (w.frozen? ⟨B, 0, none⟩ = false ∧ w.frozen? ⟨B, 1, none⟩ = false ∧ w.frozen? ⟨B, 2, none⟩ = false ∧ w.frozen? ⟨B, 3, none⟩ = false ∧ w.frozen? ⟨B, 4, none⟩ = false) := by
  simp [World.cell?, World.frozen?, h]

/-! ### two instructions compared -/
section
variable {P : Program} {w : World} {d : Nat} {xs ys : Array Value} {f : Field} {fs : List Field} {a b : Value} {r s : Bool}
theorem fieldsLast (hn : (f.name == "_") = false) (ha : (part f.type xs f.offset).run P w = .ok a w) (hb : (part f.type ys f.offset).run P w = .ok b w) (he : (Op.equalIn d f.type a b).run P w = .ok r w) : (Op.eqFields d xs ys [f]).run P w = .ok r w := by
  have hn' : f.name ≠ "_" := by simpa using hn
  simp only [Op.eqFields, if_pos hn', Sem.run_bind, ha, hb, he, Result.andThen_ok]
  cases r <;> simp
theorem fieldsCons (hn : (f.name == "_") = false) (ha : (part f.type xs f.offset).run P w = .ok a w) (hb : (part f.type ys f.offset).run P w = .ok b w) (he : (Op.equalIn d f.type a b).run P w = .ok r w) (hr : (Op.eqFields d xs ys fs).run P w = .ok s w) : (Op.eqFields d xs ys (f :: fs)).run P w = .ok (r && s) w := by
  have hn' : f.name ≠ "_" := by simpa using hn
  rw [Op.eqFields]
  simp only [if_pos hn', Sem.run_bind, ha, hb, he, Result.andThen_ok]
  cases r
  · simp
  · simpa using hr
theorem aggOf {t : TypeId} {fs : Array Field} (hu : P.underlying t = some (.struct fs)) (hp : P.stoodInHeld t = false) (h : (Op.eqFields d xs ys fs.toList).run P w = .ok r w) : (Op.equalIn (d + 1) t (.agg xs) (.agg ys)).run P w = .ok r w := by
  have hf : P.fieldsOf t = fs := by simp [Program.fieldsOf, hu]
  rw [run_equalIn_struct (P := P) w d t xs ys (by rw [hf]; exact hu) hp, hf]
  exact h
end
def stpQ (x0 y0 : Int) (x1 y1 : ByteArray) (x2 y2 : Int) : Bool := (x0 == y0) && ((x1.toList == y1.toList) && (x2 == y2))
theorem stpQ_equal (d : Nat) (w : World) (x0 y0 : Int) (x1 y1 : ByteArray) (x2 y2 : Int) :
    (Op.equalIn (d + 2) 34 (.agg #[.int .u8 x0, .string x1, .int .i64 x2]) (.agg #[.int .u8 y0, .string y1, .int .i64 y2])).run Tryz.prog w = .ok (stpQ x0 y0 x1 y1 x2 y2) w := by
  refine aggOf Tryz.underlying34 (by kernel_rfl) ?_
  refine fieldsCons (by rfl) (by go_simp; rfl) (by go_simp; rfl) (by go_simp) ?_
  refine fieldsCons (by rfl) (by go_simp; rfl) (by go_simp; rfl) (by go_simp) ?_
  exact fieldsLast (by rfl) (by go_simp; rfl) (by go_simp; rfl) (by go_simp)
def insQ (o o' k k' : Int) (t t' : ByteArray) (n n' m m' : Int) : Bool := (o == o') && (stpQ k k' t t' n n' && (m == m'))
attribute [local go_sem high] stpQ_equal in
theorem ins_equal (d : Nat) (w : World) (o o' k k' : Int) (t t' : ByteArray) (n n' m m' : Int) :
    (Op.equalIn (d + 3) 36 (.agg #[.int .u8 o, .int .u8 k, .string t, .int .i64 n, .int .i64 m]) (.agg #[.int .u8 o', .int .u8 k', .string t', .int .i64 n', .int .i64 m'])).run Tryz.prog w = .ok (insQ o o' k k' t t' n n' m m') w := by
  refine aggOf Tryz.underlying36 (by kernel_rfl) ?_
  refine fieldsCons (by rfl) (by go_simp; rfl) (by go_simp; rfl) (by go_simp) ?_
  refine fieldsCons (by rfl) (by go_simp) (by go_simp) (stpQ_equal _ _ _ _ _ _ _ _) ?_
  exact fieldsLast (by rfl) (by go_simp; rfl) (by go_simp; rfl) (by go_simp)
theorem insQ_eq (x y : Ins) : insQ x.op y.op x.st.kind y.st.kind ⟨x.st.text.toArray⟩ ⟨y.st.text.toArray⟩ x.st.num y.st.num x.to y.to = decide (x = y) := by
  rw [Bool.eq_iff_iff, decide_eq_true_iff]
  obtain ⟨o, ⟨k, t, n⟩, m⟩ := x
  obtain ⟨o', ⟨k', t', n'⟩, m'⟩ := y
  unfold insQ stpQ
  simp only [Bool.and_eq_true, beq_iff_eq, ByteArray.toList_eq, Ins.mk.injEq, Stp.mk.injEq, Int.natCast_inj, and_assoc]

end Go.Proofs.YtgehjklodphogaaGreatDoor.Cd
