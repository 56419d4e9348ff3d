/- Parts: QbD QbI. -/
import Derived.Test.YtgehjklodphogaaGreatDoorMh01

/- Steps, instructions behind a row of one's own. -/
namespace Go.Proofs.YtgehjklodphogaaGreatDoor.Cd
open Go.RowKit Go.Proofs.YtgehjklodphogaaGreatDoor.Lx Go.Proofs.YtgehjklodphogaaGreatDoor.Pa

theorem stepsC_length (l : List Stp) : (stpsC l).length = l.length * 3 := by
  induction l with
  | nil => rfl
  | cons t l ih => simp only [stpsC, List.flatMap_cons, List.length_append] at ih ⊢; rw [ih]; simp [Stp.cells]; omega
theorem stepsC_cells (l : List Stp) : ∀ u ∈ stpsC l, u.oneCell' = true := by
  intro u hu
  unfold stpsC at hu
  obtain ⟨t, _, hu⟩ := List.mem_flatMap.1 hu
  simp only [Stp.cells, List.mem_cons, List.mem_nil_iff, or_false] at hu
  rcases hu with rfl | rfl | rfl <;> rfl
theorem steps_news {W : World} {g o : Nat} {l : List Stp} (h : ∀ (i : Nat) (hi : i < l.length), StpCells W g (o + i * 3) l[i]) (j : Nat) (u : Value) (hj : (stpsC l)[j]? = some u) : W.cell? ((⟨g, o, none⟩ : Addr).add j) = some u := by
  have hlt := (List.getElem?_eq_some_iff.1 hj).1
  rw [stepsC_length] at hlt
  have hi : j / 3 < l.length := by omega
  have hc := h (j / 3) hi
  obtain ⟨c0, c1, c2⟩ := stpsC_get l (j / 3) hi
  rw [Addr.add_lit, ← hj]
  have hr : j % 3 = 0 ∨ j % 3 = 1 ∨ j % 3 = 2 := by omega
  rcases hr with hr | hr | hr
  · rw [show j = j / 3 * 3 by omega, c0]; exact hc.c0
  · have e : j = j / 3 * 3 + 1 := by omega
    rw [e, c1, ← Nat.add_assoc]; exact hc.c1
  · have e : j = j / 3 * 3 + 2 := by omega
    rw [e, c2, ← Nat.add_assoc]; exact hc.c2
theorem own0S (W : World) : (W.alloc (.cells #[] 34)).ownsRow W.heap.size 34 3 (.slice (some ⟨W.heap.size, 0, none⟩) 0 0) 0 (stpsC []) :=
  ⟨rfl, .inr ⟨W.heap.size, 0, #[], rfl, Nat.le_refl _, heap_alloc_new _ _, Nat.le_refl _, Nat.zero_le _, rfl, rfl⟩⟩
theorem one_step (W : World) (y : Stp) : StpsIn (W.alloc (.cells #[.int .u8 y.kind, .string ⟨y.text.toArray⟩, .int .i64 y.num] 34)) (.slice (some ⟨W.heap.size, 0, none⟩) 1 1) [y] := by
  refine ⟨_, _, _, rfl, rfl, Nat.le_refl _, fun i hi => ⟨W.heap.size, 0, rfl, ?_⟩⟩
  obtain rfl : i = 0 := by simpa using hi
  have hb := heap_alloc_new W (.cells #[.int .u8 y.kind, .string ⟨y.text.toArray⟩, .int .i64 y.num] 34)
  obtain ⟨⟨c0, c1, c2⟩, -⟩ := threeC hb
  exact ⟨c0, c1, c2⟩
theorem run_append_none {P : Program} (w : World) (t ty e : TypeId) (i : TypeInfo) (ht : P.underlying t = some (.slice e)) (hi : P.info? e = some i) (g n c c' : Nat) (hnc : n ≤ c) :
    (Builtin.append_ #[t, t] ty #[.slice (some ⟨g, 0, none⟩) n c, .slice none 0 c']).run P w = .ok (.slice (some ⟨g, 0, none⟩) n c) w := by
  simp [Builtin.append_, run_underlying ht, sizeOf, typeInfo, hi, Builtin.lenOf, Builtin.firstCells, hnc, storeCells]

/-- steps behind a row of one's own -/
theorem wp_appS {ops : Array Oper} {rest : List Oper} {o : Oper} {a : Act} {Q : Exit → Act → World → Prop} {Wc : World} (hgd : o.guard = none) (s x : Operand) (ho : o.op = .call { callee := .builtin .append, args := #[s, x], argTypes := #[22, 22] })
    (base : Nat) (g0 n c0 : Nat) (xs : List Stp) (hs : a.eval s = .slice (some ⟨g0, 0, none⟩) n c0) (hown : Wc.ownsRow base 34 3 (.slice (some ⟨g0, 0, none⟩) n c0) n (stpsC xs)) (v : Value) (l : List Stp) (hx : a.eval x = v) (hv : StpsIn Wc v l) (m : Nat) (hl : l.length = m) (hn : n + m ≤ 100000000) (hbase : base ≤ Wc.heap.size)
    (h : ∀ g' c' W', W'.ownsRow base 34 3 (.slice (some ⟨g', 0, none⟩) (n + m) c') (n + m) (stpsC (xs ++ l)) → Below base Wc W' → wpList Tryz.prog ops Q rest (a.put o.dst (.slice (some ⟨g', 0, none⟩) (n + m) c')) W') :
    wpList Tryz.prog ops Q (o :: rest) a Wc := by
  obtain ⟨i0, hi0, hz0, hz1, hz2⟩ := info_parts stpInfo
  obtain ⟨av, m', cv, rfl, hl', hmc, hj⟩ := hv
  obtain rfl : m' = m := by omega
  cases av with
  | none =>
    have h0 : l = [] := by
      cases l with
      | nil => rfl
      | cons y l => obtain ⟨_, _, e, _⟩ := hj 0 (by simp); cases e
    subst h0
    obtain rfl : m' = 0 := by simpa using hl'.symm
    have hnc : n ≤ c0 := by
      rcases hown.2 with ⟨e, _⟩ | ⟨g, cap, cur, e, _, _, r3, _⟩
      · cases e
      · simp only [Value.slice.injEq] at e; omega
    refine wpList_plain hgd fun K hK => ?_
    unfold Oper.wp execOp
    simp only [ho, resolve, invoke, builtin, Sem.run_bind, Sem.run_pure, Result.andThen_ok, List.map_toArray, List.map_cons, List.map_nil, hs, hx, run_append_none (P := Tryz.prog) Wc 22 o.type 34 i0 Tryz.underlying22 hi0 g0 n c0 cv hnc]
    exact hK _ _ (h g0 c0 Wc (by simpa using hown) (Below.refl _ _))
  | some ad =>
    have hnews : ∀ j u, (stpsC l)[j]? = some u → Wc.cell? (ad.add j) = some u := by
      cases l with
      | nil => intro j u e; simp [stpsC] at e
      | cons y l =>
        obtain ⟨g, o', e, _⟩ := hj 0 (by simp)
        obtain rfl := Option.some.inj e
        exact steps_news fun i hi => by
          obtain ⟨g', o'', e', hcl⟩ := hj i hi
          simp only [Option.some.injEq, Addr.mk.injEq, and_true] at e'
          obtain ⟨rfl, rfl⟩ := e'
          exact hcl
    refine wpList_append_own_at Wc hgd s x 22 ho base 34 i0 _ 3 32 Tryz.underlying22 hi0 hz0 hz1 hz2 rfl (by decide) _ n (stpsC xs) hs hown ad m' cv (stpsC l) hx (by rw [stepsC_length, hl']) hnews (stepsC_cells l) (by unfold maxLen; omega) (by omega) hbase ?_
    intro v' W' hown' hg hiff _
    obtain ⟨g', c', rfl⟩ : ∃ g' c', v' = .slice (some ⟨g', 0, none⟩) (n + m') c' := by
      rcases hown'.2 with ⟨e, _⟩ | ⟨g, cap, cur, e, _⟩
      · have := (hiff.1 e).1; cases this
      · exact ⟨g, cap, e⟩
    exact h g' c' W' (by rw [show stpsC (xs ++ l) = stpsC xs ++ stpsC l by simp [stpsC]]; exact hown') ((Below.refl base Wc).grown hg hbase fun b hb => (World.ownsRow.lt hown b hb).1)

theorem insC_cells (l : List Ins) : ∀ u ∈ insC l, u.oneCell' = true := by
  intro u hu
  unfold insC at hu
  obtain ⟨t, _, hu⟩ := List.mem_flatMap.1 hu
  simp only [Ins.cells, List.mem_cons, List.mem_nil_iff, or_false] at hu
  rcases hu with rfl | rfl | rfl | rfl | rfl <;> rfl
theorem ins_news {W : World} {g o : Nat} {l : List Ins} (h : ∀ (i : Nat) (hi : i < l.length), InsCells W g (o + i * 5) l[i]) (j : Nat) (u : Value) (hj : (insC l)[j]? = some u) : W.cell? ((⟨g, o, none⟩ : Addr).add j) = some u := by
  have hlt := (List.getElem?_eq_some_iff.1 hj).1
  rw [insC_length] at hlt
  have hi : j / 5 < l.length := by omega
  have hc := h (j / 5) hi
  obtain ⟨c0, c1, c2, c3, c4⟩ := insC_get l (j / 5) hi
  rw [Addr.add_lit, ← hj]
  have hr : j % 5 = 0 ∨ j % 5 = 1 ∨ j % 5 = 2 ∨ j % 5 = 3 ∨ j % 5 = 4 := by omega
  rcases hr with hr | hr | hr | hr | hr
  · rw [show j = j / 5 * 5 by omega, c0]; exact hc.c0
  · have e : j = j / 5 * 5 + 1 := by omega
    rw [e, c1, ← Nat.add_assoc]; exact hc.c1
  · have e : j = j / 5 * 5 + 2 := by omega
    rw [e, c2, ← Nat.add_assoc]; exact hc.c2
  · have e : j = j / 5 * 5 + 3 := by omega
    rw [e, c3, ← Nat.add_assoc]; exact hc.c3
  · have e : j = j / 5 * 5 + 4 := by omega
    rw [e, c4, ← Nat.add_assoc]; exact hc.c4
theorem own0I (W : World) : (W.alloc (.cells #[] 36)).ownsRow W.heap.size 36 5 (.slice (some ⟨W.heap.size, 0, none⟩) 0 0) 0 (insC []) :=
  ⟨rfl, .inr ⟨W.heap.size, 0, #[], rfl, Nat.le_refl _, heap_alloc_new _ _, Nat.le_refl _, Nat.zero_le _, rfl, rfl⟩⟩
theorem one_ins (W : World) (x : Ins) (i : Nat) (hi : i < [x].length) : InsCells (W.alloc (.cells #[.int .u8 x.op, .int .u8 x.st.kind, .string ⟨x.st.text.toArray⟩, .int .i64 x.st.num, .int .i64 x.to] 36)) W.heap.size (0 + i * 5) [x][i] := by
  obtain rfl : i = 0 := by simpa using hi
  have hb := heap_alloc_new W (.cells #[.int .u8 x.op, .int .u8 x.st.kind, .string ⟨x.st.text.toArray⟩, .int .i64 x.st.num, .int .i64 x.to] 36)
  obtain ⟨⟨c0, c1, c2, c3, c4⟩, -⟩ := fiveB hb
  exact ⟨c0, c1, c2, c3, c4⟩
/-- instructions behind a row of one's own -/
theorem wp_appI {ops : Array Oper} {rest : List Oper} {o : Oper} {a : Act} {Q : Exit → Act → World → Prop} {Wc : World} (hgd : o.guard = none) (s x : Operand) (ho : o.op = .call { callee := .builtin .append, args := #[s, x], argTypes := #[23, 23] })
    (base : Nat) (v : Value) (n : Nat) (xs : List Ins) (hs : a.eval s = v) (hown : Wc.ownsRow base 36 5 v n (insC xs)) (g ofs m c : Nat) (l : List Ins) (hx : a.eval x = .slice (some ⟨g, ofs, none⟩) m c) (hl : l.length = m)
    (hc : ∀ (i : Nat) (hi : i < l.length), InsCells Wc g (ofs + i * 5) l[i]) (hn : n + m ≤ 100000) (hm : 0 < n + m) (hbase : base ≤ Wc.heap.size)
    (h : ∀ g' c' W', W'.ownsRow base 36 5 (.slice (some ⟨g', 0, none⟩) (n + m) c') (n + m) (insC (xs ++ l)) → Below base Wc W' → wpList Tryz.prog ops Q rest (a.put o.dst (.slice (some ⟨g', 0, none⟩) (n + m) c')) W') :
    wpList Tryz.prog ops Q (o :: rest) a Wc := by
  obtain ⟨i0, hi0, hz0, hz1, hz2⟩ := info_parts insInfo
  refine wpList_append_own_at Wc hgd s x 23 ho base 36 i0 _ 5 48 Tryz.underlying23 hi0 hz0 hz1 hz2 rfl (by decide) v n (insC xs) hs hown ⟨g, ofs, none⟩ m c (insC l) hx (by rw [insC_length, hl]) (ins_news hc) (insC_cells l) (by unfold maxLen; omega) (by omega) hbase ?_
  intro v' W' hown' hg _ _
  obtain ⟨g', c', rfl, _, _⟩ := World.ownsRow.form hown' hm
  refine h g' c' W' (by rw [show insC (xs ++ l) = insC xs ++ insC l by simp [insC]]; exact hown') ((Below.refl base Wc).grown hg hbase fun b hb => (World.ownsRow.lt hown b hb).1)
theorem InsIn.prefix {w : World} {g o n c : Nat} {i : List Ins} {x : Ins} (h : InsIn w (.slice (some ⟨g, o, none⟩) n c) (i ++ [x])) : InsIn w (.slice (some ⟨g, o, none⟩) (n - 1) c) i ∧ InsCells w g (o + (n - 1) * 5) x ∧ 1 ≤ n ∧ n ≤ c ∧ i.length = n - 1 := by
  obtain ⟨a, n', c', e, hn, hc, hj⟩ := h
  simp only [Value.slice.injEq] at e
  obtain ⟨rfl, rfl, rfl⟩ := e
  rw [List.length_append, List.length_singleton] at hn
  have hi : i.length = n - 1 := by omega
  refine ⟨⟨_, _, _, rfl, hi, by omega, fun j hlt => ?_⟩, ?_, by omega, hc, hi⟩
  · obtain ⟨g', o', e', hcl⟩ := hj j (by rw [List.length_append]; omega)
    simp only [Option.some.injEq, Addr.mk.injEq, and_true] at e'
    obtain ⟨rfl, rfl⟩ := e'
    rw [List.getElem_append_left hlt] at hcl
    exact ⟨g, o, rfl, hcl⟩
  · obtain ⟨g', o', e', hcl⟩ := hj (n - 1) (by rw [List.length_append, List.length_singleton]; omega)
    simp only [Option.some.injEq, Addr.mk.injEq, and_true] at e'
    obtain ⟨rfl, rfl⟩ := e'
    rw [List.getElem_append_right (by omega)] at hcl
    simpa using hcl

end Go.Proofs.YtgehjklodphogaaGreatDoor.Cd

/- code: Read, what its loop keeps. -/
namespace Go.Proofs.YtgehjklodphogaaGreatDoor.Cd
open Go.RowKit Go.Proofs.YtgehjklodphogaaGreatDoor.Lx Go.Proofs.YtgehjklodphogaaGreatDoor.Pa

/-! ### the cursor never goes back -/
theorem take_le (c : Cu) (n : Nat) : (c.take n).2.left.length ≤ c.left.length ∧ (c.take n).1.length ≤ c.left.length := by
  unfold Cu.take
  split
  · simp
  · simp only [List.length_drop, List.length_take]; omega
theorem byte_le (c : Cu) : c.byte.2.left.length ≤ c.left.length := (take_le c 1).1
theorem number_le (c : Cu) : c.number.2.left.length ≤ c.left.length := by
  unfold Cu.number
  split
  · exact Nat.le_refl _
  · exact (take_le c _).1
theorem number_lt (c : Cu) : c.number.1 < 18446744073709551616 := by
  unfold Cu.number
  split
  · exact (by decide : 0 < 18446744073709551616)
  · rename_i r h
    exact (readN_back (n := r.1) (k := r.2) h).1
theorem ins_le (c : Cu) : (insF c).2.left.length ≤ c.left.length ∧ (insF c).1.st.text.length ≤ c.left.length := by
  unfold insF
  have h1 := byte_le c
  split
  · have h2 := byte_le c.byte.2
    have h3 := number_le c.byte.2.byte.2
    have h4 := number_le c.byte.2.byte.2.number.2
    have h5 := take_le c.byte.2.byte.2.number.2.number.2 c.byte.2.byte.2.number.2.number.1
    simp only
    omega
  · split
    · have h2 := number_le c.byte.2
      simp only [stp0, List.length_nil]
      omega
    · simp only [stp0, List.length_nil]
      omega

/-- what Read hands back -/
def readQ (l : Txt) : List Ins × Cu := readF l.length [] ⟨l, false⟩
def GaveD (w : World) (l : Txt) (e : Ending) (w' : World) : Prop := Below w.heap.size w w' ∧
  if l.length ≤ 16384 then (if (readQ l).2.bad = false ∧ checkI (readQ l).1 = true then ∃ v', e = .returned (.tuple #[v', .int .i64 0]) ∧ InsIn w' v' (readQ l).1 else e = .returned (.tuple #[.slice none 0 0, .int .i64 11])) else e = .returned (.tuple #[.slice none 0 0, .int .i64 4])

/-- what is read so far -/
structure RdM (w wr : World) (B : Nat) (v : Value) (out : List Ins) (c : Cu) : Prop where
  cur : CurM w wr B c
  own : wr.ownsRow (B + 1) 36 5 v out.length (insC out)
/-- .. and the instruction at hand, in block X -/
structure RdX (w wx : World) (B X : Nat) (v : Value) (out : List Ins) (c : Cu) (x : Ins) : Prop where
  rd : RdM w wx B v out c
  blk : wx.heap[X]? = some (.cells #[.int .u8 x.op, .int .u8 x.st.kind, .string ⟨x.st.text.toArray⟩, .int .i64 x.st.num, .int .i64 x.to] 36)
  lt : B < X
  ne : v.ownBlock ≠ some X
theorem RdM.own_ne {w wr : World} {B : Nat} {v : Value} {out : List Ins} {c : Cu} (h : RdM w wr B v out c) : v.ownBlock ≠ some B := fun e => by
  have := (World.ownsRow.lt h.own B e).1
  omega
theorem RdM.cursor {w wr w' : World} {B : Nat} {v : Value} {out : List Ins} {c c' : Cu} (h : RdM w wr B v out c) (hc : CurM w w' B c') (ho : Only B wr w') : RdM w w' B v out c' :=
  ⟨hc, ownSame h.own fun g hg _ => ho.block g fun e => h.own_ne (by rw [hg, e])⟩
theorem RdM.alloc {w wr : World} {B : Nat} {v : Value} {out : List Ins} {c : Cu} (h : RdM w wr B v out c) (x : Ins) :
    RdX w (wr.alloc (.cells #[.int .u8 x.op, .int .u8 x.st.kind, .string ⟨x.st.text.toArray⟩, .int .i64 x.st.num, .int .i64 x.to] 36)) B wr.heap.size v out c x := by
  have hb := allocB wr (.cells #[.int .u8 x.op, .int .u8 x.st.kind, .string ⟨x.st.text.toArray⟩, .int .i64 x.st.num, .int .i64 x.to] 36)
  exact ⟨⟨⟨(hb.block _ (ltH h.cur.blk)).trans h.cur.blk, stepH h.cur.bel hb, h.cur.low⟩, ownSame h.own fun g _ hg => hb.block g hg⟩, heap_alloc_new _ _, ltH h.cur.blk, fun e => by have := (World.ownsRow.lt h.own _ e).2; omega⟩
theorem RdX.cursor {w wx w' : World} {B X : Nat} {v : Value} {out : List Ins} {c c' : Cu} {x : Ins} (h : RdX w wx B X v out c x) (hc : CurM w w' B c') (ho : Only B wx w') : RdX w w' B X v out c' x :=
  ⟨h.rd.cursor hc ho, (ho.block X (by have := h.lt; omega)).trans h.blk, h.lt, h.ne⟩
theorem RdX.set {w wx : World} {B X : Nat} {v : Value} {out : List Ins} {c : Cu} {x : Ins} (h : RdX w wx B X v out c x) (x' : Ins) (i : Nat) (u : Value)
    (e : (#[.int .u8 x.op, .int .u8 x.st.kind, .string ⟨x.st.text.toArray⟩, .int .i64 x.st.num, .int .i64 x.to] : Array Value).setIfInBounds i u = #[.int .u8 x'.op, .int .u8 x'.st.kind, .string ⟨x'.st.text.toArray⟩, .int .i64 x'.st.num, .int .i64 x'.to]) :
    RdX w (wx.setCell ⟨X, i, none⟩ u) B X v out c x' := by
  have hlt := h.lt
  have hlow := h.rd.cur.low
  refine ⟨⟨⟨(Below.heap_setCell _ _ _ _ (show B ≠ X by omega)).trans h.rd.cur.blk, h.rd.cur.bel.setCell (show w.heap.size ≤ X by omega) _, hlow⟩, ownSame h.rd.own fun g hg _ => Below.heap_setCell _ _ _ _ (fun (e : g = X) => h.ne (by rw [hg, e]))⟩, ?_, hlt, h.ne⟩
  have hc := h.blk
  simp only [World.setCell, Array.getElem?_modify, if_true, hc, Option.map_some, ← e]
  rfl
theorem RdX.more {w wx w' : World} {B X g' c' n : Nat} {v : Value} {out : List Ins} {c : Cu} {x : Ins} {o : Obj} (h : RdX w wx B X v out c x) (hown : w'.ownsRow (B + 1) 36 5 (.slice (some ⟨g', 0, none⟩) n c') n (insC (out ++ [x]))) (hn : n = (out ++ [x]).length) (hb : Below (B + 1) (wx.alloc o) w') : RdM w w' B (.slice (some ⟨g', 0, none⟩) n c') (out ++ [x]) c := by
  subst hn
  have hlow := h.rd.cur.low
  have h1 : Below (B + 1) wx (wx.alloc o) := (allocB wx o).mono (ltH h.rd.cur.blk)
  have hbb := h1.trans hb
  exact ⟨⟨(hbb.block B (by omega)).trans h.rd.cur.blk, h.rd.cur.bel.trans (hbb.mono (by omega)), hlow⟩, hown⟩
theorem i64_wrap {n : Nat} (h : n < 18446744073709551616) : IntKind.i64.wrap (n : Int) = i64 n := by
  have h1 : (n : Int) % 18446744073709551616 = n := by omega
  show (if (true && decide ((n : Int) % 18446744073709551616 ≥ 9223372036854775808)) = true then (n : Int) % 18446744073709551616 - 18446744073709551616 else (n : Int) % 18446744073709551616) = i64 n
  rw [h1]
  unfold i64
  by_cases h2 : n < 9223372036854775808
  · rw [if_pos h2, if_neg (by simp; omega)]
  · rw [if_neg h2, if_pos (by simp; omega)]

end Go.Proofs.YtgehjklodphogaaGreatDoor.Cd
