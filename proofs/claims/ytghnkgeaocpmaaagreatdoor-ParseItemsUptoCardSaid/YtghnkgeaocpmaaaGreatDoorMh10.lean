/- Parts: PfF. -/
import Derived.Test.YtghnkgeaocpmaaaGreatDoorMh09
import Derived.Maps.AppendAt
import Derived.Deep.RegionHeld3
import Derived.Deep.Slices
import Derived.Deep.Strs

/- ParseItems: the walk. -/
namespace Go.Proofs.YtghnkgeaocpmaaaGreatDoor.Pa
open Go.RowKit Go.Proofs.YtghnkgeaocpmaaaGreatDoor.Lx

/-- items to be read, wherever they begin; the second: their expressions' values -/
structure ItmsAt (w : World) (v : Value) (l : List Itm) (evs : List Value) : Prop where
  lenE : evs.length = l.length
  exps : ∀ (i : Nat) (h : i < l.length) (h' : i < evs.length), StpsIn w evs[i] l[i].expr
  src : (v = .slice none 0 0 ∧ l = []) ∨ ∃ (a : Addr) (n c : Nat), v = .slice (some a) n c ∧ l.length = n ∧ ∀ j u, (itsC l evs)[j]? = some u → w.cell? (a.add j) = some u
theorem itsC_app : ∀ (l : List Itm) (vs : List Value) (m : List Itm) (us : List Value), vs.length = l.length → itsC (l ++ m) (vs ++ us) = itsC l vs ++ itsC m us
  | [], [], _, _, _ => rfl
  | a :: l, b :: vs, m, us, h => by
    simp only [List.cons_append, itsC]
    rw [itsC_app l vs m us (by simpa using h)]
  | [], _ :: _, _, _, h => by simp at h
  | _ :: _, [], _, _, h => by simp at h
theorem itsC_size : ∀ (l : List Itm) (vs : List Value), vs.length = l.length → (itsC l vs).length = l.length * 2
  | [], [], _ => rfl
  | a :: l, b :: vs, h => by
    simp only [itsC, List.length_cons]
    rw [itsC_size l vs (by simpa using h)]
    omega
  | [], _ :: _, h => by simp at h
  | _ :: _, [], h => by simp at h
theorem slice_cell {w : World} {v : Value} {l : List Stp} (h : StpsIn w v l) : v.oneCell' = true := by
  obtain ⟨a, n, c, rfl, -⟩ := h
  rfl
theorem itsC_cells {w : World} : ∀ (l : List Itm) (vs : List Value), (∀ (i : Nat) (h : i < l.length) (h' : i < vs.length), StpsIn w vs[i] l[i].expr) → ∀ u ∈ itsC l vs, u.oneCell' = true
  | [], _, _, u, hu => by simp [itsC] at hu
  | _ :: _, [], _, u, hu => by simp [itsC] at hu
  | a :: l, b :: vs, h, u, hu => by
    simp only [itsC, List.mem_cons] at hu
    rcases hu with rfl | rfl | hu
    · rfl
    · exact slice_cell (h 0 (by simp) (by simp))
    · exact itsC_cells l vs (fun i h1 h2 => h (i + 1) (by simpa using h1) (by simpa using h2)) u hu
theorem ItmsAt.below {w w' : World} {v : Value} {l : List Itm} {evs : List Value} (h : ItmsAt w v l evs) (hb : Below w.heap.size w w') : ItmsAt w' v l evs := by
  refine ⟨h.lenE, fun i h1 h2 => (h.exps i h1 h2).below hb, ?_⟩
  rcases h.src with h0 | ⟨a, n, c, rfl, hn, hc⟩
  · exact .inl h0
  · exact .inr ⟨a, n, c, rfl, hn, fun j u hj => cell_keep (hc j u hj) hb⟩
theorem ItmsAt.of {w : World} {v : Value} {l : List Itm} (h : ItmsIn w v l) (hv : v = .slice none 0 0 ∨ ∃ (a : Addr) (n c : Nat), v = .slice (some a) n c) : ∃ evs, ItmsAt w v l evs := by
  obtain ⟨a, n, c, rfl, hn, hc, hj⟩ := h
  rcases hv with hv | ⟨a', n', c', hv⟩
  · simp only [Value.slice.injEq] at hv
    obtain ⟨rfl, rfl, rfl⟩ := hv
    have hl : l = [] := List.eq_nil_of_length_eq_zero hn
    subst hl
    exact ⟨[], rfl, fun i h => absurd h (Nat.not_lt_zero _), .inl ⟨rfl, rfl⟩⟩
  · simp only [Value.slice.injEq] at hv
    obtain ⟨rfl, rfl, rfl⟩ := hv
    have each : ∀ i, i < n → ∃ ve : Value, ∃ (h : i < l.length), w.cell? (a'.add (i * 2)) = some (.string ⟨l[i].name.toArray⟩) ∧ w.cell? (a'.add (i * 2 + 1)) = some ve ∧ StpsIn w ve l[i].expr := fun i hi => by
      obtain ⟨g, o, ve, e, h0, h1, h2⟩ := hj i (by omega)
      simp only [Option.some.injEq] at e
      subst e
      exact ⟨ve, by omega, by rw [Addr.add_lit]; exact h0, by rw [Addr.add_lit, ← Nat.add_assoc]; exact h1, h2⟩
    obtain ⟨f, hf⟩ := Deep.choose_lt each
    have hle : ((List.range n).map f).length = l.length := by rw [List.length_map, List.length_range, hn]
    refine ⟨(List.range n).map f, hle, fun i h1 h2 => ?_, .inr ⟨a', n, c, rfl, hn, fun j u hju => ?_⟩⟩
    · obtain ⟨_, _, _, h3⟩ := hf i (by omega)
      simpa using h3
    · have hlt := (List.getElem?_eq_some_iff.1 hju).1
      rw [itsC_size _ _ hle] at hlt
      have hi : j / 2 < n := by omega
      obtain ⟨h0, q0, q1, _⟩ := hf (j / 2) hi
      obtain ⟨k0, k1⟩ := itsC_get l ((List.range n).map f) (j / 2) (by omega) (by rw [List.length_map, List.length_range]; exact hi)
      rcases (show j % 2 = 0 ∨ j % 2 = 1 by omega) with hr | hr
      · have e : j = j / 2 * 2 := by omega
        rw [← hju]
        rw [e, k0]
        exact q0
      · have e : j = j / 2 * 2 + 1 := by omega
        rw [← hju]
        rw [e, k1, q1]
        simp
/-- one item's block -/
theorem itms_one {w : World} {B : Nat} {it : Itm} {vx : Value} (h : w.heap[B]? = some (.cells #[.string ⟨it.name.toArray⟩, vx] 43)) (hv : StpsIn w vx it.expr) : ItmsAt w (.slice (some ⟨B, 0, none⟩) 1 1) [it] [vx] := by
  refine ⟨rfl, fun i h1 h2 => ?_, .inr ⟨_, _, _, rfl, rfl, fun j u hj => ?_⟩⟩
  · obtain rfl : i = 0 := by simpa using h1
    exact hv
  · obtain ⟨⟨c0, c1⟩, -⟩ := two h
    have hlt := (List.getElem?_eq_some_iff.1 hj).1
    simp only [itsC, List.length_cons, List.length_nil] at hlt
    rcases (show j = 0 ∨ j = 1 by omega) with rfl | rfl
    · simp only [itsC, List.getElem?_cons_zero, Option.some.injEq] at hj
      rw [← hj]; exact c0
    · simp only [itsC, List.getElem?_cons_succ, List.getElem?_cons_zero, Option.some.injEq] at hj
      rw [← hj]; exact c1
theorem one_in {w : World} {B : Nat} {it : Itm} {vx : Value} (h : w.heap[B]? = some (.cells #[.string ⟨it.name.toArray⟩, vx] 43)) (hv : StpsIn w vx it.expr) : ItmsIn w (.slice (some ⟨B, 0, none⟩) 1 1) [it] := by
  obtain ⟨⟨c0, c1⟩, -⟩ := two h
  refine ⟨_, 1, 1, rfl, rfl, Nat.le_refl _, fun i hi => ⟨B, 0, vx, rfl, ?_⟩⟩
  obtain rfl : i = 0 := by simpa using hi
  exact ⟨c0, c1, hv⟩
theorem below_trans_alloc (w : World) (o : Obj) : (w.alloc o).heap.size = w.heap.size + 1 := by simp
/-- the statement with one item more, in its block -/
def ItEnd (w wx : World) (B : Nat) (st : Stm) (it : Itm) (ve : Value) : Prop := ∃ vn, Below w.heap.size w wx ∧ wx.heap[B]? = some (.cells (smC (moreS st it) vn ve) 26) ∧ ItmsIn wx vn (st.items ++ [it])
theorem own_none (W : World) : (W.alloc (.cells #[] 43)).ownsRow W.heap.size 43 2 (.slice (some ⟨W.heap.size, 0, none⟩) 0 0) 0 (itsC [] []) :=
  ⟨rfl, .inr ⟨W.heap.size, 0, #[], rfl, Nat.le_refl _, heap_alloc_new _ _, Nat.le_refl _, Nat.zero_le _, rfl, rfl⟩⟩
theorem own_itms {W : World} {base : Nat} {v : Value} {its : List Itm} {evs : List Value} (h : W.ownsRow base 43 2 v its.length (itsC its evs)) (he : evs.length = its.length)
    (hx : ∀ (i : Nat) (h : i < its.length) (h' : i < evs.length), StpsIn W evs[i] its[i].expr) : ItmsIn W v its := by
  rcases h.2 with ⟨rfl, h0⟩ | ⟨g, cap, cur, e, _, h2, h3, _⟩
  · exact ⟨none, 0, 0, rfl, h0, Nat.le_refl _, fun i hi => by omega⟩
  · subst e
    refine ⟨_, _, _, rfl, rfl, h3, fun i hi => ?_⟩
    obtain ⟨k0, k1⟩ := itsC_get its evs i hi (by omega)
    refine ⟨g, 0, evs[i]'(by omega), rfl, ?_, ?_, hx i hi (by omega)⟩
    · rw [World.ownsRow.cellAt h _ (by omega), Nat.zero_add]; exact k0
    · rw [World.ownsRow.cellAt h _ (by omega), Nat.zero_add]; exact k1
/-- items behind a row of one's own, as one step of a region that draws its order -/
theorem itm_app {ops : Array Oper} {o : Oper} {a : Act} {Q : Exit → Act → World → Prop} {K : Act → World → Prop} {E : Prop} {Wc : World} (hw : Region.wanted o (yielded ops a.tmps) = true) (s x : Operand)
    (ho : o.op = .call { callee := .builtin .append, args := #[s, x], argTypes := #[23, 23] }) (base : Nat) (v : Value) (its : List Itm) (evs : List Value) (hs : a.eval s = v)
    (hown : Wc.ownsRow base 43 2 v its.length (itsC its evs)) (he : evs.length = its.length) (vx : Value) (js : List Itm) (fvs : List Value) (hx : a.eval x = vx) (src : ItmsAt Wc vx js fvs) (hn : its.length + js.length ≤ 1000) (hbase : base ≤ Wc.heap.size)
    (hK : ∀ v' Wn, Wn.ownsRow base 43 2 v' (its ++ js).length (itsC (its ++ js) (evs ++ fvs)) → Below base Wc Wn → (∀ g, v.ownBlock ≠ some g → g < Wc.heap.size → Wn.heap[g]? = Wc.heap[g]?) → K (a.put o.dst v') Wn) :
    if Region.wanted o (yielded ops a.tmps) = true then Oper.wp Tryz.prog o a Wc K Q else E := by
  obtain ⟨i0, hi, hzz⟩ := Option.map_eq_some_iff.1 itmInfo
  simp only [Prod.mk.injEq] at hzz
  obtain ⟨hz0, hz1, hz2⟩ := hzz
  rw [if_pos hw]
  rcases src.src with ⟨rfl, rfl⟩ | ⟨ad, m, c, rfl, hm, hnews⟩
  · have hrun := run_append_owned_none (P := Tryz.prog) (w := Wc) base 23 o.type 43 i0 2 Tryz.underlying23 hi v its.length (itsC its evs) hown
    have hf : fvs = [] := List.eq_nil_of_length_eq_zero src.lenE
    subst hf
    unfold Oper.wp execOp
    simp only [ho, resolve, invoke, builtin, Sem.run_bind, Sem.run_pure, Result.andThen_ok, List.map_toArray, List.map_cons, List.map_nil, hs, hx, hrun]
    exact hK _ _ (by simpa using hown) (Below.refl _ _) fun _ _ _ => rfl
  · obtain ⟨v1, w1, hr, hown1, hg, _, hat⟩ := run_append_own_at (P := Tryz.prog) Wc base 23 o.type 43 i0 _ 2 40 Tryz.underlying23 hi hz0 hz1 hz2 rfl (by decide) v its.length (itsC its evs) hown ad m c (itsC js fvs)
      (by rw [itsC_size _ _ src.lenE, hm]) hnews (itsC_cells js fvs src.exps) (by unfold maxLen; omega) (by omega) hbase
    unfold Oper.wp execOp
    simp only [ho, resolve, invoke, builtin, Sem.run_bind, Sem.run_pure, Result.andThen_ok, List.map_toArray, List.map_cons, List.map_nil, hs, hx, hr]
    exact hK v1 w1 (by rw [itsC_app _ _ _ _ he, List.length_append, hm]; exact hown1) ((Below.refl base Wc).grown hg hbase fun b hb => (World.ownsRow.lt hown b hb).1) fun g hne hlt => hg.block g hlt fun e => hne e.symm

/-- what the region keeps of three cells -/
def Sm3 (B : Nat) (W w' : World) (x i y j l : Nat) (va vb vc : Value) : Prop := Below B W w' ∧ w'.cell? ⟨x, i, none⟩ = some va ∧ w'.cell? ⟨y, j, none⟩ = some vb ∧ w'.cell? ⟨y, l, none⟩ = some vc
theorem Sm3.step {B : Nat} {W w w' : World} {x i y j l : Nat} {va vb vc : Value} (h : Sm3 B W w x i y j l va vb vc) (hB : B ≤ W.heap.size) (hb : Below w.heap.size w w') : Sm3 B W w' x i y j l va vb vc :=
  ⟨h.1.trans (hb.mono (Nat.le_trans hB h.1.size)), cell_keep h.2.1 hb, cell_keep h.2.2.1 hb, cell_keep h.2.2.2 hb⟩
theorem Sm3.to {B : Nat} {W w w' : World} {x i y j l : Nat} {va vb vc : Value} (h : Sm3 B W w x i y j l va vb vc) (hx : x < B) (hy : y < B) (hb : Below B w w') : Sm3 B W w' x i y j l va vb vc :=
  ⟨h.1.trans hb, (hb.cell (p := ⟨x, i, none⟩) hx).trans h.2.1, (hb.cell (p := ⟨y, j, none⟩) hy).trans h.2.2.1, (hb.cell (p := ⟨y, l, none⟩) hy).trans h.2.2.2⟩
theorem Sm3.set {B : Nat} {W w : World} {x i y j l : Nat} {va vb vc : Value} (h : Sm3 B W w x i y j l va vb vc) (hx : x < B) (hy : y < B) {n : Nat} {v : Value} : Sm3 B W (w.setCell ⟨B, n, none⟩ v) x i y j l va vb vc :=
  Sm3.to h hx hy ((Below.refl B w).setCell (Nat.le_refl _) _)
theorem it_end {w W : World} {st : Stm} {it : Itm} {vi ve v : Value} {B base : Nat} {evs : List Value} (bel : Below w.heap.size w W) (hB : w.heap.size ≤ B) (blk : W.heap[B]? = some (.cells (smC st vi ve) 26))
    (own : W.ownsRow base 43 2 v (st.items ++ [it]).length (itsC (st.items ++ [it]) evs)) (he : evs.length = (st.items ++ [it]).length) (hb : B < base)
    (hx : ∀ (i : Nat) (_ : i < (st.items ++ [it]).length) (_ : i < evs.length), StpsIn w evs[i] (st.items ++ [it])[i].expr) : ItEnd w (W.setCell ⟨B, 3, none⟩ v) B st it ve := by
  have bel' : Below w.heap.size w (W.setCell ⟨B, 3, none⟩ v) := bel.setCell hB _
  refine ⟨v, bel', set_block blk _ _ rfl, own_itms (own_same own (w' := W.setCell ⟨B, 3, none⟩ v) fun g hg _ => Below.heap_setCell _ _ _ _ fun e => by have := (World.ownsRow.lt own g hg).1; have e' : g = B := e; omega) he fun i h1 h2 => (hx i h1 h2).below bel'⟩
theorem exps_more {w : World} {v vx : Value} {its : List Itm} {it : Itm} {evs : List Value} (h : ItmsAt w v its evs) (hx : StpsIn w vx it.expr) :
    ∀ (i : Nat) (_ : i < (its ++ [it]).length) (_ : i < (evs ++ [vx]).length), StpsIn w (evs ++ [vx])[i] (its ++ [it])[i].expr := fun i h1 h2 => by
  have hl := h.lenE
  by_cases hi : i < its.length
  · rw [List.getElem_append_left (by omega), List.getElem_append_left hi]
    exact h.exps i hi (by omega)
  · simp at h1 h2
    have e1 : (evs ++ [vx])[i] = vx := by rw [List.getElem_append_right (by omega)]; simp
    have e2 : (its ++ [it])[i] = it := by rw [List.getElem_append_right (by omega)]; simp
    rw [e1, e2]
    exact hx
/-- the two blocks -/
structure KnR (w wr : World) (st : Stm) (vi ve : Value) (it : Itm) (vx : Value) : Prop where
  bel : Below w.heap.size w wr
  c1 : wr.heap[w.heap.size]? = some (.cells (smC st vi ve) 26)
  c2 : wr.heap[w.heap.size + 1]? = some (.cells #[.string ⟨it.name.toArray⟩, vx] 43)
theorem KnR.step {w wr wx : World} {st : Stm} {vi ve vx : Value} {it : Itm} (h : KnR w wr st vi ve it vx) (hb : Below wr.heap.size wr wx) : KnR w wx st vi ve it vx :=
  ⟨stepB h.bel hb, (hb.block _ (lt_of_heap h.c1)).trans h.c1, (hb.block _ (lt_of_heap h.c2)).trans h.c2⟩
theorem known_more {l : List Itm} {k : Nat} (h : k < l.length) (n : Txt) : knownB (l.take (k + 1)) n = (knownB (l.take k) n || decide (l[k].name = n)) := by
  unfold knownB
  rw [List.take_succ_eq_append_getElem h, List.any_append]
  simp
theorem text_ne {a b : Txt} (h : a ≠ b) : (⟨a.toArray⟩ : ByteArray).toList ≠ (⟨b.toArray⟩ : ByteArray).toList := fun e => h (by simpa [ByteArray.toList_eq] using e)

set_option maxHeartbeats 8000000 in
set_option maxRecDepth 100000 in
theorem ParseItems_calls (w : World) (st : Stm) (vi ve : Value) (it : Itm) (vx : Value) (h : CkArgs w st vi ve) (hvi : vi = .slice none 0 0 ∨ ∃ (a : Addr) (n c : Nat), vi = .slice (some a) n c)
    (hx : StpsIn w vx it.expr) (hnm : it.name.length ≤ 1048576) (hxl : it.expr.length ≤ 1048576) (hxt : ∀ y ∈ it.expr, y.text.length ≤ 1048575) :
    Calls Tryz.prog 8 #[st.val vi ve, .agg #[.string ⟨it.name.toArray⟩, vx]] w fun e w' => e = .returned (.bool true) ∧ Below w.heap.size w w' := by
  obtain ⟨ai, ni, ci, rfl, hni, -⟩ := id h.hi
  obtain ⟨ae, ne, ce, rfl, hne, -⟩ := id h.hv
  obtain ⟨ax, nx, cx, rfl, hnx, -⟩ := id hx
  have H := Lib.hid h
  have Hx := Lib.hid hx
  have Hxt := Lib.hid hxt
  have Hvi := Lib.hid hvi
  have He := Lib.hid h.he
  have HK := Lib.hid (show KnR w ((w.alloc (.cells (smC st (.slice ai ni ci) (.slice ae ne ce)) 26)).alloc (.cells #[.string ⟨it.name.toArray⟩, .slice ax nx cx] 43)) st (.slice ai ni ci) (.slice ae ne ce) it (.slice ax nx cx) from
    ⟨below2 _ _ _, alloc2_old _ _ _, alloc2_new _ _ _⟩)
  have Hni := Lib.hid hni
  have hil := h.hil
  rw [hni] at hil
  have Hck := Lib.hid (fun (w2 : World) (hb : Below w.heap.size w w2) => Check_calls st w2 _ _ (h.below hb))
  clear h hni hne hx hnx hxt hvi
  unfold Stm.val at Hck ⊢
  cases hc : checkB st with
  | false =>
    have HC := Lib.hid (show checkV st = .int .i64 13 by unfold checkV; rw [hc]; rfl)
    rw [HC.out] at Hck
    clear hc
    go_enter Tryz.func8, Tryz.ntmps8
    go_wp2_with fail
    refine (lives_calls _ (He.out.below HK.out.bel)).mono ?_
    rintro e w0 ⟨rfl, hb0⟩
    have HK0 := Lib.hid (HK.out.step hb0)
    clear hb0
    obtain ⟨⟨k0, k1, k2, k3, k4, k5, k6⟩, -⟩ := seven HK0.out.c1
    go_wp2_with fail
    refine (Hck.out _ HK0.out.bel).mono ?_
    rintro e w1 ⟨rfl, hb1⟩
    have Hb1 := Lib.hid (stepB HK0.out.bel hb1)
    clear hb1 k0 k1 k2 k3 k4 k5 k6
    go_wp2_with fail
    go_ret
    exact ⟨rfl, Hb1.out⟩
  | true =>
    have HC := Lib.hid (show checkV st = .int .i64 0 by unfold checkV; rw [hc]; rfl)
    rw [HC.out] at Hck
    have Hc := Lib.hid hc
    clear hc
    by_cases hkind : st.kind = 4 ∨ st.kind = 6
    · have hlaw := items_law hkind (i := it) Hc.out
      have h64 := check_items Hc.out
      rw [Hni.out] at h64
      have hn46 : (((st.kind : Int) != 4) && ((st.kind : Int) != 6)) = false := by
        rcases hkind with h | h <;> rw [h] <;> rfl
      go_enter Tryz.func8, Tryz.ntmps8
      go_wp2_with fail
      refine (lives_calls _ (He.out.below HK.out.bel)).mono ?_
      rintro e w0 ⟨rfl, hb0⟩
      have HK0 := Lib.hid (HK.out.step hb0)
      clear hb0
      obtain ⟨⟨k0, k1, k2, k3, k4, k5, k6⟩, -⟩ := seven HK0.out.c1
      go_wp2_with fail
      refine (Hck.out _ HK0.out.bel).mono ?_
      rintro e w1 ⟨rfl, hb1⟩
      have HK1 := Lib.hid (HK0.out.step hb1)
      clear hb1 k0 k1 k2 k3 k4 k5 k6
      obtain ⟨⟨k0, k1, k2, k3, k4, k5, k6⟩, -⟩ := seven HK1.out.c1
      have hb4 : st.kind = 4 → ((st.kind : Int) != 4) = false := fun h => by rw [h]; rfl
      have hcase : (((st.kind : Int) != 4) = false) ∨ (((st.kind : Int) != 4) = true ∧ ((st.kind : Int) != 6) = false) := by
        rcases hkind with h | h <;> rw [h]
        · exact .inl rfl
        · exact .inr ⟨rfl, rfl⟩
      clear hb4 hn46 hkind
      rcases hcase with h4 | ⟨h4, h6⟩
      all_goals
        go_wp2_with fail
        go_loopw [5, 28] (fun s5 i wr => ∃ (k : Nat), k ≤ ni ∧ i = .int .i64 k ∧ s5 = .bool (knownB (st.items.take k) it.name) ∧ Hid (KnR w wr st (.slice ai ni ci) (.slice ae ne ce) it (.slice ax nx cx))) (fun _ i _ => ni - (intOf i).toNat)
        case atStart => exact ⟨0, Nat.zero_le _, rfl, rfl, HK1⟩
        case round =>
          obtain ⟨k, hk, rfl, rfl, HR⟩ := hrel
          by_cases hlt : k < ni
          · have hkl : k < st.items.length := by rw [Hni.out]; exact hlt
            obtain ⟨a2, n2, c2, e2, -, -, hax⟩ := (H.out.hi.below HR.out.bel).at
            simp only [Value.slice.injEq] at e2
            obtain ⟨rfl, -, -⟩ := e2
            obtain ⟨g, o, ay, my, cy, rfl, r0, r1, -⟩ := hax k hkl
            have hmore := known_more hkl it.name
            generalize st.items[k] = iu at r0 hmore
            have hgw : g < wr.heap.size := World.block_lt_of_cell? _ _ r0
            obtain ⟨⟨q0, q1⟩, -⟩ := two HR.out.c2
            have hB3 := lt_of_heap HR.out.c2
            clear hax
            cases hkb : knownB (st.items.take k) it.name with
            | true =>
              have Hm := Lib.hid (show true = knownB (st.items.take (k + 1)) it.name by rw [hmore, hkb]; rfl)
              clear hmore hkb
              go_wp2_with fail
              go_roundw
              case rel => exact ⟨k + 1, by omega, by go_num, by rw [← Hm.out], HR.out.step (alloc_below _ _)⟩
              case measure => simp [intOf]; omega
            | false =>
              by_cases heq : iu.name = it.name
              · have Hm := Lib.hid (show true = knownB (st.items.take (k + 1)) it.name by rw [hmore, hkb, heq]; simp)
                rw [heq] at r0
                clear hmore hkb heq
                go_wp2_with fail
                go_roundw
                case rel => exact ⟨k + 1, by omega, by go_num, by rw [← Hm.out], HR.out.step (alloc_below _ _)⟩
                case measure => simp [intOf]; omega
              · have Hm := Lib.hid (show false = knownB (st.items.take (k + 1)) it.name by rw [hmore, hkb]; simp [heq])
                have hbn := text_ne heq
                have e1 : ((⟨iu.name.toArray⟩ : ByteArray).toList == (⟨it.name.toArray⟩ : ByteArray).toList) = false := by rw [beq_eq_false_iff_ne]; exact hbn
                clear hmore hkb
                go_wp2_with fail
                go_roundw
                case rel => exact ⟨k + 1, by omega, by go_num, by rw [← Hm.out]; simp [heq], HR.out.step (alloc_below _ _)⟩
                case measure => simp [intOf]; omega
          · obtain rfl : k = ni := by omega
            rw [show st.items.take k = st.items from List.take_of_length_le (by rw [Hni.out]; exact Nat.le_refl _)] at *
            obtain ⟨⟨q0, q1⟩, -⟩ := two HR.out.c2
            have hB3 := lt_of_heap HR.out.c2
            have Hn1 := Lib.hid (heap_alloc_new wr (.cells #[.string ⟨it.name.toArray⟩, .slice ax nx cx] 43))
            have hba := alloc_below wr (.cells #[.string ⟨it.name.toArray⟩, .slice ax nx cx] 43)
            have HR1 := Lib.hid (HR.out.step hba)
            have Hone := Lib.hid (show CkArgs (wr.alloc (.cells #[.string ⟨it.name.toArray⟩, .slice ax nx cx] 43)) (oneS it) (.slice (some ⟨wr.heap.size, 0, none⟩) 1 1) (.slice none 0 0) from
              ⟨one_in Hn1.out (Hx.out.below HR1.out.bel), stps0 _, by simp [oneS], by simp [oneS], by simp [oneS], by simp [oneS], by simp [oneS], fun t ht => by
                simp only [oneS, List.mem_cons, List.mem_nil_iff, or_false] at ht
                subst ht
                exact ⟨by omega, hxl, Hxt.out⟩, He.out.below HR1.out.bel⟩)
            have Hck1 := Lib.hid (Check_calls (oneS it) _ _ _ Hone.out)
            unfold Stm.val oneS at Hck1
            clear hba
            have Hob : ∃ ob, Hid (checkB (oneS it) = ob) := ⟨_, rfl⟩
            obtain ⟨ob, Hob⟩ := Hob
            have HV : ∃ oc : Int, (oc == 0) = ob ∧ Hid (checkV ⟨4, [116], [], [it], [], false, false⟩ = .int .i64 oc) :=
              ⟨if ob then 0 else 13, by cases ob <;> rfl, by show _ = _; rw [← Hob.out]; rfl⟩
            obtain ⟨oc, hoc, HV⟩ := HV
            rw [HV.out] at Hck1
            go_wp2_with fail
            refine Hck1.out.mono ?_
            rintro e wA ⟨rfl, hbA⟩
            have HRA := Lib.hid (HR1.out.step hbA)
            obtain ⟨⟨m0, m1, m2, m3, m4, m5, m6⟩, -⟩ := seven HRA.out.c1
            have hba := alloc_below wA (.cells (smC st (.slice ai k ci) (.slice ae ne ce)) 26)
            have HR9 := Lib.hid (HRA.out.step hba)
            have Hn9 := Lib.hid (heap_alloc_new wA (.cells (smC st (.slice ai k ci) (.slice ae ne ce)) 26))
            have hT2 : w.heap.size < wA.heap.size := lt_of_heap HRA.out.c1
            have hT3 : w.heap.size + 1 < wA.heap.size := lt_of_heap HRA.out.c2
            clear hbA hba Hone Hck1 k0 k1 k2 k3 k4 k5 k6 q0 q1 hB3
            go_wp2_with fail
            go_cut [54] (fun _ wx => Hid (ItEnd w wx wA.heap.size st it (.slice ae ne ce)))
            case first =>
              have Hbl := Lib.hid (below_trans_alloc wA (.cells (smC st (.slice ai k ci) (.slice ae ne ce)) 26))
              generalize hwB : wA.alloc (.cells #[.int .u8 st.kind, .string ⟨st.table.toArray⟩, .string ⟨st.field.toArray⟩, .slice ai k ci, .slice ae ne ce, .bool st.history, .bool st.desc] 26) = wB at *
              have HB := Lib.hid (show KnR w wB st (.slice ai k ci) (.slice ae ne ce) it (.slice ax nx cx) by rw [← hwB]; exact HR9.out)
              have HN := Lib.hid (show wB.heap[wA.heap.size]? = some (.cells (smC st (.slice ai k ci) (.slice ae ne ce)) 26) by rw [← hwB]; exact Hn9.out)
              have HZ := Lib.hid (show wB.heap.size = wA.heap.size + 1 by rw [← hwB]; exact Hbl.out)
              obtain ⟨evs, hi0⟩ := ItmsAt.of H.out.hi Hvi.out
              have HI := Lib.hid hi0
              have hz := HZ.out
              clear hi0
              obtain ⟨⟨q0, q1⟩, -⟩ := two HB.out.c2
              obtain ⟨⟨k0, k1, k2, k3, k4, k5, k6⟩, -⟩ := seven HB.out.c1
              clear hwB HR9 Hn9 Hbl
              have hS0 : Below wA.heap.size wB wB.drew ∧ wB.drew.cell? ⟨w.heap.size, 3, none⟩ = some (.slice ai k ci) ∧ wB.drew.cell? ⟨w.heap.size + 1, 0, none⟩ = some (.string ⟨it.name.toArray⟩) ∧ wB.drew.cell? ⟨w.heap.size + 1, 1, none⟩ = some (.slice ax nx cx) := ⟨(Below.refl _ _).drew, k3, q0, q1⟩
              refine wp_region_held_drew (S := fun w' => Below wA.heap.size wB w' ∧ w'.cell? ⟨w.heap.size, 3, none⟩ = some (.slice ai k ci) ∧ w'.cell? ⟨w.heap.size + 1, 0, none⟩ = some (.string ⟨it.name.toArray⟩) ∧ w'.cell? ⟨w.heap.size + 1, 1, none⟩ = some (.slice ax nx cx)) (by kernel_rfl) hS0 (fun hS1 => ?_)
              have hQhS1 : Below wB.heap.size wB wB.drew := (Below.refl _ _).drew
              have hdz : (World.drew wB).heap.size = wA.heap.size + 1 := hz
              clear hS0
              have hlen1 : (st.items ++ [it]).length = k + 1 := by simp [Hni.out]
              generalize World.drew wB = wD at *
              refine wpAnyH_take (i := 1) (v := ?_) rfl (by kernel_rfl) (by kernel_rfl) (by kernel_rfl) (fun _ _ _ h => h) (Or.inl ⟨by rfl, ?_⟩) (by assumption) ?_
              rotate_left
              · (intro w' hSw; (try dsimp only at hSw); go_simp; try with_reducible rfl)
              try simp only [Act.put, List.getElem_toArray, List.getElem_cons_zero, List.getElem_cons_succ, List.setIfInBounds_toArray, List.set_cons_zero, List.set_cons_succ]
              refine wpAnyH_take (i := 2) (v := ?_) rfl (by kernel_rfl) (by kernel_rfl) (by kernel_rfl) (fun _ _ _ h => h) (Or.inl ⟨by rfl, ?_⟩) (by assumption) ?_
              rotate_left
              · (intro w' hSw; (try dsimp only at hSw); go_simp; try with_reducible rfl)
              try simp only [Act.put, List.getElem_toArray, List.getElem_cons_zero, List.getElem_cons_succ, List.setIfInBounds_toArray, List.set_cons_zero, List.set_cons_succ]
              refine wpAnyH_take (i := 4) (v := ?_) rfl (by kernel_rfl) (by kernel_rfl) (by kernel_rfl) (fun _ _ _ h => h) (Or.inl ⟨by rfl, ?_⟩) (by assumption) ?_
              rotate_left
              · (intro w' hSw; (try dsimp only at hSw); go_simp; try with_reducible rfl)
              try simp only [Act.put, List.getElem_toArray, List.getElem_cons_zero, List.getElem_cons_succ, List.setIfInBounds_toArray, List.set_cons_zero, List.set_cons_succ]
              refine wpAnyH_ready (rs := [0, 5]) (by kernel_rfl) (by simp) ?_
              refine AllReadyH.cons (o := _) rfl (fun K hK => ?_) (AllReadyH.cons (o := _) rfl (fun K hK => ?_) AllReadyH.nil)
              · go_simp
                have hQhS2 := stepB hQhS1 (alloc_below wD (.cells #[] 43))
                refine hK.out _ _ (Sm3.step hS1 (by omega) (alloc_below _ _)) (fun hS2 => ?_)
                clear hK K
                try simp only [Act.put, List.getElem_toArray, List.getElem_cons_zero, List.getElem_cons_succ, List.setIfInBounds_toArray, List.set_cons_zero, List.set_cons_succ]
                have own0 : (wD.alloc (.cells #[] 43)).ownsRow (wA.heap.size + 1) 43 2 (.slice (some ⟨wA.heap.size + 1, 0, none⟩) 0 0) 0 (itsC [] []) := by have := own_none wD; rw [hdz] at this; exact this
                refine wpAnyH_ready (rs := [3, 5]) (by kernel_rfl) (by simp) ?_
                refine AllReadyH.cons (o := _) rfl (fun K hK => ?_) (AllReadyH.cons (o := _) rfl (fun K hK => ?_) AllReadyH.nil)
                · refine itm_app rfl _ _ rfl (wA.heap.size + 1) _ [] [] rfl own0 rfl _ st.items evs rfl (HI.out.below (Below.trans HB.out.bel (hQhS2.mono HB.out.bel.size))) (by rw [Hni.out]; simp; omega) (by simp; try omega) ?_
                  intro v50 W2 hpo hpb hpk
                  simp only [List.nil_append] at hpo
                  have hQhS3 := hQhS2.trans (hpb.mono (by omega))
                  refine hK.out _ _ (Sm3.to hS2 hT2 hT3 (hpb.mono (by omega))) (fun hS3 => ?_)
                  clear hK K
                  try simp only [Act.put, List.getElem_toArray, List.getElem_cons_zero, List.getElem_cons_succ, List.setIfInBounds_toArray, List.set_cons_zero, List.set_cons_succ]
                  refine wpAnyH_ready (rs := [5]) (by kernel_rfl) (by simp) ?_
                  refine AllReadyH.cons (o := _) rfl (fun K hK => ?_) AllReadyH.nil
                  go_simp
                  have hQhS4 := stepB hQhS3 (alloc_below W2 (.cells #[.string ⟨it.name.toArray⟩, .slice ax nx cx] 43))
                  refine hK.out _ _ (Sm3.step hS3 (by omega) (alloc_below _ _)) (fun hS4 => ?_)
                  clear hK K
                  try simp only [Act.put, List.getElem_toArray, List.getElem_cons_zero, List.getElem_cons_succ, List.setIfInBounds_toArray, List.set_cons_zero, List.set_cons_succ]
                  have hn5 := heap_alloc_new W2 (.cells #[.string ⟨it.name.toArray⟩, .slice ax nx cx] 43)
                  refine wpAnyH_ready (rs := [6]) (by kernel_rfl) (by simp) ?_
                  refine AllReadyH.cons (o := _) rfl (fun K hK => ?_) AllReadyH.nil
                  refine itm_app rfl _ _ rfl (wA.heap.size + 1) _ st.items evs rfl (hpo.alloc (.cells #[.string ⟨it.name.toArray⟩, .slice ax nx cx] 43)) HI.out.lenE _ [it] [.slice ax nx cx] rfl (itms_one hn5 (Hx.out.below (Below.trans HB.out.bel (hQhS4.mono HB.out.bel.size)))) (by rw [Hni.out]; simp; omega) (by have h1 := hpb.size; have h2 := hQhS4.size; simp at h1; omega) ?_
                  intro v53 W4 hqo hqb hqk
                  have hQhS5 := hQhS4.trans (hqb.mono (by omega))
                  refine hK.out _ _ (Sm3.to hS4 hT2 hT3 (hqb.mono (by omega))) (fun hS5 => ?_)
                  clear hK K
                  try simp only [Act.put, List.getElem_toArray, List.getElem_cons_zero, List.getElem_cons_succ, List.setIfInBounds_toArray, List.set_cons_zero, List.set_cons_succ]
                  refine wpAnyH_take (i := 7) (v := ?_) rfl (by kernel_rfl) (by kernel_rfl) (by kernel_rfl) (fun _ _ _ h => h) (Or.inl ⟨by rfl, ?_⟩) (by assumption) ?_
                  rotate_left
                  · (intro w' hSw; (try dsimp only at hSw); go_simp; try with_reducible rfl)
                  try simp only [Act.put, List.getElem_toArray, List.getElem_cons_zero, List.getElem_cons_succ, List.setIfInBounds_toArray, List.set_cons_zero, List.set_cons_succ]
                  have hN := (hQhS5.block wA.heap.size (lt_of_heap HN.out)).trans HN.out
                  obtain ⟨⟨p0, p1, p2, p3, p4, p5, p6⟩, n0, n1, n2, n3, n4, n5, n6⟩ := seven hN
                  have hX := lt_of_heap hN
                  have HE := Lib.hid (it_end (Below.trans HB.out.bel (hQhS5.mono HB.out.bel.size)) (Nat.le_of_lt hT2) hN hqo (by simp [HI.out.lenE]) (by omega) (exps_more HI.out Hx.out))
                  rw [hlen1] at hqo
                  obtain ⟨a53, c53, rfl⟩ := own_form hqo
                  clear hN
                  refine wpAnyH_ready (rs := [8]) (by kernel_rfl) (by simp) ?_
                  refine AllReadyH.cons (o := _) rfl (fun K hK => ?_) AllReadyH.nil
                  go_simp
                  refine hK.out _ _ (Sm3.set hS5 hT2 hT3) (fun hS5z => ?_)
                  clear hK K
                  refine wpAnyH_done (by kernel_rfl) ?_ _
                  go_wp2_with fail
                  go_meet
                  exact HE
                · go_simp
                  have hQhS3 := stepB hQhS2 (alloc_below _ (.cells #[.string ⟨it.name.toArray⟩, .slice ax nx cx] 43))
                  refine hK.out _ _ (Sm3.step hS2 (by omega) (alloc_below _ _)) (fun hS3 => ?_)
                  clear hK K
                  try simp only [Act.put, List.getElem_toArray, List.getElem_cons_zero, List.getElem_cons_succ, List.setIfInBounds_toArray, List.set_cons_zero, List.set_cons_succ]
                  have hn5 : ((wD.alloc (.cells #[] 43)).alloc (.cells #[.string ⟨it.name.toArray⟩, .slice ax nx cx] 43)).heap[wA.heap.size + 1 + 1]? = some (.cells #[.string ⟨it.name.toArray⟩, .slice ax nx cx] 43) := by have := heap_alloc_new (wD.alloc (.cells #[] 43)) (.cells #[.string ⟨it.name.toArray⟩, .slice ax nx cx] 43); simpa [hdz] using this
                  refine wpAnyH_ready (rs := [3]) (by kernel_rfl) (by simp) ?_
                  refine AllReadyH.cons (o := _) rfl (fun K hK => ?_) AllReadyH.nil
                  refine itm_app rfl _ _ rfl (wA.heap.size + 1) _ [] [] rfl (own0.alloc (.cells #[.string ⟨it.name.toArray⟩, .slice ax nx cx] 43)) rfl _ st.items evs rfl (HI.out.below (Below.trans HB.out.bel (hQhS3.mono HB.out.bel.size))) (by rw [Hni.out]; simp; omega) (by simp; try omega) ?_
                  intro v50 W3 hpo hpb hpk
                  simp only [List.nil_append] at hpo
                  have hQhS4 := hQhS3.trans (hpb.mono (by omega))
                  refine hK.out _ _ (Sm3.to hS3 hT2 hT3 (hpb.mono (by omega))) (fun hS4 => ?_)
                  clear hK K
                  try simp only [Act.put, List.getElem_toArray, List.getElem_cons_zero, List.getElem_cons_succ, List.setIfInBounds_toArray, List.set_cons_zero, List.set_cons_succ]
                  refine wpAnyH_ready (rs := [6]) (by kernel_rfl) (by simp) ?_
                  refine AllReadyH.cons (o := _) rfl (fun K hK => ?_) AllReadyH.nil
                  refine itm_app rfl _ _ rfl (wA.heap.size + 1) _ st.items evs rfl hpo HI.out.lenE _ [it] [.slice ax nx cx] rfl (itms_one ((hpk (wA.heap.size + 1 + 1) (fun h => by have h2 := Option.some.inj (show some (wA.heap.size + 1) = some (wA.heap.size + 1 + 1) from h); omega) (by simp [hdz])).trans hn5) (Hx.out.below (Below.trans HB.out.bel (hQhS4.mono HB.out.bel.size)))) (by rw [Hni.out]; simp; omega) (by have h1 := hpb.size; have h2 := hQhS4.size; simp at h1; omega) ?_
                  intro v53 W4 hqo hqb hqk
                  have hQhS5 := hQhS4.trans (hqb.mono (by omega))
                  refine hK.out _ _ (Sm3.to hS4 hT2 hT3 (hqb.mono (by omega))) (fun hS5 => ?_)
                  clear hK K
                  try simp only [Act.put, List.getElem_toArray, List.getElem_cons_zero, List.getElem_cons_succ, List.setIfInBounds_toArray, List.set_cons_zero, List.set_cons_succ]
                  refine wpAnyH_take (i := 7) (v := ?_) rfl (by kernel_rfl) (by kernel_rfl) (by kernel_rfl) (fun _ _ _ h => h) (Or.inl ⟨by rfl, ?_⟩) (by assumption) ?_
                  rotate_left
                  · (intro w' hSw; (try dsimp only at hSw); go_simp; try with_reducible rfl)
                  try simp only [Act.put, List.getElem_toArray, List.getElem_cons_zero, List.getElem_cons_succ, List.setIfInBounds_toArray, List.set_cons_zero, List.set_cons_succ]
                  have hN := (hQhS5.block wA.heap.size (lt_of_heap HN.out)).trans HN.out
                  obtain ⟨⟨p0, p1, p2, p3, p4, p5, p6⟩, n0, n1, n2, n3, n4, n5, n6⟩ := seven hN
                  have hX := lt_of_heap hN
                  have HE := Lib.hid (it_end (Below.trans HB.out.bel (hQhS5.mono HB.out.bel.size)) (Nat.le_of_lt hT2) hN hqo (by simp [HI.out.lenE]) (by omega) (exps_more HI.out Hx.out))
                  rw [hlen1] at hqo
                  obtain ⟨a53, c53, rfl⟩ := own_form hqo
                  clear hN
                  refine wpAnyH_ready (rs := [8]) (by kernel_rfl) (by simp) ?_
                  refine AllReadyH.cons (o := _) rfl (fun K hK => ?_) AllReadyH.nil
                  go_simp
                  refine hK.out _ _ (Sm3.set hS5 hT2 hT3) (fun hS5z => ?_)
                  clear hK K
                  refine wpAnyH_done (by kernel_rfl) ?_ _
                  go_wp2_with fail
                  go_meet
                  exact HE
              · go_simp
                have hQhS2 := stepB hQhS1 (alloc_below wD (.cells #[.string ⟨it.name.toArray⟩, .slice ax nx cx] 43))
                refine hK.out _ _ (Sm3.step hS1 (by omega) (alloc_below _ _)) (fun hS2 => ?_)
                clear hK K
                try simp only [Act.put, List.getElem_toArray, List.getElem_cons_zero, List.getElem_cons_succ, List.setIfInBounds_toArray, List.set_cons_zero, List.set_cons_succ]
                have hn5 : (wD.alloc (.cells #[.string ⟨it.name.toArray⟩, .slice ax nx cx] 43)).heap[wA.heap.size + 1]? = some (.cells #[.string ⟨it.name.toArray⟩, .slice ax nx cx] 43) := by have := heap_alloc_new wD (.cells #[.string ⟨it.name.toArray⟩, .slice ax nx cx] 43); rw [hdz] at this; exact this
                refine wpAnyH_ready (rs := [0]) (by kernel_rfl) (by simp) ?_
                refine AllReadyH.cons (o := _) rfl (fun K hK => ?_) AllReadyH.nil
                go_simp
                have hQhS3 := stepB hQhS2 (alloc_below _ (.cells #[] 43))
                refine hK.out _ _ (Sm3.step hS2 (by omega) (alloc_below _ _)) (fun hS3 => ?_)
                clear hK K
                try simp only [Act.put, List.getElem_toArray, List.getElem_cons_zero, List.getElem_cons_succ, List.setIfInBounds_toArray, List.set_cons_zero, List.set_cons_succ]
                have own0 : ((wD.alloc (.cells #[.string ⟨it.name.toArray⟩, .slice ax nx cx] 43)).alloc (.cells #[] 43)).ownsRow (wA.heap.size + 1 + 1) 43 2 (.slice (some ⟨wA.heap.size + 1 + 1, 0, none⟩) 0 0) 0 (itsC [] []) := by have := own_none (wD.alloc (.cells #[.string ⟨it.name.toArray⟩, .slice ax nx cx] 43)); simpa [hdz] using this
                refine wpAnyH_ready (rs := [3]) (by kernel_rfl) (by simp) ?_
                refine AllReadyH.cons (o := _) rfl (fun K hK => ?_) AllReadyH.nil
                refine itm_app rfl _ _ rfl (wA.heap.size + 1 + 1) _ [] [] rfl own0 rfl _ st.items evs rfl (HI.out.below (Below.trans HB.out.bel (hQhS3.mono HB.out.bel.size))) (by rw [Hni.out]; simp; omega) (by simp; try omega) ?_
                intro v50 W3 hpo hpb hpk
                simp only [List.nil_append] at hpo
                have hQhS4 := hQhS3.trans (hpb.mono (by omega))
                refine hK.out _ _ (Sm3.to hS3 hT2 hT3 (hpb.mono (by omega))) (fun hS4 => ?_)
                clear hK K
                try simp only [Act.put, List.getElem_toArray, List.getElem_cons_zero, List.getElem_cons_succ, List.setIfInBounds_toArray, List.set_cons_zero, List.set_cons_succ]
                refine wpAnyH_ready (rs := [6]) (by kernel_rfl) (by simp) ?_
                refine AllReadyH.cons (o := _) rfl (fun K hK => ?_) AllReadyH.nil
                refine itm_app rfl _ _ rfl (wA.heap.size + 1 + 1) _ st.items evs rfl hpo HI.out.lenE _ [it] [.slice ax nx cx] rfl (itms_one ((hpb.block (wA.heap.size + 1) (by omega)).trans ((Below.heap_alloc _ _ _ (by simp [hdz])).trans hn5)) (Hx.out.below (Below.trans HB.out.bel (hQhS4.mono HB.out.bel.size)))) (by rw [Hni.out]; simp; omega) (by have h1 := hpb.size; have h2 := hQhS4.size; simp at h1; omega) ?_
                intro v53 W4 hqo hqb hqk
                have hQhS5 := hQhS4.trans (hqb.mono (by omega))
                refine hK.out _ _ (Sm3.to hS4 hT2 hT3 (hqb.mono (by omega))) (fun hS5 => ?_)
                clear hK K
                try simp only [Act.put, List.getElem_toArray, List.getElem_cons_zero, List.getElem_cons_succ, List.setIfInBounds_toArray, List.set_cons_zero, List.set_cons_succ]
                refine wpAnyH_take (i := 7) (v := ?_) rfl (by kernel_rfl) (by kernel_rfl) (by kernel_rfl) (fun _ _ _ h => h) (Or.inl ⟨by rfl, ?_⟩) (by assumption) ?_
                rotate_left
                · (intro w' hSw; (try dsimp only at hSw); go_simp; try with_reducible rfl)
                try simp only [Act.put, List.getElem_toArray, List.getElem_cons_zero, List.getElem_cons_succ, List.setIfInBounds_toArray, List.set_cons_zero, List.set_cons_succ]
                have hN := (hQhS5.block wA.heap.size (lt_of_heap HN.out)).trans HN.out
                obtain ⟨⟨p0, p1, p2, p3, p4, p5, p6⟩, n0, n1, n2, n3, n4, n5, n6⟩ := seven hN
                have hX := lt_of_heap hN
                have HE := Lib.hid (it_end (Below.trans HB.out.bel (hQhS5.mono HB.out.bel.size)) (Nat.le_of_lt hT2) hN hqo (by simp [HI.out.lenE]) (by omega) (exps_more HI.out Hx.out))
                rw [hlen1] at hqo
                obtain ⟨a53, c53, rfl⟩ := own_form hqo
                clear hN
                refine wpAnyH_ready (rs := [8]) (by kernel_rfl) (by simp) ?_
                refine AllReadyH.cons (o := _) rfl (fun K hK => ?_) AllReadyH.nil
                go_simp
                refine hK.out _ _ (Sm3.set hS5 hT2 hT3) (fun hS5z => ?_)
                clear hK K
                refine wpAnyH_done (by kernel_rfl) ?_ _
                go_wp2_with fail
                go_meet
                exact HE
            case rest =>
              obtain ⟨vn, hbe, hbk, hin⟩ := hcut.out
              obtain ⟨an, nn, cn, rfl, hnn, -⟩ := id hin
              have hnn2 : nn = k + 1 := by rw [← hnn]; simp [Hni.out]
              subst hnn2
              have Hbe := Lib.hid hbe
              have hargs : CkArgs wc (moreS st it) (.slice an (k + 1) cn) (.slice ae ne ce) :=
                ⟨hin, H.out.hv.below hbe, H.out.ht, H.out.hf, H.out.hl, H.out.hy, by show (st.items ++ [it]).length ≤ 1048575; omega, fun t ht => by
                  rcases List.mem_append.1 ht with h | h
                  · exact H.out.his t h
                  · simp only [List.mem_cons, List.mem_nil_iff, or_false] at h
                    subst h
                    exact ⟨by omega, hxl, Hxt.out⟩, He.out.below hbe⟩
              have Hck2 := Lib.hid (show Calls Tryz.prog 18 #[.agg #[.int .u8 st.kind, .string ⟨st.table.toArray⟩, .string ⟨st.field.toArray⟩, .slice an (k + 1) cn, .slice ae ne ce, .bool st.history, .bool st.desc]] wc (fun e w' => e = .returned (.int .i64 (if checkB (moreS st it) then 0 else 13)) ∧ Below wc.heap.size wc w') from Check_calls (moreS st it) wc _ _ hargs)
              have Hbk := Lib.hid (show wc.heap[wA.heap.size]? = some (.cells #[.int .u8 st.kind, .string ⟨st.table.toArray⟩, .string ⟨st.field.toArray⟩, .slice an (k + 1) cn, .slice ae ne ce, .bool st.history, .bool st.desc] 26) from hbk)
              obtain ⟨⟨k0, k1, k2, k3, k4, k5, k6⟩, -⟩ := seven Hbk.out
              have hlaw2 := hlaw
              rw [Hob.out, hnn] at hlaw2
              clear hcut hin hargs hbk hbe hlaw hnn m0 m1 m2 m3 m4 m5 m6
              generalize knownB st.items it.name = kb at *
              generalize checkB (moreS st it) = rb at *
              subst hlaw2
              cases ob with
              | false =>
                rw [show (if (false && !kb && decide (k + 1 ≤ 64)) = true then (0 : Int) else 13) = 13 by simp] at Hck2
                go_wp2_with fail
                refine Hck2.out.mono ?_
                rintro e wF ⟨rfl, hbF⟩
                have HbF := Lib.hid (stepB Hbe.out hbF)
                obtain ⟨⟨f0, f1, f2, f3, f4, f5, f6⟩, -⟩ := seven ((hbF.block wA.heap.size (lt_of_heap Hbk.out)).trans Hbk.out)
                clear hbF k0 k1 k2 k3 k4 k5 k6
                go_wp2_with fail
                go_ret
                exact ⟨ret_bool (by first | (simp; done) | (simp; omega)), HbF.out⟩
              | true =>
                cases kb with
                | true =>
                  rw [show (if (true && !true && decide (k + 1 ≤ 64)) = true then (0 : Int) else 13) = 13 by simp] at Hck2
                  go_wp2_with fail
                  refine Hck2.out.mono ?_
                  rintro e wF ⟨rfl, hbF⟩
                  have HbF := Lib.hid (stepB Hbe.out hbF)
                  obtain ⟨⟨f0, f1, f2, f3, f4, f5, f6⟩, -⟩ := seven ((hbF.block wA.heap.size (lt_of_heap Hbk.out)).trans Hbk.out)
                  clear hbF k0 k1 k2 k3 k4 k5 k6
                  go_wp2_with fail
                  go_ret
                  exact ⟨ret_bool (by first | (simp; done) | (simp; omega)), HbF.out⟩
                | false =>
                  by_cases hle : k + 1 ≤ 64
                  · have hlei : (k : Int) + 1 ≤ 64 := by omega
                    rw [show (if (true && !false && decide (k + 1 ≤ 64)) = true then (0 : Int) else 13) = 0 by simp [hle]] at Hck2
                    go_wp2_with fail
                    refine Hck2.out.mono ?_
                    rintro e wF ⟨rfl, hbF⟩
                    have HbF := Lib.hid (stepB Hbe.out hbF)
                    obtain ⟨⟨f0, f1, f2, f3, f4, f5, f6⟩, -⟩ := seven ((hbF.block wA.heap.size (lt_of_heap Hbk.out)).trans Hbk.out)
                    clear hbF k0 k1 k2 k3 k4 k5 k6
                    go_wp2_with fail
                    go_ret
                    exact ⟨ret_bool (by first | (simp; done) | (simp; omega)), HbF.out⟩
                  · have hlei : ¬ (k : Int) + 1 ≤ 64 := by omega
                    rw [show (if (true && !false && decide (k + 1 ≤ 64)) = true then (0 : Int) else 13) = 13 by simp [hle]] at Hck2
                    go_wp2_with fail
                    refine Hck2.out.mono ?_
                    rintro e wF ⟨rfl, hbF⟩
                    have HbF := Lib.hid (stepB Hbe.out hbF)
                    obtain ⟨⟨f0, f1, f2, f3, f4, f5, f6⟩, -⟩ := seven ((hbF.block wA.heap.size (lt_of_heap Hbk.out)).trans Hbk.out)
                    clear hbF k0 k1 k2 k3 k4 k5 k6
                    go_wp2_with fail
                    go_ret
                    exact ⟨ret_bool (by first | (simp; done) | (simp; omega)), HbF.out⟩
    · have h4 : ((st.kind : Int) != 4) = true := by rw [bne_iff_ne]; omega
      have h6 : ((st.kind : Int) != 6) = true := by rw [bne_iff_ne]; omega
      go_enter Tryz.func8, Tryz.ntmps8
      go_wp2_with fail
      refine (lives_calls _ (He.out.below HK.out.bel)).mono ?_
      rintro e w0 ⟨rfl, hb0⟩
      have HK0 := Lib.hid (HK.out.step hb0)
      clear hb0
      obtain ⟨⟨k0, k1, k2, k3, k4, k5, k6⟩, -⟩ := seven HK0.out.c1
      go_wp2_with fail
      refine (Hck.out _ HK0.out.bel).mono ?_
      rintro e w1 ⟨rfl, hb1⟩
      have HK1 := Lib.hid (HK0.out.step hb1)
      clear hb1 k0 k1 k2 k3 k4 k5 k6
      obtain ⟨⟨k0, k1, k2, k3, k4, k5, k6⟩, -⟩ := seven HK1.out.c1
      go_wp2_with fail
      go_ret
      exact ⟨rfl, HK1.out.bel⟩

end Go.Proofs.YtghnkgeaocpmaaaGreatDoor.Pa
