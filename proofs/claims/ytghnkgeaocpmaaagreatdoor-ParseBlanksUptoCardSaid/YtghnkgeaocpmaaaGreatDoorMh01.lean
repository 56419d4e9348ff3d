/- Parts: PfA PfB. -/
import Derived.Test.YtghnkgeaocpmaaaGreatDoorMg36
import Derived.Deep.RegionHeld3
import Derived.RegionTactic

/- codicilref10.SameSteps, SameItems, Same. -/
namespace Go.Proofs.YtghnkgeaocpmaaaGreatDoor.Pa
open Go.RowKit Go.Proofs.YtghnkgeaocpmaaaGreatDoor.Lx

theorem list_step {α : Type} {x y : List α} {i : Nat} (hx : i < x.length) (hy : i < y.length) (h : x.take i = y.take i) (e : x[i] = y[i]) : x.take (i + 1) = y.take (i + 1) := by
  rw [List.take_succ_eq_append_getElem hx, List.take_succ_eq_append_getElem hy, h, e]

attribute [local go_sem high] stp_equal
set_option maxHeartbeats 1000000 in
set_option maxRecDepth 100000 in
theorem SameSteps_calls (w : World) (va vb : Value) (x y : List Stp) (hx : StpsIn w va x) (hy : StpsIn w vb y) (hl : x.length ≤ maxLen) (hl2 : y.length ≤ maxLen) :
    Calls Tryz.prog 26 #[va, vb] w fun e w' => e = .returned (.bool (decide (x = y))) ∧ Below w.heap.size w w' := by
  obtain ⟨a, n, c, rfl, hxn, hc, hja⟩ := hx
  obtain ⟨b, m, d, rfl, hym, hd, hjb⟩ := hy
  rw [hxn] at hl
  rw [hym] at hl2
  unfold maxLen at hl hl2
  have Hx := Lib.hid hja
  have Hy := Lib.hid hjb
  have Hxn := Lib.hid hxn
  have Hym := Lib.hid hym
  clear hja hjb hxn hym
  by_cases hn : n = m
  · subst hn
    go_enter Tryz.func26, Tryz.ntmps26
    go_wp2_with fail
    go_loopw [13] (fun i wr => ∃ k : Nat, k ≤ n ∧ i = .int .i64 k ∧ Hid (Below w.heap.size w wr) ∧ Hid (x.take k = y.take k)) (fun i _ => n - (intOf i).toNat)
    case atStart => exact ⟨0, Nat.zero_le _, rfl, Below.refl _ _, rfl⟩
    case round =>
      obtain ⟨k, hk, rfl, Hb, Hk⟩ := hrel
      by_cases hlt : k < n
      · have hkx : k < x.length := by rw [Hxn.out]; exact hlt
        have hky : k < y.length := by rw [Hym.out]; exact hlt
        obtain ⟨g, o, rfl, hcx⟩ := Hx.out k hkx
        obtain ⟨g', o', rfl, hcy⟩ := Hy.out k hky
        obtain ⟨c0, c1, c2⟩ := hcx.below Hb.out
        obtain ⟨d0, d1, d2⟩ := hcy.below Hb.out
        have ht := stpB_eq x[k] y[k]
        have hstep := list_step hkx hky Hk.out
        generalize hxk : x[k] = xk at c0 c1 c2 ht hstep
        generalize hyk : y[k] = yk at d0 d1 d2 ht hstep
        have Hxk := Lib.hid hxk
        have Hyk := Lib.hid hyk
        clear hxk hyk hcx hcy
        by_cases he : xk = yk
        · rw [decide_eq_true (by exact he)] at ht
          have Hs := Lib.hid (hstep he)
          clear he hstep
          go_wp2_with fail
          go_quiet (fail)
          go_wp2_with fail
          go_roundw
          case rel => exact ⟨k + 1, by omega, by go_num, below_drewN Hb.out _, Hs⟩
          case measure => simp [intOf]; omega
        · rw [decide_eq_false (by exact he)] at ht
          have Hne := Lib.hid (show x ≠ y from fun h => by subst h; exact he (Hxk.out.symm.trans Hyk.out))
          clear he hstep
          go_wp2_with fail
          go_quiet (fail)
          go_wp2_with fail
          go_ret
          exact ⟨ret_bool (decide_eq_false Hne.out).symm, below_drewN Hb.out _⟩
      · have Hs := Lib.hid (show x = y by
          have := Hk.out
          have h1 := Hxn.out
          have h2 := Hym.out
          rwa [List.take_of_length_le (by omega), List.take_of_length_le (by omega)] at this)
        go_wp2_with fail
        go_ret
        exact ⟨ret_bool (decide_eq_true Hs.out).symm, Hb.out⟩
  · have Hne := Lib.hid (show x ≠ y from fun h => hn (by rw [← Hxn.out, ← Hym.out, h]))
    go_enter Tryz.func26, Tryz.ntmps26
    go_wp2_with fail
    go_ret
    exact ⟨ret_bool (decide_eq_false Hne.out).symm, Below.refl _ _⟩

/-- an item's cells -/
theorem ItmsIn.at {w : World} {v : Value} {l : List Itm} (h : ItmsIn w v l) : ∃ (a : Option Addr) (n c : Nat), v = .slice a n c ∧ l.length = n ∧ n ≤ c ∧ ∀ (i : Nat) (hi : i < l.length), ∃ (g o : Nat) (ae : Option Addr) (me ce : Nat), a = some ⟨g, o, none⟩ ∧
    w.cell? ⟨g, o + i * 2, none⟩ = some (.string ⟨l[i].name.toArray⟩) ∧ w.cell? ⟨g, o + i * 2 + 1, none⟩ = some (.slice ae me ce) ∧ StpsIn w (.slice ae me ce) l[i].expr := by
  obtain ⟨a, n, c, rfl, hn, hc, hj⟩ := h
  refine ⟨a, n, c, rfl, hn, hc, fun i hi => ?_⟩
  obtain ⟨g, o, ve, e, h0, h1, h2⟩ := hj i hi
  obtain ⟨ae, me, ce, rfl, -⟩ := id h2
  exact ⟨g, o, ae, me, ce, e, h0, h1, h2⟩

/-- what a region keeps of four cells -/
def Sm4 (wr w' : World) (a b c d : Addr) (va vb vc vd : Value) : Prop := Below wr.heap.size wr w' ∧ w'.cell? a = some va ∧ w'.cell? b = some vb ∧ w'.cell? c = some vc ∧ w'.cell? d = some vd
theorem cell_keep {w w' : World} {a : Addr} {v : Value} (h : w.cell? a = some v) (hb : Below w.heap.size w w') : w'.cell? a = some v := (hb.cell (p := a) (World.block_lt_of_cell? _ _ h)).trans h
theorem Sm4.step {wr w w' : World} {a b c d : Addr} {va vb vc vd : Value} (h : Sm4 wr w a b c d va vb vc vd) (hb : Below w.heap.size w w') : Sm4 wr w' a b c d va vb vc vd :=
  ⟨h.1.trans (hb.mono h.1.size), cell_keep h.2.1 hb, cell_keep h.2.2.1 hb, cell_keep h.2.2.2.1 hb, cell_keep h.2.2.2.2 hb⟩
theorem itm_eq (x y : Itm) : (x = y) ↔ (x.name = y.name ∧ x.expr = y.expr) := by
  cases x; cases y; simp

set_option maxHeartbeats 2000000 in
set_option maxRecDepth 100000 in
theorem SameItems_calls (w : World) (va vb : Value) (x y : List Itm) (hx : ItmsIn w va x) (hy : ItmsIn w vb y) (hl : x.length ≤ maxLen) (hl2 : y.length ≤ maxLen)
    (hex : ∀ t ∈ x, t.expr.length ≤ maxLen) (hey : ∀ t ∈ y, t.expr.length ≤ maxLen) :
    Calls Tryz.prog 49 #[va, vb] w fun e w' => e = .returned (.bool (decide (x = y))) ∧ Below w.heap.size w w' := by
  obtain ⟨a, n, c, rfl, hxn, hc, -⟩ := id hx
  obtain ⟨b, m, d, rfl, hym, hd, -⟩ := id hy
  rw [hxn] at hl
  rw [hym] at hl2
  unfold maxLen at hl hl2
  have Hx := Lib.hid hx
  have Hy := Lib.hid hy
  have Hex := Lib.hid hex
  have Hey := Lib.hid hey
  have Hxn := Lib.hid hxn
  have Hym := Lib.hid hym
  clear hx hy hxn hym hex hey
  by_cases hn : n = m
  · subst hn
    go_enter Tryz.func49, Tryz.ntmps49
    go_wp2_with fail
    go_loopw [13] (fun i wr => ∃ k : Nat, k ≤ n ∧ i = .int .i64 k ∧ Hid (Below w.heap.size w wr) ∧ Hid (x.take k = y.take k)) (fun i _ => n - (intOf i).toNat)
    case atStart => exact ⟨0, Nat.zero_le _, rfl, Below.refl _ _, rfl⟩
    case round =>
      obtain ⟨k, hk, rfl, Hb, Hk⟩ := hrel
      by_cases hlt : k < n
      · have hkx : k < x.length := by rw [Hxn.out]; exact hlt
        have hky : k < y.length := by rw [Hym.out]; exact hlt
        obtain ⟨a2, n2, c2, e2, -, -, hax⟩ := (Hx.out.below Hb.out).at
        simp only [Value.slice.injEq] at e2
        obtain ⟨rfl, -, -⟩ := e2
        obtain ⟨b2, m2, d2, e2, -, -, hay⟩ := (Hy.out.below Hb.out).at
        simp only [Value.slice.injEq] at e2
        obtain ⟨rfl, -, -⟩ := e2
        obtain ⟨g, o, ae, me, ce, rfl, q0, q1, hst⟩ := hax k hkx
        obtain ⟨g', o', be, ne, de, rfl, r0, r1, hst'⟩ := hay k hky
        have z1 := Hex.out _ (List.getElem_mem hkx)
        have z2 := Hey.out _ (List.getElem_mem hky)
        have Hss := Lib.hid (fun (w2 : World) (hb : Below wr.heap.size wr w2) => SameSteps_calls w2 _ _ _ _ (hst.below hb) (hst'.below hb) z1 z2)
        have hiq := itm_eq x[k] y[k]
        have hstep := list_step hkx hky Hk.out
        generalize hxk : x[k] = xk at q0 Hss hiq hstep
        generalize hyk : y[k] = yk at r0 Hss hiq hstep
        have Hxk := Lib.hid hxk
        have Hyk := Lib.hid hyk
        clear hxk hyk hst hst' z1 z2 hax hay
        have hne := fun (he : xk ≠ yk) => show x ≠ y from fun h => by subst h; exact he (Hxk.out.symm.trans Hyk.out)
        by_cases hnm : xk.name = yk.name
        · by_cases hee : xk.expr = yk.expr
          · have Hs := Lib.hid (hstep (hiq.2 ⟨hnm, hee⟩))
            rw [decide_eq_true hee] at Hss
            rw [hnm] at q0
            clear hiq hstep hne hnm hee
            go_wp2_with fail
            have hS0 : Sm4 wr wr.drew ⟨g, o + k * 2, none⟩ ⟨g', o' + k * 2, none⟩ ⟨g, o + k * 2 + 1, none⟩ ⟨g', o' + k * 2 + 1, none⟩ (.string ⟨yk.name.toArray⟩) (.string ⟨yk.name.toArray⟩) (.slice ae me ce) (.slice be ne de) := ⟨(Below.refl _ _).drew, q0, r0, q1, r1⟩
            go_region_held3 (fun w' => Below wr.heap.size wr w' ∧ w'.cell? ⟨g, o + k * 2, none⟩ = some (.string ⟨yk.name.toArray⟩) ∧ w'.cell? ⟨g', o' + k * 2, none⟩ = some (.string ⟨yk.name.toArray⟩) ∧ w'.cell? ⟨g, o + k * 2 + 1, none⟩ = some (.slice ae me ce) ∧ w'.cell? ⟨g', o' + k * 2 + 1, none⟩ = some (.slice be ne de))
              (first | exact hS0 | exact hS6)
              (first | (go_at_call 26; refine (Hss.out _ ?_).mono ?_; (go_split_ands; assumption); rintro e w6 ⟨rfl, hb6⟩; have hS6 : Sm4 wr w6 ⟨g, o + k * 2, none⟩ ⟨g', o' + k * 2, none⟩ ⟨g, o + k * 2 + 1, none⟩ ⟨g', o' + k * 2 + 1, none⟩ (.string ⟨yk.name.toArray⟩) (.string ⟨yk.name.toArray⟩) (.slice ae me ce) (.slice be ne de) := (by go_split_ands; exact Sm4.step ⟨by assumption, by assumption, by assumption, by assumption, by assumption⟩ hb6)))
            go_wp2_with fail
            go_roundw
            case rel => exact ⟨k + 1, by omega, by go_num, Hb.out.trans (hS6.1.mono Hb.out.size), Hs⟩
            case measure => simp [intOf]; omega
          · have Hne := Lib.hid (hne fun h => hee (hiq.1 h).2)
            rw [decide_eq_false hee] at Hss
            rw [hnm] at q0
            clear hiq hstep hne hnm hee
            go_wp2_with fail
            have hS0 : Sm4 wr wr.drew ⟨g, o + k * 2, none⟩ ⟨g', o' + k * 2, none⟩ ⟨g, o + k * 2 + 1, none⟩ ⟨g', o' + k * 2 + 1, none⟩ (.string ⟨yk.name.toArray⟩) (.string ⟨yk.name.toArray⟩) (.slice ae me ce) (.slice be ne de) := ⟨(Below.refl _ _).drew, q0, r0, q1, r1⟩
            go_region_held3 (fun w' => Below wr.heap.size wr w' ∧ w'.cell? ⟨g, o + k * 2, none⟩ = some (.string ⟨yk.name.toArray⟩) ∧ w'.cell? ⟨g', o' + k * 2, none⟩ = some (.string ⟨yk.name.toArray⟩) ∧ w'.cell? ⟨g, o + k * 2 + 1, none⟩ = some (.slice ae me ce) ∧ w'.cell? ⟨g', o' + k * 2 + 1, none⟩ = some (.slice be ne de))
              (first | exact hS0 | exact hS6)
              (first | (go_at_call 26; refine (Hss.out _ ?_).mono ?_; (go_split_ands; assumption); rintro e w6 ⟨rfl, hb6⟩; have hS6 : Sm4 wr w6 ⟨g, o + k * 2, none⟩ ⟨g', o' + k * 2, none⟩ ⟨g, o + k * 2 + 1, none⟩ ⟨g', o' + k * 2 + 1, none⟩ (.string ⟨yk.name.toArray⟩) (.string ⟨yk.name.toArray⟩) (.slice ae me ce) (.slice be ne de) := (by go_split_ands; exact Sm4.step ⟨by assumption, by assumption, by assumption, by assumption, by assumption⟩ hb6)))
            go_wp2_with fail
            go_ret
            exact ⟨ret_bool (decide_eq_false Hne.out).symm, Hb.out.trans (hS6.1.mono Hb.out.size)⟩
        · have Hne := Lib.hid (hne fun h => hnm (hiq.1 h).1)
          have hbn : (⟨xk.name.toArray⟩ : ByteArray).toList ≠ (⟨yk.name.toArray⟩ : ByteArray).toList := fun h => hnm (by simpa [ByteArray.toList_eq] using h)
          generalize (⟨xk.name.toArray⟩ : ByteArray) = bx at *
          generalize (⟨yk.name.toArray⟩ : ByteArray) = byy at *
          have e1 : (bx.toList == byy.toList) = false := by rw [beq_eq_false_iff_ne]; exact hbn
          have e2 : (bx.toList != byy.toList) = true := by rw [bne_iff_ne]; exact hbn
          clear hiq hstep hne hnm Hss
          go_wp2_with fail
          go_region
          go_wp2_with fail
          go_ret
          exact ⟨ret_bool (decide_eq_false Hne.out).symm, below_drewN Hb.out _⟩
      · have Hs := Lib.hid (show x = y by
          have := Hk.out
          have h1 := Hxn.out
          have h2 := Hym.out
          rwa [List.take_of_length_le (by omega), List.take_of_length_le (by omega)] at this)
        go_wp2_with fail
        go_ret
        exact ⟨ret_bool (decide_eq_true Hs.out).symm, Hb.out⟩
  · have Hne := Lib.hid (show x ≠ y from fun h => hn (by rw [← Hxn.out, ← Hym.out, h]))
    go_enter Tryz.func49, Tryz.ntmps49
    go_wp2_with fail
    go_ret
    exact ⟨ret_bool (decide_eq_false Hne.out).symm, Below.refl _ _⟩

end Go.Proofs.YtghnkgeaocpmaaaGreatDoor.Pa

/- codicilref10.Same of two that are one. -/
namespace Go.Proofs.YtghnkgeaocpmaaaGreatDoor.Pa
open Go.RowKit Go.Proofs.YtghnkgeaocpmaaaGreatDoor.Lx

set_option maxHeartbeats 2000000 in
set_option maxRecDepth 100000 in
theorem Same_calls (w : World) (st : Stm) (vi ve vj vf : Value) (hi : ItmsIn w vi st.items) (hv : StpsIn w ve st.expr) (hj : ItmsIn w vj st.items) (hf : StpsIn w vf st.expr)
    (hl : st.items.length ≤ maxLen) (hel : st.expr.length ≤ maxLen) (hex : ∀ t ∈ st.items, t.expr.length ≤ maxLen) :
    Calls Tryz.prog 25 #[st.val vi ve, st.val vj vf] w fun e w' => e = .returned (.bool true) ∧ Below w.heap.size w w' := by
  obtain ⟨ai, ni, ci, rfl, -⟩ := id hi
  obtain ⟨ae, ne, ce, rfl, -⟩ := id hv
  obtain ⟨aj, nj, cj, rfl, -⟩ := id hj
  obtain ⟨af, nf, cf, rfl, -⟩ := id hf
  have H1 := Lib.hid (alloc2_old w (.cells (smC st (.slice ai ni ci) (.slice ae ne ce)) 26) (.cells (smC st (.slice aj nj cj) (.slice af nf cf)) 26))
  have H2 := Lib.hid (alloc2_new w (.cells (smC st (.slice ai ni ci) (.slice ae ne ce)) 26) (.cells (smC st (.slice aj nj cj) (.slice af nf cf)) 26))
  have Hb := Lib.hid (below2 w (.cells (smC st (.slice ai ni ci) (.slice ae ne ce)) 26) (.cells (smC st (.slice aj nj cj) (.slice af nf cf)) 26))
  have Hsi := Lib.hid (fun (w2 : World) (hb : Below w.heap.size w w2) => SameItems_calls w2 _ _ _ _ (hi.below hb) (hj.below hb) hl hl hex hex)
  have Hss := Lib.hid (fun (w2 : World) (hb : Below w.heap.size w w2) => SameSteps_calls w2 _ _ _ _ (hv.below hb) (hf.below hb) hel hel)
  rw [decide_eq_true rfl] at Hsi Hss
  unfold Stm.val
  clear hi hv hj hf hl hel hex
  go_enter Tryz.func25, Tryz.ntmps25
  go_wp2_with fail
  refine (Hsi.out _ Hb.out).mono ?_
  rintro e w1 ⟨rfl, hb1⟩
  have h1 := (hb1.block w.heap.size (lt_of_heap H1.out)).trans H1.out
  have h2 := (hb1.block (w.heap.size + 1) (lt_of_heap H2.out)).trans H2.out
  obtain ⟨⟨k0, k1, k2, k3, k4, k5, k6⟩, -⟩ := seven h1
  obtain ⟨⟨m0, m1, m2, m3, m4, m5, m6⟩, -⟩ := seven h2
  have Hb1 := Lib.hid (stepB Hb.out hb1)
  clear hb1 h1 h2
  go_wp2_with fail
  refine (Hss.out _ Hb1.out).mono ?_
  rintro e w2 ⟨rfl, hb2⟩
  have Hb2 := Lib.hid (stepB Hb1.out hb2)
  clear hb2
  go_wp2_with fail
  go_ret
  exact ⟨rfl, Hb2.out⟩

end Go.Proofs.YtghnkgeaocpmaaaGreatDoor.Pa
