/- Parts: PcH PdA PdB. -/
import Derived.Test.YtcjmhmmjfgjcnaaGreatDoorMe07
import Derived.Test.YtcjmhmmjfgjcnaaGreatDoorMe40
import Derived.Test.YtcjmhmmjfgjcnaaGreatDoorMe48
import Derived.Test.YtcjmhmmjfgjcnaaGreatDoorMe49
import Derived.Deep.RegionWith
import Derived.RegionTactic

/- parse: Parse. -/
namespace Go.Proofs.YtcjmhmmjfgjcnaaGreatDoor.Pa
open Go.RowKit Go.Proofs.YtcjmhmmjfgjcnaaGreatDoor.Lx

/-- what Parse hands back -/
def GaveRs (w : World) (r : Rs) (e : Ending) (w' : World) : Prop := Below w.heap.size w w' ∧ match r with
  | .err c a => e = .returned (.tuple #[stm0.val (.slice none 0 0) (.slice none 0 0), .int .i64 c, .int .i64 a])
  | .ok st => ∃ vi ve, e = .returned (.tuple #[st.val vi ve, .int .i64 0, .int .i64 0]) ∧ ItmsIn w' vi st.items ∧ StpsIn w' ve st.expr ∧ StF 393216 st ∧ (∀ b, vi.ownBlock = some b → w.heap.size < b) ∧ (∀ b, ve.ownBlock = some b → w.heap.size < b)

theorem again_below {W : World} {B base : Nat} (h : base ≤ B) (st : Stm) (vi ve : Value) : Below base W (again W B st vi ve) :=
  ((((((((Below.refl _ _).setCell h _).setCell h _).setCell h _).setCell h _).setCell h _).setCell h _).setCell h _)
theorem again_heap {W : World} {B g : Nat} (h : g ≠ B) (st : Stm) (vi ve : Value) : (again W B st vi ve).heap[g]? = W.heap[g]? := by
  unfold again
  rw [Below.heap_setCell _ _ _ _ h, Below.heap_setCell _ _ _ _ h, Below.heap_setCell _ _ _ _ h, Below.heap_setCell _ _ _ _ h, Below.heap_setCell _ _ _ _ h, Below.heap_setCell _ _ _ _ h, Below.heap_setCell _ _ _ _ h]
/-- what the parser made, read in a later world -/
theorem ItH.itms' {x : Px} {w w' : World} {sv v : Value} {s : St} {Bs : Nat} {its : List Itm} {evs : List Value} (h : ItH x w sv s Bs v its evs) (hb : ∀ g, x.W.heap.size ≤ g → g < w.heap.size → w'.heap[g]? = w.heap[g]?) : ItmsIn w' v its := by
  have he := h.lenE
  have hr := own_same h.row (w' := w') fun g hg hlt => hb g (World.ownsRow.lt h.row g hg).1 hlt
  rcases hr.2 with ⟨rfl, h0⟩ | ⟨g, cap, cur, e, _, h2, h3, _⟩
  · exact ⟨none, 0, 0, rfl, h0, Nat.le_refl _, fun i hi => by omega⟩
  · subst e
    refine ⟨_, _, _, rfl, rfl, h3, fun i hi => ?_⟩
    obtain ⟨k0, k1⟩ := itsC_get its evs i hi (by omega)
    have hx := (h.exps i hi (by omega)).row
    refine ⟨g, 0, evs[i]'(by omega), rfl, ?_, ?_, StpsIn.own (own_same hx (w' := w') fun g hg hlt => hb g (World.ownsRow.lt hx g hg).1 hlt) rfl⟩
    · rw [World.ownsRow.cellAt hr _ (by omega), Nat.zero_add]; exact k0
    · rw [World.ownsRow.cellAt hr _ (by omega), Nat.zero_add]; exact k1
theorem HeldRow.stps' {x : Px} {w w' : World} {sv v : Value} {s : St} {l : List Stp} (h : HeldRow x w sv s v l) (hb : ∀ g, x.W.heap.size ≤ g → g < w.heap.size → w'.heap[g]? = w.heap[g]?) : StpsIn w' v l :=
  StpsIn.own (own_same h.row (w' := w') fun g hg hlt => hb g (World.ownsRow.lt h.row g hg).1 hlt) rfl

/-- the parser's block, new -/
theorem px_start {w1 : World} {base n c : Nat} {a : Option Addr} {toks : List Tok} (he : Env w1) (hk : ToksAt w1 base (.slice a n c) toks) (hn : n = toks.length) (hf : ∀ t ∈ toks, TokFits t) (hc : toks.length ≤ 16384) (fin : Nat) :
    ∃ x : Px, x.W = w1 ∧ x.B = w1.heap.size ∧ PS x (w1.alloc (.cells #[.slice a n c, .int .i64 fin, .int .i64 0, .int .i64 0, .slice none 0 0] 77)) (.slice a n c) (.slice none 0 0) (st0 toks fin) := by
  subst hn
  have hin := ownsRow_toks hk rfl
  have hcap : toks.length ≤ c := by
    rcases hk.2 with ⟨e, h0⟩ | ⟨g, cap, cur, e, _, _, h3, _⟩
    · omega
    · simp only [Value.slice.injEq] at e
      omega
  have mk : ∀ g : Nat, (∀ i (h : i < toks.length), TokCells w1 g i toks[i]) → (toks = [] ∨ a = some ⟨g, 0, none⟩) →
      PS ⟨w1, g, w1.heap.size, toks⟩ (w1.alloc (.cells #[.slice a toks.length c, .int .i64 fin, .int .i64 0, .int .i64 0, .slice none 0 0] 77)) (.slice a toks.length c) (.slice none 0 0) (st0 toks fin) := fun g hs ha =>
    { ok := ⟨he, hs, Nat.le_refl _, hf, hc⟩
      blk := heap_alloc_new _ _
      bel := alloc_below _ _
      left := ⟨0, toks.length, c, a, rfl, rfl, hcap, by
        rcases ha with h | h
        · exact .inl h
        · exact .inr ⟨by rw [h], rfl⟩⟩
      own := ⟨by simp [st0, stpsC], .inl ⟨rfl, rfl⟩⟩
      ne := by simp [Value.ownBlock]
      few := by simp [st0] }
  cases hl : toks with
  | nil => subst hl; exact ⟨_, rfl, rfl, mk 0 (fun i h => absurd h (Nat.not_lt_zero _)) (.inl rfl)⟩
  | cons t r =>
    obtain ⟨g, ea, _⟩ := hin 0 (by rw [hl]; simp)
    rw [← hl]
    refine ⟨_, rfl, rfl, mk g (fun i h => ?_) (.inr ea)⟩
    obtain ⟨g', e', hcl⟩ := hin i h
    rw [ea] at e'
    simp only [Option.some.injEq, Addr.mk.injEq, and_true] at e'
    rw [e']; exact hcl

/-- the first state is short -/
theorem st0_fin {l : Txt} {toks : List Tok} (h : lexL l = .ok toks) (n : Nat) : Fin 393216 (st0 toks n) := ⟨(lexL_wg h).1, lexL_fits h, by simp [st0], by simp [st0]⟩
theorem StF.ck {w : World} {st : Stm} {vi ve : Value} (h : StF 393216 st) (hi : ItmsIn w vi st.items) (hv : StpsIn w ve st.expr) (he : Env w) : CkArgs w st vi ve :=
  ⟨hi, hv, by have := h.table; omega, by have := h.field; omega, by have := h.expr.few; omega, fun y hy => by have := (h.expr.txt y hy).1; omega, by have := h.few; omega,
    fun t ht => ⟨by have := (h.items t ht).name; omega, by have := (h.items t ht).expr.few; omega, fun y hy => by have := ((h.items t ht).expr.txt y hy).1; omega⟩, he⟩
theorem StF.pr {w : World} {st : Stm} {vi ve : Value} (h : StF 393216 st) (hi : ItmsIn w vi st.items) (hv : StpsIn w ve st.expr) (he : Env w) : PrArgs w st vi ve :=
  ⟨h.ck hi hv he, fun y hy => (h.expr.txt y hy).2, fun t ht y hy => ((h.items t ht).expr.txt y hy).2⟩

set_option maxHeartbeats 4000000 in
set_option maxRecDepth 100000 in
theorem Parse_calls (n : Nat) (s : ByteArray) (w : World) (hs : s.size ≤ maxLen) (he : Env w) {r : Rs} (hr : parseF n (L s) = some r) :
    Calls Tryz.prog 12 #[.string s] w (GaveRs w r) := by
  unfold parseF at hr
  have Hs := Lib.hid hs
  have He := Lib.hid (he.alloc (.cells (smC stm0 (.slice none 0 0) (.slice none 0 0)) 33))
  have Ht := Lib.hid (heap_alloc_new w (.cells (smC stm0 (.slice none 0 0) (.slice none 0 0)) 33))
  have Hb0 := Lib.hid (alloc_below w (.cells (smC stm0 (.slice none 0 0) (.slice none 0 0)) 33))
  cases hx : lexL (L s) with
  | err c a =>
    rw [hx] at hr
    simp only [Option.some.injEq] at hr
    subst hr
    have Hx := Lib.hid hx
    have hne := lexL_ne hx
    clear he hs hx
    go_enter Tryz.func12, Tryz.ntmps12
    go_wp2_with fail
    refine (Lex_err s _ Hs.out He.out Hx.out).mono ?_
    rintro e w1 ⟨rfl, hb1⟩
    have ht1 := (hb1.block w.heap.size (by simp)).trans Ht.out
    have Hb1 := Lib.hid (Hb0.out.trans (hb1.mono Hb0.out.size))
    obtain ⟨⟨k0, k1, k2, k3, k4, k5, k6⟩, g0, g1, g2, g3, g4, g5, g6⟩ := seven ht1
    have hX := lt_of_heap ht1
    clear hb1 ht1
    go_wp2_with fail
    exact bodyPost_ret (v := .tuple #[stm0.val (.slice none 0 0) (.slice none 0 0), .int .i64 c, .int .i64 a]) (by simp [Stm.val, results, Tryz.results12, go_sem, stm0, k0, k1, k2, k3, k4, k5, k6]) rfl ⟨Hb1.out.trans ((again_below (Nat.le_refl _) stm0 (.slice none 0 0) (.slice none 0 0)).mono (Nat.le_refl _)), rfl⟩
  | ok toks =>
    rw [hx] at hr
    simp only at hr
    rw [Option.bind_eq_some_iff] at hr
    obtain ⟨q, hq, hr⟩ := hr
    simp only [Option.some.injEq] at hr
    have Hx := Lib.hid hx
    have Hq := Lib.hid hq
    have Hst := Lib.hid (stmt_kp (st0_fin hx (L s).length) hq).2
    have hcnt := (lexL_wg hx).2
    have hlen : (L s).length = s.size := L_length s
    clear he hs hx hq
    go_enter Tryz.func12, Tryz.ntmps12
    go_wp2_with fail
    refine (Lex_ok s _ Hs.out He.out Hx.out).mono ?_
    rintro e w1 ⟨a, c, rfl, hta, hb1⟩
    obtain ⟨x, hxW, hxB, hps⟩ := px_start (He.out.below hb1) hta rfl (lexL_fits Hx.out) hcnt (L s).length
    have Hps := Lib.hid hps
    have Hcall := Lib.hid (stmt_calls n hps Hq.out)
    have Ht1 := Lib.hid ((hb1.block w.heap.size (by simp)).trans Ht.out)
    have Hb1 := Lib.hid (Hb0.out.trans (hb1.mono Hb0.out.size))
    have hT : w.heap.size < w1.heap.size := lt_of_heap Ht1.out
    rw [hlen, hxB] at Hcall
    rw [hlen] at Hps
    clear hta hb1 hps
    go_wp2_with fail
    refine Hcall.out.mono ?_
    rintro e w3 ⟨lv3, sv3, Bs, vi, ve, ev, rfl, h3⟩
    obtain ⟨ai, ci, rfl⟩ := h3.its.sl
    obtain ⟨ae, ce, rfl⟩ := own_form h3.exp.row
    obtain ⟨st, s3⟩ := q
    simp only at h3 hr Hst ⊢
    have H3 := Lib.hid h3
    have hbx : Below w1.heap.size w1 w3 := by have := h3.now.ps.bel; rw [hxW] at this; exact this
    have Ht3 := Lib.hid ((hbx.block _ hT).trans Ht1.out)
    have Hb3 := Lib.hid (Hb1.out.trans (hbx.mono Hb1.out.size))
    have Hblk4 := Lib.hid (heap_alloc_new w3 (.cells (smC st (.slice ai st.items.length ci) (.slice ae st.expr.length ce)) 33))
    have Hba := Lib.hid (alloc_below w3 (.cells (smC st (.slice ai st.items.length ci) (.slice ae st.expr.length ce)) 33))
    have P4 := Lib.hid (h3.now.ps.step Hba.out)
    have Ht4 := Lib.hid ((Hba.out.block _ (lt_of_heap Ht3.out)).trans Ht3.out)
    have Hb4 := Lib.hid (Hb3.out.trans (Hba.out.mono Hb3.out.size))
    have hT3 : w.heap.size < w3.heap.size := lt_of_heap Ht3.out
    obtain ⟨kl, nl, cl, al, rfl, hnl, hcl, hleft⟩ := P4.out.left
    have Hnl := Lib.hid hnl
    have Hlx := Lib.hid (show x.W.heap.size = w1.heap.size by rw [hxW])
    clear h3 hbx hcl hleft hnl Hcall Hps
    unfold smV smC
    cases hl : s3.left with
    | nil =>
      have hn0 : nl = 0 := by have := Hnl.out; rw [hl] at this; exact this.symm
      subst hn0
      have hend : s3.ended = s3 := by unfold St.ended; rw [hl]; rfl
      rw [hend] at hr
      obtain ⟨⟨c0, c1, c2, c3, c4⟩, f0, f1, f2, f3, f4⟩ := five H3.out.now.ps.blk
      obtain ⟨⟨k0, k1, k2, k3, k4, k5, k6⟩, g0, g1, g2, g3, g4, g5, g6⟩ := seven Ht3.out
      have hB3 := H3.out.now.ps.lt
      rw [hxB] at c0 c1 c2 c3 c4 f0 f1 f2 f3 f4 hB3
      unfold finish at hr
      by_cases hw : s3.why = 0
      · have bw : ((s3.why : Int) != 0) = false := by rw [hw]; rfl
        rw [if_neg (by simp [hw])] at hr
        have hi4 : ItmsIn (w3.alloc (.cells (smC st (.slice ai st.items.length ci) (.slice ae st.expr.length ce)) 33)) (.slice ai st.items.length ci) st.items := H3.out.its.itms' fun g _ hlt => Hba.out.block g hlt
        have hv4 : StpsIn (w3.alloc (.cells (smC st (.slice ai st.items.length ci) (.slice ae st.expr.length ce)) 33)) (.slice ae st.expr.length ce) st.expr := H3.out.exp.stps' fun g _ hlt => Hba.out.block g hlt
        have Hck := Lib.hid (Check_calls st _ _ _ (Hst.out.ck hi4 hv4 P4.out.envw))
        unfold Stm.val at Hck
        clear hi4 hv4
        cases hc : checkB st with
        | true =>
          rw [hc, if_pos rfl] at hr
          have HC := Lib.hid (show checkV st = .int .i64 0 by unfold checkV; rw [hc]; rfl)
          clear hl hc hw
          go_wp2_with fail
          refine Hck.out.mono ?_
          rw [HC.out]
          rintro e w5 ⟨rfl, hb5⟩
          have ht5 := (hb5.block w.heap.size (lt_of_heap Ht4.out)).trans Ht4.out
          have hblk5 := (hb5.block w3.heap.size (lt_of_heap Hblk4.out)).trans Hblk4.out
          have Hb5 := Lib.hid (Hb4.out.trans (hb5.mono Hb4.out.size))
          have Hfin := Lib.hid (fun g (h1 : x.W.heap.size ≤ g) (h2 : g < w3.heap.size) => (again_heap (W := w5) (B := w.heap.size) (g := g) (by have := Hlx.out; omega) st (.slice ai st.items.length ci) (.slice ae st.expr.length ce)).trans ((hb5.block g (Nat.lt_of_lt_of_le h2 Hba.out.size)).trans (Hba.out.block g h2)))
          clear k0 k1 k2 k3 k4 k5 k6 g0 g1 g2 g3 g4 g5 g6 c0 c1 c2 c3 c4 f0 f1 f2 f3 f4
          obtain ⟨⟨k0, k1, k2, k3, k4, k5, k6⟩, g0, g1, g2, g3, g4, g5, g6⟩ := seven ht5
          obtain ⟨⟨m0, m1, m2, m3, m4, m5, m6⟩, -⟩ := seven hblk5
          have hX := lt_of_heap ht5
          clear hb5 ht5 hblk5
          go_wp2_with fail
          subst hr
          exact bodyPost_ret (v := .tuple #[st.val (.slice ai st.items.length ci) (.slice ae st.expr.length ce), .int .i64 0, .int .i64 0]) (by simp [Stm.val, results, Tryz.results12, go_sem, stm0, k0, k1, k2, k3, k4, k5, k6]) rfl ⟨Hb5.out.trans ((again_below (Nat.le_refl _) st (.slice ai st.items.length ci) (.slice ae st.expr.length ce)).mono (Nat.le_refl _)), _, _, rfl, H3.out.its.itms' Hfin.out, H3.out.exp.stps' Hfin.out, Hst.out, fun b hb => (by have := (World.ownsRow.lt H3.out.its.row b hb).1; have := Hlx.out; omega), fun b hb => (by have := (World.ownsRow.lt H3.out.exp.row b hb).1; have := Hlx.out; omega)⟩
        | false =>
          rw [hc, if_neg (by simp)] at hr
          have HC := Lib.hid (show checkV st = .int .i64 13 by unfold checkV; rw [hc]; rfl)
          clear hl hc hw
          go_wp2_with fail
          refine Hck.out.mono ?_
          rw [HC.out]
          rintro e w5 ⟨rfl, hb5⟩
          have ht5 := (hb5.block w.heap.size (lt_of_heap Ht4.out)).trans Ht4.out
          have Hb5 := Lib.hid (Hb4.out.trans (hb5.mono Hb4.out.size))
          clear k0 k1 k2 k3 k4 k5 k6 g0 g1 g2 g3 g4 g5 g6 c0 c1 c2 c3 c4 f0 f1 f2 f3 f4
          obtain ⟨⟨k0, k1, k2, k3, k4, k5, k6⟩, g0, g1, g2, g3, g4, g5, g6⟩ := seven ht5
          have hX := lt_of_heap ht5
          clear hb5 ht5
          go_wp2_with fail
          subst hr
          exact bodyPost_ret (v := .tuple #[stm0.val (.slice none 0 0) (.slice none 0 0), .int .i64 13, .int .i64 0]) (by simp [Stm.val, results, Tryz.results12, go_sem, stm0, k0, k1, k2, k3, k4, k5, k6]) rfl ⟨Hb5.out.trans ((again_below (Nat.le_refl _) stm0 (.slice none 0 0) (.slice none 0 0)).mono (Nat.le_refl _)), rfl⟩
      · have bw : ((s3.why : Int) != 0) = true := by rw [bne_iff_ne]; omega
        rw [if_pos (by simpa using hw)] at hr
        have hX := lt_of_heap Ht4.out
        clear hl hw
        go_wp2_with fail
        go_region
        all_goals
          go_wp2_with fail
          subst hr
          refine bodyPost_ret (v := .tuple #[stm0.val (.slice none 0 0) (.slice none 0 0), .int .i64 s3.why, .int .i64 s3.at_]) (by simp [Stm.val, results, Tryz.results12, go_sem, stm0, k0, k1, k2, k3, k4, k5, k6, hT3]) rfl ⟨?_, rfl⟩
          repeat (first | (with_reducible refine Below.alloc ?_ (by simp; omega) _) | (with_reducible refine Below.drew ?_))
          exact (((((((Hb3.out.setCell (Nat.le_refl _) _).setCell (Nat.le_refl _) _).setCell (Nat.le_refl _) _).setCell (Nat.le_refl _) _).setCell (Nat.le_refl _) _).setCell (Nat.le_refl _) _).setCell (Nat.le_refl _) _)
    | cons tk rs =>
      have hend : s3.ended = s3.fail 13 s3.place := by unfold St.ended; rw [hl]; rfl
      have hw6 : (s3.fail 13 s3.place).why ≠ 0 := by
        unfold St.fail
        split
        · simp
        · assumption
      rw [hend] at hr
      unfold finish at hr
      rw [if_pos hw6] at hr
      obtain ⟨⟨c0, c1, c2, c3, c4⟩, f0, f1, f2, f3, f4⟩ := five H3.out.now.ps.blk
      have hB3 := H3.out.now.ps.lt
      rw [hxB] at c0 c1 c2 c3 c4 f0 f1 f2 f3 f4 hB3
      have hn1 : 0 < nl := by have := Hnl.out; rw [hl] at this; simp at this; omega
      have hn2 : (0 : Int) < (nl : Int) := by omega
      have Hd := Lib.hid (P4.out.step (Below.refl _ _).drew)
      have Hpl := Lib.hid (place_calls Hd.out)
      have Hfl := Lib.hid (fail_callsC Hd.out 13 s3.place)
      rw [hxB] at Hpl Hfl
      generalize s3.fail 13 s3.place = s6 at *
      generalize s3.place = pl at *
      have bw : ((s6.why : Int) != 0) = true := by rw [bne_iff_ne]; omega
      clear hl hend hw6
      go_wp2_with fail
      go_region_with ((first | (go_at_call 43; refine Hpl.out.mono ?_; rintro e w' ⟨rfl, rfl⟩) | (go_at_call 42; refine Hfl.out.mono ?_; rintro e w6 ⟨rfl, lv6, h6⟩)))
      all_goals
        have hbx : Below w1.heap.size w1 w6 := by have := h6.ps.bel; rw [hxW] at this; exact this
        have ht6 := (hbx.block _ hT).trans Ht1.out
        have Hb6 := Lib.hid (Hb1.out.trans (hbx.mono Hb1.out.size))
        clear c0 c1 c2 c3 c4 f0 f1 f2 f3 f4
        obtain ⟨⟨c0, c1, c2, c3, c4⟩, f0, f1, f2, f3, f4⟩ := five h6.ps.blk
        obtain ⟨⟨k0, k1, k2, k3, k4, k5, k6⟩, g0, g1, g2, g3, g4, g5, g6⟩ := seven ht6
        have hX := lt_of_heap ht6
        rw [hxB] at c0 c1 c2 c3 c4 f0 f1 f2 f3 f4
        clear h6 hbx ht6
        go_wp2_with fail
        go_region
        all_goals
          go_wp2_with fail
          subst hr
          refine bodyPost_ret (v := .tuple #[stm0.val (.slice none 0 0) (.slice none 0 0), .int .i64 s6.why, .int .i64 s6.at_]) (by simp [Stm.val, results, Tryz.results12, go_sem, stm0, k0, k1, k2, k3, k4, k5, k6]) rfl ⟨?_, rfl⟩
          repeat (first | (with_reducible refine Below.alloc ?_ (by simp; omega) _) | (with_reducible refine Below.drew ?_))
          exact (((((((Hb6.out.setCell (Nat.le_refl _) _).setCell (Nat.le_refl _) _).setCell (Nat.le_refl _) _).setCell (Nat.le_refl _) _).setCell (Nat.le_refl _) _).setCell (Nat.le_refl _) _).setCell (Nat.le_refl _) _)

end Go.Proofs.YtcjmhmmjfgjcnaaGreatDoor.Pa

/- parse: the document's examples, and two operators in a row. Plain. -/
namespace Go.Proofs.YtcjmhmmjfgjcnaaGreatDoor.Pa
open Go.Proofs.YtcjmhmmjfgjcnaaGreatDoor.Lx

def liveP : Txt := [115, 101, 108, 101, 99, 116, 32, 97, 32, 43, 32, 49, 32, 97, 115, 32, 120, 32, 102, 114, 111, 109, 32, 116, 32, 119, 104, 101, 114, 101, 32, 110, 111, 116, 32, 98, 32, 61, 32, 50, 32, 97, 110, 100, 32, 99, 32, 105, 115, 32, 110, 117, 108, 108]
def liveX : Stm := ⟨6, [116], [], [⟨[120], [⟨6, [97], 0⟩, ⟨4, [], 1⟩, ⟨12, [], 0⟩]⟩], [⟨6, [98], 0⟩, ⟨4, [], 2⟩, ⟨15, [], 0⟩, ⟨10, [], 0⟩, ⟨6, [99], 0⟩, ⟨11, [], 0⟩, ⟨21, [], 0⟩], false, false⟩
def liveS : Txt := [83, 69, 76, 69, 67, 84, 32, 40, 97, 32, 43, 32, 49, 41, 32, 65, 83, 32, 120, 32, 70, 82, 79, 77, 32, 116, 32, 87, 72, 69, 82, 69, 32, 40, 40, 78, 79, 84, 32, 40, 98, 32, 61, 32, 50, 41, 41, 32, 65, 78, 68, 32, 40, 99, 32, 73, 83, 32, 78, 85, 76, 76, 41, 41]
def liveB : Txt := [67, 82, 69, 65, 84, 69, 32, 84, 65, 66, 76, 69, 32, 55]
theorem liveP_read : parseF 60 liveP = some (.ok liveX) := by decide +kernel
theorem liveB_read : parseF 60 liveB = some (.err 13 13) := by decide +kernel
theorem liveX_right : checkB liveX = true := by decide +kernel
theorem liveX_print : printT liveX = liveS := by decide +kernel

/-! ### two operators in a row -/
end Go.Proofs.YtcjmhmmjfgjcnaaGreatDoor.Pa

/- parse: lives: the document's examples. -/
namespace Go.Proofs.YtcjmhmmjfgjcnaaGreatDoor.Pa
open Go.RowKit Go.Proofs.YtcjmhmmjfgjcnaaGreatDoor.Lx

theorem live_steps {w : World} {v : Value} (h : StpsIn w v liveX.expr) : ∃ (g o c : Nat), v = .slice (some ⟨g, o, none⟩) 7 c ∧ w.cell? ⟨g, o + 9, none⟩ = some (.int .u8 10) := by
  obtain ⟨a, n, c, rfl, hn, hc, hj⟩ := h
  obtain ⟨g, o, rfl, hcl⟩ := hj 3 (by decide)
  have : n = 7 := by rw [← hn]; rfl
  subst this
  exact ⟨g, o, c, rfl, hcl.c0⟩
theorem liveX_val : printV liveX = .tuple #[.string ⟨liveS.toArray⟩, .int .i64 0] := by unfold printV; rw [liveX_right, liveX_print]; rfl

set_option maxHeartbeats 4000000 in
set_option maxRecDepth 100000 in
theorem lives_calls (w : World) (he : Env w) :
    Calls Tryz.prog 21 #[] w fun e w' => e = .returned (.bool true) ∧ Below w.heap.size w w' := by
  have He := Lib.hid he
  have Hp1 := Lib.hid (Parse_calls 60 ⟨liveP.toArray⟩ w (by unfold maxLen; decide) he (r := .ok liveX) liveP_read)
  have Hp2 := Lib.hid (fun (w2 : World) (he2 : Env w2) => Parse_calls 60 ⟨liveB.toArray⟩ w2 (by unfold maxLen; decide) he2 (r := .err 13 13) liveB_read)
  clear he
  unfold liveP at Hp1
  unfold liveB at Hp2
  go_enter Tryz.func21, Tryz.ntmps21
  go_wp2_with fail
  refine Hp1.out.mono ?_
  rintro e w1 ⟨hb1, vi, ve, rfl, hi, hv, hf, -⟩
  obtain ⟨ai, ni, ci, rfl, -⟩ := id hi
  obtain ⟨g, o, c, rfl, q0⟩ := live_steps hv
  have Hb1 := Lib.hid hb1
  have Hpr := Lib.hid (fun (w2 : World) (hb : Below w1.heap.size w1 w2) => Print_calls liveX w2 _ _ (hf.pr (hi.below hb) (hv.below hb) ((He.out.below hb1).below hb)))
  rw [liveX_val] at Hpr
  have Hblk := Lib.hid (heap_alloc_new w1 (.cells (smC liveX (.slice ai ni ci) (.slice (some ⟨g, o, none⟩) 7 c)) 33))
  have Hba := Lib.hid (alloc_below w1 (.cells (smC liveX (.slice ai ni ci) (.slice (some ⟨g, o, none⟩) 7 c)) 33))
  have Hq := Lib.hid q0
  have hg : g < w1.heap.size := World.block_lt_of_cell? _ _ q0
  clear hb1 hi hv hf q0
  unfold Stm.val at Hpr ⊢
  go_wp2_with fail
  refine (Hpr.out _ Hba.out).mono ?_
  rintro e w2 ⟨rfl, hb2⟩
  have Hb2 := Lib.hid (Hba.out.trans (hb2.mono Hba.out.size))
  have Hblk2 := Lib.hid ((hb2.block w1.heap.size (by simp)).trans Hblk.out)
  clear hb2 Hpr
  go_wp2_with fail
  refine (Hp2.out _ (He.out.below (Hb1.out.trans (Hb2.out.mono Hb1.out.size)))).mono ?_
  rintro e w3 ⟨hb3, rfl⟩
  have Hb3 := Lib.hid (Hb2.out.trans (hb3.mono Hb2.out.size))
  have hblk3 := (hb3.block w1.heap.size (lt_of_heap Hblk2.out)).trans Hblk2.out
  obtain ⟨⟨k0, k1, k2, k3, k4, k5, k6⟩, -⟩ := seven hblk3
  have q1 := keepC Hq.out Hb3.out
  have hX := lt_of_heap hblk3
  have hg3 : g < w3.heap.size := Nat.lt_of_lt_of_le hg Hb3.out.size
  have Hbel := Lib.hid (Hb1.out.trans (Hb3.out.mono Hb1.out.size))
  clear hb3 hblk3
  unfold Stm.val liveS
  go_wp2_with fail
  go_ret
  exact ⟨rfl, Hbel.out.trans ((alloc_below w3 _).mono Hbel.out.size)⟩

end Go.Proofs.YtcjmhmmjfgjcnaaGreatDoor.Pa
