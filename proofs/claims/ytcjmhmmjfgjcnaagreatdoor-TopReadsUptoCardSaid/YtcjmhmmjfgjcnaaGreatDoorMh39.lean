/- Parts: PcH PeI. -/
import Derived.Test.YtcjmhmmjfgjcnaaGreatDoorMh14
import Derived.Test.YtcjmhmmjfgjcnaaGreatDoorMh25
import Derived.Test.YtcjmhmmjfgjcnaaGreatDoorMh36
import Derived.Test.YtcjmhmmjfgjcnaaGreatDoorMh38
import Derived.Deep.RegionWith
import Derived.RegionTactic

/- parse: Parse. -/
namespace Go.Proofs.YtcjmhmmjfgjcnaaGreatDoor.Pa
open Go.RowKit Go.Proofs.YtcjmhmmjfgjcnaaGreatDoor.Lx

def GaveRs (w : World) (r : Rs) (e : Ending) (w' : World) : Prop := Below w.heap.size w w' ∧ match r with
  | .err c a => e = .returned (.tuple #[stm0.val (.slice none 0 0) (.slice none 0 0), .int .i64 c, .int .i64 a])
  | .ok st => ∃ vi ve, e = .returned (.tuple #[st.val vi ve, .int .i64 0, .int .i64 0]) ∧ ItmsIn w' vi st.items ∧ StpsIn w' ve st.expr ∧ StF 393216 st ∧ (∀ b, vi.ownBlock = some b → w.heap.size < b) ∧ (∀ b, ve.ownBlock = some b → w.heap.size < b)

theorem again_below {W : World} {B base : Nat} (h : base ≤ B) (st : Stm) (vi ve : Value) : Below base W (again W B st vi ve) :=
  ((((((((Below.refl _ _).setCell h _).setCell h _).setCell h _).setCell h _).setCell h _).setCell h _).setCell h _)
theorem again_heap {W : World} {B g : Nat} (h : g ≠ B) (st : Stm) (vi ve : Value) : (again W B st vi ve).heap[g]? = W.heap[g]? := by
  unfold again
  rw [Below.heap_setCell _ _ _ _ h, Below.heap_setCell _ _ _ _ h, Below.heap_setCell _ _ _ _ h, Below.heap_setCell _ _ _ _ h, Below.heap_setCell _ _ _ _ h, Below.heap_setCell _ _ _ _ h, Below.heap_setCell _ _ _ _ h]
theorem ItH.itms' {x : Px} {w w' : World} {sv v : Value} {s : St} {Bs : Nat} {its : List Itm} {evs : List Value} (h : ItH x w sv s Bs v its evs) (hb : ∀ g, x.W.heap.size ≤ g → g < w.heap.size → w'.heap[g]? = w.heap[g]?) : ItmsIn w' v its := by
  have he := h.lenE
  have hr := own_same h.row (w' := w') fun g hg hlt => hb g (World.ownsRow.lt h.row g hg).1 hlt
  rcases hr.2 with ⟨rfl, h0⟩ | ⟨g, cap, cur, e, _, h2, h3, _⟩
  · exact ⟨none, 0, 0, rfl, h0, Nat.le_refl _, fun i hi => by omega⟩
  · subst e
    refine ⟨_, _, _, rfl, rfl, h3, fun i hi => ?_⟩
    obtain ⟨k0, k1⟩ := itsC_get its evs i hi (by omega)
    have hx := (h.exps i hi (by omega)).row
    refine ⟨g, 0, evs[i]'(by omega), rfl, ?_, ?_, StpsIn.own (own_same hx (w' := w') fun g hg hlt => hb g (World.ownsRow.lt hx g hg).1 hlt) rfl⟩
    · rw [World.ownsRow.cellAt hr _ (by omega), Nat.zero_add]; exact k0
    · rw [World.ownsRow.cellAt hr _ (by omega), Nat.zero_add]; exact k1
theorem HeldRow.stps' {x : Px} {w w' : World} {sv v : Value} {s : St} {l : List Stp} (h : HeldRow x w sv s v l) (hb : ∀ g, x.W.heap.size ≤ g → g < w.heap.size → w'.heap[g]? = w.heap[g]?) : StpsIn w' v l :=
  StpsIn.own (own_same h.row (w' := w') fun g hg hlt => hb g (World.ownsRow.lt h.row g hg).1 hlt) rfl

theorem px_start {w1 : World} {base n c : Nat} {a : Option Addr} {toks : List Tok} (he : Env w1) (hk : ToksAt w1 base (.slice a n c) toks) (hn : n = toks.length) (hf : ∀ t ∈ toks, TokFits t) (hc : toks.length ≤ 16384) (fin : Nat) :
    ∃ x : Px, x.W = w1 ∧ x.B = w1.heap.size ∧ PS x (w1.alloc (.cells #[.slice a n c, .int .i64 fin, .int .i64 0, .int .i64 0, .slice none 0 0] 77)) (.slice a n c) (.slice none 0 0) (st0 toks fin) := by
  subst hn
  have hin := ownsRow_toks hk rfl
  have hcap : toks.length ≤ c := by
    rcases hk.2 with ⟨e, h0⟩ | ⟨g, cap, cur, e, _, _, h3, _⟩
    · omega
    · simp only [Value.slice.injEq] at e
      omega
  have mk : ∀ g : Nat, (∀ i (h : i < toks.length), TokCells w1 g i toks[i]) → (toks = [] ∨ a = some ⟨g, 0, none⟩) →
      PS ⟨w1, g, w1.heap.size, toks⟩ (w1.alloc (.cells #[.slice a toks.length c, .int .i64 fin, .int .i64 0, .int .i64 0, .slice none 0 0] 77)) (.slice a toks.length c) (.slice none 0 0) (st0 toks fin) := fun g hs ha =>
    { ok := ⟨he, hs, Nat.le_refl _, hf, hc⟩
      blk := heap_alloc_new _ _
      bel := alloc_below _ _
      left := ⟨0, toks.length, c, a, rfl, rfl, hcap, by
        rcases ha with h | h
        · exact .inl h
        · exact .inr ⟨by rw [h], rfl⟩⟩
      own := ⟨by simp [st0, stpsC], .inl ⟨rfl, rfl⟩⟩
      ne := by simp [Value.ownBlock]
      few := by simp [st0] }
  cases hl : toks with
  | nil => subst hl; exact ⟨_, rfl, rfl, mk 0 (fun i h => absurd h (Nat.not_lt_zero _)) (.inl rfl)⟩
  | cons t r =>
    obtain ⟨g, ea, _⟩ := hin 0 (by rw [hl]; simp)
    rw [← hl]
    refine ⟨_, rfl, rfl, mk g (fun i h => ?_) (.inr ea)⟩
    obtain ⟨g', e', hcl⟩ := hin i h
    rw [ea] at e'
    simp only [Option.some.injEq, Addr.mk.injEq, and_true] at e'
    rw [e']; exact hcl

theorem st0_fin {l : Txt} {toks : List Tok} (h : lexL l = .ok toks) (n : Nat) : Fin 393216 (st0 toks n) := ⟨(lexL_wg h).1, lexL_fits h, by simp [st0], by simp [st0]⟩
theorem StF.ck {w : World} {st : Stm} {vi ve : Value} (h : StF 393216 st) (hi : ItmsIn w vi st.items) (hv : StpsIn w ve st.expr) (he : Env w) : CkArgs w st vi ve :=
  ⟨hi, hv, by have := h.table; omega, by have := h.field; omega, by have := h.expr.few; omega, fun y hy => by have := (h.expr.txt y hy).1; omega, by have := h.few; omega,
    fun t ht => ⟨by have := (h.items t ht).name; omega, by have := (h.items t ht).expr.few; omega, fun y hy => by have := ((h.items t ht).expr.txt y hy).1; omega⟩, he⟩
theorem StF.pr {w : World} {st : Stm} {vi ve : Value} (h : StF 393216 st) (hi : ItmsIn w vi st.items) (hv : StpsIn w ve st.expr) (he : Env w) : PrArgs w st vi ve :=
  ⟨h.ck hi hv he, fun y hy => (h.expr.txt y hy).2, fun t ht y hy => ((h.items t ht).expr.txt y hy).2⟩

set_option maxHeartbeats 4000000 in
set_option maxRecDepth 100000 in
theorem Parse_calls (n : Nat) (s : ByteArray) (w : World) (hs : s.size ≤ maxLen) (he : Env w) {r : Rs} (hr : parseF n (L s) = some r) :
    Calls Tryz.prog 12 #[.string s] w (GaveRs w r) := by
  unfold parseF at hr
  have Hs := Lib.hid hs
  have He := Lib.hid (he.alloc (.cells (smC stm0 (.slice none 0 0) (.slice none 0 0)) 33))
  have Ht := Lib.hid (heap_alloc_new w (.cells (smC stm0 (.slice none 0 0) (.slice none 0 0)) 33))
  have Hb0 := Lib.hid (alloc_below w (.cells (smC stm0 (.slice none 0 0) (.slice none 0 0)) 33))
  cases hx : lexL (L s) with
  | err c a =>
    rw [hx] at hr
    simp only [Option.some.injEq] at hr
    subst hr
    have Hx := Lib.hid hx
    have hne := lexL_ne hx
    clear he hs hx
    go_enter Tryz.func12, Tryz.ntmps12
    go_wp2_with fail
    refine (Lex_err s _ Hs.out He.out Hx.out).mono ?_
    rintro e w1 ⟨rfl, hb1⟩
    have ht1 := (hb1.block w.heap.size (by simp)).trans Ht.out
    have Hb1 := Lib.hid (Hb0.out.trans (hb1.mono Hb0.out.size))
    obtain ⟨⟨k0, k1, k2, k3, k4, k5, k6⟩, g0, g1, g2, g3, g4, g5, g6⟩ := seven ht1
    have hX := lt_of_heap ht1
    clear hb1 ht1
    go_wp2_with fail
    exact bodyPost_ret (v := .tuple #[stm0.val (.slice none 0 0) (.slice none 0 0), .int .i64 c, .int .i64 a]) (by simp [Stm.val, results, Tryz.results12, go_sem, stm0, k0, k1, k2, k3, k4, k5, k6]) rfl ⟨Hb1.out.trans ((again_below (Nat.le_refl _) stm0 (.slice none 0 0) (.slice none 0 0)).mono (Nat.le_refl _)), rfl⟩
  | ok toks =>
    rw [hx] at hr
    simp only at hr
    rw [Option.bind_eq_some_iff] at hr
    obtain ⟨q, hq, hr⟩ := hr
    simp only [Option.some.injEq] at hr
    have Hx := Lib.hid hx
    have Hq := Lib.hid hq
    have Hst := Lib.hid (stmt_kp (st0_fin hx (L s).length) hq).2
    have hcnt := (lexL_wg hx).2
    have hlen : (L s).length = s.size := L_length s
    clear he hs hx hq
    go_enter Tryz.func12, Tryz.ntmps12
    go_wp2_with fail
    refine (Lex_ok s _ Hs.out He.out Hx.out).mono ?_
    rintro e w1 ⟨a, c, rfl, hta, hb1⟩
    obtain ⟨x, hxW, hxB, hps⟩ := px_start (He.out.below hb1) hta rfl (lexL_fits Hx.out) hcnt (L s).length
    have Hps := Lib.hid hps
    have Hcall := Lib.hid (stmt_calls n hps Hq.out)
    have Ht1 := Lib.hid ((hb1.block w.heap.size (by simp)).trans Ht.out)
    have Hb1 := Lib.hid (Hb0.out.trans (hb1.mono Hb0.out.size))
    have hT : w.heap.size < w1.heap.size := lt_of_heap Ht1.out
    rw [hlen, hxB] at Hcall
    rw [hlen] at Hps
    clear hta hb1 hps
    go_wp2_with fail
    refine Hcall.out.mono ?_
    rintro e w3 ⟨lv3, sv3, Bs, vi, ve, ev, rfl, h3⟩
    obtain ⟨ai, ci, rfl⟩ := h3.its.sl
    obtain ⟨ae, ce, rfl⟩ := own_form h3.exp.row
    obtain ⟨st, s3⟩ := q
    simp only at h3 hr Hst ⊢
    have H3 := Lib.hid h3
    have hbx : Below w1.heap.size w1 w3 := by have := h3.now.ps.bel; rw [hxW] at this; exact this
    have Ht3 := Lib.hid ((hbx.block _ hT).trans Ht1.out)
    have Hb3 := Lib.hid (Hb1.out.trans (hbx.mono Hb1.out.size))
    have Hblk4 := Lib.hid (heap_alloc_new w3 (.cells (smC st (.slice ai st.items.length ci) (.slice ae st.expr.length ce)) 33))
    have Hba := Lib.hid (alloc_below w3 (.cells (smC st (.slice ai st.items.length ci) (.slice ae st.expr.length ce)) 33))
    have P4 := Lib.hid (h3.now.ps.step Hba.out)
    have Ht4 := Lib.hid ((Hba.out.block _ (lt_of_heap Ht3.out)).trans Ht3.out)
    have Hb4 := Lib.hid (Hb3.out.trans (Hba.out.mono Hb3.out.size))
    have hT3 : w.heap.size < w3.heap.size := lt_of_heap Ht3.out
    obtain ⟨kl, nl, cl, al, rfl, hnl, hcl, hleft⟩ := P4.out.left
    have Hnl := Lib.hid hnl
    have Hlx := Lib.hid (show x.W.heap.size = w1.heap.size by rw [hxW])
    clear h3 hbx hcl hleft hnl Hcall Hps
    unfold smV smC
    cases hl : s3.left with
    | nil =>
      have hn0 : nl = 0 := by have := Hnl.out; rw [hl] at this; exact this.symm
      subst hn0
      have hend : s3.ended = s3 := by unfold St.ended; rw [hl]; rfl
      rw [hend] at hr
      obtain ⟨⟨c0, c1, c2, c3, c4⟩, f0, f1, f2, f3, f4⟩ := five H3.out.now.ps.blk
      obtain ⟨⟨k0, k1, k2, k3, k4, k5, k6⟩, g0, g1, g2, g3, g4, g5, g6⟩ := seven Ht3.out
      have hB3 := H3.out.now.ps.lt
      rw [hxB] at c0 c1 c2 c3 c4 f0 f1 f2 f3 f4 hB3
      unfold finish at hr
      by_cases hw : s3.why = 0
      · have bw : ((s3.why : Int) != 0) = false := by rw [hw]; rfl
        rw [if_neg (by simp [hw])] at hr
        have hi4 : ItmsIn (w3.alloc (.cells (smC st (.slice ai st.items.length ci) (.slice ae st.expr.length ce)) 33)) (.slice ai st.items.length ci) st.items := H3.out.its.itms' fun g _ hlt => Hba.out.block g hlt
        have hv4 : StpsIn (w3.alloc (.cells (smC st (.slice ai st.items.length ci) (.slice ae st.expr.length ce)) 33)) (.slice ae st.expr.length ce) st.expr := H3.out.exp.stps' fun g _ hlt => Hba.out.block g hlt
        have Hck := Lib.hid (Check_calls st _ _ _ (Hst.out.ck hi4 hv4 P4.out.envw))
        unfold Stm.val at Hck
        clear hi4 hv4
        cases hc : checkB st with
        | true =>
          rw [hc, if_pos rfl] at hr
          have HC := Lib.hid (show checkV st = .int .i64 0 by unfold checkV; rw [hc]; rfl)
          clear hl hc hw
          go_wp2_with fail
          refine Hck.out.mono ?_
          rw [HC.out]
          rintro e w5 ⟨rfl, hb5⟩
          have ht5 := (hb5.block w.heap.size (lt_of_heap Ht4.out)).trans Ht4.out
          have hblk5 := (hb5.block w3.heap.size (lt_of_heap Hblk4.out)).trans Hblk4.out
          have Hb5 := Lib.hid (Hb4.out.trans (hb5.mono Hb4.out.size))
          have Hfin := Lib.hid (fun g (h1 : x.W.heap.size ≤ g) (h2 : g < w3.heap.size) => (again_heap (W := w5) (B := w.heap.size) (g := g) (by have := Hlx.out; omega) st (.slice ai st.items.length ci) (.slice ae st.expr.length ce)).trans ((hb5.block g (Nat.lt_of_lt_of_le h2 Hba.out.size)).trans (Hba.out.block g h2)))
          clear k0 k1 k2 k3 k4 k5 k6 g0 g1 g2 g3 g4 g5 g6 c0 c1 c2 c3 c4 f0 f1 f2 f3 f4
          obtain ⟨⟨k0, k1, k2, k3, k4, k5, k6⟩, g0, g1, g2, g3, g4, g5, g6⟩ := seven ht5
          obtain ⟨⟨m0, m1, m2, m3, m4, m5, m6⟩, -⟩ := seven hblk5
          have hX := lt_of_heap ht5
          clear hb5 ht5 hblk5
          go_wp2_with fail
          subst hr
          exact bodyPost_ret (v := .tuple #[st.val (.slice ai st.items.length ci) (.slice ae st.expr.length ce), .int .i64 0, .int .i64 0]) (by simp [Stm.val, results, Tryz.results12, go_sem, stm0, k0, k1, k2, k3, k4, k5, k6]) rfl ⟨Hb5.out.trans ((again_below (Nat.le_refl _) st (.slice ai st.items.length ci) (.slice ae st.expr.length ce)).mono (Nat.le_refl _)), _, _, rfl, H3.out.its.itms' Hfin.out, H3.out.exp.stps' Hfin.out, Hst.out, fun b hb => (by have := (World.ownsRow.lt H3.out.its.row b hb).1; have := Hlx.out; omega), fun b hb => (by have := (World.ownsRow.lt H3.out.exp.row b hb).1; have := Hlx.out; omega)⟩
        | false =>
          rw [hc, if_neg (by simp)] at hr
          have HC := Lib.hid (show checkV st = .int .i64 13 by unfold checkV; rw [hc]; rfl)
          clear hl hc hw
          go_wp2_with fail
          refine Hck.out.mono ?_
          rw [HC.out]
          rintro e w5 ⟨rfl, hb5⟩
          have ht5 := (hb5.block w.heap.size (lt_of_heap Ht4.out)).trans Ht4.out
          have Hb5 := Lib.hid (Hb4.out.trans (hb5.mono Hb4.out.size))
          clear k0 k1 k2 k3 k4 k5 k6 g0 g1 g2 g3 g4 g5 g6 c0 c1 c2 c3 c4 f0 f1 f2 f3 f4
          obtain ⟨⟨k0, k1, k2, k3, k4, k5, k6⟩, g0, g1, g2, g3, g4, g5, g6⟩ := seven ht5
          have hX := lt_of_heap ht5
          clear hb5 ht5
          go_wp2_with fail
          subst hr
          exact bodyPost_ret (v := .tuple #[stm0.val (.slice none 0 0) (.slice none 0 0), .int .i64 13, .int .i64 0]) (by simp [Stm.val, results, Tryz.results12, go_sem, stm0, k0, k1, k2, k3, k4, k5, k6]) rfl ⟨Hb5.out.trans ((again_below (Nat.le_refl _) stm0 (.slice none 0 0) (.slice none 0 0)).mono (Nat.le_refl _)), rfl⟩
      · have bw : ((s3.why : Int) != 0) = true := by rw [bne_iff_ne]; omega
        rw [if_pos (by simpa using hw)] at hr
        have hX := lt_of_heap Ht4.out
        clear hl hw
        go_wp2_with fail
        go_region
        all_goals
          go_wp2_with fail
          subst hr
          refine bodyPost_ret (v := .tuple #[stm0.val (.slice none 0 0) (.slice none 0 0), .int .i64 s3.why, .int .i64 s3.at_]) (by simp [Stm.val, results, Tryz.results12, go_sem, stm0, k0, k1, k2, k3, k4, k5, k6, hT3]) rfl ⟨?_, rfl⟩
          repeat (first | (with_reducible refine Below.alloc ?_ (by simp; omega) _) | (with_reducible refine Below.drew ?_))
          exact (((((((Hb3.out.setCell (Nat.le_refl _) _).setCell (Nat.le_refl _) _).setCell (Nat.le_refl _) _).setCell (Nat.le_refl _) _).setCell (Nat.le_refl _) _).setCell (Nat.le_refl _) _).setCell (Nat.le_refl _) _)
    | cons tk rs =>
      have hend : s3.ended = s3.fail 13 s3.place := by unfold St.ended; rw [hl]; rfl
      have hw6 : (s3.fail 13 s3.place).why ≠ 0 := by
        unfold St.fail
        split
        · simp
        · assumption
      rw [hend] at hr
      unfold finish at hr
      rw [if_pos hw6] at hr
      obtain ⟨⟨c0, c1, c2, c3, c4⟩, f0, f1, f2, f3, f4⟩ := five H3.out.now.ps.blk
      have hB3 := H3.out.now.ps.lt
      rw [hxB] at c0 c1 c2 c3 c4 f0 f1 f2 f3 f4 hB3
      have hn1 : 0 < nl := by have := Hnl.out; rw [hl] at this; simp at this; omega
      have hn2 : (0 : Int) < (nl : Int) := by omega
      have Hd := Lib.hid (P4.out.step (Below.refl _ _).drew)
      have Hpl := Lib.hid (place_calls Hd.out)
      have Hfl := Lib.hid (fail_callsC Hd.out 13 s3.place)
      rw [hxB] at Hpl Hfl
      generalize s3.fail 13 s3.place = s6 at *
      generalize s3.place = pl at *
      have bw : ((s6.why : Int) != 0) = true := by rw [bne_iff_ne]; omega
      clear hl hend hw6
      go_wp2_with fail
      go_region_with ((first | (go_at_call 43; refine Hpl.out.mono ?_; rintro e w' ⟨rfl, rfl⟩) | (go_at_call 42; refine Hfl.out.mono ?_; rintro e w6 ⟨rfl, lv6, h6⟩)))
      all_goals
        have hbx : Below w1.heap.size w1 w6 := by have := h6.ps.bel; rw [hxW] at this; exact this
        have ht6 := (hbx.block _ hT).trans Ht1.out
        have Hb6 := Lib.hid (Hb1.out.trans (hbx.mono Hb1.out.size))
        clear c0 c1 c2 c3 c4 f0 f1 f2 f3 f4
        obtain ⟨⟨c0, c1, c2, c3, c4⟩, f0, f1, f2, f3, f4⟩ := five h6.ps.blk
        obtain ⟨⟨k0, k1, k2, k3, k4, k5, k6⟩, g0, g1, g2, g3, g4, g5, g6⟩ := seven ht6
        have hX := lt_of_heap ht6
        rw [hxB] at c0 c1 c2 c3 c4 f0 f1 f2 f3 f4
        clear h6 hbx ht6
        go_wp2_with fail
        go_region
        all_goals
          go_wp2_with fail
          subst hr
          refine bodyPost_ret (v := .tuple #[stm0.val (.slice none 0 0) (.slice none 0 0), .int .i64 s6.why, .int .i64 s6.at_]) (by simp [Stm.val, results, Tryz.results12, go_sem, stm0, k0, k1, k2, k3, k4, k5, k6]) rfl ⟨?_, rfl⟩
          repeat (first | (with_reducible refine Below.alloc ?_ (by simp; omega) _) | (with_reducible refine Below.drew ?_))
          exact (((((((Hb6.out.setCell (Nat.le_refl _) _).setCell (Nat.le_refl _) _).setCell (Nat.le_refl _) _).setCell (Nat.le_refl _) _).setCell (Nat.le_refl _) _).setCell (Nat.le_refl _) _).setCell (Nat.le_refl _) _)

end Go.Proofs.YtcjmhmmjfgjcnaaGreatDoor.Pa

/- parse: with which codes a text is refused. Plain. -/
namespace Go.Proofs.YtcjmhmmjfgjcnaaGreatDoor.Pa
open Go.Proofs.YtcjmhmmjfgjcnaaGreatDoor.Lx

def codeM (n : Nat) : Nat := if n = 0 ∨ n = 3 ∨ n = 10 ∨ n = 13 ∨ n = 18 then n else 13
theorem codeM_zero (n : Nat) : codeM n = 0 ↔ n = 0 := by
  unfold codeM
  split <;> omega
def St.wm (s : St) : St := ⟨s.left, s.fin, codeM s.why, s.at_, s.steps⟩
theorem wm_why0 (s : St) : (s.wm.why = 0) = (s.why = 0) := propext (codeM_zero s.why)
theorem wm_steps (s : St) : s.wm.steps = s.steps := by cases s; rfl
theorem wm_left (s : St) : s.wm.left = s.left := by cases s; rfl
theorem wm_place (s : St) : s.wm.place = s.place := by cases s; rfl
theorem wm_fail {y : Nat} (hy : codeM y = y) (s : St) (a : Nat) : (s.fail y a).wm = s.wm.fail y a := by
  unfold St.fail
  simp only [wm_why0]
  split
  · unfold St.wm
    simp only [hy]
  · rfl
theorem wm_next (s : St) (k : Nat) (x : List Txt) : s.wm.next k x = s.next k x := by cases s; rfl
theorem wm_drop (s : St) : s.drop.wm = s.wm.drop := by cases s; rfl
theorem wm_headT (s : St) : s.wm.head.text = s.head.text := by cases s; rfl
theorem wm_headN (s : St) : s.wm.head.num = s.head.num := by cases s; rfl
theorem wm_nameT (s : St) : s.wm.nameT = s.nameT := by cases s; rfl
theorem wm_after (s : St) (k : Nat) (x : List Txt) : (s.after k x).wm = s.wm.after k x := by
  unfold St.after
  rw [wm_next]
  split <;> rfl
theorem wm_bad (s : St) : s.bad.wm = s.wm.bad := wm_fail rfl s s.place
theorem wm_deep (s : St) : s.deep.wm = s.wm.deep := wm_fail rfl s s.place
theorem wm_need (s : St) (k : Nat) (x : List Txt) : (s.need k x).wm = s.wm.need k x := by
  unfold St.need
  rw [wm_next]
  split
  · rfl
  · exact wm_bad s
theorem wm_sign (s : St) (x : Txt) : (s.sign x).wm = s.wm.sign x := wm_need _ _ _
theorem wm_name (s : St) : s.name.wm = s.wm.name := wm_need _ _ _
theorem wm_keys : ∀ (xs : List Txt) (s : St), (s.keys xs).wm = s.wm.keys xs
  | [], _ => rfl
  | x :: xs, s => by
    show ((s.need 2 [x]).keys xs).wm = (s.wm.need 2 [x]).keys xs
    rw [wm_keys xs, wm_need]
theorem wm_ite {c : Prop} [Decidable c] (a b : St) : (if c then a else b).wm = if c then a.wm else b.wm := by split <;> rfl
theorem wm_many (s : St) : s.many.wm = s.wm.many := by
  unfold St.many
  simp only [wm_why0, wm_steps]
  split
  · exact wm_fail rfl s s.place
  · rfl
theorem wm_put (s : St) (x : Stp) : (s.put x).wm = s.wm.put x := by
  unfold St.put
  rw [← wm_many]
  simp only [wm_why0]
  split <;> rfl

def BlindW (f : St → Option St) : Prop := ∀ s, f s.wm = (f s).map St.wm

theorem rowL_wmB {one : St → Option St} (h : BlindW one) (k : Nat) (texts : List Txt) : ∀ m : Nat, BlindW (rowL one k texts m)
  | 0, _ => rfl
  | m + 1, s => by
    rw [rowL, rowL, wm_next]
    split
    · rw [← wm_drop, h, Option.bind_map, Option.map_bind]
      congr 1
      funext s'
      simp only [Function.comp_apply]
      rw [wm_headT, ← wm_put, rowL_wmB h k texts m]
    · rfl
theorem row_wmB {one : St → Option St} (h : BlindW one) (k : Nat) (texts : List Txt) (n : Nat) : BlindW (row one k texts n) := fun s => by
  unfold row
  rw [h, Option.bind_map, Option.map_bind]
  congr 1
  funext s'
  exact rowL_wmB h k texts n s'
theorem aheadF_wmB {other : Nat → St → Option St} (h : ∀ d, BlindW (other d)) (k : Nat) (text : Txt) (step : Nat) : ∀ m d : Nat, BlindW (aheadF k text step other m d)
  | 0, _, _ => rfl
  | m + 1, d, s => by
    rw [aheadF, aheadF, wm_next]
    split
    · split
      · rw [← wm_deep]; rfl
      · rw [← wm_drop, aheadF_wmB h k text step m (d + 1), Option.bind_map, Option.map_bind]
        congr 1
        funext s'
        simp only [Function.comp_apply, Option.map_some, ← wm_put]
    · exact h d s
theorem partN_wm (x : Stp) (l : List Txt) (s : St) : partN x l s.wm = ((partN x l s).1, (partN x l s).2.wm) := by
  unfold partN
  split
  · simp only [wm_nameT]
    congr 1
    rw [wm_sign, wm_ite, wm_name, wm_fail rfl, wm_name, wm_place]
  · rfl
theorem partsL_wmB {or_ : St → Option St} (h : BlindW or_) (end_ : Txt) : ∀ (m : Nat) (x : Stp) (l : List Txt), BlindW (partsL or_ end_ m x l)
  | 0, _, _, _ => rfl
  | m + 1, x, l, s => by
    rw [partsL, partsL]
    simp only [wm_why0]
    split
    · split
      · rw [wm_place, ← wm_fail rfl s s.place]; rfl
      · rw [partN_wm]
        simp only
        rw [h, Option.bind_map, Option.map_bind]
        congr 1
        funext s'
        simp only [Function.comp_apply]
        unfold partsB
        simp only [wm_why0, wm_next]
        split
        · split
          · rw [← wm_drop, ← wm_put]; rfl
          · rw [← wm_sign]
            exact partsL_wmB h end_ m _ _ _
        · rfl
    · rfl
theorem parts_wmB {or_ : St → Option St} (h : BlindW or_) (n : Nat) (x : Stp) (end_ : Txt) : BlindW (parts or_ n x end_) := fun s => by
  unfold parts
  rw [wm_next]
  split
  · rw [← wm_drop, ← wm_put]; rfl
  · exact partsL_wmB h end_ n x [] s
theorem pathL_wm : ∀ (m : Nat) (x : Txt) (s : St), pathL m x s.wm = (pathL m x s).map fun r => (r.1, r.2.wm)
  | 0, _, _ => rfl
  | m + 1, x, s => by
    rw [pathL, pathL, wm_next]
    split
    · rw [← wm_drop, wm_next]
      split
      · rw [wm_headN, ← wm_drop, pathL_wm m]
      · rw [wm_nameT, ← wm_name, pathL_wm m]
    · rfl
theorem path_wmB (n : Nat) : BlindW (path n) := fun s => by
  unfold path
  rw [wm_nameT, ← wm_name, pathL_wm, Option.map_map, Option.map_map]
  congr 1
  funext r
  simp only [Function.comp_apply, ← wm_put]
theorem nestThen_wm {d : Nat} {go : St → Option St} (h : BlindW go) (s : St) : nestThen d s.wm go = (nestThen d s go).map St.wm := by
  unfold nestThen
  split
  · rw [← wm_deep]; rfl
  · rw [← wm_drop, h]
theorem primary_wmB {or_ : Nat → St → Option St} (h : ∀ d, BlindW (or_ d)) (n d : Nat) : BlindW (primary or_ n d) := fun s => by
  unfold primary
  simp only [wm_next]
  split
  · rw [wm_headN, ← wm_drop, ← wm_put]; rfl
  · split
    · rw [wm_headT, ← wm_drop, ← wm_put]; rfl
    · split
      · exact path_wmB n s
      · split
        · rw [wm_headT, ← wm_drop, ← wm_put]; rfl
        · split
          · refine nestThen_wm (fun s => ?_) s
            simp only [h (d + 1) s, Option.bind_map, Option.map_bind]
            congr 1
            funext s'
            simp only [Function.comp_apply, Option.map_some, ← wm_sign]
          · split
            · exact nestThen_wm (parts_wmB (h (d + 1)) n _ _) s
            · split
              · exact nestThen_wm (parts_wmB (h (d + 1)) n _ _) s
              · rw [← wm_bad]; rfl
theorem isNull_wm (s : St) : isNull s.wm = ((isNull s).wm) := by
  unfold isNull
  simp only [wm_next, ← wm_drop, ← wm_after, ← wm_keys, ← wm_put, wm_ite]
theorem orE_wmB {or_ : Nat → St → Option St} (h : ∀ d, BlindW (or_ d)) (n d : Nat) : BlindW (orE or_ n d) := by
  refine row_wmB (row_wmB (aheadF_wmB (fun d => ?_) _ _ _ _ _) _ _ _) _ _ _
  have hs : BlindW (sum or_ n d) := row_wmB (row_wmB (aheadF_wmB (fun d => primary_wmB h n d) _ _ _ _ _) _ _ _) _ _ _
  intro s
  unfold compared
  rw [hs, Option.bind_map, Option.map_bind]
  congr 1
  funext s'
  simp only [Function.comp_apply, wm_next]
  split
  · rw [← wm_drop, hs, Option.bind_map, Option.map_bind]
    congr 1
    funext s''
    simp only [Function.comp_apply, Option.map_some, wm_headT, ← wm_put]
  · rw [isNull_wm]; rfl
theorem orF_wmB : ∀ n d : Nat, BlindW (orF n d)
  | 0, _, _ => rfl
  | n + 1, d, s => orE_wmB (orF_wmB n) n d s
theorem expr_wmB (n : Nat) : BlindW (expr n) := fun s => orF_wmB n 0 { s with steps := [] }

theorem itemF_wm (n : Nat) (set : Bool) (names : List Txt) (s : St) : itemF n set names s.wm = (itemF n set names s).map fun r => (r.1, r.2.wm) := by
  unfold itemF
  split
  · simp only [wm_nameT]
    have e : (if (names ++ [s.nameT]).Nodup then s.wm.name else s.wm.name.fail 18 s.wm.place) = ((if (names ++ [s.nameT]).Nodup then s.name else s.name.fail 18 s.place).wm) := by
      rw [wm_ite, wm_name, wm_fail rfl, wm_name, wm_place]
    rw [e, ← wm_sign, expr_wmB, Option.bind_map, Option.map_bind]
    rfl
  · rw [expr_wmB, Option.bind_map, Option.map_bind]
    congr 1
    funext s1
    simp only [Function.comp_apply, Option.map_some, ← wm_keys, wm_nameT, wm_steps]
    rw [wm_ite, wm_name, wm_fail rfl, wm_name, wm_place]
theorem itemsL_wm (m : Nat) (set : Bool) : ∀ (n : Nat) (out : List Itm) (s : St), itemsL m set n out s.wm = (itemsL m set n out s).map fun r => (r.1, r.2.wm)
  | 0, _, _ => rfl
  | n + 1, out, s => by
    rw [itemsL, itemsL]
    simp only [wm_why0]
    split
    · split
      · rw [wm_place, ← wm_fail rfl s s.place]; rfl
      · rw [itemF_wm, Option.bind_map, Option.map_bind]
        congr 1
        funext r
        simp only [Function.comp_apply, wm_next]
        split
        · rw [← wm_drop, itemsL_wm m set n]
        · rfl
    · rfl
theorem items_wm (n : Nat) (set : Bool) (s : St) : items n set s.wm = (items n set s).map fun r => (r.1, r.2.wm) := itemsL_wm n set n [] s
theorem where_wm (n : Nat) (s : St) : where_ n s.wm = (where_ n s).map fun r => (r.1, r.2.wm) := by
  unfold where_
  rw [wm_next]
  split
  · rw [← wm_drop, expr_wmB, Option.bind_map, Option.map_bind]
    rfl
  · rfl
theorem fromT_wm (s : St) : fromT s.wm = ((fromT s).1, (fromT s).2.1, (fromT s).2.2.wm) := by
  unfold fromT
  rw [wm_next]
  split
  · simp only [← wm_drop, ← wm_sign, wm_nameT, ← wm_name]
  · simp only [wm_nameT, ← wm_name]
theorem orderT_wm (s : St) : orderT s.wm = ((orderT s).1, (orderT s).2.1, (orderT s).2.2.wm) := by
  unfold orderT
  rw [wm_next]
  split
  · simp only [← wm_drop, ← wm_keys, wm_nameT, ← wm_name, wm_next, ← wm_after]
  · rfl
theorem what_wm (n : Nat) (s : St) : what n s.wm = (what n s).map fun r => (r.1, r.2.wm) := by
  unfold what
  rw [wm_next]
  split
  · rw [← wm_drop]; rfl
  · exact items_wm n false s
theorem picked_wm (n : Nat) (s : St) : picked n s.wm = (picked n s).map fun r => (r.1, r.2.wm) := by
  unfold picked
  rw [what_wm, Option.bind_map, Option.map_bind]
  congr 1
  funext r
  simp only [Function.comp_apply, ← wm_keys, fromT_wm]
  rw [where_wm, Option.bind_map, Option.map_bind]
  congr 1
  funext w
  simp only [Function.comp_apply, orderT_wm, Option.map_some]
theorem stmt_wm (n : Nat) (s : St) : stmt n s.wm = (stmt n s).map fun r => (r.1, r.2.wm) := by
  unfold stmt
  simp only [wm_next, ← wm_drop]
  split
  · split
    · simp only [wm_nameT, ← wm_name, Option.map_some]
    · simp only [wm_nameT, ← wm_name, ← wm_keys, ← wm_sign, Option.map_some]
  · split
    · simp only [← wm_keys, wm_nameT, ← wm_name, expr_wmB _ _, Option.bind_map, Option.map_bind]
      rfl
    · split
      · simp only [wm_nameT, ← wm_name, ← wm_keys, items_wm, Option.bind_map, Option.map_bind]
        congr 1
        funext r
        simp only [Function.comp_apply, where_wm, Option.bind_map, Option.map_bind]
        rfl
      · split
        · simp only [← wm_keys, wm_nameT, ← wm_name, where_wm, Option.bind_map, Option.map_bind]
          rfl
        · split
          · exact picked_wm n s.drop
          · rw [← wm_bad]; rfl
theorem ended_wm (s : St) : s.wm.ended = s.ended.wm := by
  unfold St.ended
  rw [wm_ite, wm_bad, wm_left]

theorem parseF_codes {n : Nat} {l : Txt} {c a : Nat} (h : parseF n l = some (.err c a)) : c = 13 ∨ c = 18 ∨ c = 10 ∨ c = 3 ∨ ∃ p, lexL l = .err c p := by
  cases hl : lexL l with
  | err d p =>
    unfold parseF at h
    rw [hl] at h
    simp only [Option.some.injEq, Rs.err.injEq] at h
    rw [← h.1]
    exact .inr (.inr (.inr (.inr ⟨p, rfl⟩)))
  | ok toks =>
    rw [parseF_ok hl] at h
    unfold readT at h
    rw [Option.bind_eq_some_iff] at h
    obtain ⟨r, hr, h⟩ := h
    have hw := stmt_wm n (st0 toks l.length)
    rw [show (st0 toks l.length).wm = st0 toks l.length from rfl, hr, Option.map_some, Option.some.injEq] at hw
    have hwy : r.2 = r.2.wm := congrArg Prod.snd hw
    have hey : r.2.ended = r.2.ended.wm := by
      have := ended_wm r.2
      rw [← hwy] at this
      exact this
    have hc : codeM r.2.ended.why = r.2.ended.why := (congrArg St.why hey).symm
    simp only [Option.some.injEq] at h
    unfold finish at h
    split at h
    · rename_i hne
      simp only [Rs.err.injEq] at h
      rw [← h.1]
      unfold codeM at hc
      split at hc
      · omega
      · omega
    · split at h
      · cases h
      · simp only [Rs.err.injEq] at h
        omega

end Go.Proofs.YtcjmhmmjfgjcnaaGreatDoor.Pa
