/- Parts: PcH QbA QbB QbD QbI. -/
import Derived.Test.YtcjmhmmjfgjcnaaGreatDoorMc08
import Derived.Test.YtcjmhmmjfgjcnaaGreatDoorMc32
import Derived.Test.YtcjmhmmjfgjcnaaGreatDoorMc37
import Derived.Test.YtcjmhmmjfgjcnaaGreatDoorMc42
import Derived.Test.YtcjmhmmjfgjcnaaGreatDoorMc44
import Derived.Test.YtcjmhmmjfgjcnaaGreatDoorMc45
import Derived.Deep.RegionWith
import Derived.RegionTactic

/- parse: Parse. -/
namespace Go.Proofs.YtcjmhmmjfgjcnaaGreatDoor.Pa
open Go.RowKit Go.Proofs.YtcjmhmmjfgjcnaaGreatDoor.Lx

def GaveRs (w : World) (r : Rs) (e : Ending) (w' : World) : Prop := Below w.heap.size w w' ∧ match r with
  | .err c a => e = .returned (.tuple #[stm0.val (.slice none 0 0) (.slice none 0 0), .int .i64 c, .int .i64 a])
  | .ok st => ∃ vi ve, e = .returned (.tuple #[st.val vi ve, .int .i64 0, .int .i64 0]) ∧ ItmsIn w' vi st.items ∧ StpsIn w' ve st.expr ∧ StF 393216 st ∧ (∀ b, vi.ownBlock = some b → w.heap.size < b) ∧ (∀ b, ve.ownBlock = some b → w.heap.size < b)

theorem again_below {W : World} {B base : Nat} (h : base ≤ B) (st : Stm) (vi ve : Value) : Below base W (again W B st vi ve) :=
  ((((((((Below.refl _ _).setCell h _).setCell h _).setCell h _).setCell h _).setCell h _).setCell h _).setCell h _)
theorem again_heap {W : World} {B g : Nat} (h : g ≠ B) (st : Stm) (vi ve : Value) : (again W B st vi ve).heap[g]? = W.heap[g]? := by
  unfold again
  rw [Below.heap_setCell _ _ _ _ h, Below.heap_setCell _ _ _ _ h, Below.heap_setCell _ _ _ _ h, Below.heap_setCell _ _ _ _ h, Below.heap_setCell _ _ _ _ h, Below.heap_setCell _ _ _ _ h, Below.heap_setCell _ _ _ _ h]
theorem ItH.itms' {x : Px} {w w' : World} {sv v : Value} {s : St} {Bs : Nat} {its : List Itm} {evs : List Value} (h : ItH x w sv s Bs v its evs) (hb : ∀ g, x.W.heap.size ≤ g → g < w.heap.size → w'.heap[g]? = w.heap[g]?) : ItmsIn w' v its := by
  have he := h.lenE
  have hr := own_same h.row (w' := w') fun g hg hlt => hb g (World.ownsRow.lt h.row g hg).1 hlt
  rcases hr.2 with ⟨rfl, h0⟩ | ⟨g, cap, cur, e, _, h2, h3, _⟩
  · exact ⟨none, 0, 0, rfl, h0, Nat.le_refl _, fun i hi => by omega⟩
  · subst e
    refine ⟨_, _, _, rfl, rfl, h3, fun i hi => ?_⟩
    obtain ⟨k0, k1⟩ := itsC_get its evs i hi (by omega)
    have hx := (h.exps i hi (by omega)).row
    refine ⟨g, 0, evs[i]'(by omega), rfl, ?_, ?_, StpsIn.own (own_same hx (w' := w') fun g hg hlt => hb g (World.ownsRow.lt hx g hg).1 hlt) rfl⟩
    · rw [World.ownsRow.cellAt hr _ (by omega), Nat.zero_add]; exact k0
    · rw [World.ownsRow.cellAt hr _ (by omega), Nat.zero_add]; exact k1
theorem HeldRow.stps' {x : Px} {w w' : World} {sv v : Value} {s : St} {l : List Stp} (h : HeldRow x w sv s v l) (hb : ∀ g, x.W.heap.size ≤ g → g < w.heap.size → w'.heap[g]? = w.heap[g]?) : StpsIn w' v l :=
  StpsIn.own (own_same h.row (w' := w') fun g hg hlt => hb g (World.ownsRow.lt h.row g hg).1 hlt) rfl

theorem px_start {w1 : World} {base n c : Nat} {a : Option Addr} {toks : List Tok} (he : Env w1) (hk : ToksAt w1 base (.slice a n c) toks) (hn : n = toks.length) (hf : ∀ t ∈ toks, TokFits t) (hc : toks.length ≤ 16384) (fin : Nat) :
    ∃ x : Px, x.W = w1 ∧ x.B = w1.heap.size ∧ PS x (w1.alloc (.cells #[.slice a n c, .int .i64 fin, .int .i64 0, .int .i64 0, .slice none 0 0] 77)) (.slice a n c) (.slice none 0 0) (st0 toks fin) := by
  subst hn
  have hin := ownsRow_toks hk rfl
  have hcap : toks.length ≤ c := by
    rcases hk.2 with ⟨e, h0⟩ | ⟨g, cap, cur, e, _, _, h3, _⟩
    · omega
    · simp only [Value.slice.injEq] at e
      omega
  have mk : ∀ g : Nat, (∀ i (h : i < toks.length), TokCells w1 g i toks[i]) → (toks = [] ∨ a = some ⟨g, 0, none⟩) →
      PS ⟨w1, g, w1.heap.size, toks⟩ (w1.alloc (.cells #[.slice a toks.length c, .int .i64 fin, .int .i64 0, .int .i64 0, .slice none 0 0] 77)) (.slice a toks.length c) (.slice none 0 0) (st0 toks fin) := fun g hs ha =>
    { ok := ⟨he, hs, Nat.le_refl _, hf, hc⟩
      blk := heap_alloc_new _ _
      bel := alloc_below _ _
      left := ⟨0, toks.length, c, a, rfl, rfl, hcap, by
        rcases ha with h | h
        · exact .inl h
        · exact .inr ⟨by rw [h], rfl⟩⟩
      own := ⟨by simp [st0, stpsC], .inl ⟨rfl, rfl⟩⟩
      ne := by simp [Value.ownBlock]
      few := by simp [st0] }
  cases hl : toks with
  | nil => subst hl; exact ⟨_, rfl, rfl, mk 0 (fun i h => absurd h (Nat.not_lt_zero _)) (.inl rfl)⟩
  | cons t r =>
    obtain ⟨g, ea, _⟩ := hin 0 (by rw [hl]; simp)
    rw [← hl]
    refine ⟨_, rfl, rfl, mk g (fun i h => ?_) (.inr ea)⟩
    obtain ⟨g', e', hcl⟩ := hin i h
    rw [ea] at e'
    simp only [Option.some.injEq, Addr.mk.injEq, and_true] at e'
    rw [e']; exact hcl

theorem st0_fin {l : Txt} {toks : List Tok} (h : lexL l = .ok toks) (n : Nat) : Fin 393216 (st0 toks n) := ⟨(lexL_wg h).1, lexL_fits h, by simp [st0], by simp [st0]⟩
theorem StF.ck {w : World} {st : Stm} {vi ve : Value} (h : StF 393216 st) (hi : ItmsIn w vi st.items) (hv : StpsIn w ve st.expr) (he : Env w) : CkArgs w st vi ve :=
  ⟨hi, hv, by have := h.table; omega, by have := h.field; omega, by have := h.expr.few; omega, fun y hy => by have := (h.expr.txt y hy).1; omega, by have := h.few; omega,
    fun t ht => ⟨by have := (h.items t ht).name; omega, by have := (h.items t ht).expr.few; omega, fun y hy => by have := ((h.items t ht).expr.txt y hy).1; omega⟩, he⟩
set_option maxHeartbeats 4000000 in
set_option maxRecDepth 100000 in
theorem Parse_calls (n : Nat) (s : ByteArray) (w : World) (hs : s.size ≤ maxLen) (he : Env w) {r : Rs} (hr : parseF n (L s) = some r) :
    Calls Tryz.prog 12 #[.string s] w (GaveRs w r) := by
  unfold parseF at hr
  have Hs := Lib.hid hs
  have He := Lib.hid (he.alloc (.cells (smC stm0 (.slice none 0 0) (.slice none 0 0)) 33))
  have Ht := Lib.hid (heap_alloc_new w (.cells (smC stm0 (.slice none 0 0) (.slice none 0 0)) 33))
  have Hb0 := Lib.hid (alloc_below w (.cells (smC stm0 (.slice none 0 0) (.slice none 0 0)) 33))
  cases hx : lexL (L s) with
  | err c a =>
    rw [hx] at hr
    simp only [Option.some.injEq] at hr
    subst hr
    have Hx := Lib.hid hx
    have hne := lexL_ne hx
    clear he hs hx
    go_enter Tryz.func12, Tryz.ntmps12
    go_wp2_with fail
    refine (Lex_err s _ Hs.out He.out Hx.out).mono ?_
    rintro e w1 ⟨rfl, hb1⟩
    have ht1 := (hb1.block w.heap.size (by simp)).trans Ht.out
    have Hb1 := Lib.hid (Hb0.out.trans (hb1.mono Hb0.out.size))
    obtain ⟨⟨k0, k1, k2, k3, k4, k5, k6⟩, g0, g1, g2, g3, g4, g5, g6⟩ := seven ht1
    have hX := lt_of_heap ht1
    clear hb1 ht1
    go_wp2_with fail
    exact bodyPost_ret (v := .tuple #[stm0.val (.slice none 0 0) (.slice none 0 0), .int .i64 c, .int .i64 a]) (by simp [Stm.val, results, Tryz.results12, go_sem, stm0, k0, k1, k2, k3, k4, k5, k6]) rfl ⟨Hb1.out.trans ((again_below (Nat.le_refl _) stm0 (.slice none 0 0) (.slice none 0 0)).mono (Nat.le_refl _)), rfl⟩
  | ok toks =>
    rw [hx] at hr
    simp only at hr
    rw [Option.bind_eq_some_iff] at hr
    obtain ⟨q, hq, hr⟩ := hr
    simp only [Option.some.injEq] at hr
    have Hx := Lib.hid hx
    have Hq := Lib.hid hq
    have Hst := Lib.hid (stmt_kp (st0_fin hx (L s).length) hq).2
    have hcnt := (lexL_wg hx).2
    have hlen : (L s).length = s.size := L_length s
    clear he hs hx hq
    go_enter Tryz.func12, Tryz.ntmps12
    go_wp2_with fail
    refine (Lex_ok s _ Hs.out He.out Hx.out).mono ?_
    rintro e w1 ⟨a, c, rfl, hta, hb1⟩
    obtain ⟨x, hxW, hxB, hps⟩ := px_start (He.out.below hb1) hta rfl (lexL_fits Hx.out) hcnt (L s).length
    have Hps := Lib.hid hps
    have Hcall := Lib.hid (stmt_calls n hps Hq.out)
    have Ht1 := Lib.hid ((hb1.block w.heap.size (by simp)).trans Ht.out)
    have Hb1 := Lib.hid (Hb0.out.trans (hb1.mono Hb0.out.size))
    have hT : w.heap.size < w1.heap.size := lt_of_heap Ht1.out
    rw [hlen, hxB] at Hcall
    rw [hlen] at Hps
    clear hta hb1 hps
    go_wp2_with fail
    refine Hcall.out.mono ?_
    rintro e w3 ⟨lv3, sv3, Bs, vi, ve, ev, rfl, h3⟩
    obtain ⟨ai, ci, rfl⟩ := h3.its.sl
    obtain ⟨ae, ce, rfl⟩ := own_form h3.exp.row
    obtain ⟨st, s3⟩ := q
    simp only at h3 hr Hst ⊢
    have H3 := Lib.hid h3
    have hbx : Below w1.heap.size w1 w3 := by have := h3.now.ps.bel; rw [hxW] at this; exact this
    have Ht3 := Lib.hid ((hbx.block _ hT).trans Ht1.out)
    have Hb3 := Lib.hid (Hb1.out.trans (hbx.mono Hb1.out.size))
    have Hblk4 := Lib.hid (heap_alloc_new w3 (.cells (smC st (.slice ai st.items.length ci) (.slice ae st.expr.length ce)) 33))
    have Hba := Lib.hid (alloc_below w3 (.cells (smC st (.slice ai st.items.length ci) (.slice ae st.expr.length ce)) 33))
    have P4 := Lib.hid (h3.now.ps.step Hba.out)
    have Ht4 := Lib.hid ((Hba.out.block _ (lt_of_heap Ht3.out)).trans Ht3.out)
    have Hb4 := Lib.hid (Hb3.out.trans (Hba.out.mono Hb3.out.size))
    have hT3 : w.heap.size < w3.heap.size := lt_of_heap Ht3.out
    obtain ⟨kl, nl, cl, al, rfl, hnl, hcl, hleft⟩ := P4.out.left
    have Hnl := Lib.hid hnl
    have Hlx := Lib.hid (show x.W.heap.size = w1.heap.size by rw [hxW])
    clear h3 hbx hcl hleft hnl Hcall Hps
    unfold smV smC
    cases hl : s3.left with
    | nil =>
      have hn0 : nl = 0 := by have := Hnl.out; rw [hl] at this; exact this.symm
      subst hn0
      have hend : s3.ended = s3 := by unfold St.ended; rw [hl]; rfl
      rw [hend] at hr
      obtain ⟨⟨c0, c1, c2, c3, c4⟩, f0, f1, f2, f3, f4⟩ := five H3.out.now.ps.blk
      obtain ⟨⟨k0, k1, k2, k3, k4, k5, k6⟩, g0, g1, g2, g3, g4, g5, g6⟩ := seven Ht3.out
      have hB3 := H3.out.now.ps.lt
      rw [hxB] at c0 c1 c2 c3 c4 f0 f1 f2 f3 f4 hB3
      unfold finish at hr
      by_cases hw : s3.why = 0
      · have bw : ((s3.why : Int) != 0) = false := by rw [hw]; rfl
        rw [if_neg (by simp [hw])] at hr
        have hi4 : ItmsIn (w3.alloc (.cells (smC st (.slice ai st.items.length ci) (.slice ae st.expr.length ce)) 33)) (.slice ai st.items.length ci) st.items := H3.out.its.itms' fun g _ hlt => Hba.out.block g hlt
        have hv4 : StpsIn (w3.alloc (.cells (smC st (.slice ai st.items.length ci) (.slice ae st.expr.length ce)) 33)) (.slice ae st.expr.length ce) st.expr := H3.out.exp.stps' fun g _ hlt => Hba.out.block g hlt
        have Hck := Lib.hid (Check_calls st _ _ _ (Hst.out.ck hi4 hv4 P4.out.envw))
        unfold Stm.val at Hck
        clear hi4 hv4
        cases hc : checkB st with
        | true =>
          rw [hc, if_pos rfl] at hr
          have HC := Lib.hid (show checkV st = .int .i64 0 by unfold checkV; rw [hc]; rfl)
          clear hl hc hw
          go_wp2_with fail
          refine Hck.out.mono ?_
          rw [HC.out]
          rintro e w5 ⟨rfl, hb5⟩
          have ht5 := (hb5.block w.heap.size (lt_of_heap Ht4.out)).trans Ht4.out
          have hblk5 := (hb5.block w3.heap.size (lt_of_heap Hblk4.out)).trans Hblk4.out
          have Hb5 := Lib.hid (Hb4.out.trans (hb5.mono Hb4.out.size))
          have Hfin := Lib.hid (fun g (h1 : x.W.heap.size ≤ g) (h2 : g < w3.heap.size) => (again_heap (W := w5) (B := w.heap.size) (g := g) (by have := Hlx.out; omega) st (.slice ai st.items.length ci) (.slice ae st.expr.length ce)).trans ((hb5.block g (Nat.lt_of_lt_of_le h2 Hba.out.size)).trans (Hba.out.block g h2)))
          clear k0 k1 k2 k3 k4 k5 k6 g0 g1 g2 g3 g4 g5 g6 c0 c1 c2 c3 c4 f0 f1 f2 f3 f4
          obtain ⟨⟨k0, k1, k2, k3, k4, k5, k6⟩, g0, g1, g2, g3, g4, g5, g6⟩ := seven ht5
          obtain ⟨⟨m0, m1, m2, m3, m4, m5, m6⟩, -⟩ := seven hblk5
          have hX := lt_of_heap ht5
          clear hb5 ht5 hblk5
          go_wp2_with fail
          subst hr
          exact bodyPost_ret (v := .tuple #[st.val (.slice ai st.items.length ci) (.slice ae st.expr.length ce), .int .i64 0, .int .i64 0]) (by simp [Stm.val, results, Tryz.results12, go_sem, stm0, k0, k1, k2, k3, k4, k5, k6]) rfl ⟨Hb5.out.trans ((again_below (Nat.le_refl _) st (.slice ai st.items.length ci) (.slice ae st.expr.length ce)).mono (Nat.le_refl _)), _, _, rfl, H3.out.its.itms' Hfin.out, H3.out.exp.stps' Hfin.out, Hst.out, fun b hb => (by have := (World.ownsRow.lt H3.out.its.row b hb).1; have := Hlx.out; omega), fun b hb => (by have := (World.ownsRow.lt H3.out.exp.row b hb).1; have := Hlx.out; omega)⟩
        | false =>
          rw [hc, if_neg (by simp)] at hr
          have HC := Lib.hid (show checkV st = .int .i64 13 by unfold checkV; rw [hc]; rfl)
          clear hl hc hw
          go_wp2_with fail
          refine Hck.out.mono ?_
          rw [HC.out]
          rintro e w5 ⟨rfl, hb5⟩
          have ht5 := (hb5.block w.heap.size (lt_of_heap Ht4.out)).trans Ht4.out
          have Hb5 := Lib.hid (Hb4.out.trans (hb5.mono Hb4.out.size))
          clear k0 k1 k2 k3 k4 k5 k6 g0 g1 g2 g3 g4 g5 g6 c0 c1 c2 c3 c4 f0 f1 f2 f3 f4
          obtain ⟨⟨k0, k1, k2, k3, k4, k5, k6⟩, g0, g1, g2, g3, g4, g5, g6⟩ := seven ht5
          have hX := lt_of_heap ht5
          clear hb5 ht5
          go_wp2_with fail
          subst hr
          exact bodyPost_ret (v := .tuple #[stm0.val (.slice none 0 0) (.slice none 0 0), .int .i64 13, .int .i64 0]) (by simp [Stm.val, results, Tryz.results12, go_sem, stm0, k0, k1, k2, k3, k4, k5, k6]) rfl ⟨Hb5.out.trans ((again_below (Nat.le_refl _) stm0 (.slice none 0 0) (.slice none 0 0)).mono (Nat.le_refl _)), rfl⟩
      · have bw : ((s3.why : Int) != 0) = true := by rw [bne_iff_ne]; omega
        rw [if_pos (by simpa using hw)] at hr
        have hX := lt_of_heap Ht4.out
        clear hl hw
        go_wp2_with fail
        go_region
        all_goals
          go_wp2_with fail
          subst hr
          refine bodyPost_ret (v := .tuple #[stm0.val (.slice none 0 0) (.slice none 0 0), .int .i64 s3.why, .int .i64 s3.at_]) (by simp [Stm.val, results, Tryz.results12, go_sem, stm0, k0, k1, k2, k3, k4, k5, k6, hT3]) rfl ⟨?_, rfl⟩
          repeat (first | (with_reducible refine Below.alloc ?_ (by simp; omega) _) | (with_reducible refine Below.drew ?_))
          exact (((((((Hb3.out.setCell (Nat.le_refl _) _).setCell (Nat.le_refl _) _).setCell (Nat.le_refl _) _).setCell (Nat.le_refl _) _).setCell (Nat.le_refl _) _).setCell (Nat.le_refl _) _).setCell (Nat.le_refl _) _)
    | cons tk rs =>
      have hend : s3.ended = s3.fail 13 s3.place := by unfold St.ended; rw [hl]; rfl
      have hw6 : (s3.fail 13 s3.place).why ≠ 0 := by
        unfold St.fail
        split
        · simp
        · assumption
      rw [hend] at hr
      unfold finish at hr
      rw [if_pos hw6] at hr
      obtain ⟨⟨c0, c1, c2, c3, c4⟩, f0, f1, f2, f3, f4⟩ := five H3.out.now.ps.blk
      have hB3 := H3.out.now.ps.lt
      rw [hxB] at c0 c1 c2 c3 c4 f0 f1 f2 f3 f4 hB3
      have hn1 : 0 < nl := by have := Hnl.out; rw [hl] at this; simp at this; omega
      have hn2 : (0 : Int) < (nl : Int) := by omega
      have Hd := Lib.hid (P4.out.step (Below.refl _ _).drew)
      have Hpl := Lib.hid (place_calls Hd.out)
      have Hfl := Lib.hid (fail_callsC Hd.out 13 s3.place)
      rw [hxB] at Hpl Hfl
      generalize s3.fail 13 s3.place = s6 at *
      generalize s3.place = pl at *
      have bw : ((s6.why : Int) != 0) = true := by rw [bne_iff_ne]; omega
      clear hl hend hw6
      go_wp2_with fail
      go_region_with ((first | (go_at_call 43; refine Hpl.out.mono ?_; rintro e w' ⟨rfl, rfl⟩) | (go_at_call 42; refine Hfl.out.mono ?_; rintro e w6 ⟨rfl, lv6, h6⟩)))
      all_goals
        have hbx : Below w1.heap.size w1 w6 := by have := h6.ps.bel; rw [hxW] at this; exact this
        have ht6 := (hbx.block _ hT).trans Ht1.out
        have Hb6 := Lib.hid (Hb1.out.trans (hbx.mono Hb1.out.size))
        clear c0 c1 c2 c3 c4 f0 f1 f2 f3 f4
        obtain ⟨⟨c0, c1, c2, c3, c4⟩, f0, f1, f2, f3, f4⟩ := five h6.ps.blk
        obtain ⟨⟨k0, k1, k2, k3, k4, k5, k6⟩, g0, g1, g2, g3, g4, g5, g6⟩ := seven ht6
        have hX := lt_of_heap ht6
        rw [hxB] at c0 c1 c2 c3 c4 f0 f1 f2 f3 f4
        clear h6 hbx ht6
        go_wp2_with fail
        go_region
        all_goals
          go_wp2_with fail
          subst hr
          refine bodyPost_ret (v := .tuple #[stm0.val (.slice none 0 0) (.slice none 0 0), .int .i64 s6.why, .int .i64 s6.at_]) (by simp [Stm.val, results, Tryz.results12, go_sem, stm0, k0, k1, k2, k3, k4, k5, k6]) rfl ⟨?_, rfl⟩
          repeat (first | (with_reducible refine Below.alloc ?_ (by simp; omega) _) | (with_reducible refine Below.drew ?_))
          exact (((((((Hb6.out.setCell (Nat.le_refl _) _).setCell (Nat.le_refl _) _).setCell (Nat.le_refl _) _).setCell (Nat.le_refl _) _).setCell (Nat.le_refl _) _).setCell (Nat.le_refl _) _).setCell (Nat.le_refl _) _)

end Go.Proofs.YtcjmhmmjfgjcnaaGreatDoor.Pa

/- code: lives: the document's examples. -/
namespace Go.Proofs.YtcjmhmmjfgjcnaaGreatDoor.Cd
open Go.RowKit Go.Proofs.YtcjmhmmjfgjcnaaGreatDoor.Lx Go.Proofs.YtcjmhmmjfgjcnaaGreatDoor.Pa

def liveQ : Txt := [68, 69, 76, 69, 84, 69, 32, 70, 82, 79, 77, 32, 116, 32, 87, 72, 69, 82, 69, 32, 97, 32, 65, 78, 68, 32, 98]
def liveE : List Stp := [⟨6, [97], 0⟩, ⟨6, [98], 0⟩, ⟨21, [], 0⟩]
def liveC : List Ins := [⟨1, ⟨6, [97], 0⟩, 0⟩, ⟨2, stp0, 4⟩, ⟨1, ⟨6, [98], 0⟩, 0⟩, ⟨3, stp0, 0⟩]
theorem liveQ_read : parseF 60 liveQ = some (.ok ⟨5, [116], [], [], liveE, false, false⟩) := by decide +kernel
theorem liveE_right : rightB liveE = true := by decide +kernel
theorem liveE_code : compileL liveE = liveC := by decide +kernel
theorem liveC_ok : checkI liveC = true := by decide +kernel
theorem liveC_len : (textL liveC).length = 13 := by decide +kernel
theorem takes_ok {w : World} {y : Stp} (he : Env w) (ht : y.text.length ≤ 1048575) : TakesOk w y := fun w2 hb => Takes_calls y w2 ht (he.below hb)

set_option maxRecDepth 100000 in
theorem of_calls (w : World) (he : Env w) : Calls Tryz.prog 37 #[.string ⟨#[97, 32, 65, 78, 68, 32, 98]⟩] w fun e w' => ∃ ve, e = .returned ve ∧ StpsIn w' ve liveE ∧ Below w.heap.size w w' := by
  have HP := Lib.hid (fun (s : ByteArray) (h : L s = liveQ) => Parse_calls 60 s w (by rw [← L_length, h]; unfold maxLen; decide) he (r := .ok ⟨5, [116], [], [], liveE, false, false⟩) (by rw [h]; exact liveQ_read))
  clear he
  go_enter Tryz.func37, Tryz.ntmps37
  go_wp2_with fail
  refine (HP.out _ (by rfl)).mono ?_
  rintro e w1 ⟨hb1, vi, ve, rfl, hi, hv, -⟩
  obtain ⟨ai, ni, ci, rfl, -⟩ := id hi
  obtain ⟨ae, ne, ce, rfl, -⟩ := id hv
  have Hv := Lib.hid hv
  have Hb1 := Lib.hid hb1
  unfold Stm.val
  clear hi hv hb1
  go_wp2_with fail
  go_ret
  exact ⟨_, rfl, Hv.out.below (alloc_below _ _), stepB Hb1.out (alloc_below _ _)⟩

attribute [local go_sem high] ins_equal
set_option maxHeartbeats 2000000 in
set_option maxRecDepth 100000 in
theorem lives_calls (w : World) (he : Env w) : Calls Tryz.prog 9 #[] w fun e w' => e = .returned (.bool true) ∧ Below w.heap.size w w' := by
  have He := Lib.hid he
  have Hof := Lib.hid (of_calls w he)
  clear he
  go_enter Tryz.func9, Tryz.ntmps9
  go_wp2_with fail
  refine Hof.out.mono ?_
  rintro e w1 ⟨ve, rfl, hv, hb1⟩
  have Hcp := Lib.hid (Compile_calls w1 ve liveE hv (by decide) (by decide) (He.out.below hb1))
  have Hb1 := Lib.hid hb1
  obtain ⟨ae, ne, ce, rfl, -⟩ := id hv
  clear hv hb1
  go_wp2_with fail
  refine Hcp.out.mono ?_
  rintro e w2 ⟨hb2, hg⟩
  rw [if_pos liveE_right, liveE_code] at hg
  obtain ⟨vp, rfl, hp⟩ := hg
  have Hb2 := Lib.hid (stepB Hb1.out hb2)
  have Htx := Lib.hid (Text_calls w2 vp liveC hp (by decide) (fun x hx => takes_ok (He.out.below Hb2.out) (by revert x hx; decide)) (by decide) (by decide))
  unfold textV at Htx
  rw [liveC_ok, liveC_len] at Htx
  obtain ⟨a, n, c, rfl, hn, hc, hj⟩ := hp
  obtain ⟨g, o, rfl, h1⟩ := hj 1 (by decide)
  obtain ⟨g', o', e', h3⟩ := hj 3 (by decide)
  simp only [Option.some.injEq, Addr.mk.injEq, and_true] at e'
  obtain ⟨rfl, rfl⟩ := e'
  obtain rfl : n = 4 := by rw [← hn]; rfl
  have H1 := Lib.hid h1
  have H3 := Lib.hid h3
  have h13 : (textL liveC).length = 13 := liveC_len
  generalize textL liveC = tx at *
  clear hj hb2 h1 h3
  go_wp2_with fail
  refine Htx.out.mono ?_
  rintro e w3 ⟨rfl, hb3⟩
  have Hb3 := Lib.hid (stepB Hb2.out hb3)
  obtain ⟨k0, k1, k2, k3, k4⟩ := H1.out.below hb3
  have k5 := (H3.out.below hb3).c0
  have Hck := Lib.hid (Check_calls w3 (.slice none 0 0) [] ⟨none, 0, 0, rfl, rfl, Nat.le_refl _, fun i h => absurd h (Nat.not_lt_zero _)⟩ (by decide) (fun x hx => nomatch hx))
  clear hb3
  simp only [liveC, stp0, List.getElem_cons_zero, List.getElem_cons_succ] at k0 k1 k2 k3 k4 k5
  have hq : insQ 2 2 0 0 ⟨#[]⟩ ⟨#[]⟩ 0 0 4 4 = true := (insQ_eq ⟨2, ⟨0, [], 0⟩, 4⟩ ⟨2, ⟨0, [], 0⟩, 4⟩).trans (by simp)
  go_wp2_with fail
  refine Hck.out.mono ?_
  rintro e w4 ⟨rfl, hb4⟩
  have Hb4 := Lib.hid (stepB Hb3.out hb4)
  clear hb4
  rw [show checkC [] = .int .i64 11 from rfl]
  go_wp2_with fail
  go_ret
  exact ⟨rfl, Hb4.out⟩

end Go.Proofs.YtcjmhmmjfgjcnaaGreatDoor.Cd

/- CodeRight, what its walk leans on. -/
namespace Go.Proofs.YtcjmhmmjfgjcnaaGreatDoor.Cd
open Go.RowKit Go.Proofs.YtcjmhmmjfgjcnaaGreatDoor.Lx Go.Proofs.YtcjmhmmjfgjcnaaGreatDoor.Pa

structure CdArgs (w : World) (v : Value) (l : List Stp) : Prop where
  hv : StpsIn w v l
  hl : l.length ≤ 1048576
  ht : ∀ y ∈ l, y.text.length ≤ 1048575
  hn : ∀ y ∈ l, y.num ≤ 9223372036854775807
  he : Env w
theorem CdArgs.below {w w' : World} {v : Value} {l : List Stp} (h : CdArgs w v l) (hb : Below w.heap.size w w') : CdArgs w' v l := ⟨h.hv.below hb, h.hl, h.ht, h.hn, h.he.below hb⟩
theorem CdArgs.right {w : World} {v : Value} {l : List Stp} (h : CdArgs w v l) : Calls Tryz.prog 24 #[v] w fun e w' => e = .returned (.bool (rightB l)) ∧ Below w.heap.size w w' := Right_calls w v l h.hv h.hl h.ht h.he
theorem shift_st (b : Nat) (x : Ins) : (shift b x).st = x.st := by unfold shift; split <;> rfl
def StOk (M : Nat) (p : List Ins) : Prop := ∀ x ∈ p, x.st.text.length ≤ M ∧ x.st.num ≤ 9223372036854775807
theorem StOk.join {M : Nat} : ∀ ps : List (List Ins), (∀ p ∈ ps, StOk M p) → StOk M (joinI ps)
  | [], _ => fun x hx => nomatch hx
  | p :: ps, h => by
    rw [joinI_cons]
    intro x hx
    rcases List.mem_append.1 hx with hx | hx
    · exact h p (by simp) x hx
    · obtain ⟨y, hy, rfl⟩ := List.mem_map.1 hx
      rw [shift_st]
      exact StOk.join ps (fun q hq => h q (by simp [hq])) y hy
theorem StOk.part {M : Nat} {s : Stp} {k : Nat} (ht : takes s = some k) (hs : s.text.length ≤ M ∧ s.num ≤ 9223372036854775807) {parts : List (List Ins)} (hl : parts.length = k) (h : ∀ p ∈ parts, StOk M p) : StOk M (partC s parts) := by
  have h0 : ∀ (o : Nat) (t : Int), StOk M [⟨o, stp0, t⟩] := fun o t x hx => by rw [List.mem_singleton] at hx; subst hx; exact ⟨Nat.zero_le _, by simp [stp0]⟩
  unfold partC
  split
  · rename_i e
    obtain ⟨p, q, rfl⟩ := two_parts (hl.trans (takes_logic ht (.inl e)))
    refine StOk.join _ fun x hx => ?_
    simp only [List.mem_cons, List.not_mem_nil, or_false] at hx
    rcases hx with rfl | rfl | rfl | rfl
    · exact h _ (by simp)
    · exact h0 _ _
    · exact h _ (by simp)
    · exact h0 _ _
  · split
    · rename_i e
      obtain ⟨p, q, rfl⟩ := two_parts (hl.trans (takes_logic ht (.inr e)))
      refine StOk.join _ fun x hx => ?_
      simp only [List.mem_cons, List.not_mem_nil, or_false] at hx
      rcases hx with rfl | rfl | rfl | rfl
      · exact h _ (by simp)
      · exact h0 _ _
      · exact h _ (by simp)
      · exact h0 _ _
    · intro x hx
      rcases List.mem_append.1 hx with hx | hx
      · exact StOk.join parts h x hx
      · rw [List.mem_singleton] at hx; subst hx; exact hs
end Go.Proofs.YtcjmhmmjfgjcnaaGreatDoor.Cd

/- Steps, instructions behind a row of one's own. -/
namespace Go.Proofs.YtcjmhmmjfgjcnaaGreatDoor.Cd
open Go.RowKit Go.Proofs.YtcjmhmmjfgjcnaaGreatDoor.Lx Go.Proofs.YtcjmhmmjfgjcnaaGreatDoor.Pa

theorem insC_cells (l : List Ins) : ∀ u ∈ insC l, u.oneCell' = true := by
  intro u hu
  unfold insC at hu
  obtain ⟨t, _, hu⟩ := List.mem_flatMap.1 hu
  simp only [Ins.cells, List.mem_cons, List.mem_nil_iff, or_false] at hu
  rcases hu with rfl | rfl | rfl | rfl | rfl <;> rfl
theorem ins_news {W : World} {g o : Nat} {l : List Ins} (h : ∀ (i : Nat) (hi : i < l.length), InsCells W g (o + i * 5) l[i]) (j : Nat) (u : Value) (hj : (insC l)[j]? = some u) : W.cell? ((⟨g, o, none⟩ : Addr).add j) = some u := by
  have hlt := (List.getElem?_eq_some_iff.1 hj).1
  rw [insC_length] at hlt
  have hi : j / 5 < l.length := by omega
  have hc := h (j / 5) hi
  obtain ⟨c0, c1, c2, c3, c4⟩ := insC_get l (j / 5) hi
  rw [Addr.add_lit, ← hj]
  have hr : j % 5 = 0 ∨ j % 5 = 1 ∨ j % 5 = 2 ∨ j % 5 = 3 ∨ j % 5 = 4 := by omega
  rcases hr with hr | hr | hr | hr | hr
  · rw [show j = j / 5 * 5 by omega, c0]; exact hc.c0
  · have e : j = j / 5 * 5 + 1 := by omega
    rw [e, c1, ← Nat.add_assoc]; exact hc.c1
  · have e : j = j / 5 * 5 + 2 := by omega
    rw [e, c2, ← Nat.add_assoc]; exact hc.c2
  · have e : j = j / 5 * 5 + 3 := by omega
    rw [e, c3, ← Nat.add_assoc]; exact hc.c3
  · have e : j = j / 5 * 5 + 4 := by omega
    rw [e, c4, ← Nat.add_assoc]; exact hc.c4
theorem one_ins (W : World) (x : Ins) (i : Nat) (hi : i < [x].length) : InsCells (W.alloc (.cells #[.int .u8 x.op, .int .u8 x.st.kind, .string ⟨x.st.text.toArray⟩, .int .i64 x.st.num, .int .i64 x.to] 63)) W.heap.size (0 + i * 5) [x][i] := by
  obtain rfl : i = 0 := by simpa using hi
  have hb := heap_alloc_new W (.cells #[.int .u8 x.op, .int .u8 x.st.kind, .string ⟨x.st.text.toArray⟩, .int .i64 x.st.num, .int .i64 x.to] 63)
  obtain ⟨⟨c0, c1, c2, c3, c4⟩, -⟩ := fiveB hb
  exact ⟨c0, c1, c2, c3, c4⟩
theorem wp_appI {ops : Array Oper} {rest : List Oper} {o : Oper} {a : Act} {Q : Exit → Act → World → Prop} {Wc : World} (hgd : o.guard = none) (s x : Operand) (ho : o.op = .call { callee := .builtin .append, args := #[s, x], argTypes := #[23, 23] })
    (base : Nat) (v : Value) (n : Nat) (xs : List Ins) (hs : a.eval s = v) (hown : Wc.ownsRow base 63 5 v n (insC xs)) (g ofs m c : Nat) (l : List Ins) (hx : a.eval x = .slice (some ⟨g, ofs, none⟩) m c) (hl : l.length = m)
    (hc : ∀ (i : Nat) (hi : i < l.length), InsCells Wc g (ofs + i * 5) l[i]) (hn : n + m ≤ 100000) (hm : 0 < n + m) (hbase : base ≤ Wc.heap.size)
    (h : ∀ g' c' W', W'.ownsRow base 63 5 (.slice (some ⟨g', 0, none⟩) (n + m) c') (n + m) (insC (xs ++ l)) → Below base Wc W' → wpList Tryz.prog ops Q rest (a.put o.dst (.slice (some ⟨g', 0, none⟩) (n + m) c')) W') :
    wpList Tryz.prog ops Q (o :: rest) a Wc := by
  obtain ⟨i0, hi0, hz0, hz1, hz2⟩ := info_parts insInfo
  refine wpList_append_own_at Wc hgd s x 23 ho base 63 i0 _ 5 48 Tryz.underlying23 hi0 hz0 hz1 hz2 rfl (by decide) v n (insC xs) hs hown ⟨g, ofs, none⟩ m c (insC l) hx (by rw [insC_length, hl]) (ins_news hc) (insC_cells l) (by unfold maxLen; omega) (by omega) hbase ?_
  intro v' W' hown' hg _ _
  obtain ⟨g', c', rfl, _, _⟩ := World.ownsRow.form hown' hm
  refine h g' c' W' (by rw [show insC (xs ++ l) = insC xs ++ insC l by simp [insC]]; exact hown') ((Below.refl base Wc).grown hg hbase fun b hb => (World.ownsRow.lt hown b hb).1)
end Go.Proofs.YtcjmhmmjfgjcnaaGreatDoor.Cd

/- code: Read, what its loop keeps. -/
namespace Go.Proofs.YtcjmhmmjfgjcnaaGreatDoor.Cd
open Go.RowKit Go.Proofs.YtcjmhmmjfgjcnaaGreatDoor.Lx Go.Proofs.YtcjmhmmjfgjcnaaGreatDoor.Pa

/-! ### the cursor never goes back -/
theorem take_le (c : Cu) (n : Nat) : (c.take n).2.left.length ≤ c.left.length ∧ (c.take n).1.length ≤ c.left.length := by
  unfold Cu.take
  split
  · simp
  · simp only [List.length_drop, List.length_take]; omega
theorem byte_le (c : Cu) : c.byte.2.left.length ≤ c.left.length := (take_le c 1).1
theorem number_le (c : Cu) : c.number.2.left.length ≤ c.left.length := by
  unfold Cu.number
  split
  · exact Nat.le_refl _
  · exact (take_le c _).1
theorem number_lt (c : Cu) : c.number.1 < 18446744073709551616 := by
  unfold Cu.number
  split
  · exact (by decide : 0 < 18446744073709551616)
  · rename_i r h
    exact (readN_back (n := r.1) (k := r.2) h).1
theorem ins_le (c : Cu) : (insF c).2.left.length ≤ c.left.length ∧ (insF c).1.st.text.length ≤ c.left.length := by
  unfold insF
  have h1 := byte_le c
  split
  · have h2 := byte_le c.byte.2
    have h3 := number_le c.byte.2.byte.2
    have h4 := number_le c.byte.2.byte.2.number.2
    have h5 := take_le c.byte.2.byte.2.number.2.number.2 c.byte.2.byte.2.number.2.number.1
    simp only
    omega
  · split
    · have h2 := number_le c.byte.2
      simp only [stp0, List.length_nil]
      omega
    · simp only [stp0, List.length_nil]
      omega

def readQ (l : Txt) : List Ins × Cu := readF l.length [] ⟨l, false⟩
def GaveD (w : World) (l : Txt) (e : Ending) (w' : World) : Prop := Below w.heap.size w w' ∧
  if l.length ≤ 16384 then (if (readQ l).2.bad = false ∧ checkI (readQ l).1 = true then ∃ v', e = .returned (.tuple #[v', .int .i64 0]) ∧ InsIn w' v' (readQ l).1 else e = .returned (.tuple #[.slice none 0 0, .int .i64 11])) else e = .returned (.tuple #[.slice none 0 0, .int .i64 4])

structure RdM (w wr : World) (B : Nat) (v : Value) (out : List Ins) (c : Cu) : Prop where
  cur : CurM w wr B c
  own : wr.ownsRow (B + 1) 63 5 v out.length (insC out)
structure RdX (w wx : World) (B X : Nat) (v : Value) (out : List Ins) (c : Cu) (x : Ins) : Prop where
  rd : RdM w wx B v out c
  blk : wx.heap[X]? = some (.cells #[.int .u8 x.op, .int .u8 x.st.kind, .string ⟨x.st.text.toArray⟩, .int .i64 x.st.num, .int .i64 x.to] 63)
  lt : B < X
  ne : v.ownBlock ≠ some X
theorem RdM.own_ne {w wr : World} {B : Nat} {v : Value} {out : List Ins} {c : Cu} (h : RdM w wr B v out c) : v.ownBlock ≠ some B := fun e => by
  have := (World.ownsRow.lt h.own B e).1
  omega
theorem RdM.cursor {w wr w' : World} {B : Nat} {v : Value} {out : List Ins} {c c' : Cu} (h : RdM w wr B v out c) (hc : CurM w w' B c') (ho : Only B wr w') : RdM w w' B v out c' :=
  ⟨hc, ownSame h.own fun g hg _ => ho.block g fun e => h.own_ne (by rw [hg, e])⟩
theorem RdM.alloc {w wr : World} {B : Nat} {v : Value} {out : List Ins} {c : Cu} (h : RdM w wr B v out c) (x : Ins) :
    RdX w (wr.alloc (.cells #[.int .u8 x.op, .int .u8 x.st.kind, .string ⟨x.st.text.toArray⟩, .int .i64 x.st.num, .int .i64 x.to] 63)) B wr.heap.size v out c x := by
  have hb := allocB wr (.cells #[.int .u8 x.op, .int .u8 x.st.kind, .string ⟨x.st.text.toArray⟩, .int .i64 x.st.num, .int .i64 x.to] 63)
  exact ⟨⟨⟨(hb.block _ (ltH h.cur.blk)).trans h.cur.blk, stepH h.cur.bel hb, h.cur.low⟩, ownSame h.own fun g _ hg => hb.block g hg⟩, heap_alloc_new _ _, ltH h.cur.blk, fun e => by have := (World.ownsRow.lt h.own _ e).2; omega⟩
theorem RdX.cursor {w wx w' : World} {B X : Nat} {v : Value} {out : List Ins} {c c' : Cu} {x : Ins} (h : RdX w wx B X v out c x) (hc : CurM w w' B c') (ho : Only B wx w') : RdX w w' B X v out c' x :=
  ⟨h.rd.cursor hc ho, (ho.block X (by have := h.lt; omega)).trans h.blk, h.lt, h.ne⟩
theorem RdX.set {w wx : World} {B X : Nat} {v : Value} {out : List Ins} {c : Cu} {x : Ins} (h : RdX w wx B X v out c x) (x' : Ins) (i : Nat) (u : Value)
    (e : (#[.int .u8 x.op, .int .u8 x.st.kind, .string ⟨x.st.text.toArray⟩, .int .i64 x.st.num, .int .i64 x.to] : Array Value).setIfInBounds i u = #[.int .u8 x'.op, .int .u8 x'.st.kind, .string ⟨x'.st.text.toArray⟩, .int .i64 x'.st.num, .int .i64 x'.to]) :
    RdX w (wx.setCell ⟨X, i, none⟩ u) B X v out c x' := by
  have hlt := h.lt
  have hlow := h.rd.cur.low
  refine ⟨⟨⟨(Below.heap_setCell _ _ _ _ (show B ≠ X by omega)).trans h.rd.cur.blk, h.rd.cur.bel.setCell (show w.heap.size ≤ X by omega) _, hlow⟩, ownSame h.rd.own fun g hg _ => Below.heap_setCell _ _ _ _ (fun (e : g = X) => h.ne (by rw [hg, e]))⟩, ?_, hlt, h.ne⟩
  have hc := h.blk
  simp only [World.setCell, Array.getElem?_modify, if_true, hc, Option.map_some, ← e]
  rfl
theorem RdX.more {w wx w' : World} {B X g' c' n : Nat} {v : Value} {out : List Ins} {c : Cu} {x : Ins} {o : Obj} (h : RdX w wx B X v out c x) (hown : w'.ownsRow (B + 1) 63 5 (.slice (some ⟨g', 0, none⟩) n c') n (insC (out ++ [x]))) (hn : n = (out ++ [x]).length) (hb : Below (B + 1) (wx.alloc o) w') : RdM w w' B (.slice (some ⟨g', 0, none⟩) n c') (out ++ [x]) c := by
  subst hn
  have hlow := h.rd.cur.low
  have h1 : Below (B + 1) wx (wx.alloc o) := (allocB wx o).mono (ltH h.rd.cur.blk)
  have hbb := h1.trans hb
  exact ⟨⟨(hbb.block B (by omega)).trans h.rd.cur.blk, h.rd.cur.bel.trans (hbb.mono (by omega)), hlow⟩, hown⟩
end Go.Proofs.YtcjmhmmjfgjcnaaGreatDoor.Cd
