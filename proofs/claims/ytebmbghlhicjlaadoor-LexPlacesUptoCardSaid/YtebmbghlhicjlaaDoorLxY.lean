/- LexPlaces: the walk. -/
import Derived.Test.YtebmbghlhicjlaaDoorLxX
import Derived.Test.YtebmbghlhicjlaaDoorLxU
import Derived.IntWalk
namespace Go.Proofs.YtebmbghlhicjlaaDoor.Lx
open Go.RowKit

/-- a token of a list, to be looked at -/
theorem ToksIn.at {w : World} {a : Option Addr} {l : List Tok} (h : ToksIn w a l) {i : Nat} (hi : i < l.length) : ∃ g, a = some ⟨g, 0, none⟩ ∧ TokCells w g i l[i] ∧ g < w.heap.size := by
  obtain ⟨g, e, hc⟩ := h i hi
  exact ⟨g, e, hc, World.block_lt_of_cell? _ _ hc.c0⟩
theorem TokCells.below {w w' : World} {g i : Nat} {t : Tok} (h : TokCells w g i t) (hg : g < w.heap.size) (hb : Below w.heap.size w w') : TokCells w' g i t :=
  ⟨(hb.cell (p := ⟨g, _, none⟩) hg).trans h.c0, (hb.cell (p := ⟨g, _, none⟩) hg).trans h.c1, (hb.cell (p := ⟨g, _, none⟩) hg).trans h.c2, (hb.cell (p := ⟨g, _, none⟩) hg).trans h.c3⟩

structure PlMem (w wr : World) (a : Option Addr) (l : List Tok) : Prop where
  bel : Below w.heap.size w wr
  lie : ToksIn wr a l
theorem PlMem.step {w wr w' : World} {a : Option Addr} {l : List Tok} (h : PlMem w wr a l) (hb : Below wr.heap.size wr w') : PlMem w w' a l :=
  ⟨h.bel.trans (hb.mono h.bel.size), h.lie.below hb⟩
theorem PlMem.drewN {w wr : World} {a : Option Addr} {l : List Tok} (h : PlMem w wr a l) (n : Nat) : PlMem w (wr.drewN n) a l := h.step (below_drewN (Below.refl _ _) n)

/-- a first token that stands in a block of its own -/
theorem first_cells {w : World} {base c : Nat} {a : Option Addr} {t : Tok} {l : List Tok} (h : ToksAt w base (.slice a (t :: l).length c) (t :: l)) :
    ∃ g, a = some ⟨g, 0, none⟩ ∧ (w.cell? ⟨g, 0, none⟩ = some (.int .u8 t.kind) ∧ w.cell? ⟨g, 1, none⟩ = some (.string ⟨t.text.toArray⟩) ∧ w.cell? ⟨g, 2, none⟩ = some (.int .i64 t.num) ∧ w.cell? ⟨g, 3, none⟩ = some (.int .i64 t.pos)) := by
  obtain ⟨g, e, hc⟩ := ownsRow_toks h rfl 0 (by simp)
  have h0 := hc.c0
  have h1 := hc.c1
  have h2 := hc.c2
  have h3 := hc.c3
  simp only [Nat.zero_mul, Nat.zero_add, List.getElem_cons_zero] at h0 h1 h2 h3
  exact ⟨g, e, h0, h1, h2, h3⟩

/-- behind the calls of a round -/
structure PlSt (w wr wx : World) (a : Option Addr) (l : List Tok) (t : Tok) : Prop where
  mem : PlMem w wx a l
  blk : wx.heap[wr.heap.size]? = some (.cells #[.int .u8 t.kind, .string ⟨t.text.toArray⟩, .int .i64 t.num, .int .i64 t.pos] 26)
theorem PlSt.start {w wr : World} {a : Option Addr} {l : List Tok} (h : PlMem w wr a l) (t : Tok) : PlSt w wr (wr.alloc (.cells #[.int .u8 t.kind, .string ⟨t.text.toArray⟩, .int .i64 t.num, .int .i64 t.pos] 26)) a l t :=
  ⟨h.step (alloc_below _ _), heap_alloc_new _ _⟩
theorem PlSt.step {w wr wx w' : World} {a : Option Addr} {l : List Tok} {t : Tok} (h : PlSt w wr wx a l t) (hb : Below wx.heap.size wx w') : PlSt w wr w' a l t :=
  ⟨h.mem.step hb, (hb.block _ (lt_of_heap h.blk)).trans h.blk⟩

attribute [local go_sem high] tok_equal
set_option maxHeartbeats 4000000 in
set_option maxRecDepth 100000 in
theorem LexPlaces_calls (s : ByteArray) (w : World) (hs : s.size ≤ 1048576) (he : Env w) :
    Calls Tryd.prog 4 #[.string s] w fun e w' => e = .returned (.bool true) ∧ Below w.heap.size w w' := by
  have He := Lib.hid he
  have HLs : Hid (s.size ≤ maxLen) := by show s.size ≤ maxLen; unfold maxLen; omega
  clear he
  go_enter Tryd.func4, Tryd.ntmps4
  go_wp2_with fail
  refine (lives_calls w He.out).mono ?_
  rintro e w0 ⟨rfl, hb0⟩
  have Hb0 := Lib.hid hb0
  have He0 := Lib.hid (He.out.below hb0)
  clear hb0
  cases hl : lexL (L s) with
  | err c p =>
    have hne := lexL_ne hl
    have hp : p ≤ s.size := by have := lexL_err_le hl; rwa [L_length] at this
    have Hl := Lib.hid hl
    clear hl
    go_wp2_with fail
    refine (Lex_err s w0 HLs.out He0.out Hl.out).mono ?_
    rintro e w1 ⟨rfl, hb1⟩
    have Hb1 := Lib.hid (Hb0.out.trans (hb1.mono Hb0.out.size))
    clear hb1
    go_wp2_with fail
    go_ret
    exact ⟨ret_bool (by simp), Hb1.out⟩
  | ok l =>
    have hcl := (lexL_count hl).2
    have Hl := Lib.hid hl
    clear hl
    go_wp2_with fail
    refine (Lex_ok s w0 HLs.out He0.out Hl.out).mono ?_
    rintro e w1 ⟨a, c, rfl, hta, hb1⟩
    have Hm := Lib.hid (PlMem.mk (Hb0.out.trans (hb1.mono Hb0.out.size)) (ownsRow_toks hta rfl))
    clear hta hb1
    generalize hn : l.length = n at *
    have Hn := Lib.hid hn
    clear hn
    go_wp2_with fail
    go_loopw [39] (fun i wr => ∃ k : Nat, k ≤ n ∧ i = .int .i64 k ∧ Hid (PlMem w wr a l)) (fun i _ => n - (intOf i).toNat)
    case atStart => exact ⟨0, Nat.zero_le _, rfl, Hm⟩
    case round =>
      obtain ⟨k, hk, rfl, Hm⟩ := hrel
      by_cases hlt : k < n
      · have hkl : k < l.length := by rw [Hn.out]; exact hlt
        obtain ⟨g, rfl, hc, hg⟩ := Hm.out.lie.at hkl
        have hpl := places Hl.out k hkl
        have hfit := lexL_fits Hl.out l[k] (List.getElem_mem hkl)
        obtain ⟨c0, c1, c2, c3⟩ := hc
        have hsv : showV l[k] = .tuple #[.string ⟨(showS l[k]).toArray⟩, .int .i64 0] := by unfold showV; rw [if_pos hpl.show_]
        have hlen := shown_length hpl.show_
        have hpos := hpl.lt
        rw [L_length] at hpos
        have hprev : ∀ h : 0 < k, ∃ p : Nat, wr.cell? ⟨g, (k - 1) * 4 + 3, none⟩ = some (.int .i64 p) ∧ p < l[k].pos := fun h0 => by
          obtain ⟨g', e', hc', _⟩ := Hm.out.lie.at (i := k - 1) (by omega)
          simp only [Option.some.injEq, Addr.mk.injEq, and_true] at e'
          subst e'
          exact ⟨_, hc'.c3, hpl.rise h0⟩
        obtain ⟨rest, first, htail, hrl, hfirst⟩ := hpl.tail
        clear hpl
        generalize l[k] = t at *
        have Hst := Lib.hid (PlSt.start Hm.out t)
        have Hfit := Lib.hid hfit
        have Hsv := Lib.hid hsv
        have Hlen := Lib.hid (show (showS t).length ≤ 9223372036854775807 by omega)
        have Htail := Lib.hid (show lexL (L (s.extract t.pos s.size)) = .ok (first :: rest) by rw [L_drop]; exact htail)
        have Hfirst := Lib.hid hfirst
        have Hrl := Lib.hid hrl
        have HLd := Lib.hid (drop_le s t.pos HLs.out)
        have Hprev := Lib.hid hprev
        clear hfit hsv hlen htail hfirst hrl hprev
        have Hew := Lib.hid (He.out.below Hst.out.mem.bel)
        go_wp2_with fail
        have hshow := Show_calls t t.pos (wr.alloc (.cells #[.int .u8 t.kind, .string ⟨t.text.toArray⟩, .int .i64 t.num, .int .i64 t.pos] 26)) (by have := Hfit.out.txt; omega) (by have := Hfit.out.lo; omega) Hfit.out.hi Hlen.out Hew.out
        rw [Hsv.out] at hshow
        refine hshow.mono ?_
        clear hshow
        rintro e w2 ⟨rfl, hb2⟩
        have hst2 := Hst.out.step hb2
        have Hst2 := Lib.hid hst2
        have hX : wr.heap.size < w2.heap.size := lt_of_heap hst2.blk
        obtain ⟨⟨k0, k1, k2, k3⟩, g0, g1, g2, g3⟩ := four hst2.blk
        clear hst2
        have e2 : ¬ (t.pos : Int) < 0 := by omega
        have e3 : ¬ (s.size : Int) ≤ (t.pos : Int) := by omega
        have e5 : ¬ s.size ≤ t.pos := by omega
        have hprev2 : ∀ h : 0 < k, ∃ p : Nat, w2.cell? ⟨g, (k - 1) * 4 + 3, none⟩ = some (.int .i64 p) ∧ p < t.pos := fun h => by
          obtain ⟨p, h1, h2⟩ := Hprev.out h
          exact ⟨p, ((alloc_below wr _).trans (hb2.mono (alloc_below wr _).size)).cell (p := ⟨g, _, none⟩) hg |>.trans h1, h2⟩
        have Hgo : ∀ (K0 : Prop), K0 → K0 := fun _ h => h
        rcases Nat.eq_zero_or_pos k with h0 | h0
        · have e1 : ¬ (0 : Int) < (k : Int) := by omega
          have e4 : ¬ 0 < k := by omega
          clear h0 hprev2 hb2
          go_wp2_with fail
          refine wp_region_quiet_lit (by kernel_rfl) (by kernel_rfl) ?_
          repeat (with_reducible refine wpQuiet_step (fun K hK => ?_); go_simp; with_reducible refine hK _ ?_; clear hK K)
          refine wpQuiet_nil ?_
          intro _ hw'
          obtain ⟨nq, hw''⟩ := hw'
          subst hw''
          go_wp2_with fail
          refine (Lex_ok _ _ HLd.out ((He.out.below Hst2.out.mem.bel).below (below_drewN (Below.refl _ _) nq)) Htail.out).mono ?_
          rintro e w3 ⟨a3, cc3, rfl, hta3, hb3⟩
          have hdq : Below w2.heap.size w2 (w2.drewN nq) := below_drewN (Below.refl _ _) nq
          have hst3 := Hst2.out.step (hdq.trans (hb3.mono hdq.size))
          have Hst3 := Lib.hid hst3
          obtain ⟨⟨k0, k1, k2, k3⟩, g0, g1, g2, g3⟩ := four hst3.blk
          obtain ⟨gf, rfl, d0, d1, d2, d3⟩ := first_cells hta3
          have hgf : gf < w3.heap.size := World.block_lt_of_cell? _ _ d0
          have hlen3 : (((first :: rest).length : Nat) : Int) = (n : Int) - (k : Int) := by have h1 := Hrl.out; rw [Hn.out] at h1; simp only [List.length_cons]; omega
          have hpos3 : 0 < (first :: rest).length := by simp
          have Hend := Lib.hid ((Hst3.out.mem.step (alloc_below w3 (.cells #[.int .u8 first.kind, .string ⟨first.text.toArray⟩, .int .i64 first.num, .int .i64 t.pos] 26))))
          have hkk : tokB first.kind t.kind ⟨first.text.toArray⟩ ⟨t.text.toArray⟩ first.num t.num t.pos t.pos = true := by
            refine (tokB_eq first t t.pos t.pos).trans ?_
            rw [decide_eq_true_iff, Hfirst.out]
          have hX3 : wr.heap.size < w3.heap.size := lt_of_heap hst3.blk
          clear hta3 hb3 hst3 hdq
          generalize (first :: rest).length = m at *
          have hne : ((m : Int) != (n : Int) - (k : Int)) = false := by rw [bne_eq_false_iff_eq]; exact hlen3
          clear hlen3
          go_wp2_with fail
          go_roundw
          case rel => exact ⟨k + 1, by omega, by go_num, Hend⟩
          case measure => simp [intOf]; omega
        · obtain ⟨p, hp1, hp2⟩ := hprev2 h0
          obtain ⟨j, rfl⟩ : ∃ j, k = j + 1 := ⟨k - 1, by omega⟩
          simp only [Nat.add_sub_cancel] at hp1
          have e1 : ¬ (t.pos : Int) ≤ (p : Int) := by omega
          have e4 : ¬ t.pos ≤ p := by omega
          have e6 : (j : Int) < (n : Int) := by omega
          have e7 : j < n := by omega
          have e8 : ¬ (n : Int) ≤ (j : Int) := by omega
          have e9 : (0 : Int) < (j : Int) + 1 := by omega
          clear h0 hprev2 hb2
          go_wp2_with fail
          have hwj : IntKind.i64.wrap (j : Int) = (j : Int) := IntWalk.i64_in _ (by omega)
          have hj0 : (0 : Int) ≤ (j : Int) := by omega
          refine wp_region_quiet_lit (by kernel_rfl) (by kernel_rfl) ?_
          repeat (with_reducible refine wpQuiet_step (fun K hK => ?_); go_simp; with_reducible refine hK _ ?_; clear hK K)
          refine wpQuiet_nil ?_
          intro _ hw'
          obtain ⟨nq, hw''⟩ := hw'
          subst hw''
          clear hwj
          go_wp2_with fail
          refine (Lex_ok _ _ HLd.out ((He.out.below Hst2.out.mem.bel).below (below_drewN (Below.refl _ _) nq)) Htail.out).mono ?_
          rintro e w3 ⟨a3, cc3, rfl, hta3, hb3⟩
          have hdq : Below w2.heap.size w2 (w2.drewN nq) := below_drewN (Below.refl _ _) nq
          have hst3 := Hst2.out.step (hdq.trans (hb3.mono hdq.size))
          have Hst3 := Lib.hid hst3
          obtain ⟨⟨k0, k1, k2, k3⟩, g0, g1, g2, g3⟩ := four hst3.blk
          obtain ⟨gf, rfl, d0, d1, d2, d3⟩ := first_cells hta3
          have hgf : gf < w3.heap.size := World.block_lt_of_cell? _ _ d0
          have hlen3 : (((first :: rest).length : Nat) : Int) = (n : Int) - ((j : Int) + 1) := by have h1 := Hrl.out; rw [Hn.out] at h1; simp only [List.length_cons]; omega
          have hpos3 : 0 < (first :: rest).length := by simp
          have Hend := Lib.hid ((Hst3.out.mem.step (alloc_below w3 (.cells #[.int .u8 first.kind, .string ⟨first.text.toArray⟩, .int .i64 first.num, .int .i64 t.pos] 26))))
          have hkk : tokB first.kind t.kind ⟨first.text.toArray⟩ ⟨t.text.toArray⟩ first.num t.num t.pos t.pos = true := by
            refine (tokB_eq first t t.pos t.pos).trans ?_
            rw [decide_eq_true_iff, Hfirst.out]
          have hX3 : wr.heap.size < w3.heap.size := lt_of_heap hst3.blk
          clear hta3 hb3 hst3 hdq
          generalize (first :: rest).length = m at *
          have hne : ((m : Int) != (n : Int) - ((j : Int) + 1)) = false := by rw [bne_eq_false_iff_eq]; exact hlen3
          clear hlen3
          go_wp2_with fail
          · go_ret
            exact ⟨rfl, Hend.out.bel⟩
          · go_roundw
            case rel => exact ⟨j + 1 + 1, by omega, by go_num, Hend⟩
            case measure => simp [intOf]; omega
      · go_wp2_with fail
        go_ret
        exact ⟨rfl, Hm.out.bel⟩

end Go.Proofs.YtebmbghlhicjlaaDoor.Lx
