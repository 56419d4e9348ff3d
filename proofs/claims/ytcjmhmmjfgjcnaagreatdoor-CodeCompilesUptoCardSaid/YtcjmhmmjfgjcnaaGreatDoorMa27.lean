/- Parts: RcC. -/
import Derived.Test.YtcjmhmmjfgjcnaaGreatDoorMa26

/- codicilref13: compiled. -/
namespace Go.Proofs.YtcjmhmmjfgjcnaaGreatDoor.Cd
open Go.RowKit Go.Proofs.YtcjmhmmjfgjcnaaGreatDoor.Lx Go.Proofs.YtcjmhmmjfgjcnaaGreatDoor.Pa Go.Proofs.YtcjmhmmjfgjcnaaGreatDoor.Rf

def GavePr (w : World) (p : List Ins) (e : Ending) (w' : World) : Prop := ∃ v, e = .returned v ∧ KeptRow w w' 63 5 v p.length (insC p)
/-- steps cut in two -/
theorem StpsIn.head {w : World} {a : Option Addr} {n c : Nat} {l1 l2 : List Stp} (h : StpsIn w (.slice a n c) (l1 ++ l2)) : StpsIn w (.slice a l1.length c) l1 := by
  obtain ⟨a', n', c', e, hn, hc, hj⟩ := h
  simp only [Value.slice.injEq] at e
  obtain ⟨rfl, rfl, rfl⟩ := e
  rw [List.length_append] at hn
  refine ⟨_, _, _, rfl, rfl, by omega, fun i hi => ?_⟩
  obtain ⟨g, o, rfl, hcl⟩ := hj i (by rw [List.length_append]; omega)
  rw [List.getElem_append_left hi] at hcl
  exact ⟨g, o, rfl, hcl⟩
theorem StpsIn.tail {w : World} {g o n c : Nat} {l1 l2 : List Stp} (h : StpsIn w (.slice (some ⟨g, o, none⟩) n c) (l1 ++ l2)) : StpsIn w (.slice (some ⟨g, o + l1.length * 3, none⟩) l2.length (c - l1.length)) l2 := by
  obtain ⟨a', n', c', e, hn, hc, hj⟩ := h
  simp only [Value.slice.injEq] at e
  obtain ⟨rfl, rfl, rfl⟩ := e
  rw [List.length_append] at hn
  refine ⟨_, _, _, rfl, rfl, by omega, fun i hi => ?_⟩
  obtain ⟨g', o', e, hcl⟩ := hj (l1.length + i) (by rw [List.length_append]; omega)
  simp only [Option.some.injEq, Addr.mk.injEq, and_true] at e
  obtain ⟨rfl, rfl⟩ := e
  rw [List.getElem_append_right (by omega)] at hcl
  refine ⟨g, _, rfl, ?_⟩
  rw [show o + l1.length * 3 + i * 3 = o + (l1.length + i) * 3 by omega]
  simpa using hcl
/-- what is not empty lies somewhere -/
theorem StpsIn.some {w : World} {v : Value} {l : List Stp} (h : StpsIn w v l) (hl : 0 < l.length) : ∃ g o c, v = .slice (some ⟨g, o, none⟩) l.length c ∧ l.length ≤ c ∧ g < w.heap.size := by
  obtain ⟨a, n, c, rfl, hn, hc, hj⟩ := h
  subst hn
  obtain ⟨g, o, rfl, hcl⟩ := hj 0 hl
  exact ⟨g, o, c, rfl, hc, World.block_lt_of_cell? _ _ hcl.c0⟩
theorem flat_len_take (segs : List (List Stp)) (j : Nat) (hj : j < segs.length) : (segs.take (j + 1)).flatten = (segs.take j).flatten ++ segs[j] := by
  rw [List.take_succ_eq_append_getElem hj, List.flatten_append]
  simp
theorem flat_le (segs : List (List Stp)) (q : Nat) (h : q < segs.length) : segs[q].length ≤ segs.flatten.length := by
  have e : segs = segs.take q ++ segs[q] :: segs.drop (q + 1) := by
    rw [← List.drop_eq_getElem_cons h, List.take_append_drop]
  conv => rhs; rw [e, List.flatten_append, List.flatten_cons, List.length_append, List.length_append]
  omega
theorem one_pos {g : List Stp} (h : OneE g) : 0 < g.length := by
  rcases Nat.lt_or_ge 0 g.length with h1 | h1
  · exact h1
  · rw [OneE, List.eq_nil_of_length_eq_zero (show g.length = 0 by omega)] at h
    cases h
theorem comp_len {g : List Stp} (h : OneE g) (hl : g.length ≤ 128) : 0 < (compileL g).length ∧ (compileL g).length ≤ 2 * g.length := by
  have h1 := (compile_len ((right_iff g).2 ⟨h, hl⟩)).1
  have h2 := logic_le g
  have h3 := one_pos h
  omega
theorem compR_pos {g : List Stp} (h : OneE g) (hl : g.length ≤ 128) (a : Nat) : 0 < (compR g a).length := by rw [compR_length]; exact (comp_len h hl).1
theorem outR_le (a : Nat) : ∀ segs : List (List Stp), (∀ g ∈ segs, OneE g ∧ g.length ≤ 128) → (outR a segs).length ≤ 2 * segs.flatten.length
  | [], _ => by simp [outR_nil]
  | g :: r, h => by
    have h1 := outR_le a r fun x hx => h x (by simp [hx])
    have h2 := (comp_len (h g (by simp)).1 (h g (by simp)).2).2
    unfold outR at h1 ⊢
    rw [List.length_map, joinI_length] at h1 ⊢
    rw [List.map_cons, List.map_cons, List.sum_cons, List.flatten_cons, List.length_append]
    omega
theorem KeptRow.some {w w' : World} {T : TypeId} {size n : Nat} {v : Value} {cs : List Value} (h : KeptRow w w' T size v n cs) (hn : 0 < n) : ∃ g c, v = .slice (.some ⟨g, 0, none⟩) n c := by
  rcases h.own.2 with ⟨rfl, h0⟩ | ⟨g, cap, cur, e, _⟩
  · omega
  · exact ⟨g, cap, e⟩
theorem insC_one (l : List Ins) : ∀ u ∈ insC l, u.oneCell' = true := by
  intro u hu
  obtain ⟨x, _, hx⟩ := List.mem_flatMap.1 hu
  simp only [Ins.cells, List.mem_cons, List.mem_nil_iff, or_false] at hx
  rcases hx with rfl | rfl | rfl | rfl | rfl <;> rfl
theorem ins_one (x : Ins) : ∀ u ∈ Ins.cells x, u.oneCell' = true := fun u hu => insC_one [x] u (by simpa [insC] using hu)
theorem insC_app (a b : List Ins) : insC (a ++ b) = insC a ++ insC b := by simp [insC]
theorem KeptRow.lower {w w0 wx : World} {T : TypeId} {size n : Nat} {v : Value} {cs : List Value} (h : KeptRow w wx T size v n cs) (hb : Below w0.heap.size w0 w) : KeptRow w0 wx T size v n cs :=
  ⟨ownBase h.own hb.size, rStep hb h.bel⟩
theorem stpsInfo : (Tryz.prog.info? 22).map (fun i => (i.zero, i.size, i.bytes)) = some (some (.slice none 0 0), 1, 24) := by kernel_rfl
theorem make_parts (W : World) (k : Nat) (hk : k ≤ 64) : (Instr.makeSlice 121 (.int .i64 k) (.int .i64 k)).run Tryz.prog W = .ok (.slice (some ⟨W.heap.size, 0, none⟩) k k) (W.alloc (.cells (madeCells #[.slice none 0 0] k) 22)) := by
  obtain ⟨i0, hi0, hzz0, hz10, hz2⟩ := info_parts stpsInfo
  have := run_make (P := Tryz.prog) W 121 22 i0 _ Tryz.underlying121 hi0 hzz0 .i64 .i64 k k (by omega) (Int.le_refl _) (by rw [hz2]; omega) (by omega)
  rw [hz10] at this
  simp only [Int.toNat_natCast, Nat.mul_one] at this
  exact this

set_option maxHeartbeats 1000000 in
set_option maxRecDepth 100000 in
theorem compiled_step (N : Nat) (IH : ∀ (l : List Stp), l.length ≤ N → l.length ≤ 128 → OneE l → (∀ y ∈ l, y.text.length ≤ 1048576) → ∀ (w : World) (v : Value) (at_ : Nat), StpsIn w v l → at_ + 2 * l.length ≤ 100000 →
      Calls Tryz.prog 36 #[v, .int .i64 at_] w (GavePr w (compR l at_)))
    (segs : List (List Stp)) (s : Stp) (htk : takes s = some segs.length) (hone : ∀ g ∈ segs, OneE g) (hcomp : compileL (segs.flatten ++ [s]) = partC s (segs.map compileL)) (h21 : s.kind ≠ 21) (h22 : s.kind ≠ 22)
    (hN : segs.flatten.length ≤ N) (hl : (segs.flatten ++ [s]).length ≤ 128) (ht : ∀ y ∈ segs.flatten ++ [s], y.text.length ≤ 1048576) (w : World) (v : Value) (at_ : Nat) (h : StpsIn w v (segs.flatten ++ [s])) (hat : at_ + 2 * (segs.flatten ++ [s]).length ≤ 100000) :
    Calls Tryz.prog 36 #[v, .int .i64 at_] w (GavePr w (compR (segs.flatten ++ [s]) at_)) := by
  have Hres := Lib.hid (compR_step hcomp h21 h22 at_)
  have hlen : (segs.flatten ++ [s]).length = segs.flatten.length + 1 := by simp
  obtain ⟨g, o, c, rfl, hc, hgw⟩ := StpsIn.some h (by rw [hlen]; omega)
  have Hhd := Lib.hid (StpsIn.head h)
  have hlast := StpsIn.tail h
  obtain ⟨a', n', c', e, hn, -, hj⟩ := hlast
  simp only [Value.slice.injEq] at e
  obtain ⟨rfl, rfl, rfl⟩ := e
  obtain ⟨g', o', e, hcl⟩ := hj 0 (by simp)
  simp only [Option.some.injEq, Addr.mk.injEq, and_true] at e
  obtain ⟨rfl, rfl⟩ := e
  obtain ⟨q0, q1, q2⟩ := hcl
  simp only [List.getElem_cons_zero, Nat.zero_mul, Nat.add_zero] at q0 q1 q2
  have hk64 := takes_le htk
  have HT := Lib.hid (fun W => TakesR_calls s W (ht s (by simp)))
  unfold Stp.val takesV at HT
  rw [htk] at HT
  have e21 : ((s.kind : Int) != 21) = true := by rw [bne_iff_ne]; omega
  have e22 : ((s.kind : Int) != 22) = true := by rw [bne_iff_ne]; omega
  have hmk := fun W => make_parts W segs.length hk64
  rw [hlen] at hc hl hat
  clear h hj
  rw [hlen]
  generalize hF : segs.flatten.length = F at *
  go_enter Tryz.func36, Tryz.ntmps36
  go_wp2_with fail
  refine (HT.out _).mono ?_
  rintro e w1 ⟨rfl, hb1⟩
  have Hb1 := Lib.hid (rStep (rAlloc w (stpO s)) hb1)
  have Hs1 := Lib.hid (show w1.heap[w.heap.size]? = some (stpO s) from (hb1.block _ (by simp)).trans (heap_alloc_new w (stpO s)))
  clear hb1
  simp only [Option.getD_some, Option.isSome_some]
  go_wp2_with fail
  have Har := Lib.hid (ArrAt.made w1 22 (.slice none 0 0) segs.length)
  have Hb2 := Lib.hid (Hb1.out.alloc Hb1.out.size (.cells (madeCells #[.slice none 0 0] segs.length) 22))
  have Hs2 := Lib.hid (((rAlloc w1 (.cells (madeCells #[.slice none 0 0] segs.length) 22)).block _ (rLt Hs1.out)).trans Hs1.out)
  have hBp : w.heap.size < w1.heap.size := rLt Hs1.out
  generalize w1.alloc (.cells (madeCells #[.slice none 0 0] segs.length) 22) = W2 at *
  generalize w1.heap.size = Bp at *
  have Hlens := Lib.hid (fun (j : Nat) (hj : j < segs.length) => flat_len_take segs j hj)
  have Hfl := Lib.hid (fun (j : Nat) => (show ((segs.take j).flatten).length ≤ F from by
    rw [← hF]
    conv => rhs; rw [← List.take_append_drop j segs, List.flatten_append, List.length_append]
    omega))
  have Hmem := Lib.hid (fun (j : Nat) (y : Stp) (hy : y ∈ (segs.take j).flatten) => ht y (by
    rw [List.mem_append]
    left
    rw [← List.take_append_drop j segs, List.flatten_append, List.mem_append]
    exact .inl hy))
  go_loopw [8, 10] (fun s8 s10 wr => ∃ (j : Nat) (vr : Value) (vs : List Value), s10 = .int .i64 ((j : Int) - 1) ∧ s8 = vr ∧ j ≤ segs.length ∧ vs.length = segs.length ∧ Hid (StpsIn w vr (segs.take j).flatten) ∧ Hid (ArrAt wr Bp 22 vs) ∧
      Hid (∀ i (h1 : i < vs.length) (h2 : i < segs.length), j ≤ i → StpsIn w vs[i] segs[i]) ∧ Hid (Below w.heap.size w wr) ∧ Hid (wr.heap[w.heap.size]? = some (stpO s))) (fun _ s10 _ => (intOf s10 + 1).toNat)
  case atStart => exact ⟨segs.length, _, _, rfl, rfl, Nat.le_refl _, List.length_replicate, Lib.hid (by rw [List.take_length]; exact Hhd.out), Har, Lib.hid (fun i h1 h2 h3 => absurd h3 (by omega)), Hb2, Hs2⟩
  case round =>
    obtain ⟨j, vr, vs, rfl, rfl, hj, hvs, hst, har, hin, hbr, hs⟩ := hrel
    have Hbr := Lib.hid hbr.out
    have Hst := Lib.hid hst.out
    have Harr := Lib.hid har.out
    have Hin := Lib.hid hin.out
    have Hs := Lib.hid hs.out
    clear hbr hst har hin hs
    by_cases hj0 : j = 0
    · subst hj0
      have Hb3 := Lib.hid Hbr.out
      have Hin0 := Lib.hid (fun (q : Nat) (h1 : q < vs.length) (h2 : q < segs.length) => Hin.out q h1 h2 (Nat.zero_le _))
      have hIH := fun (q : Nat) (h2 : q < segs.length) => IH segs[q] (Nat.le_trans (flat_le segs q h2) (by omega)) (Nat.le_trans (flat_le segs q h2) (by omega)) (hone _ (List.getElem_mem h2)) (fun y hy => ht y (by
        rw [List.mem_append, List.mem_flatten]
        exact .inl ⟨_, List.getElem_mem h2, hy⟩))
      have HIH := Lib.hid hIH
      have Hol := Lib.hid (fun (q : Nat) => (show (outR at_ (segs.take q)).length ≤ 256 ∧ (outR at_ (segs.take q)).length ≤ 2 * (segs.take q).flatten.length from by
        have h1 := outR_le at_ (segs.take q) (fun g hg => ⟨hone g (List.mem_of_mem_take hg), by
          obtain ⟨i, hi, rfl⟩ := List.getElem_of_mem (List.mem_of_mem_take hg)
          exact Nat.le_trans (flat_le segs i hi) (by omega)⟩)
        have h2 := Hfl.out q
        omega))
      have Hne := Lib.hid (fun (q : Nat) (h2 : q < segs.length) (a : Nat) => compR_pos (hone _ (List.getElem_mem h2)) (Nat.le_trans (flat_le segs q h2) (by omega)) a)
      clear Hst hIH
      generalize wr = W3 at *
      go_wp2_with fail
      go_loopw [12, 64] (fun s12 s64 wx => ∃ (q ol : Nat) (vo : Value), s64 = .int .i64 q ∧ s12 = vo ∧ q ≤ segs.length ∧ ol ≤ 256 ∧ Hid ((outR at_ (segs.take q)).length = ol) ∧ Hid (KeptRow W3 wx 63 5 vo ol (insC (outR at_ (segs.take q))))) (fun _ s64 _ => segs.length - (intOf s64).toNat)
      case atStart => exact ⟨0, 0, _, rfl, rfl, Nat.zero_le _, by omega, Lib.hid rfl, Lib.hid (KeptRow.nil _ _ _)⟩
      case round =>
        obtain ⟨q, ol, vo, rfl, rfl, hq, hol, hoe, hrow⟩ := hrel
        have Hrow := Lib.hid hrow.out
        have Hoe := Lib.hid hoe.out
        obtain ⟨ao, co, rfl⟩ := rForm hrow.out.own
        clear hrow hoe
        by_cases hqk : q < segs.length
        · obtain ⟨hv0, hf0⟩ := (Harr.out.below Hrow.out.bel).get (j := q) (by omega)
          have hst := Hin0.out q (by omega) hqk
          have hgl := one_pos (hone _ (List.getElem_mem hqk))
          obtain ⟨gq, oq, cq, hV, hcq, hgq⟩ := StpsIn.some hst hgl
          rw [hV] at hv0 hst
          have Hst := Lib.hid hst
          have Hcall := Lib.hid (show ∀ W, Below w.heap.size w W → Calls Tryz.prog 36 #[.slice (some ⟨gq, oq, none⟩) segs[q].length cq, .int .i64 ((at_ : Int) + (ol : Int))] W (GavePr W (compR segs[q] (at_ + ol))) from fun W hb => by
            have := HIH.out q hqk W _ (at_ + ol) (Hst.out.below hb) (by
              have h1 := (Hol.out q).2
              have h2 := Hfl.out (q + 1)
              rw [Hlens.out q hqk, List.length_append] at h2
              rw [Hoe.out] at h1
              omega)
            rw [Int.natCast_add] at this
            exact this)
          have Hpos := Lib.hid (Hne.out q hqk (at_ + ol))
          have Hsn := Lib.hid (show outR at_ (segs.take (q + 1)) = outR at_ (segs.take q) ++ compR segs[q] (at_ + ol) from by
            rw [List.take_succ_eq_append_getElem hqk, outR_snoc, Hoe.out])
          have Hol2 := Lib.hid (Hol.out (q + 1)).1
          have hgn := hcq
          clear hst hV
          generalize segs[q].length = nq at *
          generalize hC : compR segs[q] (at_ + ol) = C at *
          go_wp2_with fail
          refine (Hcall.out _ (rStep Hb3.out Hrow.out.bel)).mono ?_
          rintro e w4 ⟨v2, rfl, hrow2⟩
          obtain ⟨g2, c2, rfl⟩ := KeptRow.some hrow2 Hpos.out
          have H4 := Lib.hid (Hrow.out.step hrow2.bel)
          have H2 := Lib.hid hrow2.own
          have hsum := Hol2.out
          rw [Hsn.out, List.length_append, Hoe.out] at hsum
          clear hrow2
          go_wp2_with (at_builtin; go_must (refine wpList_cat rfl _ _ 63 23 rfl Tryz.underlying23 _ 5 48 insInfo rfl (by decide) W3 (.slice ao ol co) ol (insC (outR at_ (segs.take q))) rfl g2 C.length c2 rfl _ (insC C) H2.out (insC_one C) H4.out (by unfold maxLen; omega) (by omega) ?_); intro a7 n7 c7 w7 hn7 h7; have Hn7 := Lib.hid hn7.out; have H7 := Lib.hid h7; clear hn7 h7)
          go_roundw
          case rel =>
            refine ⟨_, _, _, _, _, _, _, _, _, _, _, _, _, _, _, ?_, rfl⟩
            exact ⟨q + 1, n7, _, by go_num, rfl, by omega, by rw [Hn7.out]; exact hsum, Lib.hid (by rw [Hsn.out, List.length_append, Hoe.out, Hn7.out]), Lib.hid (by rw [Hsn.out, insC_app]; exact H7.out)⟩
          case measure => simp [intOf]; omega
        · obtain rfl : q = segs.length := by omega
          obtain ⟨⟨k0, k1, k2⟩, -⟩ := threeR ((Hrow.out.bel.block _ (rLt Hs.out)).trans Hs.out)
          have hall : segs.take segs.length = segs := List.take_length
          rw [hall] at Hoe Hrow
          go_wp2_with (at_builtin; go_must (refine wpList_more rfl _ _ 63 23 rfl Tryz.underlying23 _ 5 48 insInfo rfl (by decide) W3 (.slice ao ol co) ol (insC (outR at_ segs)) rfl _ rfl (Ins.cells ⟨1, s, 0⟩) rfl (ins_one _) Hrow.out rfl (by unfold maxLen; omega) (by omega) ?_); intro a7 n7 c7 w7 hn7 h7; have Hn7 := Lib.hid hn7.out; have H7 := Lib.hid h7; clear hn7 h7)
          go_ret
          refine ⟨_, rfl, ?_⟩
          have hn : (compR (segs.flatten ++ [s]) at_).length = n7 := by rw [Hres.out, List.length_append, Hoe.out, Hn7.out]; rfl
          rw [hn, Hres.out, insC_snoc]
          exact KeptRow.lower H7.out Hb3.out
    · obtain ⟨j, rfl⟩ : ∃ i, j = i + 1 := ⟨j - 1, by omega⟩
      have hjl : j < segs.length := by omega
      have hsp := Hlens.out j hjl
      have hgl : 0 < segs[j].length := by
        exact one_pos (hone _ (List.getElem_mem hjl))
      have hst2 := Hst.out
      rw [hsp] at hst2
      obtain ⟨gr, or_, cr, rfl, hcr, hgr⟩ := StpsIn.some hst2 (by rw [List.length_append]; omega)
      rw [List.length_append] at hst2 hcr ⊢
      have Hh := Lib.hid (StpsIn.head hst2)
      have Ht := Lib.hid (StpsIn.tail hst2)
      have Hstart := Lib.hid (fun W (hb : Below w.heap.size w W) => start_calls W _ _ _ (hst2.below hb) (hone _ (List.getElem_mem hjl)) (by rw [← hsp]; have := Hfl.out (j + 1); omega) (by rw [← hsp]; exact Hmem.out (j + 1)))
      have hfl2 := Hfl.out (j + 1)
      rw [hsp] at hfl2
      rw [List.length_append] at hfl2
      obtain ⟨hv0, hf0⟩ := Harr.out.get (j := j) (by omega)
      have hBl := Harr.out.lt
      clear hst2
      generalize hP : (segs.take j).flatten = P at *
      generalize hG : segs[j] = G at *
      generalize hGl : G.length = Gl at *
      generalize hPl : P.length = Pl at *
      go_wp2_with fail
      refine (Hstart.out _ Hbr.out).mono ?_
      rintro e w3 ⟨rfl, hb3⟩
      have hv3 := (hb3.cell (p := ⟨Bp, j, none⟩) hBl).trans hv0
      have hf3 := (hb3.frozen (p := ⟨Bp, j, none⟩) hBl).trans hf0
      have Hb3 := Lib.hid hb3
      clear hb3 hv0 hf0
      go_wp2_with fail
      refine ⟨⟨j, _, vs.set j (.slice (some ⟨gr, or_ + Pl * 3, none⟩) Gl (cr - Pl)), rfl, rfl, by omega, by rw [List.length_set]; exact hvs, Lib.hid (by rw [hP]; exact Hh.out), Lib.hid ((Harr.out.below Hb3.out).set _ _), Lib.hid ?_, Lib.hid ((rStep Hbr.out Hb3.out).setCell (Nat.le_of_lt hBp) _), Lib.hid ?_⟩, by simp [intOf]⟩
      · intro i h1 h2 h3
        by_cases e : i = j
        · subst e
          rw [List.getElem_set_self, hG]
          exact Ht.out
        · rw [List.getElem_set_ne (fun e2 => e e2.symm)]
          exact Hin.out i (by rw [List.length_set] at h1; exact h1) h2 (by omega)
      · rw [Below.heap_setCell _ _ _ _ (show w.heap.size ≠ Bp by omega)]
        exact (Hb3.out.block _ (rLt Hs.out)).trans Hs.out

end Go.Proofs.YtcjmhmmjfgjcnaaGreatDoor.Cd
