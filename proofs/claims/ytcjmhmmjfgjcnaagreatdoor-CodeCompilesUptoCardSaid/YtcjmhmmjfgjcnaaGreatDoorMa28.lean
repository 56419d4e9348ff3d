/- Parts: RcD QaC QaX. -/
import Derived.Test.YtcjmhmmjfgjcnaaGreatDoorMa04
import Derived.Test.YtcjmhmmjfgjcnaaGreatDoorMa26
import Derived.Test.YtcjmhmmjfgjcnaaGreatDoorMa27
import Derived.Lib.AppendStr
import Derived.Laws.BitsAllLaws

/- codicilref13: compiled, at AND and OR; Compile. -/
namespace Go.Proofs.YtcjmhmmjfgjcnaaGreatDoor.Cd
open Go.RowKit Go.Proofs.YtcjmhmmjfgjcnaaGreatDoor.Lx Go.Proofs.YtcjmhmmjfgjcnaaGreatDoor.Pa Go.Proofs.YtcjmhmmjfgjcnaaGreatDoor.Rf

/-- a row of one's own stays, where another grows -/
theorem kept_other {w4 wA w5 : World} {base : Nat} {T : TypeId} {size n m c ca ga gb : Nat} {cs : List Value} (h : w4.ownsRow base T size (.slice (some ⟨gb, 0, none⟩) n c) n cs) (hb : Below w4.heap.size w4 wA) (hg : wA.grownBy w5 (Value.slice (some ⟨ga, 0, none⟩) m ca).ownBlock) (hne : ga ≠ gb) (hlt : gb < w4.heap.size) :
    w5.ownsRow base T size (.slice (some ⟨gb, 0, none⟩) n c) n cs := by
  refine rSame h fun g e _ => ?_
  have e2 : gb = g := Option.some.inj (show some gb = some g from e)
  subst e2
  have h1 := hb.block gb hlt
  have hsz := hb.size
  rw [← h1]
  exact hg.block gb (by omega) (fun e => hne (Option.some.inj (show some gb = some ga from e)).symm)

set_option maxHeartbeats 1000000 in
set_option maxRecDepth 100000 in
theorem compiled_and (N : Nat) (IH : ∀ (l : List Stp), l.length ≤ N → l.length ≤ 128 → OneE l → (∀ y ∈ l, y.text.length ≤ 1048576) → ∀ (w : World) (v : Value) (at_ : Nat), StpsIn w v l → at_ + 2 * l.length ≤ 100000 →
      Calls Tryz.prog 36 #[v, .int .i64 at_] w (GavePr w (compR l at_)))
    (g0 g1 : List Stp) (tx : Txt) (nu : Int) (h0 : OneE g0) (h1 : OneE g1) (hcomp : compileL ((g0 ++ g1) ++ [⟨21, tx, nu⟩]) = partC ⟨21, tx, nu⟩ [compileL g0, compileL g1])
    (hN : g0.length + g1.length ≤ N) (hl : g0.length + g1.length + 1 ≤ 128) (ht : ∀ y ∈ (g0 ++ g1) ++ [⟨21, tx, nu⟩], y.text.length ≤ 1048576) (w : World) (v : Value) (at_ : Nat) (h : StpsIn w v ((g0 ++ g1) ++ [⟨21, tx, nu⟩])) (hat : at_ + 2 * (g0.length + g1.length + 1) ≤ 100000) :
    Calls Tryz.prog 36 #[v, .int .i64 at_] w (GavePr w (compR ((g0 ++ g1) ++ [⟨21, tx, nu⟩]) at_)) := by
  have Hres := Lib.hid (compR_logic (s := ⟨21, tx, nu⟩) hcomp (j := 2) (b := 3) (by simp) at_)
  have hlen : ((g0 ++ g1) ++ [(⟨21, tx, nu⟩ : Stp)]).length = g0.length + g1.length + 1 := by simp only [List.length_append, List.length_singleton]
  have hl2 : (g0 ++ g1).length = g0.length + g1.length := List.length_append
  obtain ⟨g, o, c, rfl, hc, hgw⟩ := StpsIn.some h (by rw [hlen]; omega)
  have hhd := StpsIn.head h
  rw [hl2] at hhd
  have Hh := Lib.hid (StpsIn.head hhd)
  have Ht := Lib.hid (StpsIn.tail hhd)
  have Hstart := Lib.hid (fun W (hb : Below w.heap.size w W) => start_calls W _ g0 g1 (hhd.below hb) h1 (by rw [hl2]; omega) (fun y hy => ht y (List.mem_append.2 (.inl hy))))
  have hlast := StpsIn.tail h
  rw [hl2] at hlast
  obtain ⟨a', n', c', e, hn, -, hj⟩ := hlast
  simp only [Value.slice.injEq] at e
  obtain ⟨rfl, rfl, rfl⟩ := e
  obtain ⟨g', o', e, hcl⟩ := hj 0 (by simp)
  simp only [Option.some.injEq, Addr.mk.injEq, and_true] at e
  obtain ⟨rfl, rfl⟩ := e
  obtain ⟨q0, q1, q2⟩ := hcl
  simp only [List.getElem_cons_zero, Nat.zero_mul, Nat.add_zero] at q0 q1 q2
  rw [hlen] at hc ⊢
  have hp0 := one_pos h0
  have hp1 := one_pos h1
  have H0 := Lib.hid (fun W (hb : Below w.heap.size w W) => IH g0 (by omega) (by omega) h0 (fun y hy => ht y (by simp [hy])) W _ at_ (Hh.out.below hb) (by omega))
  have Hc0 := Lib.hid (compR_pos h0 (by omega) at_)
  have hA2 : (compR g0 at_).length ≤ 2 * g0.length := by rw [compR_length]; exact (comp_len h0 (by omega)).2
  generalize hAA : compR g0 at_ = A at *
  have H1 := Lib.hid (show ∀ W, Below w.heap.size w W → Calls Tryz.prog 36 #[.slice (some ⟨g, o + g0.length * 3, none⟩) g1.length (c - g0.length), .int .i64 ((at_ : Int) + (A.length : Int) + 1)] W (GavePr W (compR g1 (at_ + A.length + 1))) from fun W hb => by
    have := IH g1 (by omega) (by omega) h1 (fun y hy => ht y (by simp [hy])) W _ (at_ + A.length + 1) (Ht.out.below hb) (by omega)
    rw [show (((at_ + A.length + 1 : Nat) : Int)) = (at_ : Int) + (A.length : Int) + 1 by omega] at this
    exact this)
  have Hc1 := Lib.hid (compR_pos h1 (by omega) (at_ + A.length + 1))
  have hB2 : (compR g1 (at_ + A.length + 1)).length ≤ 2 * g1.length := by rw [compR_length]; exact (comp_len h1 (by omega)).2
  generalize hBB : compR g1 (at_ + A.length + 1) = B at *
  clear h hj hhd
  generalize g0.length = n0 at *
  generalize g1.length = n1 at *
  go_enter Tryz.func36, Tryz.ntmps36
  go_wp2_with fail
  have Hbx := Lib.hid (rAlloc w (stpO ⟨21, tx, nu⟩))
  have Hsx := Lib.hid (heap_alloc_new w (stpO ⟨21, tx, nu⟩))
  generalize w.alloc (stpO ⟨21, tx, nu⟩) = W1 at *
  refine (Hstart.out _ Hbx.out).mono ?_
  rintro e w2 ⟨rfl, hb2⟩
  have Hb2 := Lib.hid (rStep Hbx.out hb2)
  have Hs2 := Lib.hid ((hb2.block _ (rLt Hsx.out)).trans Hsx.out)
  clear hb2
  go_wp2_with fail
  refine (H0.out _ Hb2.out).mono ?_
  rintro e w3 ⟨va, rfl, hra⟩
  obtain ⟨ga, ca, rfl⟩ := KeptRow.some hra Hc0.out
  have Hra := Lib.hid hra
  have hga := (World.ownsRow.lt hra.own ga rfl).2
  have Hs3 := Lib.hid ((hra.bel.block _ (rLt Hs2.out)).trans Hs2.out)
  clear hra
  go_wp2_with fail
  refine (H1.out _ (rStep Hb2.out Hra.out.bel)).mono ?_
  rintro e w4 ⟨vb, rfl, hrb⟩
  obtain ⟨gb, cb, rfl⟩ := KeptRow.some hrb Hc1.out
  have Hrb := Lib.hid hrb
  have hgb := (World.ownsRow.lt hrb.own gb rfl)
  have Hra4 := Lib.hid (Hra.out.step hrb.bel)
  obtain ⟨⟨k0, k1, k2⟩, -⟩ := threeR ((hrb.bel.block _ (rLt Hs3.out)).trans Hs3.out)
  clear hrb
  have hne : ga ≠ gb := by omega
  go_wp2_with (first | (at_builtin; refine wpList_moreG rfl _ _ 63 23 rfl Tryz.underlying23 _ 5 48 insInfo rfl (by decide) w2 (.slice (some ⟨ga, 0, none⟩) A.length ca) A.length (insC A) rfl _ rfl (Ins.cells ⟨2, stp0, (at_ : Int) + (A.length : Int) + (B.length : Int) + 2⟩) rfl (ins_one _) Hra4.out rfl (by unfold maxLen; omega) (by omega) ?_; intro a5 n5 c5 w5 hn5 h5 hg5; have Hn5 := Lib.hid hn5.out; have H5 := Lib.hid h5; have Hb5 := Lib.hid (kept_other Hrb.out.own (rAlloc w4 _) hg5.out hne hgb.2); clear hn5 h5 hg5) | (at_builtin; refine wpList_cat rfl _ _ 63 23 rfl Tryz.underlying23 _ 5 48 insInfo rfl (by decide) w2 (.slice a5 n5 c5) n5 _ rfl gb B.length cb rfl _ (insC B) Hb5.out (insC_one B) H5.out (by rw [Hn5.out]; unfold maxLen; omega) (by rw [Hn5.out]; omega) ?_; intro a6 n6 c6 w6 hn6 h6; have Hn6 := Lib.hid hn6.out; have H6 := Lib.hid h6; clear hn6 h6) | (at_builtin; refine wpList_more rfl _ _ 63 23 rfl Tryz.underlying23 _ 5 48 insInfo rfl (by decide) w2 (.slice a6 n6 c6) n6 _ rfl _ rfl (Ins.cells (ins0 3)) rfl (ins_one _) H6.out rfl (by rw [Hn6.out, Hn5.out]; unfold maxLen; omega) (by rw [Hn6.out, Hn5.out]; omega) ?_; intro a7 n7 c7 w7 hn7 h7; have Hn7 := Lib.hid hn7.out; have H7 := Lib.hid h7; clear hn7 h7))
  go_ret
  refine ⟨_, rfl, ?_⟩
  have hres := Hres.out
  rw [show (((at_ + A.length + B.length + 2 : Nat) : Int)) = (at_ : Int) + (A.length : Int) + (B.length : Int) + 2 by omega] at hres
  have hn : (compR ((g0 ++ g1) ++ [⟨21, tx, nu⟩]) at_).length = n7 := by
    rw [hres]
    simp only [List.length_append, List.length_singleton]
    have := Hn5.out
    have := Hn6.out
    have := Hn7.out
    omega
  rw [hn, hres, insC_snoc, insC_app, insC_snoc]
  exact KeptRow.lower H7.out Hb2.out

set_option maxHeartbeats 1000000 in
set_option maxRecDepth 100000 in
theorem compiled_or (N : Nat) (IH : ∀ (l : List Stp), l.length ≤ N → l.length ≤ 128 → OneE l → (∀ y ∈ l, y.text.length ≤ 1048576) → ∀ (w : World) (v : Value) (at_ : Nat), StpsIn w v l → at_ + 2 * l.length ≤ 100000 →
      Calls Tryz.prog 36 #[v, .int .i64 at_] w (GavePr w (compR l at_)))
    (g0 g1 : List Stp) (tx : Txt) (nu : Int) (h0 : OneE g0) (h1 : OneE g1) (hcomp : compileL ((g0 ++ g1) ++ [⟨22, tx, nu⟩]) = partC ⟨22, tx, nu⟩ [compileL g0, compileL g1])
    (hN : g0.length + g1.length ≤ N) (hl : g0.length + g1.length + 1 ≤ 128) (ht : ∀ y ∈ (g0 ++ g1) ++ [⟨22, tx, nu⟩], y.text.length ≤ 1048576) (w : World) (v : Value) (at_ : Nat) (h : StpsIn w v ((g0 ++ g1) ++ [⟨22, tx, nu⟩])) (hat : at_ + 2 * (g0.length + g1.length + 1) ≤ 100000) :
    Calls Tryz.prog 36 #[v, .int .i64 at_] w (GavePr w (compR ((g0 ++ g1) ++ [⟨22, tx, nu⟩]) at_)) := by
  have Hres := Lib.hid (compR_logic (s := ⟨22, tx, nu⟩) hcomp (j := 4) (b := 5) (by simp) at_)
  have hlen : ((g0 ++ g1) ++ [(⟨22, tx, nu⟩ : Stp)]).length = g0.length + g1.length + 1 := by simp only [List.length_append, List.length_singleton]
  have hl2 : (g0 ++ g1).length = g0.length + g1.length := List.length_append
  obtain ⟨g, o, c, rfl, hc, hgw⟩ := StpsIn.some h (by rw [hlen]; omega)
  have hhd := StpsIn.head h
  rw [hl2] at hhd
  have Hh := Lib.hid (StpsIn.head hhd)
  have Ht := Lib.hid (StpsIn.tail hhd)
  have Hstart := Lib.hid (fun W (hb : Below w.heap.size w W) => start_calls W _ g0 g1 (hhd.below hb) h1 (by rw [hl2]; omega) (fun y hy => ht y (List.mem_append.2 (.inl hy))))
  have hlast := StpsIn.tail h
  rw [hl2] at hlast
  obtain ⟨a', n', c', e, hn, -, hj⟩ := hlast
  simp only [Value.slice.injEq] at e
  obtain ⟨rfl, rfl, rfl⟩ := e
  obtain ⟨g', o', e, hcl⟩ := hj 0 (by simp)
  simp only [Option.some.injEq, Addr.mk.injEq, and_true] at e
  obtain ⟨rfl, rfl⟩ := e
  obtain ⟨q0, q1, q2⟩ := hcl
  simp only [List.getElem_cons_zero, Nat.zero_mul, Nat.add_zero] at q0 q1 q2
  rw [hlen] at hc ⊢
  have hp0 := one_pos h0
  have hp1 := one_pos h1
  have H0 := Lib.hid (fun W (hb : Below w.heap.size w W) => IH g0 (by omega) (by omega) h0 (fun y hy => ht y (by simp [hy])) W _ at_ (Hh.out.below hb) (by omega))
  have Hc0 := Lib.hid (compR_pos h0 (by omega) at_)
  have hA2 : (compR g0 at_).length ≤ 2 * g0.length := by rw [compR_length]; exact (comp_len h0 (by omega)).2
  generalize hAA : compR g0 at_ = A at *
  have H1 := Lib.hid (show ∀ W, Below w.heap.size w W → Calls Tryz.prog 36 #[.slice (some ⟨g, o + g0.length * 3, none⟩) g1.length (c - g0.length), .int .i64 ((at_ : Int) + (A.length : Int) + 1)] W (GavePr W (compR g1 (at_ + A.length + 1))) from fun W hb => by
    have := IH g1 (by omega) (by omega) h1 (fun y hy => ht y (by simp [hy])) W _ (at_ + A.length + 1) (Ht.out.below hb) (by omega)
    rw [show (((at_ + A.length + 1 : Nat) : Int)) = (at_ : Int) + (A.length : Int) + 1 by omega] at this
    exact this)
  have Hc1 := Lib.hid (compR_pos h1 (by omega) (at_ + A.length + 1))
  have hB2 : (compR g1 (at_ + A.length + 1)).length ≤ 2 * g1.length := by rw [compR_length]; exact (comp_len h1 (by omega)).2
  generalize hBB : compR g1 (at_ + A.length + 1) = B at *
  clear h hj hhd
  generalize g0.length = n0 at *
  generalize g1.length = n1 at *
  go_enter Tryz.func36, Tryz.ntmps36
  go_wp2_with fail
  have Hbx := Lib.hid (rAlloc w (stpO ⟨22, tx, nu⟩))
  have Hsx := Lib.hid (heap_alloc_new w (stpO ⟨22, tx, nu⟩))
  generalize w.alloc (stpO ⟨22, tx, nu⟩) = W1 at *
  refine (Hstart.out _ Hbx.out).mono ?_
  rintro e w2 ⟨rfl, hb2⟩
  have Hb2 := Lib.hid (rStep Hbx.out hb2)
  have Hs2 := Lib.hid ((hb2.block _ (rLt Hsx.out)).trans Hsx.out)
  clear hb2
  go_wp2_with fail
  refine (H0.out _ Hb2.out).mono ?_
  rintro e w3 ⟨va, rfl, hra⟩
  obtain ⟨ga, ca, rfl⟩ := KeptRow.some hra Hc0.out
  have Hra := Lib.hid hra
  have hga := (World.ownsRow.lt hra.own ga rfl).2
  have Hs3 := Lib.hid ((hra.bel.block _ (rLt Hs2.out)).trans Hs2.out)
  clear hra
  go_wp2_with fail
  refine (H1.out _ (rStep Hb2.out Hra.out.bel)).mono ?_
  rintro e w4 ⟨vb, rfl, hrb⟩
  obtain ⟨gb, cb, rfl⟩ := KeptRow.some hrb Hc1.out
  have Hrb := Lib.hid hrb
  have hgb := (World.ownsRow.lt hrb.own gb rfl)
  have Hra4 := Lib.hid (Hra.out.step hrb.bel)
  obtain ⟨⟨k0, k1, k2⟩, -⟩ := threeR ((hrb.bel.block _ (rLt Hs3.out)).trans Hs3.out)
  clear hrb
  have hne : ga ≠ gb := by omega
  go_wp2_with (first | (at_builtin; refine wpList_moreG rfl _ _ 63 23 rfl Tryz.underlying23 _ 5 48 insInfo rfl (by decide) w2 (.slice (some ⟨ga, 0, none⟩) A.length ca) A.length (insC A) rfl _ rfl (Ins.cells ⟨4, stp0, (at_ : Int) + (A.length : Int) + (B.length : Int) + 2⟩) rfl (ins_one _) Hra4.out rfl (by unfold maxLen; omega) (by omega) ?_; intro a5 n5 c5 w5 hn5 h5 hg5; have Hn5 := Lib.hid hn5.out; have H5 := Lib.hid h5; have Hb5 := Lib.hid (kept_other Hrb.out.own (rAlloc w4 _) hg5.out hne hgb.2); clear hn5 h5 hg5) | (at_builtin; refine wpList_cat rfl _ _ 63 23 rfl Tryz.underlying23 _ 5 48 insInfo rfl (by decide) w2 (.slice a5 n5 c5) n5 _ rfl gb B.length cb rfl _ (insC B) Hb5.out (insC_one B) H5.out (by rw [Hn5.out]; unfold maxLen; omega) (by rw [Hn5.out]; omega) ?_; intro a6 n6 c6 w6 hn6 h6; have Hn6 := Lib.hid hn6.out; have H6 := Lib.hid h6; clear hn6 h6) | (at_builtin; refine wpList_more rfl _ _ 63 23 rfl Tryz.underlying23 _ 5 48 insInfo rfl (by decide) w2 (.slice a6 n6 c6) n6 _ rfl _ rfl (Ins.cells (ins0 5)) rfl (ins_one _) H6.out rfl (by rw [Hn6.out, Hn5.out]; unfold maxLen; omega) (by rw [Hn6.out, Hn5.out]; omega) ?_; intro a7 n7 c7 w7 hn7 h7; have Hn7 := Lib.hid hn7.out; have H7 := Lib.hid h7; clear hn7 h7))
  go_ret
  refine ⟨_, rfl, ?_⟩
  have hres := Hres.out
  rw [show (((at_ + A.length + B.length + 2 : Nat) : Int)) = (at_ : Int) + (A.length : Int) + (B.length : Int) + 2 by omega] at hres
  have hn : (compR ((g0 ++ g1) ++ [⟨22, tx, nu⟩]) at_).length = n7 := by
    rw [hres]
    simp only [List.length_append, List.length_singleton]
    have := Hn5.out
    have := Hn6.out
    have := Hn7.out
    omega
  rw [hn, hres, insC_snoc, insC_app, insC_snoc]
  exact KeptRow.lower H7.out Hb2.out

set_option maxHeartbeats 1000000 in
theorem compiled_calls : ∀ (N : Nat) (l : List Stp), l.length ≤ N → l.length ≤ 128 → OneE l → (∀ y ∈ l, y.text.length ≤ 1048576) → ∀ (w : World) (v : Value) (at_ : Nat), StpsIn w v l → at_ + 2 * l.length ≤ 100000 →
      Calls Tryz.prog 36 #[v, .int .i64 at_] w (GavePr w (compR l at_))
  | 0, l, hN, _, hO, _, _, _, _, _, _ => absurd (one_pos hO) (by omega)
  | N + 1, l, hN, h128, hO, ht, w, v, at_, h, hat => by
    obtain ⟨segs, s, k, htk, hk, hlf, hone, hcomp⟩ := one_parts hO
    subst hlf hk
    have hlen : (segs.flatten ++ [s]).length = segs.flatten.length + 1 := by simp
    by_cases hlog : s.kind = 21 ∨ s.kind = 22
    · have h2 := takes_logic htk hlog
      obtain ⟨g0, g1, rfl⟩ : ∃ g0 g1, segs = [g0, g1] := by
        match segs, h2 with
        | [a, b], _ => exact ⟨a, b, rfl⟩
      simp only [List.flatten_cons, List.flatten_nil, List.append_nil, List.map_cons, List.map_nil] at hN h128 hO ht h hat hcomp hlen
      rw [hlen] at hN h128 hat
      rw [List.length_append] at hN h128 hat
      simp only [List.flatten_cons, List.flatten_nil, List.append_nil]
      obtain ⟨kd, tx, nu⟩ := s
      simp only at hlog
      rcases hlog with rfl | rfl
      · exact compiled_and N (compiled_calls N) g0 g1 tx nu (hone _ (by simp)) (hone _ (by simp)) hcomp (by omega) (by omega) ht w v at_ h (by omega)
      · exact compiled_or N (compiled_calls N) g0 g1 tx nu (hone _ (by simp)) (hone _ (by simp)) hcomp (by omega) (by omega) ht w v at_ h (by omega)
    · exact compiled_step N (compiled_calls N) segs s htk hone hcomp (fun e => hlog (.inl e)) (fun e => hlog (.inr e)) (by omega) h128 ht w v at_ h hat

set_option maxHeartbeats 1000000 in
set_option maxRecDepth 100000 in
theorem CompileR_calls (w : World) (v : Value) (l : List Stp) (h : StpsIn w v l) (hl : l.length ≤ 1048576) (ht : ∀ y ∈ l, y.text.length ≤ 1048576) :
    Calls Tryz.prog 8 #[v] w fun e w' => if rightB l then ∃ v', e = .returned (.tuple #[v', .int .i64 0]) ∧ KeptRow w w' 63 5 v' (compileL l).length (insC (compileL l)) else e = .returned (.tuple #[.slice none 0 0, .int .i64 13]) ∧ Below w.heap.size w w' := by
  have HR := Lib.hid (RightR_calls w v l h hl ht)
  have Hin := Lib.hid h
  cases hr : rightB l
  · rw [hr] at HR
    simp only [Bool.false_eq_true, if_false]
    go_enter Tryz.func8, Tryz.ntmps8
    go_wp2_with fail
    refine HR.out.mono ?_
    rintro e w1 ⟨rfl, hb1⟩
    have Hb1 := Lib.hid hb1
    clear hb1
    go_wp2_with fail
    go_ret2
    exact ⟨rfl, Hb1.out⟩
  · rw [hr] at HR
    have hri := (right_iff l).1 hr
    have e0 : compR l 0 = compileL l := by
      unfold compR
      rw [show shift 0 = id from funext shift_zero, List.map_id]
    have HC := Lib.hid (fun W (hb : Below w.heap.size w W) => compiled_calls _ l (Nat.le_refl _) hri.2 hri.1 ht W v 0 (Hin.out.below hb) (by omega))
    rw [e0] at HC
    simp only [if_true]
    clear h hr
    go_enter Tryz.func8, Tryz.ntmps8
    go_wp2_with fail
    refine HR.out.mono ?_
    rintro e w1 ⟨rfl, hb1⟩
    have Hb1 := Lib.hid hb1
    clear hb1
    go_wp2_with fail
    refine (HC.out _ Hb1.out).mono ?_
    rintro e w2 ⟨v2, rfl, hrow⟩
    have Hrow := Lib.hid hrow
    clear hrow
    go_wp2_with fail
    go_ret2
    exact ⟨_, rfl, KeptRow.lower Hrow.out Hb1.out⟩

end Go.Proofs.YtcjmhmmjfgjcnaaGreatDoor.Cd

/- Programs as bytes: there and back. Plain. -/
namespace Go.Proofs.YtcjmhmmjfgjcnaaGreatDoor.Cd
open Go.Proofs.YtcjmhmmjfgjcnaaGreatDoor.Lx Go.Proofs.YtcjmhmmjfgjcnaaGreatDoor.Pa

/-! ### numbers -/
/-- a number's bytes, at most f behind the first one -/
def numB : Nat → Nat → Txt
  | 0, n => [UInt8.ofNat n]
  | f + 1, n => if 127 < n then UInt8.ofNat (n % 128 + 128) :: numB f (n / 128) else [UInt8.ofNat n]
def numT (n : Nat) : Txt := numB 9 n
theorem numB_length : ∀ f n, 1 ≤ (numB f n).length ∧ (numB f n).length ≤ f + 1
  | 0, n => by simp [numB]
  | f + 1, n => by
    unfold numB
    split
    · have := numB_length f (n / 128)
      simp only [List.length_cons]
      omega
    · simp
theorem byte_toNat {n : Nat} (h : n < 256) : (UInt8.ofNat n).toNat = n := by
  rw [UInt8.toNat_ofNat']
  exact Nat.mod_eq_of_lt h
theorem pow_step (i : Nat) : 128 ^ (i + 1) = 128 * 128 ^ i := by rw [Nat.pow_succ, Nat.mul_comm]
theorem pow9 : 2 * 128 ^ 9 = 18446744073709551616 := by simp
/-! ### texts -/
def u64 (n : Int) : Nat := (n % 18446744073709551616).toNat
def i64 (n : Nat) : Int := if n < 9223372036854775808 then n else (n : Int) - 18446744073709551616
def textI (x : Ins) : Txt := UInt8.ofNat x.op :: (
  if x.op = 1 then UInt8.ofNat x.st.kind :: (numT (u64 x.st.num) ++ (numT x.st.text.length ++ x.st.text))
  else if x.op = 2 ∨ x.op = 4 then numT (u64 x.to) else [])
def textL (p : List Ins) : Txt := p.flatMap textI
/-- a cursor over bytes -/
structure Cu where
  left : Txt
  bad : Bool
  deriving DecidableEq, Repr
def Cu.take (c : Cu) (n : Nat) : Txt × Cu := if c.bad = true ∨ c.left.length < n then ([], ⟨c.left, true⟩) else (c.left.take n, ⟨c.left.drop n, false⟩)
/-- an instruction that a right program may have -/
structure InsOk (x : Ins) : Prop where
  op : x.op = 1 ∨ x.op = 2 ∨ x.op = 3 ∨ x.op = 4 ∨ x.op = 5
  step : x.op = 1 → x.to = 0 ∧ x.st.kind < 23 ∧ 0 ≤ x.st.num ∧ ∃ k, takes x.st = some k
  jump : x.op = 2 ∨ x.op = 4 → x.st = stp0 ∧ 0 < x.to ∧ x.to ≤ 256
  bare : x.op = 3 ∨ x.op = 5 → x.st = stp0 ∧ x.to = 0
theorem takes_num {s : Stp} {k : Nat} (h : takes s = some k) : 0 ≤ s.num := by
  unfold takes at h
  repeat' split at h
  all_goals first | (cases h; done) | omega
theorem stepK_ok {N i : Nat} {x : Ins} {hs hs' : Hts} (hN : N ≤ 256) (h : stepK N i x hs = some hs') : InsOk x := by
  unfold stepK at h
  split at h
  · cases h
  · split at h
    · rename_i h1
      split at h
      · cases h
      · rename_i k ht
        split at h
        · rename_i hc
          exact ⟨.inl h1, fun _ => ⟨hc.2.1, (takes_kind ht).2, takes_num ht, k, ht⟩, fun h' => by omega, fun h' => by omega⟩
        · cases h
    · split at h
      · rename_i h1 h2
        split at h
        · rename_i h3
          cases hc : hs.come x.to.toNat _ with
          | none => rw [hc] at h; cases h
          | some h4 =>
            rw [hc, Option.bind_some] at h
            split at h
            · rename_i h5
              exact ⟨by omega, fun h' => by omega, fun _ => ⟨h5.1, by omega, by omega⟩, fun h' => by omega⟩
            · cases h
        · cases h
      · split at h
        · rename_i h1 h2 h3
          split at h
          · rename_i h4
            exact ⟨by omega, fun h' => by omega, fun h' => by omega, fun _ => ⟨h4.1, h4.2.1⟩⟩
          · cases h
        · split at h
          · rename_i h1 h2 h3 h4
            split at h
            · rename_i h5
              exact ⟨by omega, fun h' => by omega, fun h' => by omega, fun _ => ⟨h5.1, h5.2.1⟩⟩
            · cases h
          · cases h
theorem runK_ok {N : Nat} (hN : N ≤ 256) : ∀ (p : List Ins) (i : Nat) (hs hs' : Hts), runK N i p hs = some hs' → ∀ x ∈ p, InsOk x
  | [], _, _, _, _ => fun _ h => (nomatch h)
  | y :: p, i, hs, hs', h => by
    rw [runK] at h
    cases hc : stepK N i y hs with
    | none => rw [hc] at h; cases h
    | some h1 =>
      rw [hc, Option.bind_some] at h
      intro x hx
      rcases List.mem_cons.1 hx with rfl | hx
      · exact stepK_ok hN hc
      · exact runK_ok hN p _ _ _ h x hx
theorem check_ok {p : List Ins} (h : checkI p = true) : (∀ x ∈ p, InsOk x) ∧ 1 ≤ p.length ∧ p.length ≤ 256 := by
  unfold checkI at h
  rw [Bool.and_eq_true, decide_eq_true_eq] at h
  refine ⟨?_, h.1⟩
  cases hr : runK p.length 0 p hs0 with
  | none => rw [hr] at h; cases h.2
  | some hs => exact runK_ok h.1.2 p 0 _ _ hr
theorem u64_small {n : Int} (h0 : 0 ≤ n) (h : n < 9223372036854775808) : u64 n = n.toNat := by unfold u64; rw [Int.emod_eq_of_lt h0 (by omega)]
theorem text_pos (x : Ins) : 1 ≤ (textI x).length := by unfold textI; simp
end Go.Proofs.YtcjmhmmjfgjcnaaGreatDoor.Cd

/- bin: Number. -/
namespace Go.Proofs.YtcjmhmmjfgjcnaaGreatDoor.Cd
open Go.RowKit Go.Proofs.YtcjmhmmjfgjcnaaGreatDoor.Lx Go.Proofs.YtcjmhmmjfgjcnaaGreatDoor.Pa

/-! ### rows of bytes -/
def bytesC (l : List UInt8) : List Value := l.map fun b => Value.int .u8 b.toNat
theorem bytesC_snoc (l : List UInt8) (b : UInt8) : bytesC (l ++ [b]) = bytesC l ++ [.int .u8 b.toNat] := by simp [bytesC]
def OwnB (w : World) (base : Nat) (v : Value) (l : List UInt8) : Prop := w.ownsRow base 5 1 v l.length (bytesC l)
theorem OwnB.nil (w : World) (base : Nat) : OwnB w base (.slice none 0 0) [] := World.ownsRow_nil _ _ _ _
theorem OwnB.form {w : World} {base : Nat} {v : Value} {l : List UInt8} (h : OwnB w base v l) : ∃ a c, v = .slice a l.length c := ownForm h
theorem OwnB.at {w : World} {base : Nat} {v : Value} {l : List UInt8} (h : OwnB w base v l) (hne : l ≠ []) : ∃ g c, v = .slice (some ⟨g, 0, none⟩) l.length c ∧ BytesAt w g l ∧ base ≤ g ∧ g < w.heap.size := by
  rcases h.2 with ⟨rfl, h0⟩ | ⟨g, cap, cur, e, h1, h2, h3, h4, h5, h6⟩
  · exact absurd (List.eq_nil_of_length_eq_zero h0) hne
  · subst e
    refine ⟨g, cap, rfl, fun j hj => ⟨?_, ?_⟩, h1, ltH h2⟩
    · rw [World.ownsRow.cellAt h j (by omega)]
      simp [bytesC, List.getElem?_eq_getElem hj]
    · simp [World.frozen?, h2]
theorem u8Info : (Tryz.prog.info? 5).map (fun i => (i.zero, i.size, i.bytes)) = some (some (.int .u8 0), 1, 1) := by kernel_rfl
theorem or128 (n : Nat) : bits .or .u8 ((n : Int) % 256) 128 = (((UInt8.ofNat (n % 128 + 128)).toNat : Nat) : Int) := by
  rw [show (n : Int) % 256 = ((n % 256 : Nat) : Int) by omega]
  rw [show (128 : Int) = ((128 : Nat) : Int) from rfl, u8_or_nat _ _ (Nat.mod_lt _ (by decide)) (by decide), byte_toNat (by omega)]
  have h : ∀ x, x < 256 → x ||| 128 = x % 128 + 128 := by decide +kernel
  rw [h _ (Nat.mod_lt _ (by decide))]
  congr 1
  omega

/-- the buffer in memory -/
structure BufM (w0 w : World) (B : Nat) (v : Value) (l : List UInt8) : Prop where
  blk : w.heap[B]? = some (.cells #[v] 163)
  own : OwnB w (B + 1) v l
  bel : Below w0.heap.size w0 w
  low : w0.heap.size ≤ B
theorem BufM.step {w0 w w' : World} {B : Nat} {v : Value} {l : List UInt8} (h : BufM w0 w B v l) (hb : Below w.heap.size w w') : BufM w0 w' B v l :=
  ⟨(hb.block _ (ltH h.blk)).trans h.blk, ownSame h.own fun g _ hg => hb.block g hg, stepH h.bel hb, h.low⟩
theorem oneB {w : World} {B : Nat} {a : Value} {T : TypeId} (h : w.heap[B]? = some (.cells #[a] T)) : w.cell? ⟨B, 0, none⟩ = some a ∧ w.frozen? ⟨B, 0, none⟩ = false := by
  simp [World.cell?, World.frozen?, h]
/-- a byte more, stored -/
theorem BufM.more {w0 w w1 : World} {B n : Nat} {v v1 : Value} {l : List UInt8} {b : UInt8} {cs : List Value} (h : BufM w0 w B v l) (hown : w1.ownsRow (B + 1) 5 1 v1 n cs) (hg : w.grownBy w1 v.ownBlock) (hn : n = l.length + 1) (hc : cs = bytesC l ++ [.int .u8 b.toNat]) :
    BufM w0 (w1.setCell ⟨B, 0, none⟩ v1) B v1 (l ++ [b]) := by
  have hlt : ∀ g, v.ownBlock = some g → B + 1 ≤ g := fun g e => (World.ownsRow.lt h.own g e).1
  have hlt1 : ∀ g, v1.ownBlock = some g → B + 1 ≤ g := fun g e => (World.ownsRow.lt hown g e).1
  have hB1 : w1.heap[B]? = some (.cells #[v] 163) := (hg.block B (ltH h.blk) fun e => by have := hlt B e.symm; omega).trans h.blk
  have hlow := h.low
  have hb1 : Below w0.heap.size w0 w1 := h.bel.grown hg h.bel.size fun g e => by have := hlt g e; omega
  refine ⟨?_, ?_, hb1.setCell hlow _, hlow⟩
  · simp only [World.setCell, Array.getElem?_modify, if_true, hB1, Option.map_some]
    rfl
  · unfold OwnB
    rw [bytesC_snoc, ← hc, List.length_append, List.length_singleton, ← hn]
    exact ownSame hown fun g hg' _ => Below.heap_setCell _ _ _ _ (fun (e : g = B) => by have := hlt1 g hg'; omega)

set_option maxHeartbeats 1000000 in
set_option maxRecDepth 100000 in
theorem number_calls (w0 w : World) (B : Nat) (v : Value) (n : Nat) (h : BufM w0 w B v []) (hn : n < 18446744073709551616) :
    Calls Tryz.prog 118 #[.pointer (some ⟨B, 0, none⟩), .int .u64 n] w fun e w' => e = .returned (.tuple #[]) ∧ ∃ v', BufM w0 w' B v' (numT n) := by
  have HB := Lib.hid h
  obtain ⟨i0, hi0, hz0, hz1, hz2⟩ := info_parts u8Info
  have Hi0 := Lib.hid hi0
  have Hz0 := Lib.hid hz0
  have Hz1 := Lib.hid hz1
  have Hz2 := Lib.hid hz2
  clear hi0 hz0 hz1 hz2 h
  go_enter Tryz.func118, Tryz.ntmps118
  go_wp2_with fail
  go_loopw [1] (fun s1 wr => ∃ (m f : Nat) (l : List UInt8) (v' : Value), s1 = .int .u64 m ∧ f ≤ 9 ∧ m < 2 * 128 ^ f ∧ m < 18446744073709551616 ∧ l.length + f = 9 ∧ Hid (l ++ numB f m = numT n ∧ BufM w0 wr B v' l)) (fun s1 _ => (intOf s1).toNat)
  case atStart => exact ⟨n, 9, [], v, rfl, Nat.le_refl _, by rw [pow9]; exact hn, hn, rfl, rfl, HB.out⟩
  case round =>
    obtain ⟨m, f, l, v', rfl, hf, hm, hm2, hlf, hst⟩ := hrel
    have Hst := Lib.hid hst.out
    obtain ⟨k0, f0⟩ := oneB hst.out.2.blk
    have hB := ltH hst.out.2.blk
    obtain ⟨av, cv, rfl⟩ := hst.out.2.own.form
    by_cases hgt : 127 < m
    · obtain ⟨f, rfl⟩ : ∃ f', f = f' + 1 := by
        cases f with
        | zero => simp at hm; omega
        | succ f' => exact ⟨f', rfl⟩
      have Hnum := Lib.hid (show numB (f + 1) m = UInt8.ofNat (m % 128 + 128) :: numB f (m / 128) by rw [numB, if_pos hgt])
      have hgt2 : (127 : Int) < m := by omega
      have Hor := Lib.hid (or128 m)
      have Hpow := Lib.hid (show m / 128 < 2 * 128 ^ f by rw [pow_step] at hm; omega)
      clear hst hm
      have Hst1 := Lib.hid (Hst.out.2.step (allocB wr (.cells #[.int .u8 (bits .or .u8 ((m : Int) % 256) 128)] 5)))
      have Hown := Lib.hid (show (wr.alloc (.cells #[.int .u8 (bits .or .u8 ((m : Int) % 256) 128)] 5)).ownsRow (B + 1) 5 1 (.slice av l.length cv) l.length (bytesC l) from Hst1.out.own)
      have hB1 := Hst1.out.blk
      have hBlt := fun e : some B = (Value.slice av l.length cv).ownBlock => (by have := (World.ownsRow.lt Hown.out B e.symm).1; omega : False)
      have HB1 := Lib.hid (And.intro hB1 hBlt)
      clear hB1 hBlt
      have Hbase := Lib.hid (show B + 1 ≤ (wr.alloc (.cells #[.int .u8 (bits .or .u8 ((m : Int) % 256) 128)] 5)).heap.size from by have := (allocB wr (.cells #[.int .u8 (bits .or .u8 ((m : Int) % 256) 128)] 5)).size; omega)
      have Hnews := Lib.hid (cell_one_new wr (.int .u8 (bits .or .u8 ((m : Int) % 256) 128)) 5)
      have Hone := Lib.hid (show ∀ u ∈ [(.int .u8 (bits .or .u8 ((m : Int) % 256) 128) : Value)], u.oneCell' = true from by intro u hu; rw [List.mem_singleton] at hu; subst hu; rfl)
      have Hlt := Lib.hid (show l.length + 1 ≤ maxLen ∧ (l.length + 1) * 1 ≤ 140737488355328 from by unfold maxLen; omega)
      go_wp2_with (at_builtin; go_must (refine wpList_append_own_at _ rfl _ _ 104 rfl (B + 1) 5 i0 _ 1 1 Tryz.underlying104 Hi0.out Hz0.out Hz1.out Hz2.out rfl (by decide) (.slice av l.length cv) l.length (bytesC l) rfl Hown.out ⟨wr.heap.size, 0, none⟩ 1 1 [.int .u8 (bits .or .u8 ((m : Int) % 256) 128)] rfl rfl Hnews.out Hone.out Hlt.out.1 Hlt.out.2 Hbase.out ?_); intro v7 w7 hown7 hg7 _ hat7; have hB7 := oneB ((hg7.block B (ltH HB1.out.1) (fun e => HB1.out.2 e)).trans HB1.out.1); obtain ⟨k7, f7⟩ := hB7; clear hat7; obtain ⟨a7, c7, rfl⟩ := ownForm hown7)
      have HM7 := Lib.hid (Hst1.out.more (b := (UInt8.ofNat (m % 128 + 128))) hown7 hg7 rfl (by rw [← Hor.out]))
      clear hown7 hg7
      go_roundw
      case rel => exact ⟨m / 128, f, l ++ [UInt8.ofNat (m % 128 + 128)], _, by go_num, by omega, Hpow.out, by omega, by rw [List.length_append, List.length_singleton]; omega, by rw [List.append_assoc, ← Hst.out.1, Hnum.out]; rfl, HM7.out⟩
      case measure => simp [intOf]; omega
    · have Hnum := Lib.hid (show numB f m = [UInt8.ofNat m] by
        cases f with
        | zero => rfl
        | succ f' => rw [numB, if_neg hgt])
      have hgt2 : ¬ (127 : Int) < m := by omega
      have Hor := Lib.hid (show (m : Int) = (((UInt8.ofNat m).toNat : Nat) : Int) by rw [byte_toNat (by omega)])
      clear hst hm
      have Hst1 := Lib.hid (Hst.out.2.step (allocB wr (.cells #[.int .u8 (m : Int)] 5)))
      have Hown := Lib.hid (show (wr.alloc (.cells #[.int .u8 (m : Int)] 5)).ownsRow (B + 1) 5 1 (.slice av l.length cv) l.length (bytesC l) from Hst1.out.own)
      have hB1 := Hst1.out.blk
      have hBlt := fun e : some B = (Value.slice av l.length cv).ownBlock => (by have := (World.ownsRow.lt Hown.out B e.symm).1; omega : False)
      have HB1 := Lib.hid (And.intro hB1 hBlt)
      clear hB1 hBlt
      have Hbase := Lib.hid (show B + 1 ≤ (wr.alloc (.cells #[.int .u8 (m : Int)] 5)).heap.size from by have := (allocB wr (.cells #[.int .u8 (m : Int)] 5)).size; omega)
      have Hnews := Lib.hid (cell_one_new wr (.int .u8 (m : Int)) 5)
      have Hone := Lib.hid (show ∀ u ∈ [(.int .u8 (m : Int) : Value)], u.oneCell' = true from by intro u hu; rw [List.mem_singleton] at hu; subst hu; rfl)
      have Hlt := Lib.hid (show l.length + 1 ≤ maxLen ∧ (l.length + 1) * 1 ≤ 140737488355328 from by unfold maxLen; omega)
      go_wp2_with (at_builtin; go_must (refine wpList_append_own_at _ rfl _ _ 104 rfl (B + 1) 5 i0 _ 1 1 Tryz.underlying104 Hi0.out Hz0.out Hz1.out Hz2.out rfl (by decide) (.slice av l.length cv) l.length (bytesC l) rfl Hown.out ⟨wr.heap.size, 0, none⟩ 1 1 [.int .u8 (m : Int)] rfl rfl Hnews.out Hone.out Hlt.out.1 Hlt.out.2 Hbase.out ?_); intro v7 w7 hown7 hg7 _ hat7; have hB7 := oneB ((hg7.block B (ltH HB1.out.1) (fun e => HB1.out.2 e)).trans HB1.out.1); obtain ⟨k7, f7⟩ := hB7; clear hat7; obtain ⟨a7, c7, rfl⟩ := ownForm hown7)
      have HM7 := Lib.hid (Hst1.out.more (b := (UInt8.ofNat m)) hown7 hg7 rfl (by rw [← Hor.out]))
      clear hown7 hg7
      go_end0
      exact ⟨rfl, _, by rw [← Hst.out.1, Hnum.out]; exact HM7.out⟩

end Go.Proofs.YtcjmhmmjfgjcnaaGreatDoor.Cd
