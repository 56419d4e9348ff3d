/- Parts: QbC LxT PdZ PdF. -/
import Derived.Test.YtgehjklodphogaaGreatDoorMh01
import Derived.WalkKit
import Derived.ProofKit
import Derived.OpenShut
import Derived.Deep.DeepHandedRow
import Derived.Deep.DeepWitnessRowRef
import Derived.Carry
import Derived.SevenTiedAt
import Derived.Lay
import Derived.Lib.LaidU8T
import Derived.PinnedBridge
import Derived.MakeChecks
import Derived.Shelf.Vars
import Derived.Test.YtgehjklodphogaaGreatDoorRows
import Derived.Test.YtgehjklodphogaaGreatDoorCards
import Derived.Test.YtgehjklodphogaaGreatDoorTie
import Derived.Deep.Slices
import Derived.Deep.Strs

/- Instructions behind a row of one's own; CodeShort: the walk. -/
namespace Go.Proofs.YtgehjklodphogaaGreatDoor.Cd
open Go.RowKit Go.Proofs.YtgehjklodphogaaGreatDoor.Lx Go.Proofs.YtgehjklodphogaaGreatDoor.Pa

/-- what is asked of the last instruction, question by question -/
theorem shape (x : Ins) :
    (((x.op : Int) == 1) = false ∧ takesOne x = false) ∨
    (((x.op : Int) == 1) = true ∧ ((x.st.kind : Int) == 9) = true ∧ takesOne x = true) ∨
    (((x.op : Int) == 1) = true ∧ ((x.st.kind : Int) == 9) = false ∧ ((x.st.kind : Int) == 10) = true ∧ takesOne x = true) ∨
    (((x.op : Int) == 1) = true ∧ ((x.st.kind : Int) == 9) = false ∧ ((x.st.kind : Int) == 10) = false ∧ ((x.st.kind : Int) == 11) = true ∧ takesOne x = true) ∨
    (((x.op : Int) == 1) = true ∧ ((x.st.kind : Int) == 9) = false ∧ ((x.st.kind : Int) == 10) = false ∧ ((x.st.kind : Int) == 11) = false ∧ ((x.st.kind : Int) == 7) = true ∧ (x.st.num == 1) = true ∧ takesOne x = true) ∨
    (((x.op : Int) == 1) = true ∧ ((x.st.kind : Int) == 9) = false ∧ ((x.st.kind : Int) == 10) = false ∧ ((x.st.kind : Int) == 11) = false ∧ ((x.st.kind : Int) == 7) = true ∧ (x.st.num == 1) = false ∧ ((x.st.kind : Int) == 8) = false ∧ takesOne x = false) ∨
    (((x.op : Int) == 1) = true ∧ ((x.st.kind : Int) == 9) = false ∧ ((x.st.kind : Int) == 10) = false ∧ ((x.st.kind : Int) == 11) = false ∧ ((x.st.kind : Int) == 7) = false ∧ ((x.st.kind : Int) == 8) = true ∧ (x.st.num == 1) = true ∧ takesOne x = true) ∨
    (((x.op : Int) == 1) = true ∧ ((x.st.kind : Int) == 9) = false ∧ ((x.st.kind : Int) == 10) = false ∧ ((x.st.kind : Int) == 11) = false ∧ ((x.st.kind : Int) == 7) = false ∧ ((x.st.kind : Int) == 8) = true ∧ (x.st.num == 1) = false ∧ takesOne x = false) ∨
    (((x.op : Int) == 1) = true ∧ ((x.st.kind : Int) == 9) = false ∧ ((x.st.kind : Int) == 10) = false ∧ ((x.st.kind : Int) == 11) = false ∧ ((x.st.kind : Int) == 7) = false ∧ ((x.st.kind : Int) == 8) = false ∧ takesOne x = false) := by
  have e : ∀ (n m : Nat), (n == m) = ((n : Int) == (m : Int)) := fun n m => by rw [Bool.eq_iff_iff, beq_iff_eq, beq_iff_eq]; omega
  have ht : takesOne x = (((x.op : Int) == 1) && (((x.st.kind : Int) == 9) || (((x.st.kind : Int) == 10) || (((x.st.kind : Int) == 11) || ((((x.st.kind : Int) == 7) && (x.st.num == 1)) || (((x.st.kind : Int) == 8) && (x.st.num == 1))))))) := by
    unfold takesOne
    rw [e x.op 1, e x.st.kind 9, e x.st.kind 10, e x.st.kind 11, e x.st.kind 7, e x.st.kind 8]
    rfl
  have hx : (((x.st.kind : Int) == 7) && ((x.st.kind : Int) == 8)) = false := by
    rw [Bool.and_eq_false_iff, beq_eq_false_iff_ne, beq_eq_false_iff_ne]; omega
  rw [ht]
  generalize ((x.op : Int) == 1) = a1 at *
  generalize ((x.st.kind : Int) == 9) = a2 at *
  generalize ((x.st.kind : Int) == 10) = a3 at *
  generalize ((x.st.kind : Int) == 11) = a4 at *
  generalize ((x.st.kind : Int) == 7) = a5 at *
  generalize ((x.st.kind : Int) == 8) = a6 at *
  generalize (x.st.num == 1) = a7 at *
  clear ht e
  revert hx a1 a2 a3 a4 a5 a6 a7
  decide

set_option maxHeartbeats 4000000 in
set_option maxRecDepth 100000 in
theorem CodeShort_calls (w : World) (v : Value) (l : List Stp) (op : Nat) (h : CdArgs w v l) :
    Calls Tryz.prog 7 #[v, .int .u8 op] w fun e w' => e = .returned (.bool true) ∧ Below w.heap.size w w' := by
  have H := Lib.hid h
  obtain ⟨a, n, c, rfl, hln, hnc, hj⟩ := id h.hv
  have Hlv := Lib.hid (lives_calls w h.he)
  have hl := h.hl
  cases hR : rightB l with
  | false =>
    have HG := Lib.hid (fun w2 (hb : Below w.heap.size w w2) => (H.out.below hb).compile)
    have Hf := Lib.hid hR
    clear h hj hR
    go_enter Tryz.func7, Tryz.ntmps7
    go_wp2_with fail
    refine Hlv.out.mono ?_
    rintro e w1 ⟨rfl, hb1⟩
    have Hb1 := Lib.hid hb1
    clear hb1
    go_wp2_with fail
    refine (HG.out _ Hb1.out).mono ?_
    rintro e w2 ⟨hb2, hg⟩
    rw [if_neg (by rw [Hf.out]; simp)] at hg
    subst hg
    have Hb2 := Lib.hid (stepB Hb1.out hb2)
    clear hb2
    go_wp2_with fail
    go_ret
    exact ⟨rfl, Hb2.out⟩
  | true =>
    have HG := Lib.hid (fun w2 (hb : Below w.heap.size w w2) => (H.out.below hb).compile)
    have Hf := Lib.hid hR
    have hlen := (compile_len hR).1
    have hlg := logic_le l
    have h128 := ((right_iff l).1 hR).2
    have hpl : (compileL l).length ≤ 256 := by omega
    have HS := Lib.hid (compile_stok (M := 1048575) hR (fun y hy => ⟨h.ht y hy, h.hn y hy⟩))
    have HM := Lib.hid (more_law hR op)
    obtain ⟨i, x, hix, hsh⟩ := short_law hR
    have Hix := Lib.hid hix
    have Hsh := Lib.hid hsh
    have He := Lib.hid h.he
    have HT := Lib.hid (show ∀ w2, Below w.heap.size w w2 → (∀ y ∈ i, TakesOk w2 y.st) ∧ ∀ y ∈ compileL l ++ [ins0 op], TakesOk w2 y.st from fun w2 hb => ⟨fun y hy => takes_ok (He.out.below hb) (HS.out y (by rw [hix]; simp [hy])).1, fun y hy => by
      rcases List.mem_append.1 hy with hy | hy
      · exact takes_ok (He.out.below hb) (HS.out y hy).1
      · rw [List.mem_singleton] at hy; subst hy; exact takes_ok (He.out.below hb) (Nat.zero_le _)⟩)
    generalize hpe : compileL l = p at *
    have Hpe := Lib.hid hpe
    have Hpl := Lib.hid hpl
    clear h hj hR hix hsh hlen hlg h128 hpe
    go_enter Tryz.func7, Tryz.ntmps7
    go_wp2_with fail
    refine Hlv.out.mono ?_
    rintro e w1 ⟨rfl, hb1⟩
    have Hb1 := Lib.hid hb1
    clear hb1
    go_wp2_with fail
    refine (HG.out _ Hb1.out).mono ?_
    rintro e w2 ⟨hb2, hg⟩
    rw [if_pos Hf.out] at hg
    obtain ⟨vp, rfl, hp⟩ := hg
    rw [Hpe.out] at hp
    have hp' := hp
    rw [Hix.out] at hp'
    obtain ⟨ap, np, cp, rfl, hlp, hcp, hjp⟩ := id hp
    obtain ⟨g, o, rfl, -⟩ := hjp 0 (by rw [Hix.out]; simp)
    obtain ⟨hpi, hx, hn1, hnc2, hil⟩ := hp'.prefix
    obtain ⟨q, rfl⟩ : ∃ q, np = q + 1 := ⟨np - 1, by omega⟩
    rw [Nat.add_sub_cancel] at hpi hx hil
    have hq : q + 1 ≤ 256 := by omega
    have Hb2 := Lib.hid (stepB Hb1.out hb2)
    have hbx := allocB w2 (.cells #[.int .u8 x.op, .int .u8 x.st.kind, .string ⟨x.st.text.toArray⟩, .int .i64 x.st.num, .int .i64 x.to] 36)
    have Hb3 := Lib.hid (stepB Hb2.out hbx)
    have Hc := Lib.hid (Check_calls _ _ i (hpi.below hbx) (by omega) (HT.out _ (stepB Hb2.out hbx)).1)
    have Hblk := Lib.hid (heap_alloc_new w2 (.cells #[.int .u8 x.op, .int .u8 x.st.kind, .string ⟨x.st.text.toArray⟩, .int .i64 x.st.num, .int .i64 x.to] 36))
    have Hp := Lib.hid (hp.below hbx)
    have Hlp := Lib.hid hlp
    have hgw := hx.lt
    obtain ⟨q0, q1, q2, q3, q4⟩ := hx
    have j1 : (0 : Int) ≤ (q : Int) := by omega
    have j2 : (q : Int) < (q : Int) + 1 := by omega
    have j3 : (q : Int) ≤ (cp : Int) := by omega
    clear hb2 hbx hp hp' hpi hlp hjp
    unfold checkC at Hc
    go_wp2_with fail
    refine Hc.out.mono ?_
    rintro e w3 ⟨rfl, hb3⟩
    have Hb4 := Lib.hid (stepB Hb3.out hb3)
    have Hp4 := Lib.hid (Hp.out.below hb3)
    have hblk := (hb3.block w2.heap.size (by simp)).trans Hblk.out
    obtain ⟨⟨k0, k1, k2, k3, k4⟩, -⟩ := fiveB hblk
    clear hb3 hblk q0 q1 q2 q3 q4
    have htk : checkI i = true → takesOne x = true := Hsh.out
    have Htk := Lib.hid htk
    clear htk
    rcases shape x with ⟨b1, t⟩ | ⟨b1, b9, t⟩ | ⟨b1, b9, b10, t⟩ | ⟨b1, b9, b10, b11, t⟩ | ⟨b1, b9, b10, b11, b7, bn, t⟩ | ⟨b1, b9, b10, b11, b7, bn, b8, t⟩ | ⟨b1, b9, b10, b11, b7, b8, bn, t⟩ | ⟨b1, b9, b10, b11, b7, b8, bn, t⟩ | ⟨b1, b9, b10, b11, b7, b8, t⟩
    all_goals
      have Ht := Lib.hid t
      clear t
      cases hcs : checkI i
    all_goals first
      | (exfalso; have h1 := Htk.out hcs; rw [Ht.out] at h1; cases h1; done)
      | skip
    all_goals
      clear Htk Ht hcs
      have HbA := Lib.hid (fun W (hb : Below w3.heap.size w3 W) => stepB Hb4.out hb)
      have HpC := Lib.hid (show ∀ W, Below w3.heap.size w3 W → ∀ (ii : Nat) (hi : ii < p.length), InsCells W g (o + ii * 5) p[ii] from fun W hb ii hi => by
        obtain ⟨a', n', c', e', -, -, hj'⟩ := Hp4.out
        simp only [Value.slice.injEq] at e'
        obtain ⟨rfl, rfl, rfl⟩ := e'
        obtain ⟨g', o', e', hcl⟩ := hj' ii hi
        simp only [Option.some.injEq, Addr.mk.injEq, and_true] at e'
        obtain ⟨rfl, rfl⟩ := e'
        exact hcl.below hb)
    all_goals
      go_wp2_with (first | (at_builtin; refine wp_appI rfl _ _ rfl w3.heap.size _ 0 [] rfl (own0I w3) g o (q + 1) cp p rfl Hlp.out (fun ii hi => HpC.out _ (allocB _ _) ii hi) (by omega) (by omega) (by simp) ?_; intro ga ca Wa hoA hbA; simp only [Nat.zero_add, List.nil_append] at hoA; have HoA := Lib.hid hoA; have HbW := Lib.hid ((allocB w3 _).trans hbA); clear hoA hbA) | (at_builtin; refine wp_appI rfl _ _ rfl w3.heap.size _ (q + 1) p rfl (HoA.out.alloc _) Wa.heap.size 0 1 1 [ins0 op] rfl rfl (fun ii hi => one_ins Wa (ins0 op) ii hi) (by omega) (by omega) (by have := HbW.out.size; simp; omega) ?_; intro gb cb Wb hoB hbB; have HoB := Lib.hid hoB; have HbZ := Lib.hid ((HbW.out.trans ((allocB Wa _).mono HbW.out.size)).trans hbB); clear hoB hbB))
    all_goals
      have Hz := Lib.hid (Check_calls Wb _ (p ++ [ins0 op]) (InsIn.own HoB.out (by rw [List.length_append, Hlp.out]; rfl)) (by rw [List.length_append, Hlp.out, List.length_singleton]; omega) (HT.out _ (HbA.out _ HbZ.out)).2)
      unfold checkC at Hz
      rw [HM.out, Hlp.out] at Hz
      refine Hz.out.mono ?_
      rintro e w9 ⟨rfl, hb9⟩
      have Hb9 := Lib.hid (stepB (HbA.out _ HbZ.out) hb9)
      clear hb9
      by_cases h3 : op = 3
      · subst h3
        by_cases hq6 : q + 1 < 256
        · have hq7 : (q : Int) + 1 < 256 := by omega
          rw [show (decide ((3 : Nat) = 3) && decide (q + 1 < 256)) = true by simp [hq6]]
          go_wp2_with fail
          go_ret
          exact ⟨rfl, Hb9.out⟩
        · have hq7 : ¬ (q : Int) + 1 < 256 := by omega
          rw [show (decide ((3 : Nat) = 3) && decide (q + 1 < 256)) = false by simp; omega]
          go_wp2_with fail
          go_ret
          exact ⟨ret_bool (by simp only [Bool.not_eq_true', decide_eq_false_iff_not]; omega), Hb9.out⟩
      · have b3 : ((op : Int) == 3) = false := by rw [beq_eq_false_iff_ne]; omega
        rw [decide_eq_false h3, Bool.false_and]
        clear h3
        go_wp2_with fail
        go_ret
        exact ⟨rfl, Hb9.out⟩

end Go.Proofs.YtgehjklodphogaaGreatDoor.Cd

/- The frame of a law: a call that answers true and turns nothing old meets the row's post. Nothing here speaks of the program. -/
namespace Go.Proofs.YtgehjklodphogaaGreatDoor.Lx
open Go.RowKit Go.ChangeShapes

theorem stay_all {H : Type} {enc : TypeId × Value → H} {P : Program} (hl : laidOutB P = true) {W W' : World} (hb : Below W.heap.size W W') :
    ∀ {ts : List TypeId} {vs : List Value} {ds : List (DataW H)} {ps : List MemPlace}, ts.all (fun t => P.readableRec t && decide (t < P.types.size)) = true →
      DataW.TrodAll enc P W 0 (fun _ => true) true ts vs ds ps → (∀ x ∈ ps, x.block < W.heap.size) → DataW.TrodAll enc P W' 0 (fun b => decide (b < W.heap.size)) true ts vs ds ps
  | [], _, _, _, _, h, _ => by
    obtain ⟨rfl, rfl, rfl⟩ := trodAll_nil h
    exact rfl
  | t :: ts, _, _, _, ht, h, hlt => by
    obtain ⟨v, vs, d, ds, p, q, rfl, rfl, rfl, h0, hr⟩ := trodAll_cons h
    simp only [List.all_cons, Bool.and_eq_true, decide_eq_true_eq] at ht
    exact ⟨p, q, Below.trod hl ht.1.1 ht.1.2 h0 hb fun x hx => hlt x (by simp [hx]), stay_all hl hb (by simpa using ht.2) hr fun x hx => hlt x (by simp [hx]), rfl⟩

theorem law_post {H : Type} {enc : TypeId × Value → H} {P : Program} {fn : Func} {s : ChangeSpec} {tb : TypeId} {W W' : World} {args : Array Value} {ds gs : List (DataW H)} {before : List MemPlace}
    (hl : laidOutB P = true) (hts : fn.params.toList.all (fun t => P.readableRec t && decide (t < P.types.size)) = true) (hr : fn.resultTypes = #[tb]) (hb : P.underlying tb = some .bool) (hv : s.vars = [])
    (hW : DataW.Whole enc P fn.params.toList s.vars false W args.toList ds gs before) (hfn : s.fn H (ds ++ gs) = { results := [.lit (.bool true)], args := ds }) (bel : Below W.heap.size W W') :
    s.post enc P fn false true false false W args (.bool true) W' := by
  have hW' := hW
  have hlt := hW.lt
  obtain ⟨p, q, hA, hV, rfl, _, _⟩ := hW
  rw [hv] at hV
  obtain ⟨rfl, rfl⟩ := trodVars_none hV
  refine ⟨ds, [], p ++ [], [], p, [], hW', ?_, ?_, ?_, bel.frame _, fun h => by cases h⟩
  · rw [hfn, hr]; exact trodAll_mk1 (shut_bool hb _)
  · rw [hfn]; exact stay_all hl bel hts hA fun x hx => hlt x (by simpa using hx)
  · rw [hfn, hv]; rfl
theorem law_calls {H : Type} {enc : TypeId × Value → H} {P : Program} {fid : FuncId} {fn : Func} {s : ChangeSpec} {tb : TypeId} {W : World} {args : Array Value} {ds gs : List (DataW H)} {before : List MemPlace}
    (hl : laidOutB P = true) (hts : fn.params.toList.all (fun t => P.readableRec t && decide (t < P.types.size)) = true) (hr : fn.resultTypes = #[tb]) (hb : P.underlying tb = some .bool) (hv : s.vars = [])
    (hW : DataW.Whole enc P fn.params.toList s.vars false W args.toList ds gs before) (hfn : s.fn H (ds ++ gs) = { results := [.lit (.bool true)], args := ds })
    (walk : Calls P fid args W fun e W' => e = .returned (.bool true) ∧ Below W.heap.size W W') :
    Calls P fid args W fun e W' => ∃ v, e = .returned v ∧ s.post enc P fn false true false false W args v W' :=
  walk.mono fun _ _ ⟨he, hbel⟩ => ⟨_, he, law_post hl hts hr hb hv hW hfn hbel⟩

/-- a listed error variable holds an interface value -/
theorem iface_of_reads {P : Program} {W : World} {name : String} {g : Nat} {t : TypeId} {ms : Array (String × TypeId)} {d : DataW Unit} {tn : String}
    (hg : P.globalNamed name = some g) (hty : (P.globals[g]?).map (·.type) = some t) (ht : P.underlying t = some (.interface ms)) (h : Go.Lib.VarReads P W name (.iface tn d)) :
    ∃ ev, W.cell? ⟨g, 0, none⟩ = some ev ∧ (ev = .nilIface ∨ ∃ te pe, ev = .iface te pe) := by
  obtain ⟨g', t', cs, fuel, p, hg', hty', hvar, hd⟩ := h
  obtain rfl := Option.some.inj (hg.symm.trans hg')
  obtain rfl := Option.some.inj (hty.symm.trans hty')
  have hc := World.var?_cell hg hvar 0
  cases fuel with
  | zero => simp [DataW.trod] at hd
  | succ fuel =>
    unfold DataW.trod at hd
    simp only [ht] at hd
    split at hd <;> try (first | (rename_i e1 e2; cases e1; done) | (rename_i e1; cases e1; done))
    all_goals first
      | (simp at hd; done)
      | (rename_i u v hcs; exact ⟨_, by rw [hc, ← Array.getElem?_toList, hcs]; rfl, .inr ⟨_, _, rfl⟩⟩)
      | skip
theorem cell_lt {W : World} {g c : Nat} {v : Value} (h : W.cell? ⟨g, c, none⟩ = some v) : g < W.heap.size := World.block_lt_of_cell? _ _ h

end Go.Proofs.YtgehjklodphogaaGreatDoor.Lx

/- What a row's listed variables give the walks; a start for the witness. -/
namespace Go.Proofs.YtgehjklodphogaaGreatDoor.Lx
open Go.RowKit Go.ChangeShapes

theorem own : ownKnob Tryz.prog.godebug = none := by kernel_rfl
theorem laidOut : laidOutB Tryz.prog = true := by kernel_rfl
theorem gSyn : Tryz.prog.globalNamed "strconv.ErrSyntax" = some 5 := by kernel_rfl
theorem gRng : Tryz.prog.globalNamed "strconv.ErrRange" = some 6 := by kernel_rfl

/-- the rows' list -/
abbrev laidL := Rows.parseWritesRow.laid

theorem env_of {W : World} (hL : laidMetH Tryz.prog laidL W) (hS : W.ShapedOpen Tryz.prog) : Env W := by
  rw [MakeChecks.laidMetH_plain _ _ _ (by kernel_rfl)] at hL
  have r2 := Lib.laidMet.reads hL (.tail _ (.tail _ (.head _)))
  have r3 := Lib.laidMet.reads hL (.tail _ (.tail _ (.tail _ (.head _))))
  have r4 := Lib.laidMet.reads hL (.tail _ (.tail _ (.tail _ (.tail _ (.head _)))))
  have r5 := Lib.laidMet.reads hL (.tail _ (.tail _ (.tail _ (.tail _ (.tail _ (.head _))))))
  have r6 := Lib.laidMet.reads hL (.tail _ (.tail _ (.tail _ (.tail _ (.tail _ (.tail _ (.head _)))))))
  have syn := iface_of_reads gSyn (t := 130) (by kernel_rfl) Tryz.underlying130 r5
  have rng := iface_of_reads gRng (t := 130) (by kernel_rfl) Tryz.underlying130 r4
  have max : ∃ m, W.cell? ⟨4, 0, none⟩ = some (.int .i64 m) :=
    cell_of_shapedOpen_int (zero := #[.int .i64 0]) (t := 3) hS (of_decide_eq_true (by kernel_rfl)) (by kernel_rfl) rfl (by kernel_rfl) (by kernel_rfl) Tryz.underlying3
  have pow : Lib.TabIs Tryz.prog W "internal/strconv.uint64pow10" .u64 Lib.pow10Tab := by
    obtain ⟨g, t, cs, fuel, p, hg, hty, hvar, hd⟩ := r2
    obtain rfl := Option.some.inj (gPow.symm.trans hg)
    obtain rfl := Option.some.inj ((show (Tryz.prog.globals[3]?).map (·.type) = some 208 by kernel_rfl).symm.trans hty)
    unfold Lib.TabIs
    rw [hvar, ← Lib.cells_of_tab (zs := Lib.pow10Tab) Tryz.underlying208 Tryz.underlying113 (by kernel_rfl) (by kernel_rfl) hd]
  have utf : Lib.Utf8Tabs 0 1 W :=
    utf8Tabs_of_readsT (U8Types.of196 Tryz.laysValid) ⟨by kernel_rfl, by kernel_rfl, by kernel_rfl, by kernel_rfl, by kernel_rfl, by kernel_rfl, by kernel_rfl⟩ (by have := r6; rw [show Rows.laid_unicode_utf8_first = Lib.firstData from Pinned.utf8First_eq] at this; exact this) r3
  have hp := World.var?_cell gPow pow 0
  exact {
    syn := syn, rng := rng, max := max, pow := pow, utf := utf
    ltS := let ⟨_, h, _⟩ := syn; cell_lt h
    ltR := let ⟨_, h, _⟩ := rng; cell_lt h
    ltM := let ⟨_, h⟩ := max; cell_lt h
    ltP := cell_lt (hp.trans (by rfl))
    ltF := cell_lt (utf.1 0 (by decide))
    ltA := cell_lt (utf.2 0 (by decide)).1 }

/-- a start for the witness -/
theorem laid_met (os : Os) (args : Array Value) : laidMetH Tryz.prog laidL ((World.laidAll Tryz.prog os laidL).forCall (fun _ _ => 0) ⟨#[], args, []⟩).memory := by
  rw [MakeChecks.laidMetH_plain _ _ _ (by kernel_rfl)]
  exact laidMet_laidAll _ (by kernel_rfl) (by kernel_rfl)

theorem bulk_string {H : Type} (bytes : List UInt8) : Rows.uptoBulk (DataW.lit (H := H) (.string bytes)) = bytes.length + 1 := by
  simp [Rows.uptoBulk]
theorem bulk_le {H : Type} {l : List (DataW H)} (hk : Rows.uptoSmall H l = true) : Rows.uptoBulkAll l ≤ 1048576 := by
  simpa [Rows.uptoSmall] using hk

end Go.Proofs.YtgehjklodphogaaGreatDoor.Lx

/- The parse laws' arguments, opened: a list of steps. -/
namespace Go.Proofs.YtgehjklodphogaaGreatDoor.Pa
open Go.RowKit Go.ChangeShapes Go.WideShapes Go.Deep Go.Proofs.YtgehjklodphogaaGreatDoor.Lx

theorem bulk_mem {H : Type} {d : DataW H} : ∀ {l : List (DataW H)}, d ∈ l → Rows.uptoBulk d ≤ Rows.uptoBulkAll l
  | [], h => by cases h
  | x :: l, h => by
    rcases List.mem_cons.1 h with rfl | h
    · simp [Rows.uptoBulkAll]
    · have := bulk_mem h; simp only [Rows.uptoBulkAll]; omega
theorem bulk_pos {H : Type} (d : DataW H) : 1 ≤ Rows.uptoBulk d := by
  cases d with
  | lit l => cases l <;> simp [Rows.uptoBulk]
  | _ => simp [Rows.uptoBulk]
theorem bulk_len {H : Type} : ∀ (l : List (DataW H)), l.length ≤ Rows.uptoBulkAll l
  | [] => by simp
  | x :: l => by
    have h1 := bulk_len l
    have h2 := bulk_pos x
    simp only [Rows.uptoBulkAll, List.length_cons]; omega

set_option maxRecDepth 100000 in
theorem open_stp {H : Type} {enc : TypeId × Value → H} {W : World} {n : Nat} {cs : List Value} {d : DataW H} {ps : List MemPlace} (h : DataW.trod enc Tryz.prog W 0 (fun _ => true) true n 34 cs = some (d, ps)) :
    ∃ (y : Stp), (y.text.length + 4 ≤ Rows.uptoBulk d ∧ y.num ≤ 9223372036854775807) ∧ cs = [.int .u8 y.kind, .string ⟨y.text.toArray⟩, .int .i64 y.num] := by
  obtain ⟨y0, y1, y2, k, hx, hl, h0, h1, h2⟩ := trod_struct3 Tryz.underlying34 h
  rw [show Tryz.prog.cellsOf 34 = 3 by kernel_rfl] at hl
  obtain ⟨v0, v1, v2, rfl⟩ : ∃ v0 v1 v2, cs = [v0, v1, v2] := by
    match cs, hl with
    | [v0, v1, v2], _ => exact ⟨v0, v1, v2, rfl⟩
  rw [show Tryz.prog.cellsOf 32 = 1 by kernel_rfl] at h0
  rw [show Tryz.prog.cellsOf 9 = 1 by kernel_rfl] at h1
  rw [show Tryz.prog.cellsOf 2 = 1 by kernel_rfl] at h2
  obtain ⟨n0, e0, x0, w0⟩ := DataW.trod_int Tryz.underlying32 h0
  obtain ⟨s, e1, x1, w1⟩ := DataW.trod_string Tryz.underlying9 h1
  obtain ⟨n2, e2, x2, w2⟩ := DataW.trod_int Tryz.underlying2 h2
  have e0' : v0 = .int .u8 n0 := by simpa using e0
  have e1' : v1 = .string s := by simpa using e1
  have e2' : v2 = .int .i64 n2 := by simpa using e2
  simp only [Lit.wf, Bool.and_eq_true, decide_eq_true_eq] at w0 w2
  have k0 : (0 : Int) ≤ n0 := w0.1
  have k2 : n2 ≤ (9223372036854775807 : Int) := w2.2
  simp only [Prod.mk.injEq] at hx
  refine ⟨⟨n0.toNat, s.data.toList, n2⟩, ⟨?_, k2⟩, ?_⟩
  · rw [hx.1, x0, x1, x2]
    simp only [Rows.uptoBulk, Rows.uptoBulkAll]
    omega
  · rw [e0', e1', e2', Int.toNat_of_nonneg k0]

instance : Inhabited Stp := ⟨⟨0, [], 0⟩⟩

set_option maxRecDepth 100000 in
theorem open_steps1' {H : Type} {enc : TypeId × Value → H} {W : World} {fuel : Nat} {v : Value} {d : DataW H} {ps : List MemPlace} (hf : DataW.trod enc Tryz.prog W 0 (fun _ => true) true fuel 22 [v] = some (d, ps)) :
    ∃ (l : List Stp), StpsIn W v l ∧ l.length + 1 ≤ Rows.uptoBulk d ∧ ∀ y ∈ l, y.text.length + 4 ≤ Rows.uptoBulk d ∧ y.num ≤ 9223372036854775807 := by
  rcases open_slice Tryz.underlying22 hf with ⟨hc, hx⟩ | ⟨a, len, cap, mm, n, D, Pl, hc, _, hl, hm, hmm, hx, hall⟩
  · simp only [List.cons.injEq, and_true] at hc
    subst hc
    exact ⟨[], ⟨none, 0, 0, rfl, rfl, Nat.le_refl _, fun i hi => absurd hi (Nat.not_lt_zero _)⟩, bulk_pos d, by simp⟩
  · simp only [List.cons.injEq, and_true] at hc
    subst hc
    simp only [if_true] at hmm
    subst hmm
    simp only [Prod.mk.injEq] at hx
    obtain ⟨rfl, rfl⟩ := hx
    rw [show Tryz.prog.cellsOf 34 = 3 by kernel_rfl] at hall
    have each : ∀ i, i < len → ∃ y : Stp, (∃ g o, a = ⟨g, o, none⟩ ∧ StpCells W g (o + i * 3) y) ∧ y.text.length + 4 ≤ Rows.uptoBulk (D i) ∧ y.num ≤ 9223372036854775807 := fun i hi => by
      obtain ⟨cs', h1, h2⟩ := hall i (by omega)
      obtain ⟨y, hfit, rfl⟩ := open_stp h2
      obtain ⟨cs0, h01, _⟩ := hall 0 (by omega)
      obtain ⟨_, hl0, hcell0⟩ := World.cells?_some h01
      obtain ⟨_, _, hcell⟩ := World.cells?_some h1
      obtain ⟨g, o, spot⟩ := a
      have hspot : spot = none := by
        have h00 := hcell0 0 (by omega)
        rw [List.getElem?_eq_getElem (by omega)] at h00
        simpa [Addr.add] using World.cell?_spot h00
      subst hspot
      have q0 := hcell 0 (by omega)
      have q1 := hcell 1 (by omega)
      have q2 := hcell 2 (by omega)
      rw [add_add, Addr.add_lit] at q0 q1 q2
      exact ⟨y, ⟨g, o, rfl, q0, q1, q2⟩, hfit⟩
    obtain ⟨f, hf2⟩ := choose_lt each
    have hbd : ∀ i, i < len → Rows.uptoBulk (D i) ≤ Rows.uptoBulkAll ((List.range len).map D) := fun i hi => bulk_mem (List.mem_map.2 ⟨i, List.mem_range.2 hi, rfl⟩)
    have hlen := bulk_len ((List.range len).map D)
    rw [List.length_map, List.length_range] at hlen
    refine ⟨(List.range len).map f, ⟨_, len, _, rfl, by simp, hl, fun i hi => ?_⟩, ?_, fun y hy => ?_⟩
    · have hi' : i < len := by simpa using hi
      obtain ⟨⟨g, o, e, hcl⟩, _⟩ := hf2 i hi'
      refine ⟨g, o, by rw [e], ?_⟩
      simpa using hcl
    · simp only [Rows.uptoBulk, List.length_map, List.length_range]; omega
    · obtain ⟨i, hi, rfl⟩ := List.mem_map.1 hy
      have hi' := List.mem_range.1 hi
      have h1 := (hf2 i hi').2
      have h2 := hbd i hi'
      simp only [Rows.uptoBulk]
      exact ⟨by omega, h1.2⟩
set_option maxRecDepth 100000 in
theorem open_steps' {H : Type} {enc : TypeId × Value → H} {W : World} {fuel : Nat} {v : Value} {d : DataW H} {ps : List MemPlace} (hf : DataW.trod enc Tryz.prog W 0 (fun _ => true) true fuel 22 [v] = some (d, ps)) :
    ∃ (l : List Stp), StpsIn W v l ∧ l.length ≤ Rows.uptoBulk d ∧ ∀ y ∈ l, y.text.length + 4 ≤ Rows.uptoBulk d ∧ y.num ≤ 9223372036854775807 := by
  obtain ⟨l, h1, h2, h3⟩ := open_steps1' hf
  exact ⟨l, h1, by omega, h3⟩
set_option maxRecDepth 100000 in
theorem open_steps {H : Type} {enc : TypeId × Value → H} {W : World} {b0 : Nat} {v : Value} {d : DataW H} {ps : List MemPlace} (hv : Value.okWide Tryz.prog W .any b0 22 v)
    (h : DataW.Trod enc Tryz.prog W 0 (fun _ => true) true 22 v d ps) :
    ∃ (l : List Stp), StpsIn W v l ∧ l.length ≤ Rows.uptoBulk d ∧ ∀ y ∈ l, y.text.length + 4 ≤ Rows.uptoBulk d ∧ y.num ≤ 9223372036854775807 := by
  obtain ⟨a0, n0, c0, rfl⟩ := okWide_slice Tryz.underlying22 hv
  obtain ⟨fuel, hf⟩ := h
  exact open_steps' hf
set_option maxRecDepth 100000 in
theorem open_steps1 {H : Type} {enc : TypeId × Value → H} {W : World} {b0 : Nat} {v : Value} {d : DataW H} {ps : List MemPlace} (hv : Value.okWide Tryz.prog W .any b0 22 v)
    (h : DataW.Trod enc Tryz.prog W 0 (fun _ => true) true 22 v d ps) :
    ∃ (l : List Stp), StpsIn W v l ∧ l.length + 1 ≤ Rows.uptoBulk d ∧ ∀ y ∈ l, y.text.length + 4 ≤ Rows.uptoBulk d ∧ y.num ≤ 9223372036854775807 := by
  obtain ⟨a0, n0, c0, rfl⟩ := okWide_slice Tryz.underlying22 hv
  obtain ⟨fuel, hf⟩ := h
  exact open_steps1' hf

end Go.Proofs.YtgehjklodphogaaGreatDoor.Pa
