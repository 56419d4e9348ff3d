/- Parts: LxT PdZ PdF QbL. -/
import Derived.Test.YtcjmhmmjfgjcnaaGreatDoorMc04
import Derived.Test.YtcjmhmmjfgjcnaaGreatDoorMc15
import Derived.Test.YtcjmhmmjfgjcnaaGreatDoorMc28
import Derived.WalkKit
import Derived.ProofKit
import Derived.OpenShut
import Derived.Deep.DeepHandedRow
import Derived.Deep.DeepWitnessRowRef
import Derived.Carry
import Derived.SevenTiedAt
import Derived.Lay
import Derived.Lib.LaidU8T
import Derived.PinnedBridge
import Derived.MakeChecks
import Derived.Shelf.Vars
import Derived.Test.YtcjmhmmjfgjcnaaGreatDoorRows
import Derived.Test.YtcjmhmmjfgjcnaaGreatDoorCards
import Derived.Test.YtcjmhmmjfgjcnaaGreatDoorTie
import Derived.Deep.Slices
import Derived.Deep.Strs

/- The frame of a law: a call that answers true and turns nothing old meets the row's post. Nothing here speaks of the program. -/
namespace Go.Proofs.YtcjmhmmjfgjcnaaGreatDoor.Lx
open Go.RowKit Go.ChangeShapes

theorem stay_all {H : Type} {enc : TypeId × Value → H} {P : Program} (hl : laidOutB P = true) {W W' : World} (hb : Below W.heap.size W W') :
    ∀ {ts : List TypeId} {vs : List Value} {ds : List (DataW H)} {ps : List MemPlace}, ts.all (fun t => P.readableRec t && decide (t < P.types.size)) = true →
      DataW.TrodAll enc P W 0 (fun _ => true) true ts vs ds ps → (∀ x ∈ ps, x.block < W.heap.size) → DataW.TrodAll enc P W' 0 (fun b => decide (b < W.heap.size)) true ts vs ds ps
  | [], _, _, _, _, h, _ => by
    obtain ⟨rfl, rfl, rfl⟩ := trodAll_nil h
    exact rfl
  | t :: ts, _, _, _, ht, h, hlt => by
    obtain ⟨v, vs, d, ds, p, q, rfl, rfl, rfl, h0, hr⟩ := trodAll_cons h
    simp only [List.all_cons, Bool.and_eq_true, decide_eq_true_eq] at ht
    exact ⟨p, q, Below.trod hl ht.1.1 ht.1.2 h0 hb fun x hx => hlt x (by simp [hx]), stay_all hl hb (by simpa using ht.2) hr fun x hx => hlt x (by simp [hx]), rfl⟩

theorem law_post {H : Type} {enc : TypeId × Value → H} {P : Program} {fn : Func} {s : ChangeSpec} {tb : TypeId} {W W' : World} {args : Array Value} {ds gs : List (DataW H)} {before : List MemPlace}
    (hl : laidOutB P = true) (hts : fn.params.toList.all (fun t => P.readableRec t && decide (t < P.types.size)) = true) (hr : fn.resultTypes = #[tb]) (hb : P.underlying tb = some .bool) (hv : s.vars = [])
    (hW : DataW.Whole enc P fn.params.toList s.vars false W args.toList ds gs before) (hfn : s.fn H (ds ++ gs) = { results := [.lit (.bool true)], args := ds }) (bel : Below W.heap.size W W') :
    s.post enc P fn false true false false W args (.bool true) W' := by
  have hW' := hW
  have hlt := hW.lt
  obtain ⟨p, q, hA, hV, rfl, _, _⟩ := hW
  rw [hv] at hV
  obtain ⟨rfl, rfl⟩ := trodVars_none hV
  refine ⟨ds, [], p ++ [], [], p, [], hW', ?_, ?_, ?_, bel.frame _, fun h => by cases h⟩
  · rw [hfn, hr]; exact trodAll_mk1 (shut_bool hb _)
  · rw [hfn]; exact stay_all hl bel hts hA fun x hx => hlt x (by simpa using hx)
  · rw [hfn, hv]; rfl
theorem law_calls {H : Type} {enc : TypeId × Value → H} {P : Program} {fid : FuncId} {fn : Func} {s : ChangeSpec} {tb : TypeId} {W : World} {args : Array Value} {ds gs : List (DataW H)} {before : List MemPlace}
    (hl : laidOutB P = true) (hts : fn.params.toList.all (fun t => P.readableRec t && decide (t < P.types.size)) = true) (hr : fn.resultTypes = #[tb]) (hb : P.underlying tb = some .bool) (hv : s.vars = [])
    (hW : DataW.Whole enc P fn.params.toList s.vars false W args.toList ds gs before) (hfn : s.fn H (ds ++ gs) = { results := [.lit (.bool true)], args := ds })
    (walk : Calls P fid args W fun e W' => e = .returned (.bool true) ∧ Below W.heap.size W W') :
    Calls P fid args W fun e W' => ∃ v, e = .returned v ∧ s.post enc P fn false true false false W args v W' :=
  walk.mono fun _ _ ⟨he, hbel⟩ => ⟨_, he, law_post hl hts hr hb hv hW hfn hbel⟩

theorem iface_of_reads {P : Program} {W : World} {name : String} {g : Nat} {t : TypeId} {ms : Array (String × TypeId)} {d : DataW Unit} {tn : String}
    (hg : P.globalNamed name = some g) (hty : (P.globals[g]?).map (·.type) = some t) (ht : P.underlying t = some (.interface ms)) (h : Go.Lib.VarReads P W name (.iface tn d)) :
    ∃ ev, W.cell? ⟨g, 0, none⟩ = some ev ∧ (ev = .nilIface ∨ ∃ te pe, ev = .iface te pe) := by
  obtain ⟨g', t', cs, fuel, p, hg', hty', hvar, hd⟩ := h
  obtain rfl := Option.some.inj (hg.symm.trans hg')
  obtain rfl := Option.some.inj (hty.symm.trans hty')
  have hc := World.var?_cell hg hvar 0
  cases fuel with
  | zero => simp [DataW.trod] at hd
  | succ fuel =>
    unfold DataW.trod at hd
    simp only [ht] at hd
    split at hd <;> try (first | (rename_i e1 e2; cases e1; done) | (rename_i e1; cases e1; done))
    all_goals first
      | (simp at hd; done)
      | (rename_i u v hcs; exact ⟨_, by rw [hc, ← Array.getElem?_toList, hcs]; rfl, .inr ⟨_, _, rfl⟩⟩)
      | skip
theorem cell_lt {W : World} {g c : Nat} {v : Value} (h : W.cell? ⟨g, c, none⟩ = some v) : g < W.heap.size := World.block_lt_of_cell? _ _ h

end Go.Proofs.YtcjmhmmjfgjcnaaGreatDoor.Lx

/- What a row's listed variables give the walks; a start for the witness. -/
namespace Go.Proofs.YtcjmhmmjfgjcnaaGreatDoor.Lx
open Go.RowKit Go.ChangeShapes

theorem own : ownKnob Tryz.prog.godebug = none := by kernel_rfl
theorem laidOut : laidOutB Tryz.prog = true := by kernel_rfl
theorem gSyn : Tryz.prog.globalNamed "strconv.ErrSyntax" = some 5 := by kernel_rfl
theorem gRng : Tryz.prog.globalNamed "strconv.ErrRange" = some 6 := by kernel_rfl

abbrev laidL := Rows.parseWritesRow.laid

theorem env_of {W : World} (hL : laidMetH Tryz.prog laidL W) (hS : W.ShapedOpen Tryz.prog) : Env W := by
  rw [MakeChecks.laidMetH_plain _ _ _ (by kernel_rfl)] at hL
  have r2 := Lib.laidMet.reads hL (.tail _ (.tail _ (.head _)))
  have r3 := Lib.laidMet.reads hL (.tail _ (.tail _ (.tail _ (.head _))))
  have r4 := Lib.laidMet.reads hL (.tail _ (.tail _ (.tail _ (.tail _ (.head _)))))
  have r5 := Lib.laidMet.reads hL (.tail _ (.tail _ (.tail _ (.tail _ (.tail _ (.head _))))))
  have r6 := Lib.laidMet.reads hL (.tail _ (.tail _ (.tail _ (.tail _ (.tail _ (.tail _ (.head _)))))))
  have syn := iface_of_reads gSyn (t := 127) (by kernel_rfl) Tryz.underlying127 r5
  have rng := iface_of_reads gRng (t := 127) (by kernel_rfl) Tryz.underlying127 r4
  have max : ∃ m, W.cell? ⟨4, 0, none⟩ = some (.int .i64 m) :=
    cell_of_shapedOpen_int (zero := #[.int .i64 0]) (t := 3) hS (of_decide_eq_true (by kernel_rfl)) (by kernel_rfl) rfl (by kernel_rfl) (by kernel_rfl) Tryz.underlying3
  have pow : Lib.TabIs Tryz.prog W "internal/strconv.uint64pow10" .u64 Lib.pow10Tab := by
    obtain ⟨g, t, cs, fuel, p, hg, hty, hvar, hd⟩ := r2
    obtain rfl := Option.some.inj (gPow.symm.trans hg)
    obtain rfl := Option.some.inj ((show (Tryz.prog.globals[3]?).map (·.type) = some 206 by kernel_rfl).symm.trans hty)
    unfold Lib.TabIs
    rw [hvar, ← Lib.cells_of_tab (zs := Lib.pow10Tab) Tryz.underlying206 Tryz.underlying106 (by kernel_rfl) (by kernel_rfl) hd]
  have utf : Lib.Utf8Tabs 0 1 W :=
    utf8Tabs_of_readsT (U8Types.of196 Tryz.laysValid) ⟨by kernel_rfl, by kernel_rfl, by kernel_rfl, by kernel_rfl, by kernel_rfl, by kernel_rfl, by kernel_rfl⟩ (by have := r6; rw [show Rows.laid_unicode_utf8_first = Lib.firstData from Pinned.utf8First_eq] at this; exact this) r3
  have hp := World.var?_cell gPow pow 0
  exact {
    syn := syn, rng := rng, max := max, pow := pow, utf := utf
    ltS := let ⟨_, h, _⟩ := syn; cell_lt h
    ltR := let ⟨_, h, _⟩ := rng; cell_lt h
    ltM := let ⟨_, h⟩ := max; cell_lt h
    ltP := cell_lt (hp.trans (by rfl))
    ltF := cell_lt (utf.1 0 (by decide))
    ltA := cell_lt (utf.2 0 (by decide)).1 }

theorem laid_met (os : Os) (args : Array Value) : laidMetH Tryz.prog laidL ((World.laidAll Tryz.prog os laidL).forCall (fun _ _ => 0) ⟨#[], args, []⟩).memory := by
  rw [MakeChecks.laidMetH_plain _ _ _ (by kernel_rfl)]
  exact laidMet_laidAll _ (by kernel_rfl) (by kernel_rfl)

theorem bulk_string {H : Type} (bytes : List UInt8) : Rows.uptoBulk (DataW.lit (H := H) (.string bytes)) = bytes.length + 1 := by
  simp [Rows.uptoBulk]
theorem bulk_le {H : Type} {l : List (DataW H)} (hk : Rows.uptoSmall H l = true) : Rows.uptoBulkAll l ≤ 1048576 := by
  simpa [Rows.uptoSmall] using hk

end Go.Proofs.YtcjmhmmjfgjcnaaGreatDoor.Lx

/- The parse laws' arguments, opened: a list of steps. -/
namespace Go.Proofs.YtcjmhmmjfgjcnaaGreatDoor.Pa
open Go.RowKit Go.ChangeShapes Go.WideShapes Go.Deep Go.Proofs.YtcjmhmmjfgjcnaaGreatDoor.Lx

theorem bulk_mem {H : Type} {d : DataW H} : ∀ {l : List (DataW H)}, d ∈ l → Rows.uptoBulk d ≤ Rows.uptoBulkAll l
  | [], h => by cases h
  | x :: l, h => by
    rcases List.mem_cons.1 h with rfl | h
    · simp [Rows.uptoBulkAll]
    · have := bulk_mem h; simp only [Rows.uptoBulkAll]; omega
theorem bulk_pos {H : Type} (d : DataW H) : 1 ≤ Rows.uptoBulk d := by
  cases d with
  | lit l => cases l <;> simp [Rows.uptoBulk]
  | _ => simp [Rows.uptoBulk]
set_option maxRecDepth 100000 in
theorem open_stp {H : Type} {enc : TypeId × Value → H} {W : World} {n : Nat} {cs : List Value} {d : DataW H} {ps : List MemPlace} (h : DataW.trod enc Tryz.prog W 0 (fun _ => true) true n 48 cs = some (d, ps)) :
    ∃ (y : Stp), (y.text.length + 4 ≤ Rows.uptoBulk d ∧ y.num ≤ 9223372036854775807) ∧ cs = [.int .u8 y.kind, .string ⟨y.text.toArray⟩, .int .i64 y.num] := by
  obtain ⟨y0, y1, y2, k, hx, hl, h0, h1, h2⟩ := trod_struct3 Tryz.underlying48 h
  rw [show Tryz.prog.cellsOf 48 = 3 by kernel_rfl] at hl
  obtain ⟨v0, v1, v2, rfl⟩ : ∃ v0 v1 v2, cs = [v0, v1, v2] := by
    match cs, hl with
    | [v0, v1, v2], _ => exact ⟨v0, v1, v2, rfl⟩
  rw [show Tryz.prog.cellsOf 46 = 1 by kernel_rfl] at h0
  rw [show Tryz.prog.cellsOf 9 = 1 by kernel_rfl] at h1
  rw [show Tryz.prog.cellsOf 2 = 1 by kernel_rfl] at h2
  obtain ⟨n0, e0, x0, w0⟩ := DataW.trod_int Tryz.underlying46 h0
  obtain ⟨s, e1, x1, w1⟩ := DataW.trod_string Tryz.underlying9 h1
  obtain ⟨n2, e2, x2, w2⟩ := DataW.trod_int Tryz.underlying2 h2
  have e0' : v0 = .int .u8 n0 := by simpa using e0
  have e1' : v1 = .string s := by simpa using e1
  have e2' : v2 = .int .i64 n2 := by simpa using e2
  simp only [Lit.wf, Bool.and_eq_true, decide_eq_true_eq] at w0 w2
  have k0 : (0 : Int) ≤ n0 := w0.1
  have k2 : n2 ≤ (9223372036854775807 : Int) := w2.2
  simp only [Prod.mk.injEq] at hx
  refine ⟨⟨n0.toNat, s.data.toList, n2⟩, ⟨?_, k2⟩, ?_⟩
  · rw [hx.1, x0, x1, x2]
    simp only [Rows.uptoBulk, Rows.uptoBulkAll]
    omega
  · rw [e0', e1', e2', Int.toNat_of_nonneg k0]

instance : Inhabited Stp := ⟨⟨0, [], 0⟩⟩

end Go.Proofs.YtcjmhmmjfgjcnaaGreatDoor.Pa

/- A law's argument, opened: a list of instructions. -/
namespace Go.Proofs.YtcjmhmmjfgjcnaaGreatDoor.Cd
open Go.RowKit Go.ChangeShapes Go.WideShapes Go.Deep Go.Proofs.YtcjmhmmjfgjcnaaGreatDoor.Lx Go.Proofs.YtcjmhmmjfgjcnaaGreatDoor.Pa

set_option maxRecDepth 100000 in
theorem open_in {H : Type} {enc : TypeId × Value → H} {W : World} {n : Nat} {cs : List Value} {d : DataW H} {ps : List MemPlace} (h : DataW.trod enc Tryz.prog W 0 (fun _ => true) true n 63 cs = some (d, ps)) :
    ∃ (y : Ins), (y.st.text.length + 4 ≤ Rows.uptoBulk d ∧ y.st.num ≤ 9223372036854775807) ∧ cs = [.int .u8 y.op, .int .u8 y.st.kind, .string ⟨y.st.text.toArray⟩, .int .i64 y.st.num, .int .i64 y.to] := by
  obtain ⟨y0, y1, y2, k, hx, hl, h0, h1, h2⟩ := trod_struct3 Tryz.underlying63 h
  rw [show Tryz.prog.cellsOf 63 = 5 by kernel_rfl] at hl
  obtain ⟨v0, v1, v2, v3, v4, rfl⟩ : ∃ v0 v1 v2 v3 v4, cs = [v0, v1, v2, v3, v4] := by
    match cs, hl with
    | [v0, v1, v2, v3, v4], _ => exact ⟨v0, v1, v2, v3, v4, rfl⟩
  rw [show Tryz.prog.cellsOf 60 = 1 by kernel_rfl] at h0
  rw [show Tryz.prog.cellsOf 48 = 3 by kernel_rfl] at h1
  rw [show Tryz.prog.cellsOf 3 = 1 by kernel_rfl] at h2
  obtain ⟨n0, e0, x0, w0⟩ := DataW.trod_int Tryz.underlying60 h0
  obtain ⟨s, hs, e1⟩ := open_stp h1
  obtain ⟨n2, e2, x2, w2⟩ := DataW.trod_int Tryz.underlying3 h2
  have e0' : v0 = .int .u8 n0 := by simpa using e0
  have e1' : v1 = .int .u8 s.kind ∧ v2 = .string ⟨s.text.toArray⟩ ∧ v3 = .int .i64 s.num := by simpa using e1
  have e2' : v4 = .int .i64 n2 := by simpa using e2
  simp only [Lit.wf, Bool.and_eq_true, decide_eq_true_eq] at w0
  have k0 : (0 : Int) ≤ n0 := w0.1
  simp only [Prod.mk.injEq] at hx
  refine ⟨⟨n0.toNat, s, n2⟩, ⟨?_, hs.2⟩, ?_⟩
  · rw [hx.1]
    have := hs.1
    simp only [Rows.uptoBulk, Rows.uptoBulkAll]
    omega
  · rw [e0', e1'.1, e1'.2.1, e1'.2.2, e2', Int.toNat_of_nonneg k0]

theorem bulk_len4 {H : Type} : ∀ (l : List (DataW H)), (∀ d ∈ l, 4 ≤ Rows.uptoBulk d) → 4 * l.length ≤ Rows.uptoBulkAll l
  | [], _ => by simp
  | x :: l, h => by
    have h1 := bulk_len4 l (fun d hd => h d (List.mem_cons_of_mem _ hd))
    have h2 := h x List.mem_cons_self
    simp only [Rows.uptoBulkAll, List.length_cons]; omega

instance : Inhabited Ins := ⟨ins0 0⟩

set_option maxRecDepth 100000 in
theorem open_ins' {H : Type} {enc : TypeId × Value → H} {W : World} {fuel : Nat} {v : Value} {d : DataW H} {ps : List MemPlace} (hf : DataW.trod enc Tryz.prog W 0 (fun _ => true) true fuel 23 [v] = some (d, ps)) :
    ∃ (l : List Ins), InsIn W v l ∧ 4 * l.length + 1 ≤ Rows.uptoBulk d ∧ ∀ y ∈ l, y.st.text.length + 4 ≤ Rows.uptoBulk d ∧ y.st.num ≤ 9223372036854775807 := by
  rcases open_slice Tryz.underlying23 hf with ⟨hc, hx⟩ | ⟨a, len, cap, mm, n, D, Pl, hc, _, hl, hm, hmm, hx, hall⟩
  · simp only [List.cons.injEq, and_true] at hc
    subst hc
    exact ⟨[], ⟨none, 0, 0, rfl, rfl, Nat.le_refl _, fun i hi => absurd hi (Nat.not_lt_zero _)⟩, bulk_pos d, by simp⟩
  · simp only [List.cons.injEq, and_true] at hc
    subst hc
    simp only [if_true] at hmm
    subst hmm
    simp only [Prod.mk.injEq] at hx
    obtain ⟨rfl, rfl⟩ := hx
    rw [show Tryz.prog.cellsOf 63 = 5 by kernel_rfl] at hall
    have each : ∀ i, i < len → ∃ y : Ins, (∃ g o, a = ⟨g, o, none⟩ ∧ InsCells W g (o + i * 5) y) ∧ y.st.text.length + 4 ≤ Rows.uptoBulk (D i) ∧ y.st.num ≤ 9223372036854775807 := fun i hi => by
      obtain ⟨cs', h1, h2⟩ := hall i (by omega)
      obtain ⟨y, hfit, rfl⟩ := open_in h2
      obtain ⟨cs0, h01, _⟩ := hall 0 (by omega)
      obtain ⟨_, hl0, hcell0⟩ := World.cells?_some h01
      obtain ⟨_, _, hcell⟩ := World.cells?_some h1
      obtain ⟨g, o, spot⟩ := a
      have hspot : spot = none := by
        have h00 := hcell0 0 (by omega)
        rw [List.getElem?_eq_getElem (by omega)] at h00
        simpa [Addr.add] using World.cell?_spot h00
      subst hspot
      have q0 := hcell 0 (by omega)
      have q1 := hcell 1 (by omega)
      have q2 := hcell 2 (by omega)
      have q3 := hcell 3 (by omega)
      have q4 := hcell 4 (by omega)
      rw [add_add, Addr.add_lit] at q0 q1 q2 q3 q4
      exact ⟨y, ⟨g, o, rfl, q0, q1, q2, q3, q4⟩, hfit⟩
    obtain ⟨f, hf2⟩ := choose_lt each
    have hbd : ∀ i, i < len → Rows.uptoBulk (D i) ≤ Rows.uptoBulkAll ((List.range len).map D) := fun i hi => bulk_mem (List.mem_map.2 ⟨i, List.mem_range.2 hi, rfl⟩)
    have hlen := bulk_len4 ((List.range len).map D) (fun d hd => by obtain ⟨i, hi, rfl⟩ := List.mem_map.1 hd; have := (hf2 i (List.mem_range.1 hi)).2.1; omega)
    rw [List.length_map, List.length_range] at hlen
    refine ⟨(List.range len).map f, ⟨_, len, _, rfl, by simp, hl, fun i hi => ?_⟩, ?_, fun y hy => ?_⟩
    · have hi' : i < len := by simpa using hi
      obtain ⟨⟨g, o, e, hcl⟩, _⟩ := hf2 i hi'
      refine ⟨g, o, by rw [e], ?_⟩
      simpa using hcl
    · simp only [Rows.uptoBulk, List.length_map, List.length_range]; omega
    · obtain ⟨i, hi, rfl⟩ := List.mem_map.1 hy
      have hi' := List.mem_range.1 hi
      have h1 := (hf2 i hi').2
      have h2 := hbd i hi'
      simp only [Rows.uptoBulk]
      exact ⟨by omega, h1.2⟩
set_option maxRecDepth 100000 in
theorem open_ins {H : Type} {enc : TypeId × Value → H} {W : World} {b0 : Nat} {v : Value} {d : DataW H} {ps : List MemPlace} (hv : Value.okWide Tryz.prog W .any b0 23 v)
    (h : DataW.Trod enc Tryz.prog W 0 (fun _ => true) true 23 v d ps) :
    ∃ (l : List Ins), InsIn W v l ∧ 4 * l.length + 1 ≤ Rows.uptoBulk d ∧ ∀ y ∈ l, y.st.text.length + 4 ≤ Rows.uptoBulk d ∧ y.st.num ≤ 9223372036854775807 := by
  obtain ⟨a0, n0, c0, rfl⟩ := okWide_slice Tryz.underlying23 hv
  obtain ⟨fuel, hf⟩ := h
  exact open_ins' hf

end Go.Proofs.YtcjmhmmjfgjcnaaGreatDoor.Cd
