/- Parts: LxT LxZ LyA LyB. -/
import Derived.Test.YtgehjklodphogaaDoorMg09
import Derived.WalkKit
import Derived.ProofKit
import Derived.OpenShut
import Derived.Deep.DeepHandedRow
import Derived.Deep.DeepWitnessRowRef
import Derived.Carry
import Derived.SevenTiedAt
import Derived.Lay
import Derived.Lib.LaidU8T
import Derived.PinnedBridge
import Derived.MakeChecks
import Derived.Shelf.Vars
import Derived.Test.YtgehjklodphogaaDoorRows
import Derived.Test.YtgehjklodphogaaDoorCards
import Derived.Test.YtgehjklodphogaaDoorTie
import Derived.Deep.Slices
import Derived.Lib.SmallJoins
import Derived.Laws.AppendOwnNone
import Derived.Deep.AppendLies
import Derived.Maps.AppendAt
import Derived.Deep.DeepMust
import Derived.Lib.ItoaLen

/- The frame of a law: a call that answers true and turns nothing old meets the row's post. Nothing here speaks of the program. -/
namespace Go.Proofs.YtgehjklodphogaaDoor.Lx
open Go.RowKit Go.ChangeShapes

theorem stay_all {H : Type} {enc : TypeId × Value → H} {P : Program} (hl : laidOutB P = true) {W W' : World} (hb : Below W.heap.size W W') :
    ∀ {ts : List TypeId} {vs : List Value} {ds : List (DataW H)} {ps : List MemPlace}, ts.all (fun t => P.readableRec t && decide (t < P.types.size)) = true →
      DataW.TrodAll enc P W 0 (fun _ => true) true ts vs ds ps → (∀ x ∈ ps, x.block < W.heap.size) → DataW.TrodAll enc P W' 0 (fun b => decide (b < W.heap.size)) true ts vs ds ps
  | [], _, _, _, _, h, _ => by
    obtain ⟨rfl, rfl, rfl⟩ := trodAll_nil h
    exact rfl
  | t :: ts, _, _, _, ht, h, hlt => by
    obtain ⟨v, vs, d, ds, p, q, rfl, rfl, rfl, h0, hr⟩ := trodAll_cons h
    simp only [List.all_cons, Bool.and_eq_true, decide_eq_true_eq] at ht
    exact ⟨p, q, Below.trod hl ht.1.1 ht.1.2 h0 hb fun x hx => hlt x (by simp [hx]), stay_all hl hb (by simpa using ht.2) hr fun x hx => hlt x (by simp [hx]), rfl⟩

theorem law_post {H : Type} {enc : TypeId × Value → H} {P : Program} {fn : Func} {s : ChangeSpec} {tb : TypeId} {W W' : World} {args : Array Value} {ds gs : List (DataW H)} {before : List MemPlace}
    (hl : laidOutB P = true) (hts : fn.params.toList.all (fun t => P.readableRec t && decide (t < P.types.size)) = true) (hr : fn.resultTypes = #[tb]) (hb : P.underlying tb = some .bool) (hv : s.vars = [])
    (hW : DataW.Whole enc P fn.params.toList s.vars false W args.toList ds gs before) (hfn : s.fn H (ds ++ gs) = { results := [.lit (.bool true)], args := ds }) (bel : Below W.heap.size W W') :
    s.post enc P fn false true false false W args (.bool true) W' := by
  have hW' := hW
  have hlt := hW.lt
  obtain ⟨p, q, hA, hV, rfl, _, _⟩ := hW
  rw [hv] at hV
  obtain ⟨rfl, rfl⟩ := trodVars_none hV
  refine ⟨ds, [], p ++ [], [], p, [], hW', ?_, ?_, ?_, bel.frame _, fun h => by cases h⟩
  · rw [hfn, hr]; exact trodAll_mk1 (shut_bool hb _)
  · rw [hfn]; exact stay_all hl bel hts hA fun x hx => hlt x (by simpa using hx)
  · rw [hfn, hv]; rfl
theorem law_calls {H : Type} {enc : TypeId × Value → H} {P : Program} {fid : FuncId} {fn : Func} {s : ChangeSpec} {tb : TypeId} {W : World} {args : Array Value} {ds gs : List (DataW H)} {before : List MemPlace}
    (hl : laidOutB P = true) (hts : fn.params.toList.all (fun t => P.readableRec t && decide (t < P.types.size)) = true) (hr : fn.resultTypes = #[tb]) (hb : P.underlying tb = some .bool) (hv : s.vars = [])
    (hW : DataW.Whole enc P fn.params.toList s.vars false W args.toList ds gs before) (hfn : s.fn H (ds ++ gs) = { results := [.lit (.bool true)], args := ds })
    (walk : Calls P fid args W fun e W' => e = .returned (.bool true) ∧ Below W.heap.size W W') :
    Calls P fid args W fun e W' => ∃ v, e = .returned v ∧ s.post enc P fn false true false false W args v W' :=
  walk.mono fun _ _ ⟨he, hbel⟩ => ⟨_, he, law_post hl hts hr hb hv hW hfn hbel⟩

/-- a listed error variable holds an interface value -/
theorem iface_of_reads {P : Program} {W : World} {name : String} {g : Nat} {t : TypeId} {ms : Array (String × TypeId)} {d : DataW Unit} {tn : String}
    (hg : P.globalNamed name = some g) (hty : (P.globals[g]?).map (·.type) = some t) (ht : P.underlying t = some (.interface ms)) (h : Go.Lib.VarReads P W name (.iface tn d)) :
    ∃ ev, W.cell? ⟨g, 0, none⟩ = some ev ∧ (ev = .nilIface ∨ ∃ te pe, ev = .iface te pe) := by
  obtain ⟨g', t', cs, fuel, p, hg', hty', hvar, hd⟩ := h
  obtain rfl := Option.some.inj (hg.symm.trans hg')
  obtain rfl := Option.some.inj (hty.symm.trans hty')
  have hc := World.var?_cell hg hvar 0
  cases fuel with
  | zero => simp [DataW.trod] at hd
  | succ fuel =>
    unfold DataW.trod at hd
    simp only [ht] at hd
    split at hd <;> try (first | (rename_i e1 e2; cases e1; done) | (rename_i e1; cases e1; done))
    all_goals first
      | (simp at hd; done)
      | (rename_i u v hcs; exact ⟨_, by rw [hc, ← Array.getElem?_toList, hcs]; rfl, .inr ⟨_, _, rfl⟩⟩)
      | skip
theorem cell_lt {W : World} {g c : Nat} {v : Value} (h : W.cell? ⟨g, c, none⟩ = some v) : g < W.heap.size := World.block_lt_of_cell? _ _ h

end Go.Proofs.YtgehjklodphogaaDoor.Lx

/- What a row's listed variables give the walks; a start for the witness. -/
namespace Go.Proofs.YtgehjklodphogaaDoor.Lx
open Go.RowKit Go.ChangeShapes

theorem own : ownKnob Tryd.prog.godebug = none := by kernel_rfl
theorem laidOut : laidOutB Tryd.prog = true := by kernel_rfl
theorem gSyn : Tryd.prog.globalNamed "strconv.ErrSyntax" = some 7 := by kernel_rfl
theorem gRng : Tryd.prog.globalNamed "strconv.ErrRange" = some 8 := by kernel_rfl

/-- the rows' list -/
abbrev laidL := Rows.lexBackRow.laid

theorem env_of {W : World} (hL : laidMetH Tryd.prog laidL W) (hS : W.ShapedOpen Tryd.prog) : Env W := by
  rw [MakeChecks.laidMetH_plain _ _ _ (by kernel_rfl)] at hL
  have r2 := Lib.laidMet.reads hL (.tail _ (.tail _ (.head _)))
  have r3 := Lib.laidMet.reads hL (.tail _ (.tail _ (.tail _ (.head _))))
  have r4 := Lib.laidMet.reads hL (.tail _ (.tail _ (.tail _ (.tail _ (.head _)))))
  have r5 := Lib.laidMet.reads hL (.tail _ (.tail _ (.tail _ (.tail _ (.tail _ (.head _))))))
  have r6 := Lib.laidMet.reads hL (.tail _ (.tail _ (.tail _ (.tail _ (.tail _ (.tail _ (.head _)))))))
  have syn := iface_of_reads gSyn (t := 118) (by kernel_rfl) Tryd.underlying118 r5
  have rng := iface_of_reads gRng (t := 118) (by kernel_rfl) Tryd.underlying118 r4
  have max : ∃ m, W.cell? ⟨4, 0, none⟩ = some (.int .i64 m) :=
    cell_of_shapedOpen_int (zero := #[.int .i64 0]) (t := 3) hS (of_decide_eq_true (by kernel_rfl)) (by kernel_rfl) rfl (by kernel_rfl) (by kernel_rfl) Tryd.underlying3
  have pow : Lib.TabIs Tryd.prog W "internal/strconv.uint64pow10" .u64 Lib.pow10Tab := by
    obtain ⟨g, t, cs, fuel, p, hg, hty, hvar, hd⟩ := r2
    obtain rfl := Option.some.inj (gPow.symm.trans hg)
    obtain rfl := Option.some.inj ((show (Tryd.prog.globals[0]?).map (·.type) = some 175 by kernel_rfl).symm.trans hty)
    unfold Lib.TabIs
    rw [hvar, ← Lib.cells_of_tab (zs := Lib.pow10Tab) Tryd.underlying175 Tryd.underlying123 (by kernel_rfl) (by kernel_rfl) hd]
  have utf : Lib.Utf8Tabs 1 2 W :=
    utf8Tabs_of_readsT (U8Types.of196 Tryd.laysValid) ⟨by kernel_rfl, by kernel_rfl, by kernel_rfl, by kernel_rfl, by kernel_rfl, by kernel_rfl, by kernel_rfl⟩ (by have := r6; rw [show Rows.laid_unicode_utf8_first = Lib.firstData from Pinned.utf8First_eq] at this; exact this) r3
  have hp := World.var?_cell gPow pow 0
  exact {
    syn := syn, rng := rng, max := max, pow := pow, utf := utf
    ltS := let ⟨_, h, _⟩ := syn; cell_lt h
    ltR := let ⟨_, h, _⟩ := rng; cell_lt h
    ltM := let ⟨_, h⟩ := max; cell_lt h
    ltP := cell_lt (hp.trans (by rfl))
    ltF := cell_lt (utf.1 0 (by decide))
    ltA := cell_lt (utf.2 0 (by decide)).1 }

/-- a start for the witness -/
theorem laid_met (os : Os) (args : Array Value) : laidMetH Tryd.prog laidL ((World.laidAll Tryd.prog os laidL).forCall (fun _ _ => 0) ⟨#[], args, []⟩).memory := by
  rw [MakeChecks.laidMetH_plain _ _ _ (by kernel_rfl)]
  exact laidMet_laidAll _ (by kernel_rfl) (by kernel_rfl)

theorem bulk_string {H : Type} (bytes : List UInt8) : Rows.uptoBulk (DataW.lit (H := H) (.string bytes)) = bytes.length + 1 := by
  simp [Rows.uptoBulk]
theorem bulk_le {H : Type} {l : List (DataW H)} (hk : Rows.uptoSmall H l = true) : Rows.uptoBulkAll l ≤ 1048576 := by
  simpa [Rows.uptoSmall] using hk

end Go.Proofs.YtgehjklodphogaaDoor.Lx

/- LexBack: a list of tokens that comes in, opened. -/
namespace Go.Proofs.YtgehjklodphogaaDoor.Lx
open Go.RowKit Go.ChangeShapes Go.WideShapes Go.Deep Go.Joins

/-- a token's cells, wherever they lie -/
structure ArgCells (w : World) (g o : Nat) (t : Tok) (p : Int) : Prop where
  c0 : w.cell? ⟨g, o, none⟩ = some (.int .u8 t.kind)
  c1 : w.cell? ⟨g, o + 1, none⟩ = some (.string ⟨t.text.toArray⟩)
  c2 : w.cell? ⟨g, o + 2, none⟩ = some (.int .i64 t.num)
  c3 : w.cell? ⟨g, o + 3, none⟩ = some (.int .i64 p)
theorem ArgCells.below {w w' : World} {g o : Nat} {t : Tok} {p : Int} (h : ArgCells w g o t p) (hb : Below w.heap.size w w') : ArgCells w' g o t p := by
  have hg : g < w.heap.size := World.block_lt_of_cell? _ _ h.c0
  exact ⟨(hb.cell (p := ⟨g, _, none⟩) hg).trans h.c0, (hb.cell (p := ⟨g, _, none⟩) hg).trans h.c1, (hb.cell (p := ⟨g, _, none⟩) hg).trans h.c2, (hb.cell (p := ⟨g, _, none⟩) hg).trans h.c3⟩
structure ArgFits (t : Tok) : Prop where
  txt : t.text.length ≤ 1048576
  lo : -9223372036854775808 ≤ t.num
  hi : t.num ≤ 9223372036854775807
def ArgToks (w : World) (a : Option Addr) (n : Nat) : Prop := ∀ i, i < n → ∃ (g o : Nat) (t : Tok) (p : Int), a = some ⟨g, o, none⟩ ∧ ArgFits t ∧ ArgCells w g (o + i * 4) t p

theorem bulk_mem {H : Type} {d : DataW H} : ∀ {l : List (DataW H)}, d ∈ l → Rows.uptoBulk d ≤ Rows.uptoBulkAll l
  | [], h => by cases h
  | x :: l, h => by
    rcases List.mem_cons.1 h with rfl | h
    · simp [Rows.uptoBulkAll]
    · have := bulk_mem h; simp only [Rows.uptoBulkAll]; omega

set_option maxRecDepth 100000 in
theorem open_tok {H : Type} {enc : TypeId × Value → H} {W : World} {n : Nat} {cs : List Value} {d : DataW H} {ps : List MemPlace} (h : DataW.trod enc Tryd.prog W 0 (fun _ => true) true n 26 cs = some (d, ps)) (hb : Rows.uptoBulk d ≤ 1048576) :
    ∃ (t : Tok) (p : Int), ArgFits t ∧ cs = [.int .u8 t.kind, .string ⟨t.text.toArray⟩, .int .i64 t.num, .int .i64 p] := by
  obtain ⟨y0, y1, y2, y3, k, hx, hl, h0, h1, h2, h3⟩ := trod_struct4 Tryd.underlying26 h
  rw [show Tryd.prog.cellsOf 26 = 4 by kernel_rfl] at hl
  obtain ⟨v0, v1, v2, v3, rfl⟩ : ∃ v0 v1 v2 v3, cs = [v0, v1, v2, v3] := by
    match cs, hl with
    | [v0, v1, v2, v3], _ => exact ⟨v0, v1, v2, v3, rfl⟩
  have c0 : Tryd.prog.cellsOf 24 = 1 := by kernel_rfl
  have c1 : Tryd.prog.cellsOf 9 = 1 := by kernel_rfl
  have c2 : Tryd.prog.cellsOf 2 = 1 := by kernel_rfl
  have c3 : Tryd.prog.cellsOf 3 = 1 := by kernel_rfl
  rw [c0] at h0
  rw [c1] at h1
  rw [c2] at h2
  rw [c3] at h3
  obtain ⟨n0, e0, x0, w0⟩ := DataW.trod_int Tryd.underlying24 h0
  obtain ⟨s, e1, x1, w1⟩ := DataW.trod_string Tryd.underlying9 h1
  obtain ⟨n2, e2, x2, w2⟩ := DataW.trod_int Tryd.underlying2 h2
  obtain ⟨n3, e3, x3, w3⟩ := DataW.trod_int Tryd.underlying3 h3
  have e0' : v0 = .int .u8 n0 := by simpa using e0
  have e1' : v1 = .string s := by simpa using e1
  have e2' : v2 = .int .i64 n2 := by simpa using e2
  have e3' : v3 = .int .i64 n3 := by simpa using e3
  simp only [Lit.wf, Bool.and_eq_true, decide_eq_true_eq] at w0 w2
  have k0 : (0 : Int) ≤ n0 := w0.1
  have k1 : (-9223372036854775808 : Int) ≤ n2 := w2.1
  have k2 : n2 ≤ (9223372036854775807 : Int) := w2.2
  simp only [Prod.mk.injEq] at hx
  have hs : s.data.toList.length ≤ 1048576 := by
    rw [hx.1, x1] at hb
    simp only [Rows.uptoBulk, Rows.uptoBulkAll] at hb
    omega
  refine ⟨⟨n0.toNat, s.data.toList, n2, 0⟩, n3, ⟨hs, k1, k2⟩, ?_⟩
  rw [e0', e1', e2', e3', Int.toNat_of_nonneg k0]

set_option maxRecDepth 100000 in
theorem open_toks {H : Type} {enc : TypeId × Value → H} {W : World} {b0 : Nat} {v : Value} {d : DataW H} {ps : List MemPlace} (hv : Value.okWide Tryd.prog W .any b0 22 v)
    (h : DataW.Trod enc Tryd.prog W 0 (fun _ => true) true 22 v d ps) (hb : Rows.uptoBulk d ≤ 1048576) :
    ∃ (a : Option Addr) (n c : Nat), v = .slice a n c ∧ n ≤ c ∧ c ≤ maxLen ∧ ArgToks W a n := by
  obtain ⟨a0, n0, c0, rfl⟩ := okWide_slice Tryd.underlying22 hv
  obtain ⟨fuel, hf⟩ := h
  rcases open_slice Tryd.underlying22 hf with ⟨hc, hx⟩ | ⟨a, len, cap, mm, n, D, Pl, hc, _, hl, hm, hmm, hx, hall⟩
  · have hc : [Value.slice a0 n0 c0] = [Value.slice none 0 0] := hc
    simp only [List.cons.injEq, Value.slice.injEq, and_true] at hc
    obtain ⟨rfl, rfl, rfl⟩ := hc
    exact ⟨none, 0, 0, rfl, Nat.le_refl _, Nat.zero_le _, fun i hi => absurd hi (Nat.not_lt_zero _)⟩
  · have hc : [Value.slice a0 n0 c0] = [Value.slice (some a) len cap] := hc
    simp only [List.cons.injEq, Value.slice.injEq, and_true] at hc
    obtain ⟨rfl, rfl, rfl⟩ := hc
    simp only [if_true] at hmm
    subst hmm
    simp only [Prod.mk.injEq] at hx
    obtain ⟨rfl, rfl⟩ := hx
    rw [show Tryd.prog.cellsOf 26 = 4 by kernel_rfl] at hall
    refine ⟨_, _, _, rfl, hl, hm, fun i hi => ?_⟩
    obtain ⟨cs', h1, h2⟩ := hall i (by omega)
    have hbi : Rows.uptoBulk (D i) ≤ 1048576 := by
      have := bulk_mem (d := D i) (l := (List.range n0).map D) (List.mem_map.2 ⟨i, List.mem_range.2 hi, rfl⟩)
      simp only [Rows.uptoBulk] at hb
      omega
    obtain ⟨t, p, hfit, rfl⟩ := open_tok h2 hbi
    obtain ⟨cs0, h01, _⟩ := hall 0 (by omega)
    obtain ⟨_, hl0, hcell0⟩ := World.cells?_some h01
    obtain ⟨_, _, hcell⟩ := World.cells?_some h1
    obtain ⟨g, o, spot⟩ := a
    have hspot : spot = none := by
      have h00 := hcell0 0 (by omega)
      rw [List.getElem?_eq_getElem (by omega)] at h00
      simpa [Addr.add] using World.cell?_spot h00
    subst hspot
    have q0 := hcell 0 (by omega)
    have q1 := hcell 1 (by omega)
    have q2 := hcell 2 (by omega)
    have q3 := hcell 3 (by omega)
    rw [add_add, Addr.add_lit] at q0 q1 q2 q3
    exact ⟨g, o, t, p, rfl, hfit, q0, q1, q2, q3⟩

end Go.Proofs.YtgehjklodphogaaDoor.Lx

/- LexBack: the walk. -/
namespace Go.Proofs.YtgehjklodphogaaDoor.Lx
open Go.RowKit

structure BackMem (w wr : World) (out : Value) (tx : ByteArray) (toks : List Tok) : Prop where
  bel : Below w.heap.size w wr
  own : wr.ownsRow w.heap.size 26 4 out toks.length (toksC toks)
  trail : Trail (L tx) toks
  len : tx.size ≤ 16384
  cnt : toks.length ≤ tx.size
theorem BackMem.step {w wr w' : World} {out : Value} {tx : ByteArray} {toks : List Tok} (h : BackMem w wr out tx toks) (hb : Below wr.heap.size wr w') : BackMem w w' out tx toks :=
  ⟨h.bel.trans (hb.mono h.bel.size), own_same h.own (fun g _ hg => hb.block g hg), h.trail, h.len, h.cnt⟩
theorem BackMem.start {w wr : World} (hb : Below w.heap.size w wr) : BackMem w wr (.slice none 0 0) ⟨#[]⟩ [] :=
  ⟨hb, ⟨by simp [toksC], .inl ⟨rfl, rfl⟩⟩, Trail.nil, Nat.zero_le _, Nat.le_refl _⟩
/-- another block is stored -/
theorem BackMem.other {w wr : World} {out : Value} {tx : ByteArray} {toks : List Tok} (h : BackMem w wr out tx toks) {B : Nat} (hB : w.heap.size ≤ B) (hne : out.ownBlock ≠ some B) {i : Nat} (v : Value) : BackMem w (wr.setCell ⟨B, i, none⟩ v) out tx toks :=
  ⟨h.bel.setCell hB _, own_same h.own (fun g hg _ => Below.heap_setCell _ _ _ _ (fun e => hne (by rw [hg, e]))), h.trail, h.len, h.cnt⟩
/-- the token behind, and its text -/
theorem BackMem.more {w wr w' : World} {out out' : Value} {tx s b : ByteArray} {toks : List Tok} {t : Tok} (h : BackMem w wr out tx toks)
    (hown : w'.ownsRow w.heap.size 26 4 out' (toks.length + 1) (toksC toks ++ Tok.cells { t with pos := tx.size })) (hg : wr.grownBy w' out.ownBlock)
    (ht : showOk t = true) (hs : L s = showS t) (hb : ∀ c ∈ L b, blankB c = true) (hl : tx.size + s.size + b.size < 16384) :
    BackMem w w' out' (tx ++ (s ++ ⟨#[32]⟩ ++ b)) (toks ++ [{ t with pos := tx.size }]) := by
  have e : L (tx ++ (s ++ ⟨#[32]⟩ ++ b)) = L tx ++ (showS t ++ (32 :: L b)) := by
    rw [← hs, ← join_bytes]
    simp [L, ByteArray.data_append]
  have hsz : (tx ++ (s ++ ⟨#[32]⟩ ++ b)).size = tx.size + (s.size + 1 + b.size) := by rw [ByteArray.size_append, join_size]
  refine ⟨h.bel.grown hg h.bel.size fun k hk => (World.ownsRow.lt h.own k hk).1, ?_, ?_, by omega, ?_⟩
  · rw [toksC_append, List.length_append]
    have e2 : toksC [{ t with pos := tx.size }] = Tok.cells { t with pos := tx.size } := by simp [toksC]
    rw [e2]
    exact hown
  · rw [e]
    have := h.trail.more ht hb
    rw [L_length] at this
    exact this
  · have := h.cnt
    rw [hsz, List.length_append]
    simp only [List.length_cons, List.length_nil]
    omega

theorem blank_take {b : ByteArray} {k : Nat} (hk : k < b.size) (h : ∀ x ∈ (L b).take k, blankB x = true) (hb : blankB b[k] = true) : ∀ x ∈ (L b).take (k + 1), blankB x = true := by
  have hk2 : k < (L b).length := by rw [L_length]; exact hk
  rw [List.take_succ_eq_append_getElem hk2]
  intro x hx
  rcases List.mem_append.1 hx with hx | hx
  · exact h x hx
  · simp only [List.mem_cons, List.mem_nil_iff, or_false] at hx
    rw [hx]; exact hb
theorem byte_ne {x : UInt8} {n : Nat} (hn : n < 256) (h : x ≠ UInt8.ofNat n) : ((x.toNat : Int) != n) = true := by
  rw [bne_iff_ne]
  intro e
  apply h
  rw [← UInt8.toNat_inj, UInt8.toNat_ofNat']
  omega

set_option maxHeartbeats 4000000 in
set_option maxRecDepth 100000 in
theorem LexBack_calls (a : Option Addr) (n c : Nat) (b : ByteArray) (w : World) (hn : n ≤ c) (hc : c ≤ maxLen) (hb : b.size ≤ 1048576) (ha : ArgToks w a n) (he : Env w) :
    Calls Tryd.prog 3 #[.slice a n c, .string b] w fun e w' => e = .returned (.bool true) ∧ Below w.heap.size w w' := by
  have He := Lib.hid he
  have Ha := Lib.hid ha
  have hn2 : n ≤ 9223372036854775807 := by unfold maxLen at hc; omega
  clear he ha hc
  go_enter Tryd.func3, Tryd.ntmps3
  go_wp2_with fail
  refine (lives_calls w He.out).mono ?_
  rintro e w0 ⟨rfl, hb0⟩
  have Hb0 := Lib.hid hb0
  clear hb0
  go_wp2_with fail
  go_loopw [5] (fun i wr => ∃ k : Nat, k ≤ b.size ∧ i = .int .i64 k ∧ Hid (Below w.heap.size w wr) ∧ Hid (∀ x ∈ (L b).take k, blankB x = true)) (fun i _ => b.size - (intOf i).toNat)
  case atStart => exact ⟨0, Nat.zero_le _, rfl, Hb0.out, by show ∀ x ∈ (L b).take 0, _; simp⟩
  case round =>
    obtain ⟨k, hk, rfl, Hb, Hbl⟩ := hrel
    by_cases hlt : k < b.size
    · by_cases h0 : b[k] = 32
      · have q0 : ((b[k].toNat : Int) != 32) = false := by rw [h0]; rfl
        have Hn := Lib.hid (blank_take hlt Hbl.out (by rw [h0]; rfl))
        clear h0
        go_wp2_with fail
        go_roundw
        case rel => exact ⟨k + 1, by omega, by go_num, Hb.out, Hn.out⟩
        case measure => simp [intOf]; omega
      have q0 : ((b[k].toNat : Int) != 32) = true := byte_ne (by decide) h0
      clear h0
      by_cases h1 : b[k] = 9
      · have q1 : ((b[k].toNat : Int) != 9) = false := by rw [h1]; rfl
        have Hn := Lib.hid (blank_take hlt Hbl.out (by rw [h1]; rfl))
        clear h1
        go_wp2_with fail
        go_roundw
        case rel => exact ⟨k + 1, by omega, by go_num, Hb.out, Hn.out⟩
        case measure => simp [intOf]; omega
      have q1 : ((b[k].toNat : Int) != 9) = true := byte_ne (by decide) h1
      clear h1
      by_cases h2 : b[k] = 10
      · have q2 : ((b[k].toNat : Int) != 10) = false := by rw [h2]; rfl
        have Hn := Lib.hid (blank_take hlt Hbl.out (by rw [h2]; rfl))
        clear h2
        go_wp2_with fail
        go_roundw
        case rel => exact ⟨k + 1, by omega, by go_num, Hb.out, Hn.out⟩
        case measure => simp [intOf]; omega
      have q2 : ((b[k].toNat : Int) != 10) = true := byte_ne (by decide) h2
      clear h2
      by_cases h3 : b[k] = 13
      · have q3 : ((b[k].toNat : Int) != 13) = false := by rw [h3]; rfl
        have Hn := Lib.hid (blank_take hlt Hbl.out (by rw [h3]; rfl))
        clear h3
        go_wp2_with fail
        go_roundw
        case rel => exact ⟨k + 1, by omega, by go_num, Hb.out, Hn.out⟩
        case measure => simp [intOf]; omega
      have q3 : ((b[k].toNat : Int) != 13) = true := byte_ne (by decide) h3
      clear h3
      go_wp2_with fail
      go_ret
      exact ⟨rfl, Hb.out⟩
    · have Hbb := Lib.hid (show ∀ x ∈ L b, blankB x = true from fun x hx => Hbl.out x (by rw [List.take_of_length_le (by rw [L_length]; omega)]; exact hx))
      clear Hbl
      go_wp2_with fail
      go_loopw [6, 7, 47] (fun s6 s7 i wz => ∃ (tx : ByteArray) (toks : List Tok) (j : Nat), j ≤ n ∧ s6 = .string tx ∧ i = .int .i64 j ∧ Hid (BackMem w wz s7 tx toks)) (fun _ _ i _ => n - (intOf i).toNat)
      case atStart => exact ⟨_, [], 0, Nat.zero_le _, rfl, rfl, BackMem.start Hb.out⟩
      case round =>
        obtain ⟨tx, toks, j, hj, rfl, rfl, Hm⟩ := hrel
        have htl := Hm.out.len
        have htc := Hm.out.cnt
        by_cases hlt : j < n
        · obtain ⟨g, o, t, p, rfl, Hfit0, hcl⟩ := Ha.out j hlt
          have Hfit := Lib.hid Hfit0
          clear Hfit0
          obtain ⟨q0, q1, q2, q3⟩ := hcl.below Hm.out.bel
          clear hcl
          have hsl : (showS t).length ≤ 2097154 := by
            have h1 := Hfit.out.txt
            unfold showS
            split
            · have := Lib.itoa_length_le t.num Hfit.out.lo Hfit.out.hi; omega
            · split
              · have := dbl_length t.text
                rw [replaceAll_dbl]
                simp only [List.length_cons, List.length_append, List.length_nil]
                omega
              · omega
          have Hst0 := Lib.hid (ShowSt.start wr t p)
          have Hshow := Lib.hid (Show_calls t p (wr.alloc (.cells #[.int .u8 t.kind, .string ⟨t.text.toArray⟩, .int .i64 t.num, .int .i64 p] 26)) (by have := Hfit.out.txt; omega) Hfit.out.lo Hfit.out.hi (by omega) (He.out.below (Hm.out.bel.trans ((alloc_below wr _).mono Hm.out.bel.size))))
          by_cases hok : showOk t = true
          · have hsv : showV t = .tuple #[.string ⟨(showS t).toArray⟩, .int .i64 0] := by unfold showV; rw [if_pos hok]
            have hsl2 : (showS t).length ≤ 16384 := shown_length hok
            rw [hsv] at Hshow
            have Hok := Lib.hid hok
            obtain ⟨sb, hsb⟩ : ∃ sb : ByteArray, sb = ⟨(showS t).toArray⟩ := ⟨_, rfl⟩
            have hss : sb.size = (showS t).length := by rw [hsb, size_mk]
            have Hsb := Lib.hid (show L sb = showS t by rw [hsb, L_mk])
            rw [← hsb] at Hshow
            rw [← hss] at hsl2
            clear hok hsv hsb hss hsl
            by_cases hbig : 16384 ≤ tx.size + sb.size + b.size
            · have Hend := Lib.hid (fun (w2 : World) (hb2 : Below (wr.alloc (.cells #[.int .u8 t.kind, .string ⟨t.text.toArray⟩, .int .i64 t.num, .int .i64 p] 26)).heap.size (wr.alloc (.cells #[.int .u8 t.kind, .string ⟨t.text.toArray⟩, .int .i64 t.num, .int .i64 p] 26)) w2) => (Hm.out.step (alloc_below wr _)).step hb2)
              go_wp2_with fail
              refine Hshow.out.mono ?_
              rintro e w2 ⟨rfl, hb2⟩
              have Hm2 := Lib.hid (Hend.out w2 hb2)
              clear hb2
              go_wp2_with fail
              go_roundw
              case rel => exact ⟨tx, toks, j + 1, by omega, rfl, by go_num, Hm2.out⟩
              case measure => simp [intOf]; omega
            · go_wp2_with fail
              refine Hshow.out.mono ?_
              rintro e w2 ⟨rfl, hb2⟩
              have hst2 := Hst0.out.step hb2
              obtain ⟨⟨k0, k1, k2, k3⟩, g0, g1, g2, g3⟩ := four hst2.blk
              have hX : wr.heap.size < w2.heap.size := lt_of_heap hst2.blk
              have Hm2 := Lib.hid ((Hm.out.step (alloc_below wr _)).step hb2)
              have Hm7 := Lib.hid (show BackMem w ((w2.setCell ⟨wr.heap.size, 3, none⟩ (.int .i64 tx.size)).alloc (.cells #[.int .u8 t.kind, .string ⟨t.text.toArray⟩, .int .i64 t.num, .int .i64 tx.size] 26)) u7 tx toks from (Hm2.out.other (Nat.le_trans Hm.out.bel.size (Nat.le_refl _)) (fun e => by have := (World.ownsRow.lt Hm.out.own _ e).2; omega) _).step (alloc_below _ _))
              obtain ⟨i0, hi0, hz0, hz1, hz2⟩ := info_parts tokInfo
              have Hi0 := Lib.hid hi0
              have Hz0 := Lib.hid hz0
              have Hz1 := Lib.hid hz1
              have Hz2 := Lib.hid hz2
              have Hnews := Lib.hid (news_four w2 wr.heap.size tx.size t)
              have hcat1 : sb.size + 1 ≤ 9223372036854775807 := by omega
              have hcat2 : sb.size + 1 + b.size ≤ 9223372036854775807 := by omega
              have hcat3 : tx.size + (sb.size + 1 + b.size) ≤ 9223372036854775807 := by omega
              clear hi0 hz0 hz1 hz2 hst2 hb2
              go_wp2_with (at_builtin; go_must (refine wpList_append_own_at _ rfl _ _ 22 rfl w.heap.size 26 i0 _ 4 40 Tryd.underlying22 Hi0.out Hz0.out Hz1.out Hz2.out rfl (by decide) u7 toks.length (toksC toks) rfl Hm7.out.own ⟨w2.heap.size, 0, none⟩ 1 1 (Tok.cells { t with pos := tx.size }) rfl rfl ?c1 ?c2 ?c3 ?c4 ?c5 ?_))
              case c1 => exact Hnews.out
              case c2 => simp [Tok.cells, Value.oneCell']
              case c3 => unfold maxLen; omega
              case c4 => omega
              case c5 => exact Hm7.out.bel.size
              intro v' w4 hown4 hgrow4 _ hat4
              have Hm8 := Lib.hid (Hm7.out.more hown4 hgrow4 Hok.out Hsb.out Hbb.out (by omega))
              clear hown4 hgrow4 hat4
              go_wp2_with fail
              go_roundw
              case rel => exact ⟨_, _, j + 1, by omega, rfl, by go_num, Hm8.out⟩
              case measure => simp [intOf]; omega
          · have hsv : showV t = .tuple #[.string ⟨#[]⟩, .int .i64 13] := by unfold showV; rw [if_neg hok]
            rw [hsv] at Hshow
            clear hsv hok hsl
            go_wp2_with fail
            refine Hshow.out.mono ?_
            rintro e w2 ⟨rfl, hb2⟩
            have Hm2 := Lib.hid ((Hm.out.step (alloc_below wr _)).step hb2)
            clear hb2
            go_wp2_with fail
            go_roundw
            case rel => exact ⟨tx, toks, j + 1, by omega, rfl, by go_num, Hm2.out⟩
            case measure => simp [intOf]; omega
        · have hln : toks.length ≤ 16384 := by omega
          have Hlex := Lib.hid (show lexL (L tx) = .ok toks from Hm.out.trail.lex (by rw [L_length]; exact Hm.out.len))
          obtain ⟨a7, c7, rfl⟩ := own_slice Hm.out.own
          have HLs := Lib.hid (show tx.size ≤ maxLen by unfold maxLen; omega)
          have Hez := Lib.hid (He.out.below Hm.out.bel)
          go_wp2_with fail
          refine (Lex_ok tx wr HLs.out Hez.out Hlex.out).mono ?_
          rintro e w3 ⟨ak, ck, rfl, htk, hb3⟩
          have Hm3 := Lib.hid (Hm.out.step hb3)
          have Hk := Lib.hid (ownsRow_toks htk rfl)
          have Hk7 := Lib.hid (ownsRow_toks Hm3.out.own rfl)
          generalize hnn : toks.length = m at *
          have Hnn := Lib.hid hnn
          clear htk hb3 hnn
          go_wp2_with fail
          refine (same_n ak a7 toks toks m m ck c7 w3 Hk.out Hk7.out (by unfold maxLen; omega) (by unfold maxLen; omega) Hnn.out Hnn.out).mono ?_
          rintro e w5 ⟨rfl, hb5⟩
          have Hb5 := Lib.hid (Hm3.out.bel.trans (hb5.mono Hm3.out.bel.size))
          clear hb5
          go_wp2_with fail
          go_ret
          exact ⟨ret_bool (by simp), Hb5.out⟩

end Go.Proofs.YtgehjklodphogaaDoor.Lx
