/- Parts: PcG. -/
import Derived.Test.YtcjmhmmjfgjcnaaGreatDoorMh32
import Derived.Test.YtcjmhmmjfgjcnaaGreatDoorMh35
import Derived.Deep.RegionHeldLaw
import Derived.Deep.RegionHeld3
import Derived.RegionTactic

/- parse: Print. -/
namespace Go.Proofs.YtcjmhmmjfgjcnaaGreatDoor.Pa
open Go.RowKit Go.Proofs.YtcjmhmmjfgjcnaaGreatDoor.Lx

def printV (st : Stm) : Value := .tuple (if checkB st then #[.string ⟨(printT st).toArray⟩, .int .i64 0] else #[.string ⟨#[]⟩, .int .i64 13])
structure PrArgs (w : World) (st : Stm) (vi ve : Value) : Prop where
  ck : CkArgs w st vi ve
  hn : ∀ y ∈ st.expr, y.num ≤ 9223372036854775807
  hin : ∀ t ∈ st.items, ∀ y ∈ t.expr, y.num ≤ 9223372036854775807
theorem showEV_val (l : List Stp) : ∃ c : Int, showEV l = .tuple #[.string ⟨(showE l).toArray⟩, .int .i64 c] := by
  unfold showEV
  by_cases h : rightB l = true
  · rw [if_pos h]; exact ⟨_, rfl⟩
  · rw [if_neg h]
    have e : showE l = [] := by unfold showE; rw [if_neg h]
    rw [e]; exact ⟨_, rfl⟩
theorem check_items {st : Stm} (h : checkB st = true) : st.items.length ≤ 64 := by
  have h0 : st.items.isEmpty = true → st.items.length ≤ 64 := fun e => by rw [List.isEmpty_iff.1 e]; simp
  have h1 : itemsB st.items = true → st.items.length ≤ 64 := fun e => by
    unfold itemsB at e
    simp only [Bool.and_eq_true, decide_eq_true_eq] at e
    exact e.2.1
  unfold checkB at h
  simp only [Bool.and_eq_true] at h
  have h2 := h.2
  repeat' split at h2
  all_goals try simp only [Bool.and_eq_true] at h2
  · exact h0 h2.2.1
  · exact h0 h2.2.1
  · exact h0 h2.2.2.1
  · exact h1 h2.1.2.1
  · exact h0 h2.2.2.1
  · exact h1 h2.2.1
  · cases h2

def setF (i : Itm) : Txt := i.name ++ kX ++ showE i.expr
def asF (i : Itm) : Txt := showE i.expr ++ kASX ++ i.name

structure PrR (w W : World) (st : Stm) (vi ve v7 v8 : Value) (x7 x8 : List Txt) : Prop where
  bel : Below w.heap.size w W
  blk : W.heap[w.heap.size]? = some (.cells (smC st vi ve) 33)
  own7 : OwnStrs W (w.heap.size + 1) v7 x7
  own8 : OwnStrs W (w.heap.size + 1) v8 x8
  apart : ∀ g, v7.ownBlock = some g → v8.ownBlock ≠ some g
theorem PrR.step {w W W' : World} {st : Stm} {vi ve v7 v8 : Value} {x7 x8 : List Txt} (h : PrR w W st vi ve v7 v8 x7 x8) (hb : Below W.heap.size W W') : PrR w W' st vi ve v7 v8 x7 x8 :=
  ⟨h.bel.trans (hb.mono h.bel.size), (hb.block _ (lt_of_heap h.blk)).trans h.blk, own_same h.own7 fun g _ hg => hb.block g hg, own_same h.own8 fun g _ hg => hb.block g hg, h.apart⟩
theorem PrR.swap {w W : World} {st : Stm} {vi ve v7 v8 : Value} {x7 x8 : List Txt} (h : PrR w W st vi ve v7 v8 x7 x8) : PrR w W st vi ve v8 v7 x8 x7 :=
  ⟨h.bel, h.blk, h.own8, h.own7, fun g h1 h2 => h.apart g h2 h1⟩
theorem PrR.more {w W W' : World} {st : Stm} {vi ve v7 v8 v7' : Value} {x7 x8 y7 : List Txt} {n : Nat} {cs : List Value} (h : PrR w W st vi ve v7 v8 x7 x8) (hown : W'.ownsRow (w.heap.size + 1) 9 1 v7' n cs) (hg : W.grownBy W' v7.ownBlock)
    (hat : v7'.ownBlock = v7.ownBlock ∨ v7'.ownBlock = some W.heap.size) (hc : cs = strsC y7) (hn : y7.length = n) : PrR w W' st vi ve v7' v8 y7 x8 := by
  refine ⟨h.bel.grown hg h.bel.size fun b hb => ?_, (hg.block _ (lt_of_heap h.blk) fun e => ?_).trans h.blk, ?_, ?_, fun g h1 h2 => ?_⟩
  · have := (World.ownsRow.lt h.own7 b hb).1; omega
  · have := (World.ownsRow.lt h.own7 _ e.symm).1; omega
  · unfold OwnStrs; rw [hn, ← hc]; exact hown
  · exact own_same h.own8 fun g h1 hlt => hg.block g hlt fun e => h.apart g e.symm h1
  · rcases hat with e | e
    · rw [e] at h1; exact h.apart g h1 h2
    · rw [e] at h1
      have := (World.ownsRow.lt h.own8 g h2).2
      simp only [Option.some.injEq] at h1
      omega

theorem setF_snoc {l : List Itm} {k : Nat} (h : k < l.length) : (l.take (k + 1)).map setF = (l.take k).map setF ++ [setF l[k]] := by
  rw [List.take_succ_eq_append_getElem h, List.map_append]; rfl
theorem asF_snoc {l : List Itm} {k : Nat} (h : k < l.length) : (l.take (k + 1)).map asF = (l.take k).map asF ++ [asF l[k]] := by
  rw [List.take_succ_eq_append_getElem h, List.map_append]; rfl

theorem keepC {W W' : World} {a : Addr} {v : Value} (h : W.cell? a = some v) (hb : Below W.heap.size W W') : W'.cell? a = some v :=
  (hb.cell (World.block_lt_of_cell? _ _ h)).trans h
theorem cat4 (a b c d : List UInt8) : (⟨a.toArray⟩ ++ ⟨b.toArray⟩ ++ ⟨c.toArray⟩ ++ ⟨d.toArray⟩ : ByteArray) = ⟨(a ++ b ++ c ++ d).toArray⟩ := by rw [cat2, cat2, cat2]
theorem cat5 (a b c d e : List UInt8) : (⟨a.toArray⟩ ++ ⟨b.toArray⟩ ++ ⟨c.toArray⟩ ++ ⟨d.toArray⟩ ++ ⟨e.toArray⟩ : ByteArray) = ⟨(a ++ b ++ c ++ d ++ e).toArray⟩ := by rw [cat2, cat2, cat2, cat2]
theorem cat6 (a b c d e f : List UInt8) : (⟨a.toArray⟩ ++ ⟨b.toArray⟩ ++ ⟨c.toArray⟩ ++ ⟨d.toArray⟩ ++ ⟨e.toArray⟩ ++ ⟨f.toArray⟩ : ByteArray) = ⟨(a ++ b ++ c ++ d ++ e ++ f).toArray⟩ := by rw [cat2, cat2, cat2, cat2, cat2]
theorem stepB {a b c : World} (h1 : Below a.heap.size a b) (h2 : Below b.heap.size b c) : Below a.heap.size a c := h1.trans (h2.mono h1.size)
theorem setT_calls (l : List Itm) (v : Value) (w : World) (h : TxtsIn w v (l.map setF)) (hl : (setT l).length ≤ 140737488355328) (hn : l.length ≤ 64) :
    Calls Tryz.prog 51 #[v, .string ⟨#[44, 32]⟩] w fun e w' => e = .returned (.string ⟨(setT l).toArray⟩) ∧ Below w.heap.size w w' :=
  join_calls (l.map setF) [44, 32] v w h hl (by rw [List.length_map]; omega)
theorem asT_calls (l : List Itm) (v : Value) (w : World) (h : TxtsIn w v (l.map asF)) (hl : (asT l).length ≤ 140737488355328) (hn : l.length ≤ 64) :
    Calls Tryz.prog 51 #[v, .string ⟨#[44, 32]⟩] w fun e w' => e = .returned (.string ⟨(asT l).toArray⟩) ∧ Below w.heap.size w w' :=
  join_calls (l.map asF) [44, 32] v w h hl (by rw [List.length_map]; omega)
def frX (h : Bool) (tb : Txt) : Txt := if h then kHISTORYX ++ tb ++ [41] else tb
def whX (l : List Itm) : Txt := if l.isEmpty then [42] else asT l
def orX (f : Txt) : Txt := if f.isEmpty then [] else kORDERBYX ++ f
def orY (f : Txt) (d : Bool) : Txt := orX f ++ (if d then kDESCX else [])
theorem own_len {W : World} {base m c : Nat} {b : Option Addr} {l : List Txt} (h : OwnStrs W base (.slice b m c) l) : m = l.length := by
  rcases h.2 with ⟨e, h0⟩ | ⟨g, cap, cur, e, _⟩
  · simp only [Value.slice.injEq] at e
    omega
  · simp only [Value.slice.injEq] at e
    exact e.2.1
theorem cellk {Wc Wn : World} {v7 v : Value} {a : Addr} (hk : ∀ g, v7.ownBlock ≠ some g → g < Wc.heap.size → Wn.heap[g]? = Wc.heap[g]?) (hz : v7.ownBlock ≠ some a.block) (h : Wc.cell? a = some v) : Wn.cell? a = some v :=
  (World.cell?_of_block (hk _ hz (World.block_lt_of_cell? _ _ h))).trans h
theorem app_step {ops : Array Oper} {o : Oper} {a : Act} {Q : Exit → Act → World → Prop} {K : Act → World → Prop} {E : Prop} {w Wp Wc : World} {st : Stm} {vi ve v7 v8 : Value} {x7 x8 : List Txt} (h : PrR w Wp st vi ve v7 v8 x7 x8)
    (hb : Below Wp.heap.size Wp Wc) (hw : Region.wanted o (yielded ops a.tmps) = true) (s x : Operand)
    (ho : o.op = .call { callee := .builtin .append, args := #[s, x], argTypes := #[93, 93] }) (hs : a.eval s = v7) (B : Nat) (hx : a.eval x = .slice (some ⟨B, 0, none⟩) 1 1) (S : ByteArray) (t7 : Txt)
    (hB : Wc.heap[B]? = some (.cells #[.string S] 9)) (hS : S = ⟨t7.toArray⟩) (hl : x7.length ≤ 64)
    (hK : ∀ v' Wn, PrR w Wn st vi ve v' v8 (x7 ++ [t7]) x8 → (∀ g, v7.ownBlock ≠ some g → g < Wc.heap.size → Wn.heap[g]? = Wc.heap[g]?) → K (a.put o.dst v') Wn) :
    if Region.wanted o (yielded ops a.tmps) = true then Oper.wp Tryz.prog o a Wc K Q else E := by
  have hc := h.step hb
  obtain ⟨i0, hi, hzz⟩ := Option.map_eq_some_iff.1 strInfo
  simp only [Prod.mk.injEq] at hzz
  obtain ⟨hz0, hz1, hz2⟩ := hzz
  rw [if_pos hw]
  obtain ⟨v1, w1, hr, hown, hg, _, hat⟩ := run_append_own_at (P := Tryz.prog) Wc (w.heap.size + 1) 93 o.type 9 i0 _ 1 16 Tryz.underlying93 hi hz0 hz1 hz2 rfl (by decide) v7 x7.length (strsC x7) hc.own7 ⟨B, 0, none⟩ 1 1 [.string S] rfl
    (World.news_of_block (cs := #[.string S]) (t := 9) (fr := (0, 0)) hB) (by simp [Value.oneCell']) (by unfold maxLen; omega) (by omega) (lt_of_heap hc.blk)
  unfold Oper.wp execOp
  simp only [ho, resolve, invoke, builtin, Sem.run_bind, Sem.run_pure, Result.andThen_ok, List.map_toArray, List.map_cons, List.map_nil, hs, hx, hr]
  refine hK v1 w1 (hc.more hown hg hat (by rw [strsC_snoc, hS]) (by simp)) fun g hne hlt => hg.block g hlt fun e => hne e.symm
theorem alloc2_old (W : World) (a b : Obj) : ((W.alloc a).alloc b).heap[W.heap.size]? = some a := (Below.heap_alloc _ _ _ (by simp)).trans (heap_alloc_new _ _)
theorem alloc2_new (W : World) (a b : Obj) : ((W.alloc a).alloc b).heap[W.heap.size + 1]? = some b := by
  have := heap_alloc_new (W.alloc a) b
  simpa using this
theorem below2 (W : World) (a b : Obj) : Below W.heap.size W ((W.alloc a).alloc b) := (alloc_below W a).trans ((alloc_below (W.alloc a) b).mono (alloc_below W a).size)

set_option maxHeartbeats 4000000 in
set_option maxRecDepth 100000 in
theorem Print_calls (st : Stm) (w : World) (vi ve : Value) (h : PrArgs w st vi ve) :
    Calls Tryz.prog 15 #[st.val vi ve] w fun e w' => e = .returned (printV st) ∧ Below w.heap.size w w' := by
  have hi := h.ck.hi
  have hv := h.ck.hv
  obtain ⟨ai, ni, ci, rfl, hni, hci, hji⟩ := hi
  obtain ⟨ae, ne, ce, rfl, hne, -⟩ := hv
  have Hck := Lib.hid (Check_calls st w _ _ h.ck)
  have He := Lib.hid h.ck.he
  have Hblk := Lib.hid (heap_alloc_new w (.cells (smC st (.slice ai ni ci) (.slice ae ne ce)) 33))
  have Hck := Lib.hid (fun (w2 : World) (hb : Below w.heap.size w w2) => Check_calls st w2 (.slice ai ni ci) (.slice ae ne ce) ⟨h.ck.hi.below hb, h.ck.hv.below hb, h.ck.ht, h.ck.hf, h.ck.hl, h.ck.hy, h.ck.hil, h.ck.his, h.ck.he.below hb⟩)
  have Hsh := Lib.hid (fun (w2 : World) (hb : Below w.heap.size w w2) => showE_calls w2 (.slice ae ne ce) st.expr (h.ck.hv.below hb) h.ck.hl h.ck.hy h.hn (h.ck.he.below hb))
  have Hsi := Lib.hid (fun (w2 : World) (hb : Below w.heap.size w w2) (i : Nat) (hlt : i < st.items.length) (vv : Value) (hvv : StpsIn w vv st.items[i].expr) => showE_calls w2 vv st.items[i].expr (hvv.below hb) (h.ck.his _ (List.getElem_mem hlt)).2.1 (h.ck.his _ (List.getElem_mem hlt)).2.2 (h.hin _ (List.getElem_mem hlt)) (h.ck.he.below hb))
  have Hsl := Lib.hid (fun (i : Nat) (hlt : i < st.items.length) => showE_len (h.hin _ (List.getElem_mem hlt)) (h.ck.his _ (List.getElem_mem hlt)).2.2)
  have Hsn := Lib.hid (fun (i : Nat) (hlt : i < st.items.length) => (h.ck.his _ (List.getElem_mem hlt)).1)
  have hel := showE_len h.hn h.ck.hy
  have Hts := Lib.hid h.ck.ht
  have Hfs := Lib.hid h.ck.hf
  unfold Stm.val at Hck ⊢
  cases hc : checkB st with
  | false =>
    have HV := Lib.hid (show printV st = .tuple #[.string ⟨#[]⟩, .int .i64 13] by unfold printV; rw [hc]; rfl)
    have HC := Lib.hid (show checkV st = .int .i64 13 by unfold checkV; rw [hc]; rfl)
    clear hc h hel hji hci
    obtain ⟨⟨k0, k1, k2, k3, k4, k5, k6⟩, -⟩ := seven Hblk.out
    go_enter Tryz.func15, Tryz.ntmps15
    go_wp2_with fail
    refine (Hck.out _ (alloc_below _ _)).mono ?_
    rw [HC.out]
    rintro e w2 ⟨rfl, hb2⟩
    have Hb2 := Lib.hid ((alloc_below w (.cells (smC st (.slice ai ni ci) (.slice ae ne ce)) 33)).trans (hb2.mono (alloc_below w _).size))
    clear hb2
    go_wp2_with fail
    go_ret2
    exact ⟨by rw [HV.out]; rfl, Hb2.out⟩
  | true =>
    have HV := Lib.hid (show printV st = .tuple #[.string ⟨(printT st).toArray⟩, .int .i64 0] by unfold printV; rw [hc]; rfl)
    have HC := Lib.hid (show checkV st = .int .i64 0 by unfold checkV; rw [hc]; rfl)
    have hn64 := check_items hc
    rw [hni] at hn64
    have Hni := Lib.hid hni
    have Hne := Lib.hid hne
    have Hji := Lib.hid hji
    obtain ⟨ec, hec⟩ := showEV_val st.expr
    rw [hec] at Hsh
    have Hel := Lib.hid hel
    clear hc h hel hji hci hni hne hec
    obtain ⟨⟨k0, k1, k2, k3, k4, k5, k6⟩, -⟩ := seven Hblk.out
    go_enter Tryz.func15, Tryz.ntmps15
    go_wp2_with fail
    refine (Hck.out _ (alloc_below _ _)).mono ?_
    rw [HC.out]
    rintro e w2 ⟨rfl, hb2⟩
    have P2 := Lib.hid (show PrR w w2 st (.slice ai ni ci) (.slice ae ne ce) (.slice none 0 0) (.slice none 0 0) [] [] from
      ⟨(alloc_below w (.cells (smC st (.slice ai ni ci) (.slice ae ne ce)) 33)).trans (hb2.mono (alloc_below w _).size), (hb2.block _ (by simp)).trans Hblk.out, OwnStrs.nil _ _, OwnStrs.nil _ _, fun g h => by simp [Value.ownBlock] at h⟩)
    clear hb2 k0 k1 k2 k3 k4 k5 k6
    obtain ⟨⟨k0, k1, k2, k3, k4, k5, k6⟩, -⟩ := seven P2.out.blk
    go_wp2_with fail
    refine (Hsh.out _ P2.out.bel).mono ?_
    rintro e w3 ⟨rfl, hb3⟩
    have P3 := Lib.hid (P2.out.step hb3)
    clear hb3 k0 k1 k2 k3 k4 k5 k6
    obtain ⟨⟨k0, k1, k2, k3, k4, k5, k6⟩, -⟩ := seven P3.out.blk
    go_wp2_with fail
    go_loopw [7, 8, 31] (fun s7 s8 i wr => ∃ (k m7 c7 m8 c8 : Nat) (b7 b8 : Option Addr), k ≤ ni ∧ i = .int .i64 k ∧ s7 = .slice b7 m7 c7 ∧ s8 = .slice b8 m8 c8 ∧ Hid (PrR w wr st (.slice ai ni ci) (.slice ae ne ce) (.slice b7 m7 c7) (.slice b8 m8 c8) ((st.items.take k).map setF) ((st.items.take k).map asF))) (fun _ _ i _ => ni - (intOf i).toNat)
    case atStart => exact ⟨0, 0, 0, 0, 0, none, none, Nat.zero_le _, rfl, rfl, rfl, P3.out⟩
    case round =>
      obtain ⟨k, m7, c7, m8, c8, b7, b8, hk, rfl, rfl, rfl, P⟩ := hrel
      clear k0 k1 k2 k3 k4 k5 k6
      by_cases hlt : k < ni
      · have hkl : k < st.items.length := by rw [Hni.out]; exact hlt
        obtain ⟨g, o, vx, rfl, q0, q1, ⟨a4, n4, c4, rfl, hst⟩⟩ := Hji.out k hkl
        have hvv : StpsIn w (.slice a4 n4 c4) st.items[k].expr := ⟨a4, n4, c4, rfl, hst⟩
        have q0 := (P.out.bel.cell (p := ⟨g, _, none⟩) (World.block_lt_of_cell? _ _ q0)).trans q0
        have q1 := (P.out.bel.cell (p := ⟨g, _, none⟩) (World.block_lt_of_cell? _ _ q1)).trans q1
        have Hs := Lib.hid (fun (w2 : World) (hb : Below w.heap.size w w2) => Hsi.out w2 hb k hkl _ hvv)
        have hsl := Hsl.out k hkl
        have hsn := Hsn.out k hkl
        have Hsf := Lib.hid (setF_snoc hkl)
        have Haf := Lib.hid (asF_snoc hkl)
        generalize st.items[k] = it at *
        obtain ⟨ec2, hec2⟩ := showEV_val it.expr
        rw [hec2] at Hs
        have Hblk1 := Lib.hid (heap_alloc_new wr (.cells #[.string ⟨it.name.toArray⟩, .slice a4 n4 c4] 95))
        obtain ⟨⟨r0, r1⟩, -⟩ := two Hblk1.out
        have P1 := Lib.hid (P.out.step (alloc_below wr (.cells #[.string ⟨it.name.toArray⟩, .slice a4 n4 c4] 95)))
        clear hec2 hst hvv
        go_wp2_with fail
        refine (Hs.out _ P1.out.bel).mono ?_
        rintro e w4 ⟨rfl, hb4⟩
        have hblk4 := (hb4.block wr.heap.size (by simp)).trans Hblk1.out
        have P4 := Lib.hid (P1.out.step hb4)
        obtain ⟨⟨s0, s1⟩, -⟩ := two hblk4
        clear hb4 r0 r1 q0 q1
        go_wp2_with fail
        have Hl7 := Lib.hid (show ((st.items.take k).map setF).length ≤ 64 by rw [List.length_map, List.length_take]; omega)
        have Hl8 := Lib.hid (show ((st.items.take k).map asF).length ≤ 64 by rw [List.length_map, List.length_take]; omega)
        have Hl17 := Lib.hid (show ((st.items.take (k + 1)).map setF).length = k + 1 by rw [List.length_map, List.length_take]; omega)
        have Hl18 := Lib.hid (show ((st.items.take (k + 1)).map asF).length = k + 1 by rw [List.length_map, List.length_take]; omega)
        have t0 : it.name.length + 3 ≤ 9223372036854775807 := by omega
        have t1 : ¬ 9223372036854775807 < it.name.length + 3 := by omega
        have t2 : it.name.length + 3 + (showE it.expr).length ≤ 9223372036854775807 := by omega
        have t3 : ¬ 9223372036854775807 < it.name.length + 3 + (showE it.expr).length := by omega
        have t4 : (showE it.expr).length + 4 ≤ 9223372036854775807 := by omega
        have t5 : ¬ 9223372036854775807 < (showE it.expr).length + 4 := by omega
        have t6 : (showE it.expr).length + 4 + it.name.length ≤ 9223372036854775807 := by omega
        have t7 : ¬ 9223372036854775807 < (showE it.expr).length + 4 + it.name.length := by omega
        have hlw : wr.heap.size ≤ w4.heap.size := Nat.le_of_lt (lt_of_heap hblk4)
        have Hy7 := Lib.hid (show ∀ g, w4.heap.size ≤ g → (Value.slice b7 m7 c7).ownBlock ≠ some g from fun g hg e => by have := (World.ownsRow.lt P.out.own7 g e).2; omega)
        have Hy8 := Lib.hid (show ∀ g, w4.heap.size ≤ g → (Value.slice b8 m8 c8).ownBlock ≠ some g from fun g hg e => by have := (World.ownsRow.lt P.out.own8 g e).2; omega)
        have Hz7 := Lib.hid (show (Value.slice b7 m7 c7).ownBlock ≠ some wr.heap.size from fun e => by have := (World.ownsRow.lt P.out.own7 _ e).2; omega)
        have Hz8 := Lib.hid (show (Value.slice b8 m8 c8).ownBlock ≠ some wr.heap.size from fun e => by have := (World.ownsRow.lt P.out.own8 _ e).2; omega)
        clear hblk4 hlw
        have hA := P4.out.step (Below.refl _ _).drew
        have hB := hA.swap
        have hS0 : w4.drew.cell? ⟨wr.heap.size, 0, none⟩ = some (.string ⟨it.name.toArray⟩) ∧ w4.drew.cell? ⟨wr.heap.size, 1, none⟩ = some (.slice a4 n4 c4) := ⟨s0, s1⟩
        have hSc := hS0
        go_region_held_law (fun w' => w'.cell? ⟨wr.heap.size, 0, none⟩ = some (.string ⟨it.name.toArray⟩) ∧ w'.cell? ⟨wr.heap.size, 1, none⟩ = some (.slice a4 n4 c4))
          (first | exact hS0 | exact hS6 | (go_split_ands; exact ⟨keepC (by assumption) (alloc_below _ _), keepC (by assumption) (alloc_below _ _)⟩))
          (first | (refine app_step hA (by first | exact Below.refl _ _ | exact alloc_below _ _ | exact below2 _ _ _) rfl _ _ rfl rfl _ rfl (ByteArray.mk it.name.toArray ++ ByteArray.mk #[32, 61, 32] ++ ByteArray.mk (showE it.expr).toArray) (setF it) (by first | exact hq7o | exact hq7n | exact heap_alloc_new _ _ | exact alloc2_old _ _ _ | exact alloc2_new _ _ _) (cat3L _ _ _) Hl7.out ?_; intro v17 W17 hP17 hk17; have hB := hP17.swap; have hE := hP17; have hS6 : W17.cell? ⟨wr.heap.size, 0, none⟩ = some (.string ⟨it.name.toArray⟩) ∧ W17.cell? ⟨wr.heap.size, 1, none⟩ = some (.slice a4 n4 c4) := ⟨cellk hk17 Hz7.out (keepC hSc.1 (by first | exact Below.refl _ _ | exact alloc_below _ _ | exact below2 _ _ _)), cellk hk17 Hz7.out (keepC hSc.2 (by first | exact Below.refl _ _ | exact alloc_below _ _ | exact below2 _ _ _))⟩; have hSc := hS6; (try have hq8o := (hk17 _ (Hy7.out _ (Nat.le_refl _)) (lt_of_heap (alloc2_old _ _ _))).trans (alloc2_old _ _ _)); (try have hq8n := (hk17 _ (Hy7.out _ (Nat.le_succ _)) (lt_of_heap (alloc2_new _ _ _))).trans (alloc2_new _ _ _))) | (refine app_step hB (by first | exact Below.refl _ _ | exact alloc_below _ _ | exact below2 _ _ _) rfl _ _ rfl rfl _ rfl (ByteArray.mk (showE it.expr).toArray ++ ByteArray.mk #[32, 65, 83, 32] ++ ByteArray.mk it.name.toArray) (asF it) (by first | exact hq8o | exact hq8n | exact heap_alloc_new _ _ | exact alloc2_old _ _ _ | exact alloc2_new _ _ _) (cat3L _ _ _) Hl8.out ?_; intro v18 W18 hP18 hk18; have hA := hP18.swap; have hE := hP18.swap; have hS6 : W18.cell? ⟨wr.heap.size, 0, none⟩ = some (.string ⟨it.name.toArray⟩) ∧ W18.cell? ⟨wr.heap.size, 1, none⟩ = some (.slice a4 n4 c4) := ⟨cellk hk18 Hz8.out (keepC hSc.1 (by first | exact Below.refl _ _ | exact alloc_below _ _ | exact below2 _ _ _)), cellk hk18 Hz8.out (keepC hSc.2 (by first | exact Below.refl _ _ | exact alloc_below _ _ | exact below2 _ _ _))⟩; have hSc := hS6; (try have hq7o := (hk18 _ (Hy8.out _ (Nat.le_refl _)) (lt_of_heap (alloc2_old _ _ _))).trans (alloc2_old _ _ _)); (try have hq7n := (hk18 _ (Hy8.out _ (Nat.le_succ _)) (lt_of_heap (alloc2_new _ _ _))).trans (alloc2_new _ _ _))))
        all_goals
          rw [← Hsf.out, ← Haf.out] at hE
          obtain ⟨a17, c17, rfl⟩ := own_form hE.own7
          obtain ⟨a18, c18, rfl⟩ := own_form hE.own8
          rw [Hl17.out, Hl18.out] at hE
          have HE := Lib.hid hE
          rw [Hl17.out, Hl18.out]
          go_wp2_with fail
          go_roundw
          case rel => exact ⟨k + 1, _, _, _, _, _, _, by omega, by go_num, rfl, rfl, HE.out⟩
          case measure => simp [intOf]; omega
      · have hkn : k = ni := by omega
        subst hkn
        have hkk : st.items.take k = st.items := List.take_of_length_le (by rw [Hni.out]; exact Nat.le_refl _)
        rw [hkk] at P
        have hl7 : m7 = st.items.length := (own_len P.out.own7).trans (List.length_map _)
        have hl8 : m8 = st.items.length := (own_len P.out.own8).trans (List.length_map _)
        have hwl : (whereT st).length ≤ 8858489700 := by
          have := Hel.out
          unfold whereT
          split
          · simp
          · simp only [List.length_append, kWHEREX, List.length_cons, List.length_nil]; omega
        have hL7 : (setT st.items).length ≤ 650000000000 := by
          have h1 := join_len (st.items.map setF) [44, 32]
          have h2 := lens_le (l := st.items.map setF) (B := 9932231900) (fun x hx => by
            obtain ⟨y, hy, rfl⟩ := List.mem_map.1 hx
            obtain ⟨j, hj, rfl⟩ := List.getElem_of_mem hy
            have h3 := Hsl.out j hj
            have h4 := Hsn.out j hj
            simp only [setF, kX, List.length_append, List.length_cons, List.length_nil]; omega)
          have h3 := Nat.mul_le_mul_right 9932231900 (show (st.items.map setF).length ≤ 64 by rw [List.length_map, Hni.out]; omega)
          have h4 : (st.items.map setF).length ≤ 64 := by rw [List.length_map, Hni.out]; omega
          show (Lib.join (st.items.map setF) [44, 32]).length ≤ _
          simp only [List.length_cons, List.length_nil] at h1
          omega
        have hL8 : (asT st.items).length ≤ 650000000000 := by
          have h1 := join_len (st.items.map asF) [44, 32]
          have h2 := lens_le (l := st.items.map asF) (B := 9932231900) (fun x hx => by
            obtain ⟨y, hy, rfl⟩ := List.mem_map.1 hx
            obtain ⟨j, hj, rfl⟩ := List.getElem_of_mem hy
            have h3 := Hsl.out j hj
            have h4 := Hsn.out j hj
            simp only [asF, kASX, List.length_append, List.length_cons, List.length_nil]; omega)
          have h3 := Nat.mul_le_mul_right 9932231900 (show (st.items.map asF).length ≤ 64 by rw [List.length_map, Hni.out]; omega)
          have h4 : (st.items.map asF).length ≤ 64 := by rw [List.length_map, Hni.out]; omega
          show (Lib.join (st.items.map asF) [44, 32]).length ≤ _
          simp only [List.length_cons, List.length_nil] at h1
          omega
        have Hj7 := Lib.hid (fun (w2 : World) (hb : Below wr.heap.size wr w2) => setT_calls st.items _ w2 ((TxtsIn.own P.out.own7).below hb) (by omega) (by rw [Hni.out]; exact hn64))
        have Hj8 := Lib.hid (fun (w2 : World) (hb : Below wr.heap.size wr w2) => asT_calls st.items _ w2 ((TxtsIn.own P.out.own8).below hb) (by omega) (by rw [Hni.out]; exact hn64))
        have hts := Hts.out
        have hfs := Hfs.out
        have hel := Hel.out
        rw [Hni.out] at hl7 hl8
        subst m7
        subst m8
        obtain ⟨⟨k0, k1, k2, k3, k4, k5, k6⟩, -⟩ := seven P.out.blk
        clear hkk
        go_upto_if 61 with fail
        go_cut [13] (fun s13 wx => s13 = .string ⟨(whereT st).toArray⟩ ∧ Hid (wx = wr))
        case first =>
          by_cases h0 : ne = 0
          · have g0 : ¬ (0 : Int) < (ne : Int) := by omega
            have HW := Lib.hid (show whereT st = [] by
              have : st.expr = [] := List.eq_nil_of_length_eq_zero (by rw [Hne.out]; exact h0)
              unfold whereT; rw [this]; rfl)
            clear h0
            go_wp2_with fail
            go_meet
            exact ⟨by rw [HW.out], rfl⟩
          · have g0 : (0 : Int) < (ne : Int) := by omega
            have HW := Lib.hid (show whereT st = kWHEREX ++ showE st.expr by
              have : st.expr.isEmpty = false := by cases hx : st.expr with
                | nil => exact absurd (by have := Hne.out; rw [hx] at this; exact this.symm) h0
                | cons => rfl
              unfold whereT; rw [this]; rfl)
            have z0 : 7 + (showE st.expr).length ≤ 9223372036854775807 := by omega
            clear h0
            go_wp2_with fail
            go_meet
            exact ⟨by rw [HW.out]; exact congrArg Value.string (cat2 _ _), rfl⟩
        case rest =>
          obtain ⟨rfl, hwx⟩ := hcut
          have hwx := hwx.out.symm
          subst hwx
          by_cases h1 : st.kind = 1
          · have HT := Lib.hid (show printT st = kCREATETABLEX ++ st.table by unfold printT; simp [h1])
            have b1 : ((st.kind : Int) == 1) = true := by rw [beq_iff_eq]; omega
            have z0 : 13 + st.table.length ≤ 9223372036854775807 := by omega
            clear h1
            go_wp2_with fail
            go_ret2
            exact ⟨by rw [HV.out, HT.out]; exact congrArg (fun x => Ending.returned (Value.tuple #[.string x, .int .i64 0])) (cat2 _ _), P.out.bel⟩
          have b1 : ((st.kind : Int) == 1) = false := by rw [beq_eq_false_iff_ne]; omega
          by_cases h2 : st.kind = 2
          · have HT := Lib.hid (show printT st = kCREATEINDEXONX ++ st.table ++ kX' ++ st.field ++ [41] by unfold printT; simp [h2])
            have b2 : ((st.kind : Int) == 2) = true := by rw [beq_iff_eq]; omega
            have z0 : 16 + st.table.length ≤ 9223372036854775807 := by omega
            have z1 : 16 + st.table.length + 2 ≤ 9223372036854775807 := by omega
            have z2 : 16 + st.table.length + 2 + st.field.length ≤ 9223372036854775807 := by omega
            have z3 : 16 + st.table.length + 2 + st.field.length + 1 ≤ 9223372036854775807 := by omega
            clear h1 h2
            go_wp2_with fail
            go_ret2
            exact ⟨by rw [HV.out, HT.out]; exact congrArg (fun x => Ending.returned (Value.tuple #[.string x, .int .i64 0])) (cat5 kCREATEINDEXONX st.table kX' st.field [41]), P.out.bel⟩
          have b2 : ((st.kind : Int) == 2) = false := by rw [beq_eq_false_iff_ne]; omega
          by_cases h3 : st.kind = 3
          · have HT := Lib.hid (show printT st = kINSERTINTOX ++ st.table ++ [32] ++ showE st.expr by unfold printT; simp [h3])
            have b3 : ((st.kind : Int) == 3) = true := by rw [beq_iff_eq]; omega
            have z0 : 12 + st.table.length ≤ 9223372036854775807 := by omega
            have z1 : 12 + st.table.length + 1 ≤ 9223372036854775807 := by omega
            have z2 : 12 + st.table.length + 1 + (showE st.expr).length ≤ 9223372036854775807 := by omega
            clear h1 h2 h3
            go_wp2_with fail
            go_ret2
            exact ⟨by rw [HV.out, HT.out]; exact congrArg (fun x => Ending.returned (Value.tuple #[.string x, .int .i64 0])) (cat4 kINSERTINTOX st.table [32] (showE st.expr)), P.out.bel⟩
          have b3 : ((st.kind : Int) == 3) = false := by rw [beq_eq_false_iff_ne]; omega
          by_cases h4 : st.kind = 4
          · have HT := Lib.hid (show printT st = kUPDATEX ++ st.table ++ kSETX ++ setT st.items ++ whereT st by unfold printT; simp [h4])
            have b4 : ((st.kind : Int) == 4) = true := by rw [beq_iff_eq]; omega
            have z0 : 7 + st.table.length ≤ 9223372036854775807 := by omega
            have z1 : 7 + st.table.length + 5 ≤ 9223372036854775807 := by omega
            have z2 : 7 + st.table.length + 5 + (setT st.items).length ≤ 9223372036854775807 := by omega
            have z3 : 7 + st.table.length + 5 + (setT st.items).length + (whereT st).length ≤ 9223372036854775807 := by omega
            have y0 : ¬ 9223372036854775807 < 7 + st.table.length := by omega
            have y1 : ¬ 9223372036854775807 < 7 + st.table.length + 5 := by omega
            have y2 : ¬ 9223372036854775807 < 7 + st.table.length + 5 + (setT st.items).length := by omega
            have y3 : ¬ 9223372036854775807 < 7 + st.table.length + 5 + (setT st.items).length + (whereT st).length := by omega
            clear h1 h2 h3 h4
            go_wp2_with fail
            have hS0 : wr.drew.cell? ⟨w.heap.size, 1, none⟩ = some (.string ⟨st.table.toArray⟩) ∧ Below wr.heap.size wr wr.drew := ⟨k1, (Below.refl _ _).drew⟩
            go_region_held3 (fun w' => w'.cell? ⟨w.heap.size, 1, none⟩ = some (.string ⟨st.table.toArray⟩) ∧ Below wr.heap.size wr w')
              (first | exact hS0 | exact hS6)
              (first | (go_at_call 51; refine (Hj7.out _ ?_).mono ?_; (go_split_ands; assumption); rintro e w9 ⟨rfl, hb9⟩; have hS6 : w9.cell? ⟨w.heap.size, 1, none⟩ = some (.string ⟨st.table.toArray⟩) ∧ Below wr.heap.size wr w9 := (by go_split_ands; exact ⟨keepC (by assumption) hb9, stepB (by assumption) hb9⟩); have hb10 := hS6.2))
            all_goals
              go_wp2_with fail
              go_ret2
              exact ⟨by rw [HV.out, HT.out]; exact congrArg (fun x => Ending.returned (Value.tuple #[.string x, .int .i64 0])) (cat5 kUPDATEX st.table kSETX (setT st.items) (whereT st)), P.out.bel.trans (hb10.mono P.out.bel.size)⟩
          have b4 : ((st.kind : Int) == 4) = false := by rw [beq_eq_false_iff_ne]; omega
          by_cases h5 : st.kind = 5
          · have HT := Lib.hid (show printT st = kDELETEFROMX ++ st.table ++ whereT st by unfold printT; simp [h5])
            have b5 : ((st.kind : Int) == 5) = true := by rw [beq_iff_eq]; omega
            have z0 : 12 + st.table.length ≤ 9223372036854775807 := by omega
            have z1 : 12 + st.table.length + (whereT st).length ≤ 9223372036854775807 := by omega
            clear h1 h2 h3 h4 h5
            go_wp2_with fail
            go_ret2
            exact ⟨by rw [HV.out, HT.out]; exact congrArg (fun x => Ending.returned (Value.tuple #[.string x, .int .i64 0])) (cat3L _ _ _), P.out.bel⟩
          have b5 : ((st.kind : Int) == 5) = false := by rw [beq_eq_false_iff_ne]; omega
          have HT := Lib.hid (show printT st = kSELECTX ++ whX st.items ++ kFROMX ++ frX st.history st.table ++ whereT st ++ orY st.field st.desc by unfold printT; simp only [h1, h2, h3, h4, h5, if_false]; rfl)
          clear h1 h2 h3 h4 h5
          have Hie : Hid (st.items.isEmpty = decide (k = 0)) := by show _ = _; rw [← len0, Hni.out]
          obtain ⟨hh, hhh⟩ : ∃ hh, st.history = hh := ⟨_, rfl⟩
          obtain ⟨dd, hdd⟩ : ∃ dd, st.desc = dd := ⟨_, rfl⟩
          obtain ⟨fb, hfb⟩ : ∃ fb : ByteArray, fb = ⟨st.field.toArray⟩ := ⟨_, rfl⟩
          have hfz : fb.size ≤ 1073741824 := by rw [hfb, size_mk]; exact hfs
          have Hfe := Lib.hid (show fb.toList = [] ↔ st.field = [] by rw [hfb]; first | simp [ByteArray.toList_eq] | simp)
          have hX : ∀ wx, Below wr.heap.size wr wx → wx.cell? ⟨w.heap.size, 2, none⟩ = some (.string fb) ∧ wx.cell? ⟨w.heap.size, 5, none⟩ = some (.bool hh) ∧ wx.cell? ⟨w.heap.size, 6, none⟩ = some (.bool dd) := fun wx hb => by
            rw [hfb, ← hhh, ← hdd]; exact ⟨keepC k2 hb, keepC k5 hb, keepC k6 hb⟩
          have HX := Lib.hid hX
          rw [hhh, hdd] at HT
          have Hfb := Lib.hid hfb
          have hol : (orX st.field).length ≤ 1073741834 := by
            unfold orX; split
            · simp
            · simp only [List.length_append, kORDERBYX, List.length_cons, List.length_nil]; omega
          have hfl : (frX hh st.table).length ≤ 1073741834 := by
            unfold frX; split
            · simp only [List.length_append, kHISTORYX, List.length_cons, List.length_nil]; omega
            · omega
          have hwhl : (whX st.items).length ≤ 650000000000 := by
            unfold whX; split
            · simp
            · exact hL8
          have hoy : (orY st.field dd).length ≤ 1073741840 := by
            unfold orY; rw [List.length_append]; split
            · simp only [kDESCX, List.length_cons, List.length_nil]; omega
            · simp only [List.length_nil]; omega
          have HolX := Lib.hid hol
          clear hhh hdd hfb hX k2 k5 k6
          obtain ⟨k2, k5, k6⟩ := HX.out wr (Below.refl _ _)
          go_upto_if 110 with fail
          go_cut [14] (fun s14 wx => s14 = .string ⟨(frX hh st.table).toArray⟩ ∧ Hid (wx = wr))
          case first =>
            cases hh with
            | true =>
              have z0 : 8 + st.table.length ≤ 9223372036854775807 := by omega
              have z1 : 8 + st.table.length + 1 ≤ 9223372036854775807 := by omega
              go_wp2_with fail
              go_meet
              exact ⟨congrArg Value.string (cat3L kHISTORYX st.table [41]), rfl⟩
            | false =>
              go_wp2_with fail
              go_meet
              exact ⟨rfl, rfl⟩
          obtain ⟨rfl, hwx⟩ := hcut
          have hwx := hwx.out.symm
          subst hwx
          go_upto_if 116 with fail
          go_cut [15] (fun s15 wx => s15 = .string ⟨(whX st.items).toArray⟩ ∧ Hid (Below wr.heap.size wr wx))
          case first =>
            by_cases h0 : k = 0
            · have g0 : ¬ (0 : Int) < (k : Int) := by omega
              have HW := Lib.hid (show whX st.items = [42] by unfold whX; rw [Hie.out, decide_eq_true h0]; rfl)
              clear h0
              go_wp2_with fail
              go_meet
              exact ⟨by rw [HW.out], Below.refl _ _⟩
            · have g0 : (0 : Int) < (k : Int) := by omega
              have HW := Lib.hid (show whX st.items = asT st.items by unfold whX; rw [Hie.out, decide_eq_false h0]; rfl)
              clear h0
              go_wp2_with fail
              refine (Hj8.out _ (Below.refl _ _)).mono ?_
              rintro e w9 ⟨rfl, hb9⟩
              have Hb9 := Lib.hid hb9
              clear hb9
              go_wp2_with fail
              go_meet
              exact ⟨by rw [HW.out], Hb9.out⟩
          obtain ⟨rfl, hb⟩ := hcut
          clear k0 k1 k2 k3 k4 k5 k6
          obtain ⟨k2, k5, k6⟩ := HX.out _ hb.out
          go_upto_if 121 with fail
          go_cut [16] (fun s16 wx => s16 = .string ⟨(orX st.field).toArray⟩ ∧ Hid (Below wr.heap.size wr wx))
          case first =>
            have HO1 := Lib.hid (show (!fb.toList.isEmpty) = true → orX st.field = kORDERBYX ++ st.field from fun h => by
              unfold orX
              cases hx : st.field with
              | nil => rw [Hfe.out.2 hx] at h; cases h
              | cons => rfl)
            have HO0 := Lib.hid (show (!fb.toList.isEmpty) = false → orX st.field = [] from fun h => by
              have h1 : fb.toList = [] := by
                cases hx : fb.toList with
                | nil => rfl
                | cons => rw [hx] at h; cases h
              unfold orX; rw [Hfe.out.1 h1]; rfl)
            have z0 : 10 + fb.size ≤ 9223372036854775807 := by omega
            go_wp2_with fail
            · go_meet
              exact ⟨by rw [HO1.out (by assumption), Hfb.out]; exact congrArg Value.string (cat2 kORDERBYX st.field), hb.out⟩
            · go_meet
              exact ⟨by rw [HO0.out (by assumption)], hb.out⟩
          obtain ⟨rfl, hb2⟩ := hcut
          clear k2 k5 k6
          obtain ⟨k2, k5, k6⟩ := HX.out _ hb2.out
          go_upto_if 126 with fail
          go_cut [16] (fun s16 wx => s16 = .string ⟨(orY st.field dd).toArray⟩ ∧ Hid (Below wr.heap.size wr wx))
          case first =>
            cases dd with
            | true =>
              have z0 : (orX st.field).length + 5 ≤ 9223372036854775807 := by omega
              go_wp2_with fail
              go_meet
              exact ⟨congrArg Value.string (cat2 (orX st.field) kDESCX), hb2.out⟩
            | false =>
              go_wp2_with fail
              go_meet
              exact ⟨by unfold orY; simp, hb2.out⟩
          obtain ⟨rfl, hb3⟩ := hcut
          have z0 : 7 + (whX st.items).length ≤ 9223372036854775807 := by omega
          have z1 : 7 + (whX st.items).length + 6 ≤ 9223372036854775807 := by omega
          have z2 : 7 + (whX st.items).length + 6 + (frX hh st.table).length ≤ 9223372036854775807 := by omega
          have z3 : 7 + (whX st.items).length + 6 + (frX hh st.table).length + (whereT st).length ≤ 9223372036854775807 := by omega
          have z4 : 7 + (whX st.items).length + 6 + (frX hh st.table).length + (whereT st).length + (orY st.field dd).length ≤ 9223372036854775807 := by omega
          clear k2 k5 k6
          go_wp2_with fail
          go_ret2
          exact ⟨by rw [HV.out, HT.out]; exact congrArg (fun x => Ending.returned (Value.tuple #[.string x, .int .i64 0])) (cat6 kSELECTX (whX st.items) kFROMX (frX hh st.table) (whereT st) (orY st.field dd)), P.out.bel.trans (hb3.out.mono P.out.bel.size)⟩

end Go.Proofs.YtcjmhmmjfgjcnaaGreatDoor.Pa
