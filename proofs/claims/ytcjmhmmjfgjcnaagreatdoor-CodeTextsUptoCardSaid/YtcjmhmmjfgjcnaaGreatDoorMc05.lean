/- Parts: QaP QaQ QaR. -/
import Derived.Test.YtcjmhmmjfgjcnaaGreatDoorMc04
import Derived.Maps.Own
import Derived.Maps.OwnOps
import Derived.Maps.OwnSet
import Derived.Maps.Views
import Derived.RegionTactic
import Derived.Deep.RegionWith
import Derived.Deep.RegionHeld3

/- code: the checker's heights. -/
namespace Go.Proofs.YtcjmhmmjfgjcnaaGreatDoor.Cd
open Go.RowKit Go.Proofs.YtcjmhmmjfgjcnaaGreatDoor.Lx Go.Proofs.YtcjmhmmjfgjcnaaGreatDoor.Pa Go.Maps

theorem keyI : Keyed Tryz.prog 3 := int_keyed Tryz.underlying3
theorem zeroH (w : World) : (zeroValue 3).run Tryz.prog w = .ok (.int .i64 0) w := by kernel_rfl
theorem litI (n : Int) : WideAt.IsKeyLit (.int .i64 n) := by simp [WideAt.IsKeyLit]

structure Holds (D : DataW Unit) (hs : Hts) : Prop where
  map : IsMap D
  hasK : ∀ i : Nat, Maps.has D (.int .i64 (i : Int)) = (hs i).isSome
  atK : ∀ i : Nat, D.atKey (.int .i64 (i : Int)) (.lit (.int .i64 0)) = .lit (.int .i64 ((hs i).getD 0 : Nat))
theorem Holds.put {D : DataW Unit} {hs : Hts} (h : Holds D hs) (i v : Nat) : Holds (D.put (.int .i64 (i : Int)) (.lit (.int .i64 (v : Int)))) (fun j => if j = i then some v else hs j) := by
  refine ⟨h.map.put _ _, fun j => ?_, fun j => ?_⟩
  · by_cases e : j = i
    · subst e
      rw [has_put_same h.map (litI _)]
      simp
    · rw [has_put_other (by simp; omega), h.hasK j, if_neg e]
  · by_cases e : j = i
    · subst e
      rw [atKey_put_same h.map (litI _)]
      simp
    · rw [atKey_put_other (by simp; omega), h.atK j, if_neg e]
theorem holds_new : Holds ((.map []) : DataW Unit) (fun _ => none) := ⟨⟨[], rfl⟩, fun i => by simp [Maps.has], fun i => rfl⟩

structure ChkM (w0 w : World) (B bm n : Nat) (pv : Value) (hs : Hts) : Prop where
  blk : w.heap[B]? = some (.cells #[pv, .map (some bm)] 117)
  map : ∃ D, w.ownsMap Tryz.prog 3 (plainElem (H := Unit) Tryz.prog 3) bm n D ∧ Holds D hs
  bel : Below w0.heap.size w0 w
  lowB : w0.heap.size ≤ B
  lowM : w0.heap.size ≤ bm
  ne : B ≠ bm
theorem ChkM.step {w0 w w' : World} {B bm n : Nat} {pv : Value} {hs : Hts} (h : ChkM w0 w B bm n pv hs) (hb : Below w.heap.size w w') : ChkM w0 w' B bm n pv hs := by
  obtain ⟨D, h1, h2⟩ := h.map
  have hm : bm < w.heap.size := by obtain ⟨es, clock, hb, _⟩ := h1; exact ltH hb
  refine ⟨(hb.block B (ltH h.blk)).trans h.blk, ⟨D, ?_, h2⟩, stepH h.bel hb, h.lowB, h.lowM, h.ne⟩
  obtain ⟨es, clock, hb', r⟩ := h1
  exact ⟨es, clock, (hb.block bm hm).trans hb', r⟩
theorem ChkM.put {w0 w w' : World} {B bm n : Nat} {pv : Value} {hs : Hts} (h : ChkM w0 w B bm n pv hs) {D : DataW Unit} (hD : Holds D hs) (i v : Nat)
    (hown : w'.ownsMap Tryz.prog 3 (plainElem (H := Unit) Tryz.prog 3) bm (n + 1) (D.put (.int .i64 (i : Int)) (.lit (.int .i64 (v : Int))))) (hg : w.grownBy w' (some bm)) : ChkM w0 w' B bm (n + 1) pv (fun j => if j = i then some v else hs j) :=
  ⟨(hg.block B (ltH h.blk) (fun e => h.ne (Option.some.inj e.symm).symm)).trans h.blk, ⟨_, hown, hD.put i v⟩, h.bel.grown hg h.bel.size fun b hb => by cases hb; exact h.lowM, h.lowB, h.lowM, h.ne⟩
theorem twoB {w : World} {B : Nat} {a b : Value} {T : TypeId} (h : w.heap[B]? = some (.cells #[a, b] T)) : (w.cell? ⟨B, 0, none⟩ = some a ∧ w.cell? ⟨B, 1, none⟩ = some b) ∧ (w.frozen? ⟨B, 0, none⟩ = false ∧ w.frozen? ⟨B, 1, none⟩ = false) := by
  simp [World.cell?, World.frozen?, h]

def comeB (hs : Hts) (i h : Nat) : Bool := decide (hs i = none ∨ hs i = some h)
theorem come_eq (hs : Hts) (i h : Nat) : hs.come i h = if comeB hs i h then some (fun j => if j = i then some h else hs j) else none := by
  unfold Hts.come comeB
  simp

set_option maxRecDepth 100000 in
theorem come_calls (w0 w : World) (B bm n : Nat) (pv : Value) (hs : Hts) (i h : Nat) (H : ChkM w0 w B bm n pv hs) (hi : i ≤ 1000000) (hh : h ≤ 1000000) (hn : n ≤ 1000000) :
    Calls Tryz.prog 121 #[.pointer (some ⟨B, 0, none⟩), .int .i64 i, .int .i64 h] w fun e w' => e = .returned (.bool (comeB hs i h)) ∧ ChkM w0 w' B bm (n + 1) pv (fun j => if j = i then some h else hs j) ∧ w.grownBy w' (some bm) := by
  have HM := Lib.hid H
  obtain ⟨⟨c0, c1⟩, -⟩ := twoB H.blk
  obtain ⟨D, hown, hD⟩ := H.map
  have Hown := Lib.hid hown
  have HD := Lib.hid hD
  have hB := ltH H.blk
  have Hkey := Lib.hid (keyOf_int_mk (P := Tryz.prog) (k := 3) Tryz.underlying3 (a := (i : Int)) (WalkArith.wf_i64 (by omega)))
  clear H hown hD
  go_enter Tryz.func121, Tryz.ntmps121
  go_wp2_with (first
    | (at_lookup; refine wpList_lookup_own_ok_int _ rfl _ _ 115 rfl 3 3 .i64 keyI Tryz.underlying115 Tryz.underlying3 (zeroH _) bm n D rfl Hown.out _ _ rfl Hkey.out ?_; intro c hat hwc)
    | (at_mapUpdate; refine wpList_mapUpdate_own _ rfl _ _ _ 115 rfl 3 3 keyI Tryz.underlying115 _ bm n D rfl Hown.out (by unfold maxLen; omega) _ _ _ rfl rfl Hkey.out _ [] (plainElem_int Tryz.underlying3 (WalkArith.wf_i64 (by omega))) ?_; intro w1 hown1 hgrow1))
  · rename_i hh1
    have h2 := HD.out.hasK i
    have h3 := HD.out.atK i
    rw [hh1] at h2
    rw [hat] at h3
    have Hs1 := Lib.hid (HM.out.put HD.out i h hown1 hgrow1)
    have Hc := Lib.hid (show ((c : Int) == (h : Int)) = comeB hs i h by
      unfold comeB
      cases hv : hs i with
      | none => rw [hv] at h2; cases h2
      | some v =>
        rw [hv] at h3
        simp only [Option.getD_some, DataW.lit.injEq, Lit.int.injEq, true_and] at h3
        rw [h3, Bool.eq_iff_iff]
        simp only [beq_iff_eq, decide_eq_true_eq, Option.some.injEq, reduceCtorEq, false_or]
        omega)
    clear hown1
    go_ret
    exact ⟨ret_bool Hc.out, Hs1.out, hgrow1⟩
  · rename_i hh1
    have h2 := HD.out.hasK i
    rw [Bool.eq_false_iff.2 hh1] at h2
    have Hs1 := Lib.hid (HM.out.put HD.out i h hown1 hgrow1)
    have Hc := Lib.hid (show true = comeB hs i h by
      unfold comeB
      cases hv : hs i with
      | none => simp
      | some v => rw [hv] at h2; cases h2)
    clear hown1
    go_ret
    exact ⟨ret_bool Hc.out, Hs1.out, hgrow1⟩

end Go.Proofs.YtcjmhmmjfgjcnaaGreatDoor.Cd

/- code: the checker's step. -/
namespace Go.Proofs.YtcjmhmmjfgjcnaaGreatDoor.Cd
open Go.RowKit Go.Proofs.YtcjmhmmjfgjcnaaGreatDoor.Lx Go.Proofs.YtcjmhmmjfgjcnaaGreatDoor.Pa Go.Maps

theorem takes_le64 {y : Stp} {k : Nat} (h : takes y = some k) : k ≤ 64 := by
  unfold takes at h
  repeat' split at h
  all_goals first | (cases h; done) | (simp only [Option.some.injEq] at h; omega)
def takesQ (o : Option Nat) : Value := .tuple #[.int .i64 (o.getD 0 : Nat), .bool o.isSome]
def TakesOk (w0 : World) (y : Stp) : Prop := ∀ w2, Below w0.heap.size w0 w2 → Calls Tryz.prog 19 #[.agg #[.int .u8 y.kind, .string ⟨y.text.toArray⟩, .int .i64 y.num]] w2 fun e w' => e = .returned (takesQ (takes y)) ∧ Below w2.heap.size w2 w'
def StepGave (w0 : World) (B bm n : Nat) (pv : Value) (r : Option Hts) (e : Ending) (w' : World) : Prop := match r with
  | none => e = .returned (.bool false) ∧ Below w0.heap.size w0 w'
  | some hs' => e = .returned (.bool true) ∧ ∃ m, m ≤ n + 2 ∧ ChkM w0 w' B bm m pv hs'
theorem ins_at {w0 w : World} {pv : Value} {p : List Ins} (h : InsIn w0 pv p) (hb : Below w0.heap.size w0 w) (i : Nat) (hi : i < p.length) : ∃ g o c, pv = .slice (some ⟨g, o, none⟩) p.length c ∧ p.length ≤ c ∧ InsCells w g (o + i * 5) p[i] := by
  obtain ⟨a, n, c, rfl, rfl, hc, hj⟩ := h
  obtain ⟨g, o, rfl, hcl⟩ := hj i hi
  exact ⟨g, o, c, rfl, hc, hcl.below hb⟩

attribute [local go_sem high] ins_equal
set_option maxHeartbeats 2000000 in
set_option maxRecDepth 100000 in
theorem step_none (w0 w : World) (B bm n : Nat) (pv : Value) (hs : Hts) (p : List Ins) (i : Nat) (H : ChkM w0 w B bm n pv hs) (hp : InsIn w0 pv p) (hi : i < p.length) (hi2 : p.length ≤ 1000000) (hh : hs i = none) :
    Calls Tryz.prog 74 #[.pointer (some ⟨B, 0, none⟩), .int .i64 i] w fun e w' => e = .returned (.bool false) ∧ Below w0.heap.size w0 w' := by
  have HM := Lib.hid H
  obtain ⟨g, o, c, rfl, hc, hcl⟩ := ins_at hp H.bel i hi
  have hg := hcl.lt
  obtain ⟨q0, q1, q2, q3, q4⟩ := hcl
  obtain ⟨⟨c0, c1⟩, -⟩ := twoB H.blk
  have hB := ltH H.blk
  have Hi := Lib.hid hi
  have hi3 : (i : Int) < p.length := by omega
  generalize p[i] = x at *
  generalize p.length = N at *
  have Hkey := Lib.hid (keyOf_int_mk (P := Tryz.prog) (k := 3) Tryz.underlying3 (a := (i : Int)) (WalkArith.wf_i64 (by omega)))
  have H1 := Lib.hid (HM.out.step (allocB w (.cells #[.int .u8 x.op, .int .u8 x.st.kind, .string ⟨x.st.text.toArray⟩, .int .i64 x.st.num, .int .i64 x.to] 63)))
  obtain ⟨D, hown, hD⟩ := H1.out.map
  have Hown := Lib.hid hown
  have Hhas := Lib.hid (hD.hasK i)
  rw [hh] at Hhas
  clear H hp hown hD
  go_enter Tryz.func74, Tryz.ntmps74
  go_wp2_with (at_lookup; refine wpList_lookup_own_ok_int _ rfl _ _ 115 rfl 3 3 .i64 keyI Tryz.underlying115 Tryz.underlying3 (zeroH _) bm n D rfl Hown.out _ _ rfl Hkey.out ?_; intro c hat hwc; rw [Hhas.out])
  go_ret
  exact ⟨rfl, H1.out.bel⟩

structure StM (w0 w wx : World) (B bm n : Nat) (pv : Value) (hs : Hts) (x z : Ins) : Prop where
  c1 : wx.heap[w.heap.size]? = some (.cells #[.int .u8 x.op, .int .u8 x.st.kind, .string ⟨x.st.text.toArray⟩, .int .i64 x.st.num, .int .i64 x.to] 63)
  c2 : wx.heap[w.heap.size + 1]? = some (.cells #[.int .u8 z.op, .int .u8 z.st.kind, .string ⟨z.st.text.toArray⟩, .int .i64 z.st.num, .int .i64 z.to] 63)
  chk : ChkM w0 wx B bm n pv hs
  lt : B < w.heap.size ∧ bm < w.heap.size
theorem StM.step {w0 w wx w' : World} {B bm n : Nat} {pv : Value} {hs : Hts} {x z : Ins} (h : StM w0 w wx B bm n pv hs x z) (hb : Below wx.heap.size wx w') : StM w0 w w' B bm n pv hs x z :=
  ⟨(hb.block _ (ltH h.c1)).trans h.c1, (hb.block _ (ltH h.c2)).trans h.c2, h.chk.step hb, h.lt⟩
theorem StM.start {w0 w : World} {B bm n : Nat} {pv : Value} {hs : Hts} (h : ChkM w0 w B bm n pv hs) (x : Ins) : StM w0 w ((w.alloc (.cells #[.int .u8 x.op, .int .u8 x.st.kind, .string ⟨x.st.text.toArray⟩, .int .i64 x.st.num, .int .i64 x.to] 63)).alloc (.cells #[.int .u8 x.op, .int .u8 0, .string ⟨#[]⟩, .int .i64 0, .int .i64 0] 63)) B bm n pv hs x ⟨x.op, ⟨0, [], 0⟩, 0⟩ := by
  have hb := allocB (w.alloc (.cells #[.int .u8 x.op, .int .u8 x.st.kind, .string ⟨x.st.text.toArray⟩, .int .i64 x.st.num, .int .i64 x.to] 63)) (.cells #[.int .u8 x.op, .int .u8 0, .string ⟨#[]⟩, .int .i64 0, .int .i64 0] 63)
  refine ⟨(hb.block _ (by simp)).trans (heap_alloc_new _ _), ?_, (h.step (allocB w _)).step hb, ltH h.blk, ?_⟩
  · have := heap_alloc_new (w.alloc (.cells #[.int .u8 x.op, .int .u8 x.st.kind, .string ⟨x.st.text.toArray⟩, .int .i64 x.st.num, .int .i64 x.to] 63)) (.cells #[.int .u8 x.op, .int .u8 0, .string ⟨#[]⟩, .int .i64 0, .int .i64 0] 63)
    rw [show (w.alloc (.cells #[.int .u8 x.op, .int .u8 x.st.kind, .string ⟨x.st.text.toArray⟩, .int .i64 x.st.num, .int .i64 x.to] 63)).heap.size = w.heap.size + 1 by simp] at this
    exact this
  · obtain ⟨D, ⟨es, clock, hb, _⟩, _⟩ := h.map
    exact ltH hb
theorem ChkM.set {w0 w : World} {B bm n b i : Nat} {pv : Value} {hs : Hts} (h : ChkM w0 w B bm n pv hs) (hB : B ≠ b) (hbm : bm ≠ b) (hlow : w0.heap.size ≤ b) (v : Value) : ChkM w0 (w.setCell ⟨b, i, none⟩ v) B bm n pv hs := by
  obtain ⟨D, h1, h2⟩ := h.map
  exact ⟨(Below.heap_setCell _ _ _ _ hB).trans h.blk, ⟨D, h1.setCell hbm v, h2⟩, h.bel.setCell hlow v, h.lowB, h.lowM, h.ne⟩
theorem StM.set {w0 w wx : World} {B bm n : Nat} {pv : Value} {hs : Hts} {x z : Ins} (h : StM w0 w wx B bm n pv hs x z) (z' : Ins) (i : Nat) (v : Value)
    (e : (#[.int .u8 z.op, .int .u8 z.st.kind, .string ⟨z.st.text.toArray⟩, .int .i64 z.st.num, .int .i64 z.to] : Array Value).setIfInBounds i v = #[.int .u8 z'.op, .int .u8 z'.st.kind, .string ⟨z'.st.text.toArray⟩, .int .i64 z'.st.num, .int .i64 z'.to]) :
    StM w0 w (wx.setCell ⟨w.heap.size + 1, i, none⟩ v) B bm n pv hs x z' := by
  have hl := h.lt
  have hw := h.chk.lowB
  refine ⟨(Below.heap_setCell _ _ _ _ (show w.heap.size ≠ w.heap.size + 1 by omega)).trans h.c1, ?_, h.chk.set (by omega) (by omega) (by omega) v, hl⟩
  have hc := h.c2
  simp only [World.setCell, Array.getElem?_modify, if_true, hc, Option.map_some, ← e]
  rfl

set_option maxHeartbeats 4000000 in
set_option maxRecDepth 100000 in
theorem step_one (w0 w : World) (B bm n h : Nat) (pv : Value) (hs : Hts) (p : List Ins) (i : Nat) (H : ChkM w0 w B bm n pv hs) (hp : InsIn w0 pv p) (hi : i < p.length) (hi2 : p.length ≤ 1000000) (hn : n ≤ 900000) (hK : h ≤ 900000) (hh : hs i = some h)
    (ho : p[i].op = 1) (HT : TakesOk w0 p[i].st) :
    Calls Tryz.prog 74 #[.pointer (some ⟨B, 0, none⟩), .int .i64 i] w (StepGave w0 B bm n pv (stepK p.length i p[i] hs)) := by
  have HM := Lib.hid H
  have Hw0 := Lib.hid HT
  obtain ⟨g, o, c, rfl, hc, hcl⟩ := ins_at hp H.bel i hi
  have hg := hcl.lt
  obtain ⟨q0, q1, q2, q3, q4⟩ := hcl
  obtain ⟨⟨c0, c1⟩, -⟩ := twoB H.blk
  have hB := ltH H.blk
  have hi3 : (i : Int) < p.length := by omega
  have Hsk := Lib.hid (show stepK p.length i p[i] hs = match takes p[i].st with
      | none => none
      | some k => if p[i].st.kind < 21 ∧ p[i].to = 0 ∧ k ≤ h then hs.come (i + 1) (h - k + 1) else none by
    unfold stepK
    rw [hh]
    simp only
    rw [if_pos ho]
    cases takes p[i].st <;> rfl)
  generalize p[i] = x at *
  generalize p.length = N at *
  obtain ⟨op, st, to'⟩ := x
  simp only at ho
  subst ho
  simp only [Int.natCast_one] at *
  have Hkey := Lib.hid (keyOf_int_mk (P := Tryz.prog) (k := 3) Tryz.underlying3 (a := (i : Int)) (WalkArith.wf_i64 (by omega)))
  have H1 := Lib.hid (HM.out.step (allocB w (.cells #[.int .u8 1, .int .u8 st.kind, .string ⟨st.text.toArray⟩, .int .i64 st.num, .int .i64 to'] 63)))
  obtain ⟨D, hown, hD⟩ := H1.out.map
  have Hown := Lib.hid hown
  have Hhas := Lib.hid (hD.hasK i)
  have Hat := Lib.hid (show ∀ c : Int, D.atKey (.int .i64 (i : Int)) (.lit (.int .i64 0)) = .lit (.int .i64 c) → c = (h : Int) from fun c hc => by
    rw [hD.atK i, hh] at hc
    simp only [Option.getD_some, DataW.lit.injEq, Lit.int.injEq, true_and] at hc
    exact hc.symm)
  rw [hh] at Hhas
  have Hst := Lib.hid (StM.start H ⟨1, st, to'⟩)
  have Htk := Lib.hid (HT _ Hst.out.chk.bel)
  clear H hp hown hD HT
  go_enter Tryz.func74, Tryz.ntmps74
  go_wp2_with (first | (at_lookup; refine wpList_lookup_own_ok_int _ rfl _ _ 115 rfl 3 3 .i64 keyI Tryz.underlying115 Tryz.underlying3 (zeroH _) bm n D rfl Hown.out _ _ rfl Hkey.out ?_; intro c hat hwc; rw [Hhas.out]; obtain rfl := Hat.out c hat; clear hat hwc))
  refine Htk.out.mono ?_
  rintro e w2 ⟨rfl, hb2⟩
  have Hst2 := Lib.hid (Hst.out.step hb2)
  obtain ⟨⟨k0, k1, k2, k3, k4⟩, -⟩ := fiveB Hst2.out.c1
  obtain ⟨⟨z0, z1, z2, z3, z4⟩, y0, y1, y2, y3, y4⟩ := fiveB Hst2.out.c2
  clear hb2 c0 c1 q0 q1 q2 q3 q4
  have Hst3 := Lib.hid (((Hst2.out.set ⟨1, ⟨st.kind, [], 0⟩, 0⟩ 1 (.int .u8 st.kind) rfl).set ⟨1, ⟨st.kind, st.text, 0⟩, 0⟩ 2 (.string ⟨st.text.toArray⟩) rfl).set ⟨1, st, 0⟩ 3 (.int .i64 st.num) rfl)
  cases ht : takes st with
  | none =>
    have HR := Lib.hid (show stepK N i ⟨1, st, to'⟩ hs = none by rw [Hsk.out]; simp only [ht])
    unfold takesQ
    simp only [Option.getD_none, Option.isSome_none]
    clear ht
    go_wp2_with fail
    go_ret
    rw [HR.out]
    exact ⟨rfl, Hst3.out.chk.bel⟩
  | some k =>
    have hk := takes_le64 ht
    have Hk := Lib.hid (show stepK N i ⟨1, st, to'⟩ hs = if st.kind < 21 ∧ to' = 0 ∧ k ≤ h then hs.come (i + 1) (h - k + 1) else none by rw [Hsk.out]; simp only [ht])
    unfold takesQ
    simp only [Option.getD_some, Option.isSome_some]
    clear ht
    by_cases hkd : st.kind < 21
    · have hkd2 : ¬ (21 : Int) ≤ st.kind := by omega
      have hq := insQ_eq ⟨1, st, to'⟩ ⟨1, st, 0⟩
      simp only [Int.natCast_one, Ins.mk.injEq, true_and] at hq
      by_cases hto : to' = 0
      · subst hto
        rw [decide_eq_true rfl] at hq
        by_cases hkh : k ≤ h
        · have hkh2 : (k : Int) ≤ h := by omega
          have Hc := Lib.hid (come_calls w0 _ B bm n _ hs (i + 1) (h - k + 1) Hst3.out.chk (by omega) (by omega) (by omega))
          have HR := Lib.hid (show stepK N i ⟨1, st, 0⟩ hs = if comeB hs (i + 1) (h - k + 1) then some (fun j => if j = i + 1 then some (h - k + 1) else hs j) else none by rw [Hk.out, if_pos ⟨hkd, rfl, hkh⟩, come_eq])
          rw [show ((i + 1 : Nat) : Int) = (i : Int) + 1 by omega, show ((h - k + 1 : Nat) : Int) = (h : Int) - k + 1 by omega] at Hc
          go_wp2_with fail
          refine Hc.out.mono ?_
          rintro e w4 ⟨rfl, hst4, -⟩
          have Hst4 := Lib.hid hst4
          clear hst4
          generalize comeB hs (i + 1) (h - k + 1) = cb at *
          cases cb
          · go_wp2_with fail
            go_ret
            rw [HR.out]
            exact ⟨rfl, Hst4.out.bel⟩
          · go_wp2_with fail
            go_ret
            rw [HR.out]
            exact ⟨rfl, n + 1, by omega, Hst4.out⟩
        · have hkh2 : ¬ (k : Int) ≤ h := by omega
          have HR := Lib.hid (show stepK N i ⟨1, st, 0⟩ hs = none by rw [Hk.out, if_neg (by omega)])
          clear hkh
          go_wp2_with fail
          go_ret
          rw [HR.out]
          exact ⟨rfl, Hst3.out.chk.bel⟩
      · rw [decide_eq_false hto] at hq
        have HR := Lib.hid (show stepK N i ⟨1, st, to'⟩ hs = none by rw [Hk.out, if_neg (by omega)])
        clear hto
        go_wp2_with fail
        go_ret
        rw [HR.out]
        exact ⟨rfl, Hst3.out.chk.bel⟩
    · have hkd2 : (21 : Int) ≤ st.kind := by omega
      have HR := Lib.hid (show stepK N i ⟨1, st, to'⟩ hs = none by rw [Hk.out, if_neg (by omega)])
      clear hkd
      go_wp2_with fail
      go_ret
      rw [HR.out]
      exact ⟨rfl, Hst3.out.chk.bel⟩

end Go.Proofs.YtcjmhmmjfgjcnaaGreatDoor.Cd

/- code: the checker's step, the other instructions. -/
namespace Go.Proofs.YtcjmhmmjfgjcnaaGreatDoor.Cd
open Go.RowKit Go.Proofs.YtcjmhmmjfgjcnaaGreatDoor.Lx Go.Proofs.YtcjmhmmjfgjcnaaGreatDoor.Pa Go.Maps

attribute [local go_sem high] ins_equal

set_option maxHeartbeats 4000000 in
set_option maxRecDepth 100000 in
theorem step_other (w0 w : World) (B bm n h : Nat) (pv : Value) (hs : Hts) (p : List Ins) (i : Nat) (H : ChkM w0 w B bm n pv hs) (hp : InsIn w0 pv p) (hi : i < p.length) (hi2 : p.length ≤ 1000000) (hh : hs i = some h)
    (ho : ¬ (p[i].op = 1 ∨ p[i].op = 2 ∨ p[i].op = 3 ∨ p[i].op = 4 ∨ p[i].op = 5)) :
    Calls Tryz.prog 74 #[.pointer (some ⟨B, 0, none⟩), .int .i64 i] w (StepGave w0 B bm n pv (stepK p.length i p[i] hs)) := by
  have HR := Lib.hid (show stepK p.length i p[i] hs = none by
    unfold stepK
    rw [hh]
    simp only
    rw [if_neg (by omega), if_neg (by omega), if_neg (by omega), if_neg (by omega)])
  have HM := Lib.hid H
  obtain ⟨g, o, c, rfl, hc, hcl⟩ := ins_at hp H.bel i hi
  have hg := hcl.lt
  obtain ⟨q0, q1, q2, q3, q4⟩ := hcl
  obtain ⟨⟨c0, c1⟩, -⟩ := twoB H.blk
  have hB := ltH H.blk
  have hi3 : (i : Int) < p.length := by omega
  generalize p[i] = x at *
  generalize p.length = N at *
  have Hkey := Lib.hid (keyOf_int_mk (P := Tryz.prog) (k := 3) Tryz.underlying3 (a := (i : Int)) (WalkArith.wf_i64 (by omega)))
  have H1 := Lib.hid (HM.out.step (allocB w (.cells #[.int .u8 x.op, .int .u8 x.st.kind, .string ⟨x.st.text.toArray⟩, .int .i64 x.st.num, .int .i64 x.to] 63)))
  obtain ⟨D, hown, hD⟩ := H1.out.map
  have Hown := Lib.hid hown
  have Hhas := Lib.hid (hD.hasK i)
  have Hat := Lib.hid (show ∀ c : Int, D.atKey (.int .i64 (i : Int)) (.lit (.int .i64 0)) = .lit (.int .i64 c) → c = (h : Int) from fun c hc => by
    rw [hD.atK i, hh] at hc
    simp only [Option.getD_some, DataW.lit.injEq, Lit.int.injEq, true_and] at hc
    exact hc.symm)
  rw [hh] at Hhas
  have Hst := Lib.hid (StM.start H x)
  have b1 : ((x.op : Int) == 1) = false := by rw [beq_eq_false_iff_ne]; omega
  have b2 : ((x.op : Int) == 2) = false := by rw [beq_eq_false_iff_ne]; omega
  have b3 : ((x.op : Int) == 3) = false := by rw [beq_eq_false_iff_ne]; omega
  have b4 : ((x.op : Int) == 4) = false := by rw [beq_eq_false_iff_ne]; omega
  have b5 : ((x.op : Int) == 5) = false := by rw [beq_eq_false_iff_ne]; omega
  clear H hp hown hD ho
  go_enter Tryz.func74, Tryz.ntmps74
  go_wp2_with (first | (at_lookup; refine wpList_lookup_own_ok_int _ rfl _ _ 115 rfl 3 3 .i64 keyI Tryz.underlying115 Tryz.underlying3 (zeroH _) bm n D rfl Hown.out _ _ rfl Hkey.out ?_; intro c hat hwc; rw [Hhas.out]; obtain rfl := Hat.out c hat; clear hat hwc))
  go_ret
  rw [HR.out]
  exact ⟨rfl, Hst.out.chk.bel⟩

set_option maxHeartbeats 4000000 in
set_option maxRecDepth 100000 in
theorem step_3 (w0 w : World) (B bm n h : Nat) (pv : Value) (hs : Hts) (p : List Ins) (i : Nat) (H : ChkM w0 w B bm n pv hs) (hp : InsIn w0 pv p) (hi : i < p.length) (hi2 : p.length ≤ 1000000) (hn : n ≤ 900000) (hK : h ≤ 900000) (hh : hs i = some h)
    (ho : p[i].op = 3) :
    Calls Tryz.prog 74 #[.pointer (some ⟨B, 0, none⟩), .int .i64 i] w (StepGave w0 B bm n pv (stepK p.length i p[i] hs)) := by
  have Hsk := Lib.hid (show stepK p.length i p[i] hs = if p[i].st = stp0 ∧ p[i].to = 0 ∧ 1 ≤ h then hs.come (i + 1) h else none by
    unfold stepK
    rw [hh]
    simp only
    rw [if_neg (by omega), if_neg (by omega), if_pos ho])
  have HM := Lib.hid H
  obtain ⟨g, o, c, rfl, hc, hcl⟩ := ins_at hp H.bel i hi
  have hg := hcl.lt
  obtain ⟨q0, q1, q2, q3, q4⟩ := hcl
  obtain ⟨⟨c0, c1⟩, -⟩ := twoB H.blk
  have hB := ltH H.blk
  have hi3 : (i : Int) < p.length := by omega
  generalize p[i] = x at *
  generalize p.length = N at *
  obtain ⟨op, st, to'⟩ := x
  simp only at ho
  subst ho
  have Hkey := Lib.hid (keyOf_int_mk (P := Tryz.prog) (k := 3) Tryz.underlying3 (a := (i : Int)) (WalkArith.wf_i64 (by omega)))
  have H1 := Lib.hid (HM.out.step (allocB w (.cells #[.int .u8 3, .int .u8 st.kind, .string ⟨st.text.toArray⟩, .int .i64 st.num, .int .i64 to'] 63)))
  obtain ⟨D, hown, hD⟩ := H1.out.map
  have Hown := Lib.hid hown
  have Hhas := Lib.hid (hD.hasK i)
  have Hat := Lib.hid (show ∀ c : Int, D.atKey (.int .i64 (i : Int)) (.lit (.int .i64 0)) = .lit (.int .i64 c) → c = (h : Int) from fun c hc => by
    rw [hD.atK i, hh] at hc
    simp only [Option.getD_some, DataW.lit.injEq, Lit.int.injEq, true_and] at hc
    exact hc.symm)
  rw [hh] at Hhas
  have Hst := Lib.hid (StM.start H ⟨3, st, to'⟩)
  have hq : insQ 3 3 st.kind 0 ⟨st.text.toArray⟩ ⟨#[]⟩ st.num 0 to' 0 = decide (st = ⟨0, [], 0⟩ ∧ to' = 0) := (insQ_eq ⟨3, st, to'⟩ ⟨3, ⟨0, [], 0⟩, 0⟩).trans (by simp only [Ins.mk.injEq, true_and])
  clear H hp hown hD
  go_enter Tryz.func74, Tryz.ntmps74
  by_cases hz : st = ⟨0, [], 0⟩ ∧ to' = 0
  · rw [decide_eq_true hz] at hq
    by_cases hkh : 1 ≤ h
    · have hkh2 : (1 : Int) ≤ h := by omega
      have Hc := Lib.hid (come_calls w0 _ B bm n _ hs (i + 1) h Hst.out.chk (by omega) (by omega) (by omega))
      have HR := Lib.hid (show stepK N i ⟨3, st, to'⟩ hs = if comeB hs (i + 1) h then some (fun j => if j = i + 1 then some h else hs j) else none by rw [Hsk.out, if_pos ⟨hz.1, hz.2, hkh⟩, come_eq])
      rw [show ((i + 1 : Nat) : Int) = (i : Int) + 1 by omega] at Hc
      clear hz
      go_wp2_with (first | (at_lookup; refine wpList_lookup_own_ok_int _ rfl _ _ 115 rfl 3 3 .i64 keyI Tryz.underlying115 Tryz.underlying3 (zeroH _) bm n D rfl Hown.out _ _ rfl Hkey.out ?_; intro c hat hwc; rw [Hhas.out]; obtain rfl := Hat.out c hat; clear hat hwc))
      refine Hc.out.mono ?_
      rintro e w4 ⟨rfl, hst4, -⟩
      have Hst4 := Lib.hid hst4
      clear hst4
      generalize comeB hs (i + 1) h = cb at *
      cases cb
      · go_wp2_with fail
        go_ret
        rw [HR.out]
        exact ⟨rfl, Hst4.out.bel⟩
      · go_wp2_with fail
        go_ret
        rw [HR.out]
        exact ⟨rfl, n + 1, by omega, Hst4.out⟩
    · have hkh2 : ¬ (1 : Int) ≤ h := by omega
      have HR := Lib.hid (show stepK N i ⟨3, st, to'⟩ hs = none by rw [Hsk.out, if_neg (by omega)])
      clear hkh hz
      go_wp2_with (first | (at_lookup; refine wpList_lookup_own_ok_int _ rfl _ _ 115 rfl 3 3 .i64 keyI Tryz.underlying115 Tryz.underlying3 (zeroH _) bm n D rfl Hown.out _ _ rfl Hkey.out ?_; intro c hat hwc; rw [Hhas.out]; obtain rfl := Hat.out c hat; clear hat hwc))
      go_ret
      rw [HR.out]
      exact ⟨rfl, Hst.out.chk.bel⟩
  · rw [decide_eq_false hz] at hq
    have HR := Lib.hid (show stepK N i ⟨3, st, to'⟩ hs = none by rw [Hsk.out, if_neg (fun h => hz ⟨h.1, h.2.1⟩)])
    clear hz
    go_wp2_with (first | (at_lookup; refine wpList_lookup_own_ok_int _ rfl _ _ 115 rfl 3 3 .i64 keyI Tryz.underlying115 Tryz.underlying3 (zeroH _) bm n D rfl Hown.out _ _ rfl Hkey.out ?_; intro c hat hwc; rw [Hhas.out]; obtain rfl := Hat.out c hat; clear hat hwc))
    go_ret
    rw [HR.out]
    exact ⟨rfl, Hst.out.chk.bel⟩

set_option maxHeartbeats 4000000 in
set_option maxRecDepth 100000 in
theorem step_5 (w0 w : World) (B bm n h : Nat) (pv : Value) (hs : Hts) (p : List Ins) (i : Nat) (H : ChkM w0 w B bm n pv hs) (hp : InsIn w0 pv p) (hi : i < p.length) (hi2 : p.length ≤ 1000000) (hn : n ≤ 900000) (hK : h ≤ 900000) (hh : hs i = some h)
    (ho : p[i].op = 5) :
    Calls Tryz.prog 74 #[.pointer (some ⟨B, 0, none⟩), .int .i64 i] w (StepGave w0 B bm n pv (stepK p.length i p[i] hs)) := by
  have Hsk := Lib.hid (show stepK p.length i p[i] hs = if p[i].st = stp0 ∧ p[i].to = 0 ∧ 2 ≤ h then hs.come (i + 1) (h - 1) else none by
    unfold stepK
    rw [hh]
    simp only
    rw [if_neg (by omega), if_neg (by omega), if_neg (by omega), if_pos ho])
  have HM := Lib.hid H
  obtain ⟨g, o, c, rfl, hc, hcl⟩ := ins_at hp H.bel i hi
  have hg := hcl.lt
  obtain ⟨q0, q1, q2, q3, q4⟩ := hcl
  obtain ⟨⟨c0, c1⟩, -⟩ := twoB H.blk
  have hB := ltH H.blk
  have hi3 : (i : Int) < p.length := by omega
  generalize p[i] = x at *
  generalize p.length = N at *
  obtain ⟨op, st, to'⟩ := x
  simp only at ho
  subst ho
  have Hkey := Lib.hid (keyOf_int_mk (P := Tryz.prog) (k := 3) Tryz.underlying3 (a := (i : Int)) (WalkArith.wf_i64 (by omega)))
  have H1 := Lib.hid (HM.out.step (allocB w (.cells #[.int .u8 5, .int .u8 st.kind, .string ⟨st.text.toArray⟩, .int .i64 st.num, .int .i64 to'] 63)))
  obtain ⟨D, hown, hD⟩ := H1.out.map
  have Hown := Lib.hid hown
  have Hhas := Lib.hid (hD.hasK i)
  have Hat := Lib.hid (show ∀ c : Int, D.atKey (.int .i64 (i : Int)) (.lit (.int .i64 0)) = .lit (.int .i64 c) → c = (h : Int) from fun c hc => by
    rw [hD.atK i, hh] at hc
    simp only [Option.getD_some, DataW.lit.injEq, Lit.int.injEq, true_and] at hc
    exact hc.symm)
  rw [hh] at Hhas
  have Hst := Lib.hid (StM.start H ⟨5, st, to'⟩)
  have hq : insQ 5 5 st.kind 0 ⟨st.text.toArray⟩ ⟨#[]⟩ st.num 0 to' 0 = decide (st = ⟨0, [], 0⟩ ∧ to' = 0) := (insQ_eq ⟨5, st, to'⟩ ⟨5, ⟨0, [], 0⟩, 0⟩).trans (by simp only [Ins.mk.injEq, true_and])
  clear H hp hown hD
  go_enter Tryz.func74, Tryz.ntmps74
  by_cases hz : st = ⟨0, [], 0⟩ ∧ to' = 0
  · rw [decide_eq_true hz] at hq
    by_cases hkh : 2 ≤ h
    · have hkh2 : (2 : Int) ≤ h := by omega
      have Hc := Lib.hid (come_calls w0 _ B bm n _ hs (i + 1) (h - 1) Hst.out.chk (by omega) (by omega) (by omega))
      have HR := Lib.hid (show stepK N i ⟨5, st, to'⟩ hs = if comeB hs (i + 1) (h - 1) then some (fun j => if j = i + 1 then some (h - 1) else hs j) else none by rw [Hsk.out, if_pos ⟨hz.1, hz.2, hkh⟩, come_eq])
      rw [show ((i + 1 : Nat) : Int) = (i : Int) + 1 by omega, show ((h - 1 : Nat) : Int) = (h : Int) - 1 by omega] at Hc
      clear hz
      go_wp2_with (first | (at_lookup; refine wpList_lookup_own_ok_int _ rfl _ _ 115 rfl 3 3 .i64 keyI Tryz.underlying115 Tryz.underlying3 (zeroH _) bm n D rfl Hown.out _ _ rfl Hkey.out ?_; intro c hat hwc; rw [Hhas.out]; obtain rfl := Hat.out c hat; clear hat hwc))
      refine Hc.out.mono ?_
      rintro e w4 ⟨rfl, hst4, -⟩
      have Hst4 := Lib.hid hst4
      clear hst4
      generalize comeB hs (i + 1) (h - 1) = cb at *
      cases cb
      · go_wp2_with fail
        go_ret
        rw [HR.out]
        exact ⟨rfl, Hst4.out.bel⟩
      · go_wp2_with fail
        go_ret
        rw [HR.out]
        exact ⟨rfl, n + 1, by omega, Hst4.out⟩
    · have hkh2 : ¬ (2 : Int) ≤ h := by omega
      have HR := Lib.hid (show stepK N i ⟨5, st, to'⟩ hs = none by rw [Hsk.out, if_neg (by omega)])
      clear hkh hz
      go_wp2_with (first | (at_lookup; refine wpList_lookup_own_ok_int _ rfl _ _ 115 rfl 3 3 .i64 keyI Tryz.underlying115 Tryz.underlying3 (zeroH _) bm n D rfl Hown.out _ _ rfl Hkey.out ?_; intro c hat hwc; rw [Hhas.out]; obtain rfl := Hat.out c hat; clear hat hwc))
      go_ret
      rw [HR.out]
      exact ⟨rfl, Hst.out.chk.bel⟩
  · rw [decide_eq_false hz] at hq
    have HR := Lib.hid (show stepK N i ⟨5, st, to'⟩ hs = none by rw [Hsk.out, if_neg (fun h => hz ⟨h.1, h.2.1⟩)])
    clear hz
    go_wp2_with (first | (at_lookup; refine wpList_lookup_own_ok_int _ rfl _ _ 115 rfl 3 3 .i64 keyI Tryz.underlying115 Tryz.underlying3 (zeroH _) bm n D rfl Hown.out _ _ rfl Hkey.out ?_; intro c hat hwc; rw [Hhas.out]; obtain rfl := Hat.out c hat; clear hat hwc))
    go_ret
    rw [HR.out]
    exact ⟨rfl, Hst.out.chk.bel⟩

end Go.Proofs.YtcjmhmmjfgjcnaaGreatDoor.Cd
