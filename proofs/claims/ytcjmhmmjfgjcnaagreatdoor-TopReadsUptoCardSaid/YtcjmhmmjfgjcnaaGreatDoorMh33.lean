/- Parts: PbG PbH PbI PbL. -/
import Derived.Test.YtcjmhmmjfgjcnaaGreatDoorMh22
import Derived.Test.YtcjmhmmjfgjcnaaGreatDoorMh23
import Derived.Test.YtcjmhmmjfgjcnaaGreatDoorMh32
import Derived.RegionTactic

/- parse: items (the check's). -/
namespace Go.Proofs.YtcjmhmmjfgjcnaaGreatDoor.Pa
open Go.RowKit Go.Proofs.YtcjmhmmjfgjcnaaGreatDoor.Lx

def ItmsIn (w : World) (v : Value) (l : List Itm) : Prop := ∃ (a : Option Addr) (n c : Nat), v = .slice a n c ∧ l.length = n ∧ n ≤ c ∧ ∀ (i : Nat) (h : i < l.length), ∃ (g o : Nat) (ve : Value), a = some ⟨g, o, none⟩ ∧ w.cell? ⟨g, o + i * 2, none⟩ = some (.string ⟨l[i].name.toArray⟩) ∧ w.cell? ⟨g, o + i * 2 + 1, none⟩ = some ve ∧ StpsIn w ve l[i].expr
theorem ItmsIn.below {w w' : World} {v : Value} {l : List Itm} (h : ItmsIn w v l) (hb : Below w.heap.size w w') : ItmsIn w' v l := by
  obtain ⟨a, n, c, rfl, hn, hc, hj⟩ := h
  refine ⟨a, n, c, rfl, hn, hc, fun i hi => ?_⟩
  obtain ⟨g, o, ve, e, h0, h1, h2⟩ := hj i hi
  have hg : g < w.heap.size := World.block_lt_of_cell? _ _ h0
  exact ⟨g, o, ve, e, (hb.cell (p := ⟨g, _, none⟩) hg).trans h0, (hb.cell (p := ⟨g, _, none⟩) hg).trans h1, h2.below hb⟩

def itemB (x : Itm) : Bool := nameB x.name && rightB x.expr
theorem all_take_snoc {α : Type} (p : α → Bool) (l : List α) (k : Nat) (h : k < l.length) : (l.take (k + 1)).all p = ((l.take k).all p && p l[k]) := by
  rw [List.take_succ_eq_append_getElem h, List.all_append]; simp
theorem all_false_at {α : Type} (p : α → Bool) (l : List α) (k : Nat) (h : k < l.length) (e : p l[k] = false) : l.all p = false := by
  rw [List.all_eq_false]; exact ⟨l[k], List.getElem_mem h, by simp [e]⟩
theorem itemsB_false (l : List Itm) (k : Nat) (h : k < l.length) (e : itemB l[k] = false) : itemsB l = false := by
  unfold itemsB; rw [show (l.all fun x => nameB x.name && rightB x.expr) = false from all_false_at itemB l k h e]; rfl

set_option maxHeartbeats 1000000 in
set_option maxRecDepth 100000 in
theorem itemsS_calls (w : World) (v : Value) (l : List Itm) (h : ItmsIn w v l) (hl : l.length ≤ 1048575) (hs : ∀ t ∈ l, t.name.length ≤ 1073741824 ∧ t.expr.length ≤ 1048576 ∧ ∀ y ∈ t.expr, y.text.length ≤ 1048575) (he : Env w) :
    Calls Tryz.prog 62 #[v] w fun e w' => e = .returned (.bool (itemsB l)) ∧ Below w.heap.size w w' := by
  obtain ⟨a, n, c, rfl, hn, hc, hj⟩ := h
  have Hn := Lib.hid hn
  have Hj := Lib.hid hj
  have Hs := Lib.hid hs
  have He := Lib.hid he
  have hn2 : n ≤ 1048575 := by omega
  clear hn hj hs he
  go_enter Tryz.func62, Tryz.ntmps62
  go_wp2_with fail
  go_loopw [3, 8] (fun s3 i wr => ∃ (k a3 c3 : Nat) (b3 : Option Addr), k ≤ n ∧ i = .int .i64 k ∧ s3 = .slice b3 a3 c3 ∧ Hid (Below w.heap.size w wr ∧ OwnStrs wr w.heap.size (.slice b3 a3 c3) ((l.take k).map Itm.name) ∧ (l.take k).all itemB = true)) (fun _ i _ => n - (intOf i).toNat)
  case atStart => exact ⟨0, 0, 0, none, Nat.zero_le _, rfl, rfl, Below.refl _ _, OwnStrs.nil _ _, rfl⟩
  case round =>
    obtain ⟨k, a3, c3, b3, hk, rfl, rfl, hb, hown, hall⟩ := hrel
    have Hb := Lib.hid hb
    have Hown := Lib.hid hown
    have Hall := Lib.hid hall
    by_cases hlt : k < n
    · have hkl : k < l.length := by rw [Hn.out]; exact hlt
      obtain ⟨g, o, ve, rfl, q0, q1, ⟨a4, n4, c4, rfl, hst⟩⟩ := (show ∃ (g o : Nat) (ve : Value), a = some ⟨g, o, none⟩ ∧ wr.cell? ⟨g, o + k * 2, none⟩ = some (.string ⟨l[k].name.toArray⟩) ∧ wr.cell? ⟨g, o + k * 2 + 1, none⟩ = some ve ∧ StpsIn wr ve l[k].expr by
        obtain ⟨g, o, ve, e, h0, h1, h2⟩ := Hj.out k hkl
        have hg : g < w.heap.size := World.block_lt_of_cell? _ _ h0
        exact ⟨g, o, ve, e, (hb.cell (p := ⟨g, _, none⟩) hg).trans h0, (hb.cell (p := ⟨g, _, none⟩) hg).trans h1, h2.below hb⟩)
      have hst' : StpsIn wr (.slice a4 n4 c4) l[k].expr := ⟨a4, n4, c4, rfl, hst⟩
      obtain ⟨z1, z2, z3⟩ := Hs.out _ (List.getElem_mem hkl)
      have Hnm := Lib.hid (fun (w2 : World) (hb2 : Below wr.heap.size wr w2) => nameS_calls l[k].name w2 z1 ((He.out.below hb).below hb2))
      have Hrt := Lib.hid (fun (w2 : World) (hb2 : Below wr.heap.size wr w2) => Right_calls w2 _ l[k].expr (hst'.below hb2) z2 z3 ((He.out.below hb).below hb2))
      have Htk := Lib.hid (all_take_snoc itemB l k hkl)
      have Hfl := Lib.hid (itemsB_false l k hkl)
      have Htn := Lib.hid (show (l.take (k + 1)).map Itm.name = (l.take k).map Itm.name ++ [l[k].name] by rw [List.take_succ_eq_append_getElem hkl, List.map_append]; rfl)
      have Hlen := Lib.hid (show ((l.take k).map Itm.name).length = k by simp; omega)
      have hgw : g < wr.heap.size := World.block_lt_of_cell? _ _ q0
      clear hst hst' z1 z2 z3 hb hown hall
      unfold itemB at Htk Hfl
      generalize l[k] = it at *
      cases hnb : nameB it.name with
      | false =>
        have HR := Lib.hid (show itemsB l = false from Hfl.out (by rw [hnb]; rfl))
        rw [hnb] at Hnm
        clear Hfl Htk hnb
        go_wp2_with fail
        refine (Hnm.out _ (alloc_below _ _)).mono ?_
        rintro e w2 ⟨rfl, hb2⟩
        have Hb2 := Lib.hid (Hb.out.trans (((alloc_below wr _).trans (hb2.mono (alloc_below wr _).size)).mono Hb.out.size))
        clear hb2
        go_wp2_with fail
        go_ret
        exact ⟨ret_bool HR.out.symm, Hb2.out⟩
      | true =>
        rw [hnb] at Hnm
        have Hblk := Lib.hid (heap_alloc_new wr (.cells #[.string ⟨it.name.toArray⟩, .slice a4 n4 c4] 95))
        cases hrb : rightB it.expr with
        | false =>
          have HR := Lib.hid (show itemsB l = false from Hfl.out (by rw [hrb, Bool.and_false]))
          rw [hrb] at Hrt
          clear Hfl Htk hnb hrb
          go_wp2_with fail
          refine (Hnm.out _ (alloc_below _ _)).mono ?_
          rintro e w2 ⟨rfl, hb2⟩
          obtain ⟨⟨r0, r1⟩, -⟩ := two ((hb2.block wr.heap.size (by simp)).trans Hblk.out)
          have Hb2 := Lib.hid ((alloc_below wr _).trans (hb2.mono (alloc_below wr _).size))
          clear hb2
          go_wp2_with fail
          refine (Hrt.out _ Hb2.out).mono ?_
          rintro e w3 ⟨rfl, hb3⟩
          have Hb3 := Lib.hid (Hb.out.trans ((Hb2.out.trans (hb3.mono Hb2.out.size)).mono Hb.out.size))
          clear hb3
          go_wp2_with fail
          go_ret
          exact ⟨ret_bool HR.out.symm, Hb3.out⟩
        | true =>
          have Hall2 := Lib.hid (show (l.take (k + 1)).all itemB = true by rw [show (l.take (k + 1)).all itemB = _ from Htk.out, show ((l.take k).all fun x => nameB x.name && rightB x.expr) = true from Hall.out, hnb, hrb]; rfl)
          rw [hrb] at Hrt
          clear Hfl Htk hnb hrb
          obtain ⟨i0, hi0, hz0, hz1, hz2⟩ := info_parts strInfo
          have Hi0 := Lib.hid hi0
          have Hz0 := Lib.hid hz0
          have Hz1 := Lib.hid hz1
          have Hz2 := Lib.hid hz2
          clear hi0 hz0 hz1 hz2
          go_wp2_with fail
          refine (Hnm.out _ (alloc_below _ _)).mono ?_
          rintro e w2 ⟨rfl, hb2⟩
          obtain ⟨⟨r0, r1⟩, -⟩ := two ((hb2.block wr.heap.size (by simp)).trans Hblk.out)
          have Hlt2 := Lib.hid (show wr.heap.size < w2.heap.size by have := hb2.size; simp at this; omega)
          have Hblk2 := Lib.hid ((hb2.block wr.heap.size (by simp)).trans Hblk.out)
          have Hb2 := Lib.hid ((alloc_below wr _).trans (hb2.mono (alloc_below wr _).size))
          clear hb2
          go_wp2_with fail
          refine (Hrt.out _ Hb2.out).mono ?_
          rintro e w3 ⟨rfl, hb3⟩
          have hblk3 := (hb3.block wr.heap.size Hlt2.out).trans Hblk2.out
          obtain ⟨⟨s0, s1⟩, -⟩ := two hblk3
          have hb4 := Hb2.out.trans (hb3.mono Hb2.out.size)
          have hown4 : OwnStrs (w3.alloc (.cells #[.string ⟨it.name.toArray⟩] 9)) w.heap.size (.slice b3 a3 c3) ((l.take k).map Itm.name) :=
            own_same Hown.out fun g _ hg => (hb4.trans ((alloc_below w3 _).mono hb4.size)).block g hg
          unfold OwnStrs at hown4
          rw [show ((l.take k).map Itm.name).length = k from Hlen.out] at hown4
          have Hown4 := Lib.hid hown4
          have Hb4 := Lib.hid ((Hb.out.trans (hb4.mono Hb.out.size)).trans ((alloc_below w3 (.cells #[.string ⟨it.name.toArray⟩] 9)).mono (Nat.le_trans Hb.out.size hb4.size)))
          have Hnews := Lib.hid (World.news_of_block (cs := #[.string ⟨it.name.toArray⟩]) (t := 9) (fr := (0, 0)) (heap_alloc_new w3 (.cells #[.string ⟨it.name.toArray⟩] 9)))
          clear hb3 hb4 hown4 hblk3 r0 r1
          go_wp2_with (at_builtin; go_must (refine wpList_append_own_at _ rfl _ _ 93 rfl w.heap.size 9 i0 _ 1 16 Tryz.underlying93 Hi0.out Hz0.out Hz1.out Hz2.out rfl (by decide) _ k (strsC ((l.take k).map Itm.name)) rfl Hown4.out ⟨w3.heap.size, 0, none⟩ 1 1 [.string ⟨it.name.toArray⟩] rfl rfl ?c1 ?c2 ?c3 ?c4 ?c5 ?_))
          case c1 => exact Hnews.out
          case c2 => simp [Value.oneCell']
          case c3 => unfold maxLen; omega
          case c4 => omega
          case c5 => exact Hb4.out.size
          intro v7 w7 hown7 hgrow7 _ hat7
          have hown7' : OwnStrs w7 w.heap.size v7 ((l.take (k + 1)).map Itm.name) := by
            unfold OwnStrs
            rw [Htn.out, strsC_snoc, List.length_append, show ((l.take k).map Itm.name).length = k from Hlen.out, List.map_take]
            exact hown7
          obtain ⟨a7, c7, rfl⟩ := own_form hown7
          have Hown7 := Lib.hid hown7'
          have Hb7 := Lib.hid (Hb4.out.grown hgrow7 Hb4.out.size fun b hb => (World.ownsRow.lt Hown4.out b hb).1)
          clear hown7 hgrow7 hat7 hown7'
          go_wp2_with fail
          go_roundw
          case rel => exact ⟨k + 1, _, _, _, by omega, by go_num, rfl, Hb7.out, Hown7.out, Hall2.out⟩
          case measure => simp [intOf]; omega
    · have hkn : k = n := by omega
      subst hkn
      have hkk : l.take k = l := List.take_of_length_le (by rw [Hn.out]; exact Nat.le_refl _)
      rw [hkk] at hown hall
      have Hap := Lib.hid (fun hs => apart_calls wr _ (l.map Itm.name) hown.strs (by simp; omega) hs)
      have Hls := Lib.hid (show ∀ t ∈ l.map Itm.name, t.length ≤ 1073741824 from fun t ht => by
        obtain ⟨x, hx, rfl⟩ := List.mem_map.1 ht
        exact (Hs.out x hx).1)
      have HR := Lib.hid (show itemsB l = (decide (l.length ≤ 64) && decide ((l.map Itm.name).Nodup)) by
        unfold itemsB apartB; rw [show (l.all fun x => nameB x.name && rightB x.expr) = true from hall]; rfl)
      clear hown hall hb
      generalize hbd : decide ((l.map Itm.name).Nodup) = bd at *
      rw [Hn.out] at HR
      have HR' := Lib.hid HR.out
      clear HR hbd
      by_cases h64 : k ≤ 64
      · have b64 : decide ((k : Int) ≤ 64) = true := by rw [decide_eq_true_iff]; omega
        go_wp2_with fail
        refine (Hap.out Hls.out).mono ?_
        rintro e w8 ⟨rfl, hb8⟩
        have Hb8 := Lib.hid (Hb.out.trans (hb8.mono Hb.out.size))
        clear hb8
        go_wp2_with fail
        go_ret
        exact ⟨ret_bool (by rw [HR'.out, decide_eq_true h64]; simp), Hb8.out⟩
      · have b64 : decide ((k : Int) ≤ 64) = false := by rw [decide_eq_false_iff_not]; omega
        go_wp2_with fail
        go_ret
        exact ⟨ret_bool (by rw [HR'.out, decide_eq_false h64]; rfl), Hb.out⟩

end Go.Proofs.YtcjmhmmjfgjcnaaGreatDoor.Pa

/- parse: a read statement's rows, read. -/
namespace Go.Proofs.YtcjmhmmjfgjcnaaGreatDoor.Pa
open Go.RowKit Go.Proofs.YtcjmhmmjfgjcnaaGreatDoor.Lx

theorem itsC_get : ∀ (l : List Itm) (es : List Value) (i : Nat) (h : i < l.length) (h' : i < es.length), (itsC l es)[i * 2]? = some (.string ⟨l[i].name.toArray⟩) ∧ (itsC l es)[i * 2 + 1]? = some es[i]
  | [], _, i, h, _ => absurd h (Nat.not_lt_zero _)
  | _, [], i, _, h => absurd h (Nat.not_lt_zero _)
  | t :: l, e :: es, 0, _, _ => ⟨rfl, rfl⟩
  | t :: l, e :: es, i + 1, h, h' => by
    have hi := itsC_get l es i (by simpa using h) (by simpa using h')
    refine ⟨?_, ?_⟩
    · rw [show (i + 1) * 2 = i * 2 + 2 by omega]; exact hi.1
    · rw [show (i + 1) * 2 + 1 = i * 2 + 1 + 2 by omega]; exact hi.2
variable {x : Px}
end Go.Proofs.YtcjmhmmjfgjcnaaGreatDoor.Pa

/- parse: Check. -/
namespace Go.Proofs.YtcjmhmmjfgjcnaaGreatDoor.Pa
open Go.RowKit Go.Proofs.YtcjmhmmjfgjcnaaGreatDoor.Lx

def Stm.val (st : Stm) (vi ve : Value) : Value := .agg #[.int .u8 st.kind, .string ⟨st.table.toArray⟩, .string ⟨st.field.toArray⟩, vi, ve, .bool st.history, .bool st.desc]
def checkV (x : Stm) : Value := .int .i64 (if checkB x then 0 else 13)
structure CkM (w wx : World) (st : Stm) (vi ve : Value) (z : Stm) (zi ze : Value) : Prop where
  c1 : wx.heap[w.heap.size]? = some (.cells (smC st vi ve) 33)
  c2 : wx.heap[w.heap.size + 1]? = some (.cells (smC z zi ze) 33)
  bel : Below w.heap.size w wx
theorem CkM.step {w wx w' : World} {st z : Stm} {vi ve zi ze : Value} (h : CkM w wx st vi ve z zi ze) (hb : Below wx.heap.size wx w') : CkM w w' st vi ve z zi ze :=
  ⟨(hb.block _ (lt_of_heap h.c1)).trans h.c1, (hb.block _ (lt_of_heap h.c2)).trans h.c2, h.bel.trans (hb.mono h.bel.size)⟩
theorem CkM.start (w : World) (st z : Stm) (vi ve zi ze : Value) : CkM w ((w.alloc (.cells (smC st vi ve) 33)).alloc (.cells (smC z zi ze) 33)) st vi ve z zi ze := by
  refine ⟨(Below.heap_alloc _ _ _ (by simp)).trans (heap_alloc_new _ _), ?_, (((Below.refl _ _).alloc (Nat.le_refl _) _).alloc (by simp) _)⟩
  have := heap_alloc_new (w.alloc (.cells (smC st vi ve) 33)) (.cells (smC z zi ze) 33)
  simpa using this
theorem CkM.set {w wx : World} {st z : Stm} {vi ve zi ze : Value} (h : CkM w wx st vi ve z zi ze) (z' : Stm) (zi' ze' : Value) (i : Nat) (v : Value) (e : (smC z zi ze).setIfInBounds i v = smC z' zi' ze') :
    CkM w (wx.setCell ⟨w.heap.size + 1, i, none⟩ v) st vi ve z' zi' ze' :=
  ⟨(Below.heap_setCell _ _ _ _ (show w.heap.size ≠ w.heap.size + 1 by omega)).trans h.c1, set_block h.c2 _ _ e, h.bel.setCell (show w.heap.size ≤ w.heap.size + 1 by omega) _⟩

end Go.Proofs.YtcjmhmmjfgjcnaaGreatDoor.Pa

/- parse: what Check says, in two parts. Plain. -/
namespace Go.Proofs.YtcjmhmmjfgjcnaaGreatDoor.Pa
open Go.RowKit Go.Proofs.YtcjmhmmjfgjcnaaGreatDoor.Lx

def bareS (x : Stm) : Stm := ⟨x.kind, x.table, if x.kind = 2 ∨ x.kind = 6 then x.field else [], if x.kind = 4 ∨ x.kind = 6 then x.items else [],
  if x.kind = 3 ∨ x.kind = 4 ∨ x.kind = 5 ∨ x.kind = 6 then x.expr else [], decide (x.kind = 6) && x.history, decide (x.kind = 6) && x.desc⟩
def okS (x : Stm) : Bool := nameB x.table && (
  if x.kind = 1 then true
  else if x.kind = 2 then nameB x.field
  else if x.kind = 3 then rightB x.expr && closedB x.expr
  else if x.kind = 4 then (x.expr.isEmpty || rightB x.expr) && (itemsB x.items && !x.items.isEmpty)
  else if x.kind = 5 then x.expr.isEmpty || rightB x.expr
  else if x.kind = 6 then (x.expr.isEmpty || rightB x.expr) && (itemsB x.items && (nameB x.field || (x.field.isEmpty && !x.desc)))
  else false)
def alikeS (x : Stm) : Bool := decide (x.items.length = (bareS x).items.length) && (decide (x.expr.length = (bareS x).expr.length) && (decide (x.field = (bareS x).field) && ((x.history == (bareS x).history) && (x.desc == (bareS x).desc))))
theorem len0 {α : Type} (l : List α) : decide (l.length = 0) = l.isEmpty := by cases l <;> simp
theorem nil0 {α : Type} [DecidableEq α] (l : List α) : decide (l = []) = l.isEmpty := by cases l <;> simp
theorem checkB_eq (x : Stm) : checkB x = (okS x && alikeS x) := by
  obtain ⟨k, tb, fd, its, ex, hi, de⟩ := x
  unfold checkB okS alikeS bareS
  by_cases h1 : k = 1
  · subst h1; simp [nil0]; cases fd.isEmpty <;> cases its.isEmpty <;> cases ex.isEmpty <;> cases hi <;> cases de <;> simp
  by_cases h2 : k = 2
  · subst h2; simp [nil0, Bool.and_assoc]
  by_cases h3 : k = 3
  · subst h3; simp [nil0, Bool.and_assoc]; cases fd.isEmpty <;> cases its.isEmpty <;> cases hi <;> cases de <;> simp
  by_cases h4 : k = 4
  · subst h4; simp [nil0, Bool.and_assoc]
  by_cases h5 : k = 5
  · subst h5; simp [nil0, Bool.and_assoc]; cases fd.isEmpty <;> cases its.isEmpty <;> cases hi <;> cases de <;> simp
  by_cases h6 : k = 6
  · subst h6; simp []
  simp [h1, h2, h3, h4, h5, h6]

structure CkArgs (w : World) (st : Stm) (vi ve : Value) : Prop where
  hi : ItmsIn w vi st.items
  hv : StpsIn w ve st.expr
  ht : st.table.length ≤ 1073741824
  hf : st.field.length ≤ 1073741824
  hl : st.expr.length ≤ 1048576
  hy : ∀ y ∈ st.expr, y.text.length ≤ 1048575
  hil : st.items.length ≤ 1048575
  his : ∀ t ∈ st.items, t.name.length ≤ 1073741824 ∧ t.expr.length ≤ 1048576 ∧ ∀ y ∈ t.expr, y.text.length ≤ 1048575
  he : Env w
theorem CkM.all7 {w wx : World} {st z : Stm} {vi ve zi ze : Value} (h : CkM w wx st vi ve z zi ze) : CkM w (again wx (w.heap.size + 1) st vi ve) st vi ve st vi ve :=
  ((((((h.set ⟨st.kind, z.table, z.field, z.items, z.expr, z.history, z.desc⟩ zi ze 0 _ rfl).set ⟨st.kind, st.table, z.field, z.items, z.expr, z.history, z.desc⟩ zi ze 1 _ rfl).set ⟨st.kind, st.table, st.field, z.items, z.expr, z.history, z.desc⟩ zi ze 2 _ rfl).set
    ⟨st.kind, st.table, st.field, st.items, z.expr, z.history, z.desc⟩ vi ze 3 _ rfl).set ⟨st.kind, st.table, st.field, st.items, st.expr, z.history, z.desc⟩ vi ve 4 _ rfl).set ⟨st.kind, st.table, st.field, st.items, st.expr, st.history, z.desc⟩ vi ve 5 _ rfl).set st vi ve 6 _ rfl

end Go.Proofs.YtcjmhmmjfgjcnaaGreatDoor.Pa
