/- Parts: PbG PaI PbH PbI PbL. -/
import Derived.Test.YtcjmhmmjfgjcnaaGreatDoorMe32
import Derived.Test.YtcjmhmmjfgjcnaaGreatDoorMe36
import Derived.RegionTactic

/- parse: items (the check's). -/
namespace Go.Proofs.YtcjmhmmjfgjcnaaGreatDoor.Pa
open Go.RowKit Go.Proofs.YtcjmhmmjfgjcnaaGreatDoor.Lx

/-- a slice that reads as items, wherever it begins -/
def ItmsIn (w : World) (v : Value) (l : List Itm) : Prop := ∃ (a : Option Addr) (n c : Nat), v = .slice a n c ∧ l.length = n ∧ n ≤ c ∧ ∀ (i : Nat) (h : i < l.length), ∃ (g o : Nat) (ve : Value), a = some ⟨g, o, none⟩ ∧ w.cell? ⟨g, o + i * 2, none⟩ = some (.string ⟨l[i].name.toArray⟩) ∧ w.cell? ⟨g, o + i * 2 + 1, none⟩ = some ve ∧ StpsIn w ve l[i].expr
theorem ItmsIn.below {w w' : World} {v : Value} {l : List Itm} (h : ItmsIn w v l) (hb : Below w.heap.size w w') : ItmsIn w' v l := by
  obtain ⟨a, n, c, rfl, hn, hc, hj⟩ := h
  refine ⟨a, n, c, rfl, hn, hc, fun i hi => ?_⟩
  obtain ⟨g, o, ve, e, h0, h1, h2⟩ := hj i hi
  have hg : g < w.heap.size := World.block_lt_of_cell? _ _ h0
  exact ⟨g, o, ve, e, (hb.cell (p := ⟨g, _, none⟩) hg).trans h0, (hb.cell (p := ⟨g, _, none⟩) hg).trans h1, h2.below hb⟩

/-- an item is right -/
def itemB (x : Itm) : Bool := nameB x.name && rightB x.expr
theorem all_take_snoc {α : Type} (p : α → Bool) (l : List α) (k : Nat) (h : k < l.length) : (l.take (k + 1)).all p = ((l.take k).all p && p l[k]) := by
  rw [List.take_succ_eq_append_getElem h, List.all_append]; simp
theorem all_false_at {α : Type} (p : α → Bool) (l : List α) (k : Nat) (h : k < l.length) (e : p l[k] = false) : l.all p = false := by
  rw [List.all_eq_false]; exact ⟨l[k], List.getElem_mem h, by simp [e]⟩
theorem itemsB_false (l : List Itm) (k : Nat) (h : k < l.length) (e : itemB l[k] = false) : itemsB l = false := by
  unfold itemsB; rw [show (l.all fun x => nameB x.name && rightB x.expr) = false from all_false_at itemB l k h e]; rfl

set_option maxHeartbeats 1000000 in
set_option maxRecDepth 100000 in
theorem itemsS_calls (w : World) (v : Value) (l : List Itm) (h : ItmsIn w v l) (hl : l.length ≤ 1048575) (hs : ∀ t ∈ l, t.name.length ≤ 1073741824 ∧ t.expr.length ≤ 1048576 ∧ ∀ y ∈ t.expr, y.text.length ≤ 1048575) (he : Env w) :
    Calls Tryz.prog 62 #[v] w fun e w' => e = .returned (.bool (itemsB l)) ∧ Below w.heap.size w w' := by
  obtain ⟨a, n, c, rfl, hn, hc, hj⟩ := h
  have Hn := Lib.hid hn
  have Hj := Lib.hid hj
  have Hs := Lib.hid hs
  have He := Lib.hid he
  have hn2 : n ≤ 1048575 := by omega
  clear hn hj hs he
  go_enter Tryz.func62, Tryz.ntmps62
  go_wp2_with fail
  go_loopw [3, 8] (fun s3 i wr => ∃ (k a3 c3 : Nat) (b3 : Option Addr), k ≤ n ∧ i = .int .i64 k ∧ s3 = .slice b3 a3 c3 ∧ Hid (Below w.heap.size w wr ∧ OwnStrs wr w.heap.size (.slice b3 a3 c3) ((l.take k).map Itm.name) ∧ (l.take k).all itemB = true)) (fun _ i _ => n - (intOf i).toNat)
  case atStart => exact ⟨0, 0, 0, none, Nat.zero_le _, rfl, rfl, Below.refl _ _, OwnStrs.nil _ _, rfl⟩
  case round =>
    obtain ⟨k, a3, c3, b3, hk, rfl, rfl, hb, hown, hall⟩ := hrel
    have Hb := Lib.hid hb
    have Hown := Lib.hid hown
    have Hall := Lib.hid hall
    by_cases hlt : k < n
    · have hkl : k < l.length := by rw [Hn.out]; exact hlt
      obtain ⟨g, o, ve, rfl, q0, q1, ⟨a4, n4, c4, rfl, hst⟩⟩ := (show ∃ (g o : Nat) (ve : Value), a = some ⟨g, o, none⟩ ∧ wr.cell? ⟨g, o + k * 2, none⟩ = some (.string ⟨l[k].name.toArray⟩) ∧ wr.cell? ⟨g, o + k * 2 + 1, none⟩ = some ve ∧ StpsIn wr ve l[k].expr by
        obtain ⟨g, o, ve, e, h0, h1, h2⟩ := Hj.out k hkl
        have hg : g < w.heap.size := World.block_lt_of_cell? _ _ h0
        exact ⟨g, o, ve, e, (hb.cell (p := ⟨g, _, none⟩) hg).trans h0, (hb.cell (p := ⟨g, _, none⟩) hg).trans h1, h2.below hb⟩)
      have hst' : StpsIn wr (.slice a4 n4 c4) l[k].expr := ⟨a4, n4, c4, rfl, hst⟩
      obtain ⟨z1, z2, z3⟩ := Hs.out _ (List.getElem_mem hkl)
      have Hnm := Lib.hid (fun (w2 : World) (hb2 : Below wr.heap.size wr w2) => nameS_calls l[k].name w2 z1 ((He.out.below hb).below hb2))
      have Hrt := Lib.hid (fun (w2 : World) (hb2 : Below wr.heap.size wr w2) => Right_calls w2 _ l[k].expr (hst'.below hb2) z2 z3 ((He.out.below hb).below hb2))
      have Htk := Lib.hid (all_take_snoc itemB l k hkl)
      have Hfl := Lib.hid (itemsB_false l k hkl)
      have Htn := Lib.hid (show (l.take (k + 1)).map Itm.name = (l.take k).map Itm.name ++ [l[k].name] by rw [List.take_succ_eq_append_getElem hkl, List.map_append]; rfl)
      have Hlen := Lib.hid (show ((l.take k).map Itm.name).length = k by simp; omega)
      have hgw : g < wr.heap.size := World.block_lt_of_cell? _ _ q0
      clear hst hst' z1 z2 z3 hb hown hall
      unfold itemB at Htk Hfl
      generalize l[k] = it at *
      cases hnb : nameB it.name with
      | false =>
        have HR := Lib.hid (show itemsB l = false from Hfl.out (by rw [hnb]; rfl))
        rw [hnb] at Hnm
        clear Hfl Htk hnb
        go_wp2_with fail
        refine (Hnm.out _ (alloc_below _ _)).mono ?_
        rintro e w2 ⟨rfl, hb2⟩
        have Hb2 := Lib.hid (Hb.out.trans (((alloc_below wr _).trans (hb2.mono (alloc_below wr _).size)).mono Hb.out.size))
        clear hb2
        go_wp2_with fail
        go_ret
        exact ⟨ret_bool HR.out.symm, Hb2.out⟩
      | true =>
        rw [hnb] at Hnm
        have Hblk := Lib.hid (heap_alloc_new wr (.cells #[.string ⟨it.name.toArray⟩, .slice a4 n4 c4] 95))
        cases hrb : rightB it.expr with
        | false =>
          have HR := Lib.hid (show itemsB l = false from Hfl.out (by rw [hrb, Bool.and_false]))
          rw [hrb] at Hrt
          clear Hfl Htk hnb hrb
          go_wp2_with fail
          refine (Hnm.out _ (alloc_below _ _)).mono ?_
          rintro e w2 ⟨rfl, hb2⟩
          obtain ⟨⟨r0, r1⟩, -⟩ := two ((hb2.block wr.heap.size (by simp)).trans Hblk.out)
          have Hb2 := Lib.hid ((alloc_below wr _).trans (hb2.mono (alloc_below wr _).size))
          clear hb2
          go_wp2_with fail
          refine (Hrt.out _ Hb2.out).mono ?_
          rintro e w3 ⟨rfl, hb3⟩
          have Hb3 := Lib.hid (Hb.out.trans ((Hb2.out.trans (hb3.mono Hb2.out.size)).mono Hb.out.size))
          clear hb3
          go_wp2_with fail
          go_ret
          exact ⟨ret_bool HR.out.symm, Hb3.out⟩
        | true =>
          have Hall2 := Lib.hid (show (l.take (k + 1)).all itemB = true by rw [show (l.take (k + 1)).all itemB = _ from Htk.out, show ((l.take k).all fun x => nameB x.name && rightB x.expr) = true from Hall.out, hnb, hrb]; rfl)
          rw [hrb] at Hrt
          clear Hfl Htk hnb hrb
          obtain ⟨i0, hi0, hz0, hz1, hz2⟩ := info_parts strInfo
          have Hi0 := Lib.hid hi0
          have Hz0 := Lib.hid hz0
          have Hz1 := Lib.hid hz1
          have Hz2 := Lib.hid hz2
          clear hi0 hz0 hz1 hz2
          go_wp2_with fail
          refine (Hnm.out _ (alloc_below _ _)).mono ?_
          rintro e w2 ⟨rfl, hb2⟩
          obtain ⟨⟨r0, r1⟩, -⟩ := two ((hb2.block wr.heap.size (by simp)).trans Hblk.out)
          have Hlt2 := Lib.hid (show wr.heap.size < w2.heap.size by have := hb2.size; simp at this; omega)
          have Hblk2 := Lib.hid ((hb2.block wr.heap.size (by simp)).trans Hblk.out)
          have Hb2 := Lib.hid ((alloc_below wr _).trans (hb2.mono (alloc_below wr _).size))
          clear hb2
          go_wp2_with fail
          refine (Hrt.out _ Hb2.out).mono ?_
          rintro e w3 ⟨rfl, hb3⟩
          have hblk3 := (hb3.block wr.heap.size Hlt2.out).trans Hblk2.out
          obtain ⟨⟨s0, s1⟩, -⟩ := two hblk3
          have hb4 := Hb2.out.trans (hb3.mono Hb2.out.size)
          have hown4 : OwnStrs (w3.alloc (.cells #[.string ⟨it.name.toArray⟩] 9)) w.heap.size (.slice b3 a3 c3) ((l.take k).map Itm.name) :=
            own_same Hown.out fun g _ hg => (hb4.trans ((alloc_below w3 _).mono hb4.size)).block g hg
          unfold OwnStrs at hown4
          rw [show ((l.take k).map Itm.name).length = k from Hlen.out] at hown4
          have Hown4 := Lib.hid hown4
          have Hb4 := Lib.hid ((Hb.out.trans (hb4.mono Hb.out.size)).trans ((alloc_below w3 (.cells #[.string ⟨it.name.toArray⟩] 9)).mono (Nat.le_trans Hb.out.size hb4.size)))
          have Hnews := Lib.hid (World.news_of_block (cs := #[.string ⟨it.name.toArray⟩]) (t := 9) (fr := (0, 0)) (heap_alloc_new w3 (.cells #[.string ⟨it.name.toArray⟩] 9)))
          clear hb3 hb4 hown4 hblk3 r0 r1
          go_wp2_with (at_builtin; go_must (refine wpList_append_own_at _ rfl _ _ 93 rfl w.heap.size 9 i0 _ 1 16 Tryz.underlying93 Hi0.out Hz0.out Hz1.out Hz2.out rfl (by decide) _ k (strsC ((l.take k).map Itm.name)) rfl Hown4.out ⟨w3.heap.size, 0, none⟩ 1 1 [.string ⟨it.name.toArray⟩] rfl rfl ?c1 ?c2 ?c3 ?c4 ?c5 ?_))
          case c1 => exact Hnews.out
          case c2 => simp [Value.oneCell']
          case c3 => unfold maxLen; omega
          case c4 => omega
          case c5 => exact Hb4.out.size
          intro v7 w7 hown7 hgrow7 _ hat7
          have hown7' : OwnStrs w7 w.heap.size v7 ((l.take (k + 1)).map Itm.name) := by
            unfold OwnStrs
            rw [Htn.out, strsC_snoc, List.length_append, show ((l.take k).map Itm.name).length = k from Hlen.out, List.map_take]
            exact hown7
          obtain ⟨a7, c7, rfl⟩ := own_form hown7
          have Hown7 := Lib.hid hown7'
          have Hb7 := Lib.hid (Hb4.out.grown hgrow7 Hb4.out.size fun b hb => (World.ownsRow.lt Hown4.out b hb).1)
          clear hown7 hgrow7 hat7 hown7'
          go_wp2_with fail
          go_roundw
          case rel => exact ⟨k + 1, _, _, _, by omega, by go_num, rfl, Hb7.out, Hown7.out, Hall2.out⟩
          case measure => simp [intOf]; omega
    · have hkn : k = n := by omega
      subst hkn
      have hkk : l.take k = l := List.take_of_length_le (by rw [Hn.out]; exact Nat.le_refl _)
      rw [hkk] at hown hall
      have Hap := Lib.hid (fun hs => apart_calls wr _ (l.map Itm.name) hown.strs (by simp; omega) hs)
      have Hls := Lib.hid (show ∀ t ∈ l.map Itm.name, t.length ≤ 1073741824 from fun t ht => by
        obtain ⟨x, hx, rfl⟩ := List.mem_map.1 ht
        exact (Hs.out x hx).1)
      have HR := Lib.hid (show itemsB l = (decide (l.length ≤ 64) && decide ((l.map Itm.name).Nodup)) by
        unfold itemsB apartB; rw [show (l.all fun x => nameB x.name && rightB x.expr) = true from hall]; rfl)
      clear hown hall hb
      generalize hbd : decide ((l.map Itm.name).Nodup) = bd at *
      rw [Hn.out] at HR
      have HR' := Lib.hid HR.out
      clear HR hbd
      by_cases h64 : k ≤ 64
      · have b64 : decide ((k : Int) ≤ 64) = true := by rw [decide_eq_true_iff]; omega
        go_wp2_with fail
        refine (Hap.out Hls.out).mono ?_
        rintro e w8 ⟨rfl, hb8⟩
        have Hb8 := Lib.hid (Hb.out.trans (hb8.mono Hb.out.size))
        clear hb8
        go_wp2_with fail
        go_ret
        exact ⟨ret_bool (by rw [HR'.out, decide_eq_true h64]; simp), Hb8.out⟩
      · have b64 : decide ((k : Int) ≤ 64) = false := by rw [decide_eq_false_iff_not]; omega
        go_wp2_with fail
        go_ret
        exact ⟨ret_bool (by rw [HR'.out, decide_eq_false h64]; rfl), Hb.out⟩

end Go.Proofs.YtcjmhmmjfgjcnaaGreatDoor.Pa

/- The parser: statements, what is kept in memory. -/
namespace Go.Proofs.YtcjmhmmjfgjcnaaGreatDoor.Pa
open Go.RowKit Go.Proofs.YtcjmhmmjfgjcnaaGreatDoor.Lx
variable {x : Px}

/-- a statement's cells -/
def smC (st : Stm) (vi ve : Value) : Array Value := #[.int .u8 st.kind, .string ⟨st.table.toArray⟩, .string ⟨st.field.toArray⟩, vi, ve, .bool st.history, .bool st.desc]
/-- items that are held, and do not stand in a block -/
structure ItH (x : Px) (w : World) (sv : Value) (s : St) (Bs : Nat) (v : Value) (its : List Itm) (evs : List Value) : Prop where
  lenE : evs.length = its.length
  row : w.ownsRow x.W.heap.size 95 2 v its.length (itsC its evs)
  safe : ∀ b, v.ownBlock = some b → SafeB x w sv b ∧ b ≠ Bs
  exps : ∀ (i : Nat) (h : i < its.length) (h' : i < evs.length), HeldRow x w sv s evs[i] its[i].expr
  ne : ∀ v ∈ evs, v.ownBlock ≠ some Bs
theorem ItH.nil (x : Px) (w : World) (sv : Value) (s : St) (Bs : Nat) : ItH x w sv s Bs (.slice none 0 0) [] [] :=
  ⟨rfl, ⟨by simp [itsC], .inl ⟨rfl, rfl⟩⟩, fun b hb => by simp [Value.ownBlock] at hb, fun i h => absurd h (Nat.not_lt_zero _), by simp⟩

structure SmM (x : Px) (w0 : World) (sv0 : Value) (s0 : St) (wr : World) (lv sv : Value) (s : St) (Bs : Nat) (st : Stm) (vi ve : Value) (evs : List Value) : Prop where
  now : Now x w0 sv0 wr lv sv s
  blk : wr.heap[Bs]? = some (.cells (smC st vi ve) 33)
  safe : SafeB x wr sv Bs
  low : w0.heap.size ≤ Bs
  old : x.W.heap.size ≤ w0.heap.size
  its : ItH x wr sv s Bs vi st.items evs
  exp : HeldRow x wr sv s ve st.expr
  neE : ve.ownBlock ≠ some Bs
  fr : ∀ v ∈ vi :: ve :: evs, ∀ b, v.ownBlock = some b → w0.heap.size ≤ b

variable {w0 wr w' : World} {sv0 lv sv lv' sv' vi ve : Value} {s0 s s' : St} {Bs : Nat} {st : Stm} {evs : List Value}
theorem ItH.gave {its : List Itm} {v : Value} (h : ItH x wr sv s Bs v its evs) (hn : Now x wr sv w' lv' sv' s') (hh : ∀ v0 l0, HeldRow x wr sv s v0 l0 → HeldRow x w' sv' s' v0 l0) : ItH x w' sv' s' Bs v its evs :=
  ⟨h.lenE, own_same h.row fun g hg _ => (h.safe g hg).1.heap hn, fun b hb => ⟨(h.safe b hb).1.now hn, (h.safe b hb).2⟩, fun i h1 h2 => hh _ _ (h.exps i h1 h2), h.ne⟩
theorem SmM.gave (h : SmM x w0 sv0 s0 wr lv sv s Bs st vi ve evs) (hn : Now x wr sv w' lv' sv' s') (hh : ∀ v0 l0, HeldRow x wr sv s v0 l0 → HeldRow x w' sv' s' v0 l0) : SmM x w0 sv0 s0 w' lv' sv' s' Bs st vi ve evs :=
  ⟨h.now.trans hn, (h.safe.heap hn).trans h.blk, h.safe.now hn, h.low, h.old, h.its.gave hn hh, hh _ _ h.exp, h.neE, h.fr⟩
theorem SmM.cur (h : SmM x w0 sv0 s0 wr lv sv s Bs st vi ve evs) (hn : Now x wr sv w' lv' sv s') (he : s'.steps = s.steps) : SmM x w0 sv0 s0 w' lv' sv s' Bs st vi ve evs :=
  h.gave hn fun _ _ hv => hv.now hn he
theorem SmM.anew (h : SmM x w0 sv0 s0 wr lv sv s Bs st vi ve evs) (hn : Now x wr (.slice none 0 0) w' lv' sv' s') : SmM x w0 sv0 s0 w' lv' sv' s' Bs st vi ve evs :=
  h.gave hn.weak fun _ _ hv => hv.anew h.now.ps hn
theorem SmM.below (h : SmM x w0 sv0 s0 wr lv sv s Bs st vi ve evs) (hb : Below wr.heap.size wr w') : SmM x w0 sv0 s0 w' lv sv s Bs st vi ve evs :=
  h.cur ((Now.refl h.now.ps).step hb) rfl
theorem SmM.alloc (h : SmM x w0 sv0 s0 wr lv sv s Bs st vi ve evs) (o : Obj) : SmM x w0 sv0 s0 (wr.alloc o) lv sv s Bs st vi ve evs := h.below (alloc_below _ _)
theorem HeldRow.set {v : Value} {l : List Stp} (h : HeldRow x wr sv s v l) (hne : v.ownBlock ≠ some Bs) (i : Nat) (u : Value) : HeldRow x (wr.setCell ⟨Bs, i, none⟩ u) sv s v l :=
  h.other (by simp) fun b hb => Below.heap_setCell _ _ _ _ (fun e => hne (by rw [hb, e]))
/-- the statement's block is stored -/
theorem SmM.set (h : SmM x w0 sv0 s0 wr lv sv s Bs st vi ve evs) (i : Nat) (u : Value) (st' : Stm) (vi' ve' : Value) (evs' : List Value) (e : (smC st vi ve).setIfInBounds i u = smC st' vi' ve')
    (hi : ItH x wr sv s Bs vi' st'.items evs') (he : HeldRow x wr sv s ve' st'.expr) (hne : ve'.ownBlock ≠ some Bs) (hfr : ∀ v ∈ vi' :: ve' :: evs', ∀ b, v.ownBlock = some b → w0.heap.size ≤ b) : SmM x w0 sv0 s0 (wr.setCell ⟨Bs, i, none⟩ u) lv sv s Bs st' vi' ve' evs' := by
  have hos : ∀ b, b ≠ Bs → (wr.setCell ⟨Bs, i, none⟩ u).heap[b]? = wr.heap[b]? := fun b hb => Below.heap_setCell _ _ _ _ hb
  refine ⟨now_other h.now h.old h.low h.safe.2.1 h.safe.2.2 (by simp) hos (fun base hb => (Below.refl _ _).setCell hb _), set_block h.blk _ _ e, h.safe.grow (by simp), h.low, h.old,
    ⟨hi.lenE, own_same hi.row fun g hg _ => hos g (hi.safe g hg).2, fun b hb => ⟨(hi.safe b hb).1.grow (by simp), (hi.safe b hb).2⟩, fun j h1 h2 => (hi.exps j h1 h2).set (hi.ne _ (List.getElem_mem h2)) _ _, hi.ne⟩, he.set hne _ _, hne, hfr⟩
/-- a plain field of it is stored -/
theorem SmM.put (h : SmM x w0 sv0 s0 wr lv sv s Bs st vi ve evs) (i : Nat) (u : Value) (st' : Stm) (e : (smC st vi ve).setIfInBounds i u = smC st' vi ve) (e1 : st'.items = st.items) (e2 : st'.expr = st.expr) :
    SmM x w0 sv0 s0 (wr.setCell ⟨Bs, i, none⟩ u) lv sv s Bs st' vi ve evs := h.set i u st' vi ve evs e (by rw [e1]; exact h.its) (by rw [e2]; exact h.exp) h.neE h.fr
theorem SmM.start {w : World} (h : PS x w lv sv s) (st : Stm) (hi : st.items = []) (he : st.expr = []) : SmM x w sv s (w.alloc (.cells (smC st (.slice none 0 0) (.slice none 0 0)) 33)) lv sv s w.heap.size st (.slice none 0 0) (.slice none 0 0) [] :=
  ⟨(Now.refl h).alloc _, heap_alloc_new _ _, SafeB.new h _, Nat.le_refl _, h.bel.size, by rw [hi]; exact ItH.nil _ _ _ _ _, by rw [he]; exact HeldRow.nil _ _ _ _, by simp [Value.ownBlock], by simp [Value.ownBlock]⟩
theorem ItH.of {its : List Itm} {vo vn : Value} {nms : List Txt} (h : ItM x wr sv s w' lv' sv' s' vo vn its evs nms) (hB : Bs < wr.heap.size) : ItH x w' sv' s' Bs vo its evs :=
  ⟨h.lenE, h.out, fun b hb => ⟨(h.sO b hb).1, by have := (h.sO b hb).2.1; omega⟩, h.exps, fun v hv e => by have := h.fresh v hv Bs e; omega⟩

theorem seven {w : World} {B : Nat} {a b c d e f g : Value} {T : TypeId} (h : w.heap[B]? = some (.cells #[a, b, c, d, e, f, g] T)) :
    (w.cell? ⟨B, 0, none⟩ = some a ∧ w.cell? ⟨B, 1, none⟩ = some b ∧ w.cell? ⟨B, 2, none⟩ = some c ∧ w.cell? ⟨B, 3, none⟩ = some d ∧ w.cell? ⟨B, 4, none⟩ = some e ∧ w.cell? ⟨B, 5, none⟩ = some f ∧ w.cell? ⟨B, 6, none⟩ = some g) ∧
    (w.frozen? ⟨B, 0, none⟩ = false ∧ w.frozen? ⟨B, 1, none⟩ = false ∧ w.frozen? ⟨B, 2, none⟩ = false ∧ w.frozen? ⟨B, 3, none⟩ = false ∧ w.frozen? ⟨B, 4, none⟩ = false ∧ w.frozen? ⟨B, 5, none⟩ = false ∧ w.frozen? ⟨B, 6, none⟩ = false) := by
  simp [World.cell?, World.frozen?, h]

/-- a statement's value -/
def smV (st : Stm) (vi ve : Value) : Value := .agg (smC st vi ve)
/-- stored as it is -/
def again (w : World) (Bs : Nat) (st : Stm) (vi ve : Value) : World :=
  ((((((w.setCell ⟨Bs, 0, none⟩ (.int .u8 st.kind)).setCell ⟨Bs, 1, none⟩ (.string ⟨st.table.toArray⟩)).setCell ⟨Bs, 2, none⟩ (.string ⟨st.field.toArray⟩)).setCell ⟨Bs, 3, none⟩ vi).setCell ⟨Bs, 4, none⟩ ve).setCell ⟨Bs, 5, none⟩ (.bool st.history)).setCell ⟨Bs, 6, none⟩ (.bool st.desc)
theorem SmM.again (h : SmM x w0 sv0 s0 wr lv sv s Bs st vi ve evs) : SmM x w0 sv0 s0 (again wr Bs st vi ve) lv sv s Bs st vi ve evs :=
  ((((((h.put 0 _ st rfl rfl rfl).put 1 _ st rfl rfl rfl).put 2 _ st rfl rfl rfl).put 3 _ st rfl rfl rfl).put 4 _ st rfl rfl rfl).put 5 _ st rfl rfl rfl).put 6 _ st rfl rfl rfl
/-- stored whole -/
theorem SmM.all (h : SmM x w0 sv0 s0 wr lv sv s Bs st vi ve evs) (st' : Stm) (vi' ve' : Value) (evs' : List Value) (hi : ItH x wr sv s Bs vi' st'.items evs') (he : HeldRow x wr sv s ve' st'.expr) (hne : ve'.ownBlock ≠ some Bs)
    (hfr : ∀ v ∈ vi' :: ve' :: evs', ∀ b, v.ownBlock = some b → w0.heap.size ≤ b) : SmM x w0 sv0 s0 (Pa.again wr Bs st' vi' ve') lv sv s Bs st' vi' ve' evs' := by
  have hos : ∀ b, b ≠ Bs → (Pa.again wr Bs st' vi' ve').heap[b]? = wr.heap[b]? := fun b hb => by
    unfold Pa.again
    rw [Below.heap_setCell _ _ _ _ hb, Below.heap_setCell _ _ _ _ hb, Below.heap_setCell _ _ _ _ hb, Below.heap_setCell _ _ _ _ hb, Below.heap_setCell _ _ _ _ hb, Below.heap_setCell _ _ _ _ hb, Below.heap_setCell _ _ _ _ hb]
  have hz : (Pa.again wr Bs st' vi' ve').heap.size = wr.heap.size := by simp [Pa.again]
  have hz' : wr.heap.size ≤ (Pa.again wr Bs st' vi' ve').heap.size := by omega
  have hbel : ∀ base, base ≤ Bs → Below base wr (Pa.again wr Bs st' vi' ve') := fun base hb => ((((((((Below.refl _ _).setCell hb _).setCell hb _).setCell hb _).setCell hb _).setCell hb _).setCell hb _).setCell hb _)
  have hblk : (Pa.again wr Bs st' vi' ve').heap[Bs]? = some (.cells (smC st' vi' ve') 33) := by
    have b0 : wr.heap[Bs]? = some (.cells #[.int .u8 st.kind, .string ⟨st.table.toArray⟩, .string ⟨st.field.toArray⟩, vi, ve, .bool st.history, .bool st.desc] 33) := h.blk
    have b1 := set_block (i := 0) b0 (.int .u8 st'.kind) #[.int .u8 st'.kind, .string ⟨st.table.toArray⟩, .string ⟨st.field.toArray⟩, vi, ve, .bool st.history, .bool st.desc] rfl
    have b2 := set_block (i := 1) b1 (.string ⟨st'.table.toArray⟩) #[.int .u8 st'.kind, .string ⟨st'.table.toArray⟩, .string ⟨st.field.toArray⟩, vi, ve, .bool st.history, .bool st.desc] rfl
    have b3 := set_block (i := 2) b2 (.string ⟨st'.field.toArray⟩) #[.int .u8 st'.kind, .string ⟨st'.table.toArray⟩, .string ⟨st'.field.toArray⟩, vi, ve, .bool st.history, .bool st.desc] rfl
    have b4 := set_block (i := 3) b3 vi' #[.int .u8 st'.kind, .string ⟨st'.table.toArray⟩, .string ⟨st'.field.toArray⟩, vi', ve, .bool st.history, .bool st.desc] rfl
    have b5 := set_block (i := 4) b4 ve' #[.int .u8 st'.kind, .string ⟨st'.table.toArray⟩, .string ⟨st'.field.toArray⟩, vi', ve', .bool st.history, .bool st.desc] rfl
    have b6 := set_block (i := 5) b5 (.bool st'.history) #[.int .u8 st'.kind, .string ⟨st'.table.toArray⟩, .string ⟨st'.field.toArray⟩, vi', ve', .bool st'.history, .bool st.desc] rfl
    exact set_block (i := 6) b6 (.bool st'.desc) #[.int .u8 st'.kind, .string ⟨st'.table.toArray⟩, .string ⟨st'.field.toArray⟩, vi', ve', .bool st'.history, .bool st'.desc] rfl
  exact ⟨now_other h.now h.old h.low h.safe.2.1 h.safe.2.2 hz hos hbel, hblk, h.safe.grow hz', h.low, h.old,
    ⟨hi.lenE, own_same hi.row fun g hg _ => hos g (hi.safe g hg).2, fun b hb => ⟨(hi.safe b hb).1.grow hz', (hi.safe b hb).2⟩, fun j h1 h2 => (hi.exps j h1 h2).other hz' fun b hb => hos b (fun e => hi.ne _ (List.getElem_mem h2) (by rw [hb, e])), hi.ne⟩,
    he.other hz' fun b hb => hos b (fun e => hne (by rw [hb, e])), hne, hfr⟩
/-- what a call that hands back a statement comes to -/
def GaveSm (x : Px) (w : World) (sv : Value) (s : St) (st : Stm) (s' : St) (e : Ending) (w' : World) : Prop :=
  ∃ lv' sv' Bs vi ve evs, e = .returned (smV st vi ve) ∧ SmM x w sv s w' lv' sv' s' Bs st vi ve evs
theorem SmM.expr (h : SmM x w0 sv0 s0 wr lv sv s Bs st vi ve evs) (hn : Now x wr (.slice none 0 0) w' lv' sv' s') (hfr : ∀ v ∈ vi :: evs, ∀ b, v.ownBlock = some b → w0.heap.size ≤ b) :
    SmM x w0 sv0 s0 (w'.setCell ⟨Bs, 4, none⟩ sv') lv' sv' s' Bs { st with expr := s'.steps } vi sv' evs := by
  have ha := h.anew hn
  refine ha.set 4 sv' { st with expr := s'.steps } vi sv' evs rfl ha.its (HeldRow.self ha.now.ps) (fun e => ?_) fun v hv b hb => ?_
  · have := fresh_of hn Bs e; have := h.safe.1; omega
  · simp only [List.mem_cons] at hv
    rcases hv with rfl | rfl | hv
    · exact hfr v (by simp) b hb
    · exact Nat.le_trans h.now.keep.1 (fresh_of hn b hb)
    · exact hfr v (by simp [hv]) b hb
theorem SmM.row (h : SmM x w0 sv0 s0 wr lv sv s Bs st vi ve evs) {l : List Stp} {v : Value} (hn : Now x wr sv w' lv' sv' s') (hv : HeldRow x w' sv' s' v l) (hf : ∀ b, v.ownBlock = some b → wr.heap.size ≤ b) (hh : ∀ v0 l0, HeldRow x wr sv s v0 l0 → HeldRow x w' sv' s' v0 l0) :
    SmM x w0 sv0 s0 (w'.setCell ⟨Bs, 4, none⟩ v) lv' sv' s' Bs { st with expr := l } vi v evs := by
  have ha := h.gave hn hh
  refine ha.set 4 v { st with expr := l } vi v evs rfl ha.its hv (fun e => ?_) fun u hu b hb => ?_
  · have := hf Bs e; have := h.safe.1; omega
  · simp only [List.mem_cons] at hu
    rcases hu with rfl | rfl | hu
    · exact h.fr u (by simp) b hb
    · exact Nat.le_trans h.now.keep.1 (hf b hb)
    · exact h.fr u (by simp [hu]) b hb
theorem SmM.items {vo vn : Value} {its : List Itm} {nms : List Txt} {evs' : List Value} (h : SmM x w0 sv0 s0 wr lv sv s Bs st vi ve evs) (hm : ItM x wr sv s w' lv' sv' s' vo vn its evs' nms) :
    SmM x w0 sv0 s0 (w'.setCell ⟨Bs, 3, none⟩ vo) lv' sv' s' Bs { st with items := its } vo ve evs' := by
  have ha := h.gave hm.now hm.held
  refine ha.set 3 vo { st with items := its } vo ve evs' rfl (ItH.of hm h.safe.1) ha.exp h.neE fun u hu b hb => ?_
  simp only [List.mem_cons] at hu
  rcases hu with rfl | rfl | hu
  · exact Nat.le_trans h.now.keep.1 (hm.sO b hb).2.1
  · exact h.fr u (by simp) b hb
  · exact Nat.le_trans h.now.keep.1 (hm.fresh u hu b hb)

end Go.Proofs.YtcjmhmmjfgjcnaaGreatDoor.Pa

/- parse: a read statement's rows, read. -/
namespace Go.Proofs.YtcjmhmmjfgjcnaaGreatDoor.Pa
open Go.RowKit Go.Proofs.YtcjmhmmjfgjcnaaGreatDoor.Lx

theorem itsC_get : ∀ (l : List Itm) (es : List Value) (i : Nat) (h : i < l.length) (h' : i < es.length), (itsC l es)[i * 2]? = some (.string ⟨l[i].name.toArray⟩) ∧ (itsC l es)[i * 2 + 1]? = some es[i]
  | [], _, i, h, _ => absurd h (Nat.not_lt_zero _)
  | _, [], i, _, h => absurd h (Nat.not_lt_zero _)
  | t :: l, e :: es, 0, _, _ => ⟨rfl, rfl⟩
  | t :: l, e :: es, i + 1, h, h' => by
    have hi := itsC_get l es i (by simpa using h) (by simpa using h')
    refine ⟨?_, ?_⟩
    · rw [show (i + 1) * 2 = i * 2 + 2 by omega]; exact hi.1
    · rw [show (i + 1) * 2 + 1 = i * 2 + 1 + 2 by omega]; exact hi.2
variable {x : Px}
end Go.Proofs.YtcjmhmmjfgjcnaaGreatDoor.Pa

/- parse: Check. -/
namespace Go.Proofs.YtcjmhmmjfgjcnaaGreatDoor.Pa
open Go.RowKit Go.Proofs.YtcjmhmmjfgjcnaaGreatDoor.Lx

/-- a statement's value -/
def Stm.val (st : Stm) (vi ve : Value) : Value := .agg #[.int .u8 st.kind, .string ⟨st.table.toArray⟩, .string ⟨st.field.toArray⟩, vi, ve, .bool st.history, .bool st.desc]
/-- what Check says -/
def checkV (x : Stm) : Value := .int .i64 (if checkB x then 0 else 13)
/-- the statement's block, and the bare one's -/
structure CkM (w wx : World) (st : Stm) (vi ve : Value) (z : Stm) (zi ze : Value) : Prop where
  c1 : wx.heap[w.heap.size]? = some (.cells (smC st vi ve) 33)
  c2 : wx.heap[w.heap.size + 1]? = some (.cells (smC z zi ze) 33)
  bel : Below w.heap.size w wx
theorem CkM.step {w wx w' : World} {st z : Stm} {vi ve zi ze : Value} (h : CkM w wx st vi ve z zi ze) (hb : Below wx.heap.size wx w') : CkM w w' st vi ve z zi ze :=
  ⟨(hb.block _ (lt_of_heap h.c1)).trans h.c1, (hb.block _ (lt_of_heap h.c2)).trans h.c2, h.bel.trans (hb.mono h.bel.size)⟩
theorem CkM.start (w : World) (st z : Stm) (vi ve zi ze : Value) : CkM w ((w.alloc (.cells (smC st vi ve) 33)).alloc (.cells (smC z zi ze) 33)) st vi ve z zi ze := by
  refine ⟨(Below.heap_alloc _ _ _ (by simp)).trans (heap_alloc_new _ _), ?_, (((Below.refl _ _).alloc (Nat.le_refl _) _).alloc (by simp) _)⟩
  have := heap_alloc_new (w.alloc (.cells (smC st vi ve) 33)) (.cells (smC z zi ze) 33)
  simpa using this
/-- the bare one's block is stored -/
theorem CkM.set {w wx : World} {st z : Stm} {vi ve zi ze : Value} (h : CkM w wx st vi ve z zi ze) (z' : Stm) (zi' ze' : Value) (i : Nat) (v : Value) (e : (smC z zi ze).setIfInBounds i v = smC z' zi' ze') :
    CkM w (wx.setCell ⟨w.heap.size + 1, i, none⟩ v) st vi ve z' zi' ze' :=
  ⟨(Below.heap_setCell _ _ _ _ (show w.heap.size ≠ w.heap.size + 1 by omega)).trans h.c1, set_block h.c2 _ _ e, h.bel.setCell (show w.heap.size ≤ w.heap.size + 1 by omega) _⟩

end Go.Proofs.YtcjmhmmjfgjcnaaGreatDoor.Pa

/- parse: what Check says, in two parts. Plain. -/
namespace Go.Proofs.YtcjmhmmjfgjcnaaGreatDoor.Pa
open Go.RowKit Go.Proofs.YtcjmhmmjfgjcnaaGreatDoor.Lx

/-- what a statement of its kind may have -/
def bareS (x : Stm) : Stm := ⟨x.kind, x.table, if x.kind = 2 ∨ x.kind = 6 then x.field else [], if x.kind = 4 ∨ x.kind = 6 then x.items else [],
  if x.kind = 3 ∨ x.kind = 4 ∨ x.kind = 5 ∨ x.kind = 6 then x.expr else [], decide (x.kind = 6) && x.history, decide (x.kind = 6) && x.desc⟩
/-- whether what it may have is right -/
def okS (x : Stm) : Bool := nameB x.table && (
  if x.kind = 1 then true
  else if x.kind = 2 then nameB x.field
  else if x.kind = 3 then rightB x.expr && closedB x.expr
  else if x.kind = 4 then (x.expr.isEmpty || rightB x.expr) && (itemsB x.items && !x.items.isEmpty)
  else if x.kind = 5 then x.expr.isEmpty || rightB x.expr
  else if x.kind = 6 then (x.expr.isEmpty || rightB x.expr) && (itemsB x.items && (nameB x.field || (x.field.isEmpty && !x.desc)))
  else false)
/-- whether it has no more -/
def alikeS (x : Stm) : Bool := decide (x.items.length = (bareS x).items.length) && (decide (x.expr.length = (bareS x).expr.length) && (decide (x.field = (bareS x).field) && ((x.history == (bareS x).history) && (x.desc == (bareS x).desc))))
theorem len0 {α : Type} (l : List α) : decide (l.length = 0) = l.isEmpty := by cases l <;> simp
theorem nil0 {α : Type} [DecidableEq α] (l : List α) : decide (l = []) = l.isEmpty := by cases l <;> simp
theorem checkB_eq (x : Stm) : checkB x = (okS x && alikeS x) := by
  obtain ⟨k, tb, fd, its, ex, hi, de⟩ := x
  unfold checkB okS alikeS bareS
  by_cases h1 : k = 1
  · subst h1; simp [nil0]; cases fd.isEmpty <;> cases its.isEmpty <;> cases ex.isEmpty <;> cases hi <;> cases de <;> simp
  by_cases h2 : k = 2
  · subst h2; simp [nil0, Bool.and_assoc]
  by_cases h3 : k = 3
  · subst h3; simp [nil0, Bool.and_assoc]; cases fd.isEmpty <;> cases its.isEmpty <;> cases hi <;> cases de <;> simp
  by_cases h4 : k = 4
  · subst h4; simp [nil0, Bool.and_assoc]
  by_cases h5 : k = 5
  · subst h5; simp [nil0, Bool.and_assoc]; cases fd.isEmpty <;> cases its.isEmpty <;> cases hi <;> cases de <;> simp
  by_cases h6 : k = 6
  · subst h6; simp []
  simp [h1, h2, h3, h4, h5, h6]

/-- what the check asks -/
structure CkArgs (w : World) (st : Stm) (vi ve : Value) : Prop where
  hi : ItmsIn w vi st.items
  hv : StpsIn w ve st.expr
  ht : st.table.length ≤ 1073741824
  hf : st.field.length ≤ 1073741824
  hl : st.expr.length ≤ 1048576
  hy : ∀ y ∈ st.expr, y.text.length ≤ 1048575
  hil : st.items.length ≤ 1048575
  his : ∀ t ∈ st.items, t.name.length ≤ 1073741824 ∧ t.expr.length ≤ 1048576 ∧ ∀ y ∈ t.expr, y.text.length ≤ 1048575
  he : Env w
/-- the statement stored whole in the bare one's block -/
theorem CkM.all7 {w wx : World} {st z : Stm} {vi ve zi ze : Value} (h : CkM w wx st vi ve z zi ze) : CkM w (again wx (w.heap.size + 1) st vi ve) st vi ve st vi ve :=
  ((((((h.set ⟨st.kind, z.table, z.field, z.items, z.expr, z.history, z.desc⟩ zi ze 0 _ rfl).set ⟨st.kind, st.table, z.field, z.items, z.expr, z.history, z.desc⟩ zi ze 1 _ rfl).set ⟨st.kind, st.table, st.field, z.items, z.expr, z.history, z.desc⟩ zi ze 2 _ rfl).set
    ⟨st.kind, st.table, st.field, st.items, z.expr, z.history, z.desc⟩ vi ze 3 _ rfl).set ⟨st.kind, st.table, st.field, st.items, st.expr, z.history, z.desc⟩ vi ve 4 _ rfl).set ⟨st.kind, st.table, st.field, st.items, st.expr, st.history, z.desc⟩ vi ve 5 _ rfl).set st vi ve 6 _ rfl

end Go.Proofs.YtcjmhmmjfgjcnaaGreatDoor.Pa
