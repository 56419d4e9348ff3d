/- Parts: PaH. -/
import Derived.Test.YtcjmhmmjfgjcnaaGreatDoorMh21

/- The parser: an item that is being read. -/
namespace Go.Proofs.YtcjmhmmjfgjcnaaGreatDoor.Pa
open Go.RowKit Go.Proofs.YtcjmhmmjfgjcnaaGreatDoor.Lx
variable {x : Px}

structure ItX (x : Px) (w0 : World) (sv0 : Value) (s0 : St) (wr : World) (lv sv : Value) (s : St) (vo vn : Value) (its : List Itm) (evs : List Value) (nms : List Txt) (Bi : Nat) (nm : Txt) (ve : Value) (le : List Stp) : Prop where
  m : ItM x w0 sv0 s0 wr lv sv s vo vn its evs nms
  blk : wr.heap[Bi]? = some (.cells #[.string ⟨nm.toArray⟩, ve] 95)
  safe : SafeB x wr sv Bi
  low : w0.heap.size ≤ Bi
  dO : vo.ownBlock ≠ some Bi
  dN : vn.ownBlock ≠ some Bi
  dE : ∀ v ∈ evs, v.ownBlock ≠ some Bi
  dV : ve.ownBlock ≠ some Bi
  hv : HeldRow x wr sv s ve le
  hd : ∀ b, ve.ownBlock = some b → vo.ownBlock ≠ some b ∧ vn.ownBlock ≠ some b
  fv : ∀ b, ve.ownBlock = some b → w0.heap.size ≤ b

variable {w0 wr w' : World} {sv0 lv sv lv' sv' vo vn ve : Value} {s0 s s' : St} {its : List Itm} {evs : List Value} {nms : List Txt} {Bi : Nat} {nm : Txt} {le : List Stp}
theorem ItM.evs_lt (h : ItM x w0 sv0 s0 wr lv sv s vo vn its evs nms) : ∀ v ∈ evs, ∀ b, v.ownBlock = some b → b < wr.heap.size := fun v hv b hb => by
  obtain ⟨i, hi, e⟩ := List.getElem_of_mem hv
  have := h.exps i (by rw [← h.lenE]; exact hi) hi
  rw [e] at this
  exact (World.ownsRow.lt this.row b hb).2
theorem ItM.names' (h : ItM x w0 sv0 s0 wr lv sv s vo vn its evs (its.map Itm.name)) : wr.ownsRow x.W.heap.size 9 1 vn its.length (strsC (its.map Itm.name)) := by
  have := h.names
  unfold OwnStrs at this
  rwa [List.length_map] at this
theorem ItX.start (h : ItM x w0 sv0 s0 wr lv sv s vo vn its evs nms) : ItX x w0 sv0 s0 (wr.alloc (.cells #[.string ⟨([] : Txt).toArray⟩, .slice none 0 0] 95)) lv sv s vo vn its evs nms wr.heap.size [] (.slice none 0 0) [] :=
  ⟨h.alloc _, heap_alloc_new _ _, SafeB.new h.now.ps _, h.now.keep.1, fun e => by have := (h.sO _ e).1.1; omega, fun e => by have := (h.sN _ e).1.1; omega, fun v hv e => by have := h.evs_lt v hv _ e; omega, by simp [Value.ownBlock], HeldRow.nil _ _ _ _, fun b hb => by simp [Value.ownBlock] at hb, fun b hb => by simp [Value.ownBlock] at hb⟩
theorem ItX.cur (h : ItX x w0 sv0 s0 wr lv sv s vo vn its evs nms Bi nm ve le) (hn : Now x wr sv w' lv' sv s') (he : s'.steps = s.steps) : ItX x w0 sv0 s0 w' lv' sv s' vo vn its evs nms Bi nm ve le :=
  ⟨h.m.cur hn he, (h.safe.heap hn).trans h.blk, h.safe.now hn, h.low, h.dO, h.dN, h.dE, h.dV, h.hv.now hn he, h.hd, h.fv⟩
theorem ItX.below (h : ItX x w0 sv0 s0 wr lv sv s vo vn its evs nms Bi nm ve le) (hb : Below wr.heap.size wr w') : ItX x w0 sv0 s0 w' lv sv s vo vn its evs nms Bi nm ve le :=
  h.cur ((Now.refl h.m.now.ps).step hb) rfl
theorem ItX.alloc (h : ItX x w0 sv0 s0 wr lv sv s vo vn its evs nms Bi nm ve le) (o : Obj) : ItX x w0 sv0 s0 (wr.alloc o) lv sv s vo vn its evs nms Bi nm ve le := h.below (alloc_below _ _)
theorem ItX.anew (h : ItX x w0 sv0 s0 wr lv sv s vo vn its evs nms Bi nm ve le) (hn : Now x wr (.slice none 0 0) w' lv' sv' s') : ItX x w0 sv0 s0 w' lv' sv' s' vo vn its evs nms Bi nm ve le :=
  ⟨h.m.anew hn, (h.safe.nil.heap hn).trans h.blk, h.safe.nil.now hn, h.low, h.dO, h.dN, h.dE, h.dV, h.hv.anew h.m.now.ps hn, h.hd, h.fv⟩
theorem fresh_of {w w' : World} {lv' sv' : Value} {s' : St} (hn : Now x w (.slice none 0 0) w' lv' sv' s') : ∀ b, sv'.ownBlock = some b → w.heap.size ≤ b := fun b hb => by
  rcases hn.new with e | e
  · rw [e] at hb; simp [Value.ownBlock] at hb
  · exact e b hb
theorem ItX.setN (h : ItX x w0 sv0 s0 wr lv sv s vo vn its evs nms Bi nm ve le) (t : Txt) : ItX x w0 sv0 s0 (wr.setCell ⟨Bi, 0, none⟩ (.string ⟨t.toArray⟩)) lv sv s vo vn its evs nms Bi t ve le := by
  have hos : ∀ b, b ≠ Bi → (wr.setCell ⟨Bi, 0, none⟩ (.string ⟨t.toArray⟩)).heap[b]? = wr.heap[b]? := fun b hb => Below.heap_setCell _ _ _ _ hb
  exact ⟨h.m.set 0 _ h.low h.safe.2.1 h.safe.2.2 h.dE h.dO h.dN, set_block h.blk _ _ rfl, h.safe.grow (by simp), h.low, h.dO, h.dN, h.dE, h.dV, h.hv.other (by simp) fun b hb => hos b (fun e => h.dV (by rw [hb, e])), h.hd, h.fv⟩
theorem ItX.setE (h : ItX x w0 sv0 s0 wr lv sv s vo vn its evs nms Bi nm ve le) (hf : ∀ b, sv.ownBlock = some b → w0.heap.size ≤ b) : ItX x w0 sv0 s0 (wr.setCell ⟨Bi, 1, none⟩ sv) lv sv s vo vn its evs nms Bi nm sv s.steps := by
  have hm := h.m.set 1 sv h.low h.safe.2.1 h.safe.2.2 h.dE h.dO h.dN
  exact ⟨hm, set_block h.blk _ _ rfl, h.safe.grow (by simp), h.low, h.dO, h.dN, h.dE, h.safe.2.2, HeldRow.self hm.now.ps, fun b hb => ⟨fun e => (h.m.sO b e).1.2.2 hb, fun e => (h.m.sN b e).1.2.2 hb⟩, hf⟩
theorem ItX.moreN (h : ItX x w0 sv0 s0 wr lv sv s vo vn its evs nms Bi nm ve le) (t : Txt) {w1 : World} {v1 : Value} (hown : w1.ownsRow x.W.heap.size 9 1 v1 (nms.length + 1) (strsC nms ++ [.string ⟨t.toArray⟩]))
    (hg : wr.grownBy w1 vn.ownBlock) (hat : v1.ownBlock = vn.ownBlock ∨ ∃ b, v1.ownBlock = some b ∧ wr.heap.size ≤ b) : ItX x w0 sv0 s0 w1 lv sv s vo v1 its evs (nms ++ [t]) Bi nm ve le := by
  obtain ⟨hz, hk⟩ := grown_turn hg
  refine ⟨h.m.moreN t hown hg hat, (hk Bi h.safe.1 h.dN).trans h.blk, h.safe.grow hz, h.low, h.dO, fun e => ?_, h.dE, h.dV, h.hv.other hz fun b hb => hk b (World.ownsRow.lt h.hv.row b hb).2 (h.hd b hb).2, fun b hb => ⟨(h.hd b hb).1, fun e => ?_⟩, h.fv⟩
  · rcases hat with e' | ⟨b', e', hb'⟩
    · exact h.dN (by rw [← e']; exact e)
    · rw [e'] at e; have := Option.some.inj e; have := h.safe.1; omega
  · rcases hat with e' | ⟨b', e', hb'⟩
    · exact (h.hd b hb).2 (by rw [← e']; exact e)
    · rw [e'] at e; have := Option.some.inj e; have := (World.ownsRow.lt h.hv.row b hb).2; omega

theorem itmInfo : (Tryz.prog.info? 95).map (fun i => (i.zero, i.size, i.bytes)) = some (some (.agg #[.string ⟨#[]⟩, .slice none 0 0]), 2, 40) := by kernel_rfl
theorem two {w : World} {B : Nat} {a b : Value} {T : TypeId} (h : w.heap[B]? = some (.cells #[a, b] T)) :
    (w.cell? ⟨B, 0, none⟩ = some a ∧ w.cell? ⟨B, 1, none⟩ = some b) ∧ (w.frozen? ⟨B, 0, none⟩ = false ∧ w.frozen? ⟨B, 1, none⟩ = false) := by
  simp [World.cell?, World.frozen?, h]

theorem TextsAt.new' (w : World) (l : List Txt) (n B0 : Nat) (cs : Array Value) (T : TypeId) (mk : Nat × Nat) (hcs : cs = (strsC l).toArray) (hn : l.length = n) (hB : w.heap.size = B0) : TextsAt (w.alloc (.cells cs T mk)) B0 n l := by
  subst hB
  exact TextsAt.new w l n cs T mk hcs hn
def GaveItems (x : Px) (w : World) (sv : Value) (s : St) (its : List Itm) (s' : St) (e : Ending) (w' : World) : Prop := ∃ lv' sv' vo vn evs nms, e = .returned vo ∧ ItM x w sv s w' lv' sv' s' vo vn its evs nms
def ItR (x : Px) (w : World) (sv0 : Value) (s0 : St) (n : Nat) (set : Bool) (r : List Itm × St) (gk : Nat) (v5 v6 : Value) (wr : World) : Prop :=
  ∃ lv sv s its evs, ItM x w sv0 s0 wr lv sv s v5 v6 its evs (its.map Itm.name) ∧ itemsL n set gk its s = some r ∧ its.length ≤ 64 ∧ ∀ i ∈ its, i.name.length ≤ 16384

set_option maxHeartbeats 4000000 in
set_option maxRecDepth 100000 in
theorem items_as (n : Nat) {w : World} {lv sv : Value} {s : St} {r : List Itm × St} (h : PS x w lv sv s) (hr : items n false s = some r) :
    Calls Tryz.prog 87 #[.pointer (some ⟨x.B, 0, none⟩), .bool false] w (GaveItems x w sv s r.1 r.2) := by
  have H0 := Lib.hid (ItM.start h)
  have Hr := Lib.hid (show itemsL n false n [] s = some r from hr)
  clear h hr
  go_enter Tryz.func87, Tryz.ntmps87
  go_wp2_with fail
  go_loopg [5, 6] n (fun gk v5 v6 wr => Hid (ItR x w sv s n false r gk v5 v6 wr))
  case atStart => exact ⟨_, _, _, _, _, H0.out, Hr.out, by simp, by simp⟩
  case round =>
    obtain ⟨lv2, sv2, s2, its, evs, M2, hr2, hlen, hnms⟩ := hrel
    cases gk with
    | zero => simp [itemsL] at hr2
    | succ m =>
      rw [itemsL] at hr2
      obtain ⟨a5, c5, rfl⟩ := own_form M2.out
      obtain ⟨a6, c6, rfl⟩ := own_form M2.names'
      obtain ⟨⟨c0, c1, c2, c3, c4⟩, -⟩ := five M2.now.ps.blk
      have HM := Lib.hid M2
      have Hnms := Lib.hid hnms
      by_cases hw : s2.why = 0
      · have hb : ((s2.why : Int) == 0) = true := by rw [beq_iff_eq]; omega
        rw [if_pos hw] at hr2
        by_cases hmany : 64 ≤ its.length
        · have hm2 : (64 : Int) ≤ its.length := by omega
          rw [if_pos hmany] at hr2
          have hs : (its, s2.fail 3 s2.place) = r := by simpa using hr2
          subst hs
          have Hd := Lib.hid (M2.below (Below.refl _ wr).drew)
          clear hr2 M2 hw
          go_wp2_with fail
          go_region_with ((first | (go_at_call 43; refine (place_calls Hd.out.now.ps).mono ?_; rintro e w' ⟨rfl, rfl⟩) | (go_at_call 42; refine (fail_callsC Hd.out.now.ps 3 s2.place).mono ?_; rintro e w' ⟨rfl, lv3, h3⟩)))
          all_goals
            have M3 := Lib.hid (Hd.out.cur h3 (fail_steps _ _ _))
            clear h3
            go_wp2_with fail
            go_ret
            exact ⟨_, _, _, _, _, _, rfl, M3.out⟩
        · have hm2 : ¬ (64 : Int) ≤ its.length := by omega
          rw [if_neg hmany] at hr2
          obtain ⟨q, hq, hr3⟩ := Option.bind_eq_some_iff.1 hr2
          unfold itemF at hq
          rw [if_neg (by simp)] at hq
          obtain ⟨s3, hs3, hq2⟩ := Option.bind_eq_some_iff.1 hq
          have X0 := Lib.hid (ItX.start M2)
          have Hs3 := Lib.hid hs3
          have Hq2 := Lib.hid hq2
          have Hr3 := Lib.hid hr3
          clear hr2 M2 hw hq hs3 hq2 hr3
          go_wp2_with fail
          refine (expr_calls n X0.out.m.now.ps Hs3.out).mono ?_
          rintro e w3 ⟨lv3, sv3, rfl, h3⟩
          obtain ⟨a3, k3, rfl⟩ := own_form h3.ps.own
          have x3 := X0.out.anew h3
          obtain ⟨⟨q0, q1⟩, g0, g1⟩ := two x3.blk
          have X3 := Lib.hid (x3.setE fun b hb => Nat.le_trans X0.out.m.now.keep.1 (fresh_of h3 b hb))
          clear h3 x3 c0 c1 c2 c3 c4
          go_wp2_with fail
          have X4 := Lib.hid (X3.out.alloc (.cells #[.string ⟨#[65, 83]⟩] 9))
          have ht4 := TextsAt.new' (w3.setCell ⟨wr.heap.size, 1, none⟩ (.slice a3 s3.steps.length k3)) [kAS] 1 w3.heap.size _ 9 (0, 0) rfl rfl (by simp)
          have hz3 : w3.heap.size = (w3.setCell ⟨wr.heap.size, 1, none⟩ (.slice a3 s3.steps.length k3)).heap.size := by simp
          have hn4 := texts_new X3.out.m.now.ps
          rw [← hz3] at hn4
          refine (keys_callsC X4.out.m.now.ps w3.heap.size 1 [kAS] rfl (by omega) ht4.2 hn4.1 hn4.2).mono ?_
          rintro e w5 ⟨rfl, lv5, h5⟩
          have X5 := Lib.hid (X4.out.cur h5 (keys_steps _ _))
          clear h5 ht4 hz3 hn4 q0 q1 g0 g1
          go_wp2_with fail
          refine (place_calls X5.out.m.now.ps).mono ?_
          rintro e w6 ⟨rfl, rfl⟩
          go_wp2_with fail
          generalize hS : s3.keys [kAS] = sA at *
          have HS := Lib.hid hS
          clear hS
          refine (name_callsC X5.out.m.now.ps).mono ?_
          rintro e w6 ⟨rfl, lv6, h6⟩
          have hnm := Lib.hid (nameT_le X5.out.m.now.ps.left_mem.1)
          have x6 := X5.out.cur h6 (name_steps _)
          obtain ⟨⟨q0, q1⟩, g0, g1⟩ := two x6.blk
          have hX : wr.heap.size < w6.heap.size := x6.safe.1
          have X6 := Lib.hid ((x6.setN sA.nameT).alloc (.cells #[.string ⟨sA.nameT.toArray⟩] 9))
          obtain ⟨i0, hi0, hz0, hz1, hz2⟩ := info_parts strInfo
          have Hi0 := Lib.hid hi0
          have Hz0 := Lib.hid hz0
          have Hz1 := Lib.hid hz1
          have Hz2 := Lib.hid hz2
          have hnews : ((w6.setCell ⟨wr.heap.size, 0, none⟩ (.string ⟨sA.nameT.toArray⟩)).alloc (.cells #[.string ⟨sA.nameT.toArray⟩] 9)).heap[w6.heap.size]? = some (.cells #[.string ⟨sA.nameT.toArray⟩] 9) := by
            have := heap_alloc_new (w6.setCell ⟨wr.heap.size, 0, none⟩ (.string ⟨sA.nameT.toArray⟩)) (.cells #[.string ⟨sA.nameT.toArray⟩] 9)
            rwa [show (w6.setCell ⟨wr.heap.size, 0, none⟩ (.string ⟨sA.nameT.toArray⟩)).heap.size = w6.heap.size by simp] at this
          have Hnews := Lib.hid (World.news_of_block (cs := #[.string ⟨sA.nameT.toArray⟩]) (t := 9) (fr := (0, 0)) hnews)
          clear h6 x6 hnews hi0 hz0 hz1 hz2
          generalize hN : sA.nameT = N at *
          have HN := Lib.hid hN
          clear hN
          go_wp2_with (at_builtin; go_must (refine wpList_append_own_at _ rfl _ _ 93 rfl x.W.heap.size 9 i0 _ 1 16 Tryz.underlying93 Hi0.out Hz0.out Hz1.out Hz2.out rfl (by decide) _ its.length (strsC (its.map Itm.name)) rfl X6.out.m.names' ⟨w6.heap.size, 0, none⟩ 1 1 [.string ⟨N.toArray⟩] rfl rfl ?c1 ?c2 ?c3 ?c4 ?c5 ?_))
          case c1 => exact Hnews.out
          case c2 => simp [Value.oneCell']
          case c3 => unfold maxLen; omega
          case c4 => omega
          case c5 => exact X6.out.m.now.ps.bel.size
          intro v7 w7 hown7 hgrow7 _ hat7
          have x7 := X6.out.moreN N (by simpa using hown7) hgrow7 (by rcases hat7 with h | h; exact .inl h; exact .inr ⟨_, h, by simp⟩)
          obtain ⟨a7, c7, rfl⟩ := own_form hown7
          have X7 := Lib.hid x7
          clear hown7 hgrow7 hat7 x7 q0 q1 g0 g1
          go_wp2_with fail
          have hap := (apart_calls w7 _ (its.map Itm.name ++ [N]) X7.out.m.names.strs (by simp; omega) (fun t ht => by
            have h16 := hnm.out
            rcases List.mem_append.1 ht with h' | h'
            · obtain ⟨i, hi, rfl⟩ := List.mem_map.1 h'
              have := Hnms.out i hi; omega
            · simp at h'; subst h'; omega))
          generalize hbd : decide ((its.map Itm.name ++ [N]).Nodup) = bd at hap
          have Hbd := Lib.hid hbd
          clear hbd
          refine hap.mono ?_
          rintro e w8 ⟨rfl, hb8⟩
          have X8 := Lib.hid (X7.out.below hb8)
          clear hb8 hap
          generalize hsB : (if (its.map Itm.name ++ [N]).Nodup then sA.name else sA.name.fail 18 sA.place) = sB at *
          have HsB := Lib.hid hsB
          clear hsB
          go_upto_if 54 with fail
          go_cut [] (fun wx => Hid (∃ lv8, ItX x w sv s wx lv8 (.slice a3 s3.steps.length k3) sB (.slice a5 its.length c5) (.slice a7 (its.length + 1) c7) its evs (its.map Itm.name ++ [N]) wr.heap.size N (.slice a3 s3.steps.length k3) s3.steps))
          case first =>
            cases bd with
            | true =>
              have e1 := Lib.hid (show sA.name = sB by rw [← HsB.out, if_pos (of_decide_eq_true Hbd.out)])
              go_wp2_with fail
              go_meet
              exact ⟨_, by rw [← e1.out]; exact X8.out⟩
            | false =>
              have e1 := Lib.hid (show sA.name.fail 18 sA.place = sB by rw [← HsB.out, if_neg (of_decide_eq_false Hbd.out)])
              go_wp2_with fail
              refine (fail_callsC X8.out.m.now.ps 18 sA.place).mono ?_
              rintro e w9 ⟨rfl, lv9, h9⟩
              have X9 := Lib.hid (X8.out.cur h9 (fail_steps _ _ _))
              clear h9
              go_wp2_with fail
              go_meet
              exact ⟨_, by rw [← e1.out]; exact X9.out⟩
          case rest =>
            obtain ⟨lv8, X9⟩ := hcut
            clear X8
            have hq3 : (⟨N, s3.steps⟩, sB) = q := by
              have := Hq2.out
              simp only [Option.some.injEq] at this
              rw [← this, ← HsB.out]
            have Hq3 := Lib.hid hq3
            have X10 := Lib.hid (X9.alloc (.cells #[.string ⟨N.toArray⟩, .slice a3 s3.steps.length k3] 95))
            obtain ⟨⟨q0, q1⟩, -⟩ := two X9.blk
            obtain ⟨j0, hj0, hy0, hy1, hy2⟩ := info_parts itmInfo
            have Hj0 := Lib.hid hj0
            have Hy0 := Lib.hid hy0
            have Hy1 := Lib.hid hy1
            have Hy2 := Lib.hid hy2
            have Hnews2 := Lib.hid (World.news_of_block (cs := #[.string ⟨N.toArray⟩, .slice a3 s3.steps.length k3]) (t := 95) (fr := (0, 0)) (heap_alloc_new wc (.cells #[.string ⟨N.toArray⟩, .slice a3 s3.steps.length k3] 95)))
            have HX9 := Lib.hid X9
            clear hj0 hy0 hy1 hy2 hq3 X9
            go_wp2_with (at_builtin; go_must (refine wpList_append_own_at _ rfl _ _ 31 rfl x.W.heap.size 95 j0 _ 2 40 Tryz.underlying31 Hj0.out Hy0.out Hy1.out Hy2.out rfl (by decide) _ its.length (itsC its evs) rfl X10.out.m.out ⟨wc.heap.size, 0, none⟩ 1 1 [.string ⟨N.toArray⟩, .slice a3 s3.steps.length k3] rfl rfl ?d1 ?d2 ?d3 ?d4 ?d5 ?_))
            case d2 => simp [Value.oneCell']
            case d3 => unfold maxLen; omega
            case d4 => omega
            case d5 => have := X10.out.m.now.ps.bel.size; simpa using this
            intro v11 w11 hown11 hgrow11 _ hat11
            have m11 := X10.out.m.moreO ⟨N, s3.steps⟩ (.slice a3 s3.steps.length k3) X10.out.hv X10.out.hd X10.out.fv hown11 hgrow11 (by rcases hat11 with h | h; exact .inl h; exact .inr ⟨_, h, by simp⟩)
            obtain ⟨a11, c11, rfl⟩ := own_form hown11
            have M11 := Lib.hid m11
            clear hown11 hgrow11 hat11 m11 q0 q1
            have Hnms2 := Lib.hid (show ∀ i ∈ its ++ [⟨N, s3.steps⟩], i.name.length ≤ 16384 from fun i hi => by
              rcases List.mem_append.1 hi with h' | h'
              · exact Hnms.out i h'
              · simp at h'; subst h'; exact hnm.out)
            cases hcm : sB.next 5 [[44]] with
            | true =>
              have Hr4 := Lib.hid (show itemsL n false m (its ++ [⟨N, s3.steps⟩]) sB.drop = some r by have := Hr3.out; rw [← Hq3.out] at this; simpa [hcm] using this)
              have Hcm := Lib.hid hcm
              have Hcm2 := Lib.hid (next_take hcm)
              clear hcm
              go_wp2_with fail
              refine (take_callsC (M11.out.alloc _).now.ps 5 _ [[44]] (StrsAt.new' _ [[44]] 1 _ _ _ _ rfl rfl (by simp)) (by simp)).mono ?_
              rw [Hcm.out, Hcm2.out.1, Hcm2.out.2]
              rintro e w12 ⟨rfl, lv12, h12⟩
              have M12 := Lib.hid ((M11.out.alloc _).cur h12 rfl)
              generalize sB.head = T12 at *
              unfold Tok.val
              clear h12
              go_wp2_with fail
              go_roundg m
              case measure => omega
              case rel => exact ⟨_, _, _, _, _, by have := M12.out.alloc (.cells #[.int .u8 T12.kind, .string ⟨T12.text.toArray⟩, .int .i64 T12.num, .int .i64 T12.pos] 41); simpa using this, Hr4.out, by simp; omega, Hnms2.out⟩
            | false =>
              have Hr4 := Lib.hid (show (its ++ [⟨N, s3.steps⟩], sB) = r by have := Hr3.out; rw [← Hq3.out] at this; simpa [hcm] using this)
              have Hcm := Lib.hid hcm
              have Hcm2 := Lib.hid (need_no hcm).2
              clear hcm
              go_wp2_with fail
              refine (take_callsC (M11.out.alloc _).now.ps 5 _ [[44]] (StrsAt.new' _ [[44]] 1 _ _ _ _ rfl rfl (by simp)) (by simp)).mono ?_
              rw [Hcm.out, Hcm2.out]
              rintro e w12 ⟨rfl, lv12, h12⟩
              have M12 := Lib.hid ((M11.out.alloc _).cur h12 rfl)
              generalize sB.taken 5 [[44]] = T12 at *
              unfold Tok.val
              clear h12
              go_wp2_with fail
              go_ret
              exact ⟨_, _, _, _, _, _, rfl, by rw [← Hr4.out]; exact M12.out.alloc _⟩
      · have hb : ((s2.why : Int) == 0) = false := by rw [beq_eq_false_iff_ne]; omega
        rw [if_neg hw] at hr2
        have hs : (its, s2) = r := by simpa using hr2
        subst hs
        clear hr2 M2 hw
        go_wp2_with fail
        go_ret
        exact ⟨_, _, _, _, _, _, rfl, HM.out⟩

set_option maxHeartbeats 4000000 in
set_option maxRecDepth 100000 in
theorem items_set (n : Nat) {w : World} {lv sv : Value} {s : St} {r : List Itm × St} (h : PS x w lv sv s) (hr : items n true s = some r) :
    Calls Tryz.prog 87 #[.pointer (some ⟨x.B, 0, none⟩), .bool true] w (GaveItems x w sv s r.1 r.2) := by
  have H0 := Lib.hid (ItM.start h)
  have Hr := Lib.hid (show itemsL n true n [] s = some r from hr)
  clear h hr
  go_enter Tryz.func87, Tryz.ntmps87
  go_wp2_with fail
  go_loopg [5, 6] n (fun gk v5 v6 wr => Hid (ItR x w sv s n true r gk v5 v6 wr))
  case atStart => exact ⟨_, _, _, _, _, H0.out, Hr.out, by simp, by simp⟩
  case round =>
    obtain ⟨lv2, sv2, s2, its, evs, M2, hr2, hlen, hnms⟩ := hrel
    cases gk with
    | zero => simp [itemsL] at hr2
    | succ m =>
      rw [itemsL] at hr2
      obtain ⟨a5, c5, rfl⟩ := own_form M2.out
      obtain ⟨a6, c6, rfl⟩ := own_form M2.names'
      obtain ⟨⟨c0, c1, c2, c3, c4⟩, -⟩ := five M2.now.ps.blk
      have HM := Lib.hid M2
      have Hnms := Lib.hid hnms
      by_cases hw : s2.why = 0
      · have hb : ((s2.why : Int) == 0) = true := by rw [beq_iff_eq]; omega
        rw [if_pos hw] at hr2
        by_cases hmany : 64 ≤ its.length
        · have hm2 : (64 : Int) ≤ its.length := by omega
          rw [if_pos hmany] at hr2
          have hs : (its, s2.fail 3 s2.place) = r := by simpa using hr2
          subst hs
          have Hd := Lib.hid (M2.below (Below.refl _ wr).drew)
          clear hr2 M2 hw
          go_wp2_with fail
          go_region_with ((first | (go_at_call 43; refine (place_calls Hd.out.now.ps).mono ?_; rintro e w' ⟨rfl, rfl⟩) | (go_at_call 42; refine (fail_callsC Hd.out.now.ps 3 s2.place).mono ?_; rintro e w' ⟨rfl, lv3, h3⟩)))
          all_goals
            have M3 := Lib.hid (Hd.out.cur h3 (fail_steps _ _ _))
            clear h3
            go_wp2_with fail
            go_ret
            exact ⟨_, _, _, _, _, _, rfl, M3.out⟩
        · have hm2 : ¬ (64 : Int) ≤ its.length := by omega
          rw [if_neg hmany] at hr2
          obtain ⟨q, hq, hr3⟩ := Option.bind_eq_some_iff.1 hr2
          unfold itemF at hq
          rw [if_pos rfl] at hq
          obtain ⟨s3, hs3, hq2⟩ := Option.bind_eq_some_iff.1 hq
          have X0 := Lib.hid (ItX.start M2)
          have Hs3 := Lib.hid hs3
          have Hq2 := Lib.hid hq2
          have Hr3 := Lib.hid hr3
          have hnm := Lib.hid (nameT_le M2.now.ps.left_mem.1)
          clear hr2 M2 hw hq hs3 hq2 hr3
          go_wp2_with fail
          clear c0 c1 c2 c3 c4
          refine (place_calls X0.out.m.now.ps).mono ?_
          rintro e w6 ⟨rfl, rfl⟩
          go_wp2_with fail
          refine (name_callsC X0.out.m.now.ps).mono ?_
          rintro e w6 ⟨rfl, lv6, h6⟩
          have x6 := X0.out.cur h6 (name_steps _)
          obtain ⟨⟨q0, q1⟩, g0, g1⟩ := two x6.blk
          have hX : wr.heap.size < w6.heap.size := x6.safe.1
          have X6 := Lib.hid ((x6.setN s2.nameT).alloc (.cells #[.string ⟨s2.nameT.toArray⟩] 9))
          obtain ⟨i0, hi0, hz0, hz1, hz2⟩ := info_parts strInfo
          have Hi0 := Lib.hid hi0
          have Hz0 := Lib.hid hz0
          have Hz1 := Lib.hid hz1
          have Hz2 := Lib.hid hz2
          have hnews : ((w6.setCell ⟨wr.heap.size, 0, none⟩ (.string ⟨s2.nameT.toArray⟩)).alloc (.cells #[.string ⟨s2.nameT.toArray⟩] 9)).heap[w6.heap.size]? = some (.cells #[.string ⟨s2.nameT.toArray⟩] 9) := by
            have := heap_alloc_new (w6.setCell ⟨wr.heap.size, 0, none⟩ (.string ⟨s2.nameT.toArray⟩)) (.cells #[.string ⟨s2.nameT.toArray⟩] 9)
            rwa [show (w6.setCell ⟨wr.heap.size, 0, none⟩ (.string ⟨s2.nameT.toArray⟩)).heap.size = w6.heap.size by simp] at this
          have Hnews := Lib.hid (World.news_of_block (cs := #[.string ⟨s2.nameT.toArray⟩]) (t := 9) (fr := (0, 0)) hnews)
          clear h6 x6 hnews hi0 hz0 hz1 hz2
          generalize hN : s2.nameT = N at *
          have HN := Lib.hid hN
          clear hN
          go_wp2_with (at_builtin; go_must (refine wpList_append_own_at _ rfl _ _ 93 rfl x.W.heap.size 9 i0 _ 1 16 Tryz.underlying93 Hi0.out Hz0.out Hz1.out Hz2.out rfl (by decide) _ its.length (strsC (its.map Itm.name)) rfl X6.out.m.names' ⟨w6.heap.size, 0, none⟩ 1 1 [.string ⟨N.toArray⟩] rfl rfl ?c1 ?c2 ?c3 ?c4 ?c5 ?_))
          case c1 => exact Hnews.out
          case c2 => simp [Value.oneCell']
          case c3 => unfold maxLen; omega
          case c4 => omega
          case c5 => exact X6.out.m.now.ps.bel.size
          intro v7 w7 hown7 hgrow7 _ hat7
          have x7 := X6.out.moreN N (by simpa using hown7) hgrow7 (by rcases hat7 with h | h; exact .inl h; exact .inr ⟨_, h, by simp⟩)
          obtain ⟨a7, c7, rfl⟩ := own_form hown7
          have X7 := Lib.hid x7
          clear hown7 hgrow7 hat7 x7 q0 q1 g0 g1
          go_wp2_with fail
          have hap := (apart_calls w7 _ (its.map Itm.name ++ [N]) X7.out.m.names.strs (by simp; omega) (fun t ht => by
            have h16 := hnm.out
            rcases List.mem_append.1 ht with h' | h'
            · obtain ⟨i, hi, rfl⟩ := List.mem_map.1 h'
              have := Hnms.out i hi; omega
            · simp at h'; subst h'; omega))
          generalize hbd : decide ((its.map Itm.name ++ [N]).Nodup) = bd at hap
          have Hbd := Lib.hid hbd
          clear hbd
          refine hap.mono ?_
          rintro e w8 ⟨rfl, hb8⟩
          have X8 := Lib.hid (X7.out.below hb8)
          clear hb8 hap
          generalize hsB : (if (its.map Itm.name ++ [N]).Nodup then s2.name else s2.name.fail 18 s2.place) = sB at *
          have HsB := Lib.hid hsB
          clear hsB
          go_upto_if 54 with fail
          go_cut [] (fun wx => Hid (∃ lv8, ItX x w sv s wx lv8 sv2 sB (.slice a5 its.length c5) (.slice a7 (its.length + 1) c7) its evs (its.map Itm.name ++ [N]) wr.heap.size N (.slice none 0 0) []))
          case first =>
            cases bd with
            | true =>
              have e1 := Lib.hid (show s2.name = sB by rw [← HsB.out, if_pos (of_decide_eq_true Hbd.out)])
              go_wp2_with fail
              go_meet
              exact ⟨_, by rw [← e1.out]; exact X8.out⟩
            | false =>
              have e1 := Lib.hid (show s2.name.fail 18 s2.place = sB by rw [← HsB.out, if_neg (of_decide_eq_false Hbd.out)])
              go_wp2_with fail
              refine (fail_callsC X8.out.m.now.ps 18 s2.place).mono ?_
              rintro e w9 ⟨rfl, lv9, h9⟩
              have X9 := Lib.hid (X8.out.cur h9 (fail_steps _ _ _))
              clear h9
              go_wp2_with fail
              go_meet
              exact ⟨_, by rw [← e1.out]; exact X9.out⟩
          case rest =>
            obtain ⟨lv8, X9⟩ := hcut
            have HX9 := Lib.hid X9
            clear X8 X9
            have Hs4 := Lib.hid (show expr n (sB.sign [61]) = some s3 from Hs3.out)
            go_wp2_with fail
            refine (sign_callsC HX9.out.m.now.ps [61]).mono ?_
            rintro e wd ⟨rfl, lvd, hd⟩
            have Xd := Lib.hid (HX9.out.cur hd (sign_steps _ _))
            clear hd
            go_wp2_with fail
            refine (expr_calls n Xd.out.m.now.ps Hs4.out).mono ?_
            rintro e we ⟨lve, sve, rfl, he⟩
            obtain ⟨a3, k3, rfl⟩ := own_form he.ps.own
            have xe := Xd.out.anew he
            obtain ⟨⟨q0, q1⟩, g0, g1⟩ := two xe.blk
            have hXe : wr.heap.size < we.heap.size := xe.safe.1
            have X9 := xe.setE fun b hb => Nat.le_trans Xd.out.m.now.keep.1 (fresh_of he b hb)
            clear he xe
            have hq3 : (⟨N, s3.steps⟩, s3) = q := by
              have := Hq2.out
              simp only [Option.some.injEq] at this
              rw [← this]
            have Hq3 := Lib.hid hq3
            have X10 := Lib.hid (X9.alloc (.cells #[.string ⟨N.toArray⟩, .slice a3 s3.steps.length k3] 95))
            obtain ⟨j0, hj0, hy0, hy1, hy2⟩ := info_parts itmInfo
            have Hj0 := Lib.hid hj0
            have Hy0 := Lib.hid hy0
            have Hy1 := Lib.hid hy1
            have Hy2 := Lib.hid hy2
            have hnews2 : ((we.setCell ⟨wr.heap.size, 1, none⟩ (.slice a3 s3.steps.length k3)).alloc (.cells #[.string ⟨N.toArray⟩, .slice a3 s3.steps.length k3] 95)).heap[we.heap.size]? = some (.cells #[.string ⟨N.toArray⟩, .slice a3 s3.steps.length k3] 95) := by
              have := heap_alloc_new (we.setCell ⟨wr.heap.size, 1, none⟩ (.slice a3 s3.steps.length k3)) (.cells #[.string ⟨N.toArray⟩, .slice a3 s3.steps.length k3] 95)
              rwa [show (we.setCell ⟨wr.heap.size, 1, none⟩ (.slice a3 s3.steps.length k3)).heap.size = we.heap.size by simp] at this
            have Hnews2 := Lib.hid (World.news_of_block (cs := #[.string ⟨N.toArray⟩, .slice a3 s3.steps.length k3]) (t := 95) (fr := (0, 0)) hnews2)
            clear hnews2
            clear hj0 hy0 hy1 hy2 hq3 X9
            go_wp2_with (at_builtin; go_must (refine wpList_append_own_at _ rfl _ _ 31 rfl x.W.heap.size 95 j0 _ 2 40 Tryz.underlying31 Hj0.out Hy0.out Hy1.out Hy2.out rfl (by decide) _ its.length (itsC its evs) rfl X10.out.m.out ⟨we.heap.size, 0, none⟩ 1 1 [.string ⟨N.toArray⟩, .slice a3 s3.steps.length k3] rfl rfl ?d1 ?d2 ?d3 ?d4 ?d5 ?_))
            case d1 => exact Hnews2.out
            case d2 => simp [Value.oneCell']
            case d3 => unfold maxLen; omega
            case d4 => omega
            case d5 => have := X10.out.m.now.ps.bel.size; simpa using this
            intro v11 w11 hown11 hgrow11 _ hat11
            have m11 := X10.out.m.moreO ⟨N, s3.steps⟩ (.slice a3 s3.steps.length k3) X10.out.hv X10.out.hd X10.out.fv hown11 hgrow11 (by rcases hat11 with h | h; exact .inl h; exact .inr ⟨_, h, by simp⟩)
            obtain ⟨a11, c11, rfl⟩ := own_form hown11
            have M11 := Lib.hid m11
            clear hown11 hgrow11 hat11 m11 q0 q1
            have Hnms2 := Lib.hid (show ∀ i ∈ its ++ [⟨N, s3.steps⟩], i.name.length ≤ 16384 from fun i hi => by
              rcases List.mem_append.1 hi with h' | h'
              · exact Hnms.out i h'
              · simp at h'; subst h'; exact hnm.out)
            cases hcm : s3.next 5 [[44]] with
            | true =>
              have Hr4 := Lib.hid (show itemsL n true m (its ++ [⟨N, s3.steps⟩]) s3.drop = some r by have := Hr3.out; rw [← Hq3.out] at this; simpa [hcm] using this)
              have Hcm := Lib.hid hcm
              have Hcm2 := Lib.hid (next_take hcm)
              clear hcm
              go_wp2_with fail
              refine (take_callsC (M11.out.alloc _).now.ps 5 _ [[44]] (StrsAt.new' _ [[44]] 1 _ _ _ _ rfl rfl (by simp)) (by simp)).mono ?_
              rw [Hcm.out, Hcm2.out.1, Hcm2.out.2]
              rintro e w12 ⟨rfl, lv12, h12⟩
              have M12 := Lib.hid ((M11.out.alloc _).cur h12 rfl)
              generalize s3.head = T12 at *
              unfold Tok.val
              clear h12
              go_wp2_with fail
              go_roundg m
              case measure => omega
              case rel => exact ⟨_, _, _, _, _, by have := M12.out.alloc (.cells #[.int .u8 T12.kind, .string ⟨T12.text.toArray⟩, .int .i64 T12.num, .int .i64 T12.pos] 41); simpa using this, Hr4.out, by simp; omega, Hnms2.out⟩
            | false =>
              have Hr4 := Lib.hid (show (its ++ [⟨N, s3.steps⟩], s3) = r by have := Hr3.out; rw [← Hq3.out] at this; simpa [hcm] using this)
              have Hcm := Lib.hid hcm
              have Hcm2 := Lib.hid (need_no hcm).2
              clear hcm
              go_wp2_with fail
              refine (take_callsC (M11.out.alloc _).now.ps 5 _ [[44]] (StrsAt.new' _ [[44]] 1 _ _ _ _ rfl rfl (by simp)) (by simp)).mono ?_
              rw [Hcm.out, Hcm2.out]
              rintro e w12 ⟨rfl, lv12, h12⟩
              have M12 := Lib.hid ((M11.out.alloc _).cur h12 rfl)
              generalize s3.taken 5 [[44]] = T12 at *
              unfold Tok.val
              clear h12
              go_wp2_with fail
              go_ret
              exact ⟨_, _, _, _, _, _, rfl, by rw [← Hr4.out]; exact M12.out.alloc _⟩
      · have hb : ((s2.why : Int) == 0) = false := by rw [beq_eq_false_iff_ne]; omega
        rw [if_neg hw] at hr2
        have hs : (its, s2) = r := by simpa using hr2
        subst hs
        clear hr2 M2 hw
        go_wp2_with fail
        go_ret
        exact ⟨_, _, _, _, _, _, rfl, HM.out⟩

theorem items_calls (n : Nat) (set : Bool) {w : World} {lv sv : Value} {s : St} {r : List Itm × St} (h : PS x w lv sv s) (hr : items n set s = some r) :
    Calls Tryz.prog 87 #[.pointer (some ⟨x.B, 0, none⟩), .bool set] w (GaveItems x w sv s r.1 r.2) := by
  cases set
  · exact items_as n h hr
  · exact items_set n h hr

end Go.Proofs.YtcjmhmmjfgjcnaaGreatDoor.Pa
