/- Parts: PaK PaS PaU. -/
import Derived.Test.YtcjmhmmjfgjcnaaGreatDoorMh18
import Derived.Test.YtcjmhmmjfgjcnaaGreatDoorMh24
import Derived.Deep.DeepCutAuto
import Derived.Lib.SplitLaws

/- The parser: picked. -/
namespace Go.Proofs.YtcjmhmmjfgjcnaaGreatDoor.Pa
open Go.RowKit Go.Proofs.YtcjmhmmjfgjcnaaGreatDoor.Lx
variable {x : Px}
variable {w w0 w1 wr w' : World} {sv0 lv sv lv' sv' lv1 vi ve : Value} {s0 s s' : St} {Bs : Nat} {st : Stm} {evs : List Value}

theorem SmM.weaken (h : SmM x w1 sv0 s0 wr lv sv s Bs st vi ve evs) (hn : Now x w sv0 w1 lv1 sv0 s0) (hold : x.W.heap.size ≤ w.heap.size) : SmM x w sv0 s0 wr lv sv s Bs st vi ve evs :=
  ⟨hn.trans h.now, h.blk, h.safe, Nat.le_trans hn.keep.1 h.low, hold, h.its, h.exp, h.neE, fun v hv b hb => Nat.le_trans hn.keep.1 (h.fr v hv b hb)⟩
theorem SmM.aside (h : SmM x w sv0 s0 wr lv sv s Bs st vi ve evs) {B0 : Nat} (hlow : w.heap.size ≤ B0) (hS : SafeB x wr sv B0) (hne : B0 ≠ Bs) (hr : ∀ v ∈ vi :: ve :: evs, v.ownBlock ≠ some B0) (hz : w'.heap.size = wr.heap.size) (hos : ∀ b, b ≠ B0 → w'.heap[b]? = wr.heap[b]?)
    (hbel : ∀ base, base ≤ B0 → Below base wr w') : SmM x w sv0 s0 w' lv sv s Bs st vi ve evs := by
  have hz' : wr.heap.size ≤ w'.heap.size := by omega
  exact ⟨now_other h.now h.old hlow hS.2.1 hS.2.2 hz hos hbel, (hos Bs (fun e => hne e.symm)).trans h.blk, h.safe.grow hz', h.low, h.old,
    ⟨h.its.lenE, own_same h.its.row fun g hg _ => hos g (fun e => hr vi (by simp) (by rw [hg, e])), fun b hb => ⟨(h.its.safe b hb).1.grow hz', (h.its.safe b hb).2⟩, fun j h1 h2 => (h.its.exps j h1 h2).other hz' fun b hb => hos b (fun e => hr _ (List.mem_cons_of_mem _ (List.mem_cons_of_mem _ (List.getElem_mem h2))) (by rw [hb, e])), h.its.ne⟩,
    h.exp.other hz' fun b hb => hos b (fun e => hr ve (by simp) (by rw [hb, e])), h.neE, h.fr⟩
theorem SmM.bare (h : SmM x w0 sv0 s0 wr lv sv s Bs stm0 (.slice none 0 0) (.slice none 0 0) []) (hn : Now x wr sv w' lv' sv' s') : SmM x w0 sv0 s0 w' lv' sv' s' Bs stm0 (.slice none 0 0) (.slice none 0 0) [] :=
  ⟨h.now.trans hn, (h.safe.heap hn).trans h.blk, h.safe.now hn, h.low, h.old, ItH.nil _ _ _ _ _, HeldRow.nil _ _ _ _, h.neE, h.fr⟩
theorem ItH.re {its : List Itm} {v : Value} {B' : Nat} (h : ItH x w sv s Bs v its evs) (h1 : v.ownBlock ≠ some B') (h2 : ∀ u ∈ evs, u.ownBlock ≠ some B') : ItH x w sv s B' v its evs :=
  ⟨h.lenE, h.row, fun b hb => ⟨(h.safe b hb).1, fun e => h1 (by rw [hb, e])⟩, h.exps, h2⟩
theorem ItH.sl {its : List Itm} {v : Value} (h : ItH x w sv s Bs v its evs) : ∃ a c, v = .slice a its.length c := own_form h.row

theorem again_facts (wr : World) (B0 : Nat) (st : Stm) (vi ve : Value) : (Pa.again wr B0 st vi ve).heap.size = wr.heap.size ∧ (∀ b, b ≠ B0 → (Pa.again wr B0 st vi ve).heap[b]? = wr.heap[b]?) ∧ ∀ base, base ≤ B0 → Below base wr (Pa.again wr B0 st vi ve) := by
  refine ⟨by simp [Pa.again], fun b hb => ?_, fun base hb => ((((((((Below.refl _ _).setCell hb _).setCell hb _).setCell hb _).setCell hb _).setCell hb _).setCell hb _).setCell hb _)⟩
  unfold Pa.again
  rw [Below.heap_setCell _ _ _ _ hb, Below.heap_setCell _ _ _ _ hb, Below.heap_setCell _ _ _ _ hb, Below.heap_setCell _ _ _ _ hb, Below.heap_setCell _ _ _ _ hb, Below.heap_setCell _ _ _ _ hb, Below.heap_setCell _ _ _ _ hb]

def Sm1 (x : Px) (w1 : World) (sv0 : Value) (s0 : St) (Bs : Nat) (st : Stm) (s : St) (wx : World) : Prop := ∃ lv sv vi ve evs, SmM x w1 sv0 s0 wx lv sv s Bs st vi ve evs

set_option maxHeartbeats 4000000 in
set_option maxRecDepth 100000 in
theorem picked_calls (n : Nat) {w : World} {lv sv : Value} {s : St} (h : PS x w lv sv s) {r : Stm × St} (hr : picked n s = some r) :
    Calls Tryz.prog 89 #[.pointer (some ⟨x.B, 0, none⟩)] w (GaveSm x w sv s r.1 r.2) := by
  unfold picked at hr
  obtain ⟨q, hq, hr1⟩ := Option.bind_eq_some_iff.1 hr
  simp only [] at hr1
  generalize hf : fromT (q.2.keys [kFROM]) = f at *
  obtain ⟨p, hp, hr2⟩ := Option.bind_eq_some_iff.1 hr1
  generalize ho : orderT p.2 = o at *
  have hr3 := Option.some.inj hr2
  have hold := h.bel.size
  have Hold := Lib.hid hold
  have H0 := Lib.hid ((Now.refl h).alloc (.cells (smC stm0 (.slice none 0 0) (.slice none 0 0)) 33))
  have Hsafe := Lib.hid (SafeB.new h (.cells (smC stm0 (.slice none 0 0) (.slice none 0 0)) 33))
  have Hblk := Lib.hid (heap_alloc_new w (.cells (smC stm0 (.slice none 0 0) (.slice none 0 0)) 33))
  have M0 := Lib.hid (SmM.start (h.step (alloc_below w (.cells (smC stm0 (.slice none 0 0) (.slice none 0 0)) 33))) { stm0 with kind := 6 } rfl rfl)
  have hB0 : (w.alloc (.cells (smC stm0 (.slice none 0 0) (.slice none 0 0)) 33)).heap.size = w.heap.size + 1 := by simp
  rw [hB0] at M0
  have Hq := Lib.hid hq
  have Hf := Lib.hid hf
  have Hp := Lib.hid hp
  have Ho := Lib.hid ho
  have Hr := Lib.hid hr3
  have HB0 := Lib.hid hB0
  clear h hr hq hr1 hf hp hr2 ho hr3 hold hB0
  go_enter Tryz.func89, Tryz.ntmps89
  go_wp2_with fail
  refine (take_callsC (M0.out.alloc _).now.ps 5 _ [[42]] (StrsAt.new' _ [[42]] 1 _ _ _ _ rfl rfl (by simp)) (by simp)).mono ?_
  generalize hbx : s.next 5 [[42]] = bx at *
  have Hbx := Lib.hid hbx
  clear hbx
  rintro e w2 ⟨rfl, lv2, h2⟩
  have M2 := Lib.hid ((M0.out.alloc _).cur h2 (after_steps _ _ _))
  generalize hT : s.taken 5 [[42]] = T2 at *
  clear hT h2
  unfold Tok.val
  obtain ⟨⟨k0, k1, k2, k3, k4, k5, k6⟩, g0, g1, g2, g3, g4, g5, g6⟩ := seven M2.out.blk
  have hX := M2.out.safe.1
  go_upto_if 16 with fail
  go_cut [] (fun wx => Hid (Sm1 x (w.alloc (.cells (smC stm0 (.slice none 0 0) (.slice none 0 0)) 33)) sv s (w.heap.size + 1) { stm0 with kind := 6, items := q.1 } q.2 wx))
  case first =>
    have hq := Hq.out
    unfold what at hq
    cases bx with
    | true =>
      rw [if_pos Hbx.out] at hq
      have Hq' := Lib.hid (Option.some.inj hq)
      have e2 := Lib.hid (next_take Hbx.out).1
      clear hq
      go_wp2_with fail
      go_meet
      exact ⟨_, _, _, _, _, by rw [← Hq'.out]; have := M2.out; rw [e2.out] at this; exact this.alloc _⟩
    | false =>
      rw [if_neg (by rw [Hbx.out]; simp)] at hq
      have Hq' := Lib.hid hq
      have e2 := Lib.hid (need_no Hbx.out).2
      have m3 := M2.out.alloc (.cells #[.int .u8 T2.kind, .string ⟨T2.text.toArray⟩, .int .i64 T2.num, .int .i64 T2.pos] 41)
      rw [e2.out] at m3
      have M3 := Lib.hid m3
      clear hq m3
      go_wp2_with fail
      refine (items_calls n false M3.out.now.ps Hq'.out).mono ?_
      rintro e w4 ⟨lv4, sv4, vo4, vn4, ev4, nm4, rfl, h4⟩
      obtain ⟨ai4, ci4, rfl⟩ := own_form h4.out
      have Q4 := Lib.hid (M3.out.gave h4.now h4.held)
      have M4 := Lib.hid (M3.out.items h4)
      clear h4 k0 k1 k2 k3 k4 k5 k6 g0 g1 g2 g3 g4 g5 g6 hX
      obtain ⟨⟨k0, k1, k2, k3, k4, k5, k6⟩, g0, g1, g2, g3, g4, g5, g6⟩ := seven Q4.out.blk
      have hX := Q4.out.safe.1
      go_wp2_with fail
      go_meet
      exact ⟨_, _, _, _, _, M4.out⟩
  case rest =>
    clear k0 k1 k2 k3 k4 k5 k6 g0 g1 g2 g3 g4 g5 g6 hX
    obtain ⟨lv5, sv5, vi5, ve5, ev5, m5⟩ := hcut
    have M5 := Lib.hid m5
    obtain ⟨ai5, ci5, rfl⟩ := m5.its.sl
    obtain ⟨ae5, ce5, rfl⟩ := own_form m5.exp.row
    obtain ⟨⟨k0, k1, k2, k3, k4, k5, k6⟩, g0, g1, g2, g3, g4, g5, g6⟩ := seven m5.blk
    have hX := m5.safe.1
    clear m5
    go_wp2_with fail
    have A6 := Lib.hid (M5.out.alloc (.cells (strsC [kFROM]).toArray 9))
    have X6 := Lib.hid (texts_new M5.out.now.ps)
    have T6 := Lib.hid (fun (W : World) (B0 : Nat) (hB : W.heap.size = B0) => TextsAt.new' W [kFROM] 1 B0 _ 9 (0, 0) rfl rfl hB)
    refine (keys_callsC A6.out.now.ps _ 1 [kFROM] rfl (by omega) (T6.out _ _ (by simp)).2 (by have := X6.out.1; simpa using this) (by have := X6.out.2; simpa using this)).mono ?_
    generalize hs6 : q.2.keys [kFROM] = s6 at *
    have Hs6 := Lib.hid hs6
    clear hs6
    rintro e w6 ⟨rfl, lv6, h6⟩
    have M6 := Lib.hid (A6.out.cur h6 (by rw [← Hs6.out]; exact keys_steps _ _))
    clear h6
    clear k0 k1 k2 k3 k4 k5 k6 g0 g1 g2 g3 g4 g5 g6 hX
    obtain ⟨⟨k0, k1, k2, k3, k4, k5, k6⟩, g0, g1, g2, g3, g4, g5, g6⟩ := seven M6.out.blk
    have hX := M6.out.safe.1
    go_wp2_with fail
    refine (key_callsC M6.out.now.ps kHISTORY).mono ?_
    generalize hby : s6.next 2 [kHISTORY] = bh at *
    have Hby := Lib.hid hby
    clear hby
    rintro e w7 ⟨rfl, lv7, h7⟩
    have m7 := M6.out.cur h7 (after_steps _ _ _)
    have M7 := Lib.hid (m7.put 5 (.bool bh) { stm0 with kind := 6, items := q.1, history := bh } rfl rfl rfl)
    clear h7 k0 k1 k2 k3 k4 k5 k6 g0 g1 g2 g3 g4 g5 g6 hX
    obtain ⟨⟨k0, k1, k2, k3, k4, k5, k6⟩, g0, g1, g2, g3, g4, g5, g6⟩ := seven m7.blk
    have hX := m7.safe.1
    clear m7
    go_upto_if 31 with fail
    go_cut [] (fun wx => Hid (Sm1 x (w.alloc (.cells (smC stm0 (.slice none 0 0) (.slice none 0 0)) 33)) sv s (w.heap.size + 1) { stm0 with kind := 6, items := q.1, history := f.1, table := f.2.1 } f.2.2 wx))
    case first =>
      have hf := Hf.out
      unfold fromT at hf
      cases bh with
      | true =>
        rw [if_pos Hby.out] at hf
        simp only [] at hf
        have Hf' := Lib.hid hf
        have e7 := Lib.hid (next_take Hby.out).1
        clear hf
        clear k0 k1 k2 k3 k4 k5 k6 g0 g1 g2 g3 g4 g5 g6 hX
        obtain ⟨⟨k0, k1, k2, k3, k4, k5, k6⟩, g0, g1, g2, g3, g4, g5, g6⟩ := seven M7.out.blk
        have hX := M7.out.safe.1
        rw [e7.out] at M7
        go_wp2_with fail
        refine (sign_callsC M7.out.now.ps [40]).mono ?_
        rintro e w8 ⟨rfl, lv8, h8⟩
        have M8 := Lib.hid (M7.out.cur h8 (sign_steps _ _))
        clear h8
        clear k0 k1 k2 k3 k4 k5 k6 g0 g1 g2 g3 g4 g5 g6 hX
        obtain ⟨⟨k0, k1, k2, k3, k4, k5, k6⟩, g0, g1, g2, g3, g4, g5, g6⟩ := seven M8.out.blk
        have hX := M8.out.safe.1
        go_wp2_with fail
        refine (name_callsC M8.out.now.ps).mono ?_
        rintro e w9 ⟨rfl, lv9, h9⟩
        have M9 := Lib.hid (M8.out.cur h9 (name_steps _))
        clear h9
        clear k0 k1 k2 k3 k4 k5 k6 g0 g1 g2 g3 g4 g5 g6 hX
        obtain ⟨⟨k0, k1, k2, k3, k4, k5, k6⟩, g0, g1, g2, g3, g4, g5, g6⟩ := seven M9.out.blk
        have hX := M9.out.safe.1
        have M10 := Lib.hid (M9.out.put 1 (.string ⟨(s6.drop.sign [40]).nameT.toArray⟩) ({ stm0 with kind := 6, items := q.1, history := true, table := (s6.drop.sign [40]).nameT }) rfl rfl rfl)
        go_wp2_with fail
        refine (sign_callsC M10.out.now.ps [41]).mono ?_
        rintro e w11 ⟨rfl, lv11, h11⟩
        have M11 := Lib.hid (M10.out.cur h11 (sign_steps _ _))
        clear h11
        clear k0 k1 k2 k3 k4 k5 k6 g0 g1 g2 g3 g4 g5 g6 hX
        obtain ⟨⟨k0, k1, k2, k3, k4, k5, k6⟩, g0, g1, g2, g3, g4, g5, g6⟩ := seven M11.out.blk
        have hX := M11.out.safe.1
        go_wp2_with fail
        go_meet
        exact ⟨_, _, _, _, _, by rw [← Hf'.out]; exact M11.out⟩
      | false =>
        rw [if_neg (by rw [Hby.out]; simp)] at hf
        have Hf' := Lib.hid hf
        have e7 := Lib.hid (need_no Hby.out).2
        clear hf
        clear k0 k1 k2 k3 k4 k5 k6 g0 g1 g2 g3 g4 g5 g6 hX
        obtain ⟨⟨k0, k1, k2, k3, k4, k5, k6⟩, g0, g1, g2, g3, g4, g5, g6⟩ := seven M7.out.blk
        have hX := M7.out.safe.1
        rw [e7.out] at M7
        go_wp2_with fail
        refine (name_callsC M7.out.now.ps).mono ?_
        rintro e w8 ⟨rfl, lv8, h8⟩
        have M8 := Lib.hid (M7.out.cur h8 (name_steps _))
        clear h8
        clear k0 k1 k2 k3 k4 k5 k6 g0 g1 g2 g3 g4 g5 g6 hX
        obtain ⟨⟨k0, k1, k2, k3, k4, k5, k6⟩, g0, g1, g2, g3, g4, g5, g6⟩ := seven M8.out.blk
        have hX := M8.out.safe.1
        have M9 := Lib.hid (M8.out.put 1 (.string ⟨s6.nameT.toArray⟩) ({ stm0 with kind := 6, items := q.1, history := false, table := s6.nameT }) rfl rfl rfl)
        go_wp2_with fail
        go_meet
        exact ⟨_, _, _, _, _, by rw [← Hf'.out]; exact M9.out⟩
    case rest =>
      clear k0 k1 k2 k3 k4 k5 k6 g0 g1 g2 g3 g4 g5 g6 hX
      obtain ⟨lv20, sv20, vi20, ve20, ev20, m20⟩ := hcut
      have M20 := Lib.hid m20
      obtain ⟨ai20, ci20, rfl⟩ := m20.its.sl
      obtain ⟨aq20, cq20, rfl⟩ := own_form m20.exp.row
      obtain ⟨⟨k0, k1, k2, k3, k4, k5, k6⟩, g0, g1, g2, g3, g4, g5, g6⟩ := seven m20.blk
      have hX := m20.safe.1
      clear m20
      go_wp2_with fail
      refine (where_calls n M20.out.now.ps Hp.out).mono ?_
      rintro e w21 ⟨lv21, sv21, v21, rfl, h21, hv21, hf21, hh21⟩
      obtain ⟨ae21, ce21, rfl⟩ := own_form hv21.row
      have Q21 := Lib.hid (M20.out.gave h21 hh21)
      have M21 := Lib.hid (M20.out.row h21 hv21 hf21 hh21)
      clear h21 hv21 hf21 hh21
      clear k0 k1 k2 k3 k4 k5 k6 g0 g1 g2 g3 g4 g5 g6 hX
      obtain ⟨⟨k0, k1, k2, k3, k4, k5, k6⟩, g0, g1, g2, g3, g4, g5, g6⟩ := seven Q21.out.blk
      have hX := Q21.out.safe.1
      go_wp2_with fail
      refine (key_callsC M21.out.now.ps kORDER).mono ?_
      generalize hbz : p.2.next 2 [kORDER] = bo at *
      have Hbz := Lib.hid hbz
      clear hbz
      rintro e w22 ⟨rfl, lv22, h22⟩
      have M22 := Lib.hid (M21.out.cur h22 (after_steps _ _ _))
      clear h22 k0 k1 k2 k3 k4 k5 k6 g0 g1 g2 g3 g4 g5 g6 hX
      obtain ⟨⟨k0, k1, k2, k3, k4, k5, k6⟩, g0, g1, g2, g3, g4, g5, g6⟩ := seven M22.out.blk
      have hX := M22.out.safe.1
      go_upto_if 56 with fail
      go_cut [] (fun wx => Hid (Sm1 x (w.alloc (.cells (smC stm0 (.slice none 0 0) (.slice none 0 0)) 33)) sv s (w.heap.size + 1) r.1 r.2 wx))
      case first =>
        have ho := Ho.out
        unfold orderT at ho
        cases bo with
        | true =>
          rw [if_pos Hbz.out] at ho
          simp only [] at ho
          generalize hs22 : p.2.drop.keys [kBY] = s22 at *
          have Hs22 := Lib.hid hs22
          have Ho' := Lib.hid ho
          have e22 := Lib.hid (next_take Hbz.out).1
          clear ho hs22
          rw [e22.out] at M22
          go_wp2_with fail
          have A23 := Lib.hid (M22.out.alloc (.cells (strsC [kBY]).toArray 9))
          have X23 := Lib.hid (texts_new M22.out.now.ps)
          have T23 := Lib.hid (fun (W : World) (B0 : Nat) (hB : W.heap.size = B0) => TextsAt.new' W [kBY] 1 B0 _ 9 (0, 0) rfl rfl hB)
          refine (keys_callsC A23.out.now.ps _ 1 [kBY] rfl (by omega) (T23.out _ _ (by simp)).2 (by have := X23.out.1; simpa using this) (by have := X23.out.2; simpa using this)).mono ?_
          rw [Hs22.out]
          rintro e w23 ⟨rfl, lv23, h23⟩
          have M23 := Lib.hid (A23.out.cur h23 (by rw [← Hs22.out]; exact keys_steps _ _))
          clear h23
          clear k0 k1 k2 k3 k4 k5 k6 g0 g1 g2 g3 g4 g5 g6 hX
          obtain ⟨⟨k0, k1, k2, k3, k4, k5, k6⟩, g0, g1, g2, g3, g4, g5, g6⟩ := seven M23.out.blk
          have hX := M23.out.safe.1
          go_wp2_with fail
          refine (name_callsC M23.out.now.ps).mono ?_
          rintro e w24 ⟨rfl, lv24, h24⟩
          have M24 := Lib.hid (M23.out.cur h24 (name_steps _))
          clear h24
          clear k0 k1 k2 k3 k4 k5 k6 g0 g1 g2 g3 g4 g5 g6 hX
          obtain ⟨⟨k0, k1, k2, k3, k4, k5, k6⟩, g0, g1, g2, g3, g4, g5, g6⟩ := seven M24.out.blk
          have hX := M24.out.safe.1
          have M25 := Lib.hid (M24.out.put 2 (.string ⟨s22.nameT.toArray⟩) ({ stm0 with kind := 6, items := q.1, history := f.1, table := f.2.1, expr := p.1, field := s22.nameT }) rfl rfl rfl)
          go_wp2_with fail
          refine (key_callsC M25.out.now.ps kDESC).mono ?_
          generalize hbd : s22.name.next 2 [kDESC] = bd at *
          have Hbd := Lib.hid hbd
          clear hbd
          rintro e w27 ⟨rfl, lv27, h27⟩
          have m27 := M25.out.cur h27 (after_steps _ _ _)
          have M27 := Lib.hid (m27.put 6 (.bool bd) { stm0 with kind := 6, items := q.1, history := f.1, table := f.2.1, expr := p.1, field := s22.nameT, desc := bd } rfl rfl rfl)
          clear h27 k0 k1 k2 k3 k4 k5 k6 g0 g1 g2 g3 g4 g5 g6 hX
          obtain ⟨⟨k0, k1, k2, k3, k4, k5, k6⟩, g0, g1, g2, g3, g4, g5, g6⟩ := seven m27.blk
          have hX := m27.safe.1
          clear m27
          go_wp2_with fail
          go_meet
          exact ⟨_, _, _, _, _, by rw [← Hr.out, ← Ho'.out]; simp only []; exact M27.out⟩
        | false =>
          rw [if_neg (by rw [Hbz.out]; simp)] at ho
          have Ho' := Lib.hid ho
          have e22 := Lib.hid (need_no Hbz.out).2
          clear ho
          rw [e22.out] at M22
          go_wp2_with fail
          go_meet
          exact ⟨_, _, _, _, _, by rw [← Hr.out, ← Ho'.out]; exact M22.out⟩
      case rest =>
        clear k0 k1 k2 k3 k4 k5 k6 g0 g1 g2 g3 g4 g5 g6 hX
        obtain ⟨lv30, sv30, vi30, ve30, ev30, m30⟩ := hcut
        have M30 := Lib.hid m30
        obtain ⟨ai30, ci30, rfl⟩ := m30.its.sl
        obtain ⟨aq30, cq30, rfl⟩ := own_form m30.exp.row
        obtain ⟨⟨k0, k1, k2, k3, k4, k5, k6⟩, g0, g1, g2, g3, g4, g5, g6⟩ := seven m30.blk
        have hX := m30.safe.1
        have hs0 := Hsafe.out.now m30.now
        have hb0 := (Hsafe.out.heap m30.now).trans Hblk.out
        have Hs0 := Lib.hid hs0
        obtain ⟨⟨j0, j1, j2, j3, j4, j5, j6⟩, l0, l1, l2, l3, l4, l5, l6⟩ := seven hb0
        have hX0 := hs0.1
        have Hfin := Lib.hid ((m30.weaken H0.out Hold.out).aside (B0 := w.heap.size) (Nat.le_refl _) hs0 (by omega) (fun v hv e => by have := m30.fr v hv _ e; rw [HB0.out] at this; omega) (again_facts _ _ r.1 (.slice ai30 r.1.items.length ci30) (.slice aq30 r.1.expr.length cq30)).1 (again_facts _ _ _ _ _).2.1 (again_facts _ _ _ _ _).2.2)
        clear m30 hs0 hb0
        go_wp2_with fail
        exact bodyPost_ret (v := smV r.1 (.slice ai30 r.1.items.length ci30) (.slice aq30 r.1.expr.length cq30)) (by simp [smV, smC, results, Tryz.results89, go_sem, j0, j1, j2, j3, j4, j5, j6]) rfl ⟨_, _, _, _, _, _, rfl, Hfin.out⟩

end Go.Proofs.YtcjmhmmjfgjcnaaGreatDoor.Pa

/- The parser: stmt whole. -/
namespace Go.Proofs.YtcjmhmmjfgjcnaaGreatDoor.Pa
open Go.RowKit Go.Proofs.YtcjmhmmjfgjcnaaGreatDoor.Lx
variable {x : Px}

set_option maxHeartbeats 2000000 in
set_option maxRecDepth 100000 in
theorem stmt_select (n : Nat) {w : World} {lv sv : Value} {s : St} (h : PS x w lv sv s) (t1 : s.next 2 [kCREATE] = false) (t2 : s.next 2 [kINSERT] = false) (t3 : s.next 2 [kUPDATE] = false) (t4 : s.next 2 [kDELETE] = false) (t5 : s.next 2 [kSELECT] = true) {r : Stm × St} (hp : picked n s.drop = some r) :
    Calls Tryz.prog 41 #[.pointer (some ⟨x.B, 0, none⟩)] w (GaveSm x w sv s r.1 r.2) := by
  have M0 := Lib.hid (SmM.start h stm0 rfl rfl)
  have T1 := Lib.hid t1
  have T1b := Lib.hid (need_no t1).2
  have T2 := Lib.hid t2
  have T2b := Lib.hid (need_no t2).2
  have T3 := Lib.hid t3
  have T3b := Lib.hid (need_no t3).2
  have T4 := Lib.hid t4
  have T4b := Lib.hid (need_no t4).2
  have T5 := Lib.hid t5
  have T5b := Lib.hid (next_take t5).1
  have Hp := Lib.hid hp
  clear h t1 t2 t3 t4 t5 hp
  go_enter Tryz.func41, Tryz.ntmps41
  go_wp2_with fail
  refine (key_callsC M0.out.now.ps kCREATE).mono ?_
  rw [T1.out, T1b.out]
  rintro e w1 ⟨rfl, lv1, h1⟩
  have M1 := Lib.hid (M0.out.cur h1 rfl)
  clear h1
  obtain ⟨⟨k0, k1, k2, k3, k4, k5, k6⟩, g0, g1, g2, g3, g4, g5, g6⟩ := seven M1.out.blk
  have hX := M1.out.safe.1
  go_wp2_with fail
  refine (key_callsC M1.out.now.ps kINSERT).mono ?_
  rw [T2.out, T2b.out]
  rintro e w2 ⟨rfl, lv2, h2⟩
  have M2 := Lib.hid (M1.out.cur h2 rfl)
  clear h2
  clear k0 k1 k2 k3 k4 k5 k6 g0 g1 g2 g3 g4 g5 g6 hX
  obtain ⟨⟨k0, k1, k2, k3, k4, k5, k6⟩, g0, g1, g2, g3, g4, g5, g6⟩ := seven M2.out.blk
  have hX := M2.out.safe.1
  go_wp2_with fail
  refine (key_callsC M2.out.now.ps kUPDATE).mono ?_
  rw [T3.out, T3b.out]
  rintro e w3 ⟨rfl, lv3, h3⟩
  have M3 := Lib.hid (M2.out.cur h3 rfl)
  clear h3
  clear k0 k1 k2 k3 k4 k5 k6 g0 g1 g2 g3 g4 g5 g6 hX
  obtain ⟨⟨k0, k1, k2, k3, k4, k5, k6⟩, g0, g1, g2, g3, g4, g5, g6⟩ := seven M3.out.blk
  have hX := M3.out.safe.1
  go_wp2_with fail
  refine (key_callsC M3.out.now.ps kDELETE).mono ?_
  rw [T4.out, T4b.out]
  rintro e w4 ⟨rfl, lv4, h4⟩
  have M4 := Lib.hid (M3.out.cur h4 rfl)
  clear h4
  clear k0 k1 k2 k3 k4 k5 k6 g0 g1 g2 g3 g4 g5 g6 hX
  obtain ⟨⟨k0, k1, k2, k3, k4, k5, k6⟩, g0, g1, g2, g3, g4, g5, g6⟩ := seven M4.out.blk
  have hX := M4.out.safe.1
  go_wp2_with fail
  refine (key_callsC M4.out.now.ps kSELECT).mono ?_
  rw [T5.out, T5b.out]
  rintro e w5 ⟨rfl, lv5, h5⟩
  have M5 := Lib.hid (M4.out.cur h5 rfl)
  clear h5
  clear k0 k1 k2 k3 k4 k5 k6 g0 g1 g2 g3 g4 g5 g6 hX
  obtain ⟨⟨k0, k1, k2, k3, k4, k5, k6⟩, g0, g1, g2, g3, g4, g5, g6⟩ := seven M5.out.blk
  have hX := M5.out.safe.1
  go_wp2_with fail
  refine (picked_calls n M5.out.now.ps Hp.out).mono ?_
  rintro e w6 ⟨lv6, sv6, Bs6, vi6, ve6, ev6, rfl, h6⟩
  obtain ⟨ai6, ci6, rfl⟩ := h6.its.sl
  obtain ⟨aq6, cq6, rfl⟩ := own_form h6.exp.row
  have mb := M5.out.bare h6.now
  have hz := M5.out.safe.1
  have Mf := Lib.hid (mb.all r.1 _ _ ev6 (h6.its.re (fun e => by have := h6.fr _ (by simp) _ e; omega) (fun u hu e => by have := h6.fr u (by simp [hu]) _ e; omega)) h6.exp (fun e => by have := h6.fr _ (List.mem_cons_of_mem _ (List.mem_cons_self)) _ e; omega) (fun v hv b hb => Nat.le_trans M5.out.now.keep.1 (h6.fr v hv b hb)))
  clear k0 k1 k2 k3 k4 k5 k6 g0 g1 g2 g3 g4 g5 g6 hX h6 hz
  obtain ⟨⟨k0, k1, k2, k3, k4, k5, k6⟩, g0, g1, g2, g3, g4, g5, g6⟩ := seven mb.blk
  have hX := mb.safe.1
  clear mb
  unfold smV smC
  go_wp2_with fail
  exact bodyPost_ret (v := smV r.1 (.slice ai6 r.1.items.length ci6) (.slice aq6 r.1.expr.length cq6)) (by simp [smV, smC, results, Tryz.results41, go_sem, k0, k1, k2, k3, k4, k5, k6]) rfl ⟨_, _, _, _, _, _, rfl, Mf.out⟩

theorem stmt_calls (n : Nat) {w : World} {lv sv : Value} {s : St} (h : PS x w lv sv s) {r : Stm × St} (hr : stmt n s = some r) :
    Calls Tryz.prog 41 #[.pointer (some ⟨x.B, 0, none⟩)] w (GaveSm x w sv s r.1 r.2) := by
  unfold stmt at hr
  cases t1 : s.next 2 [kCREATE] with
  | true =>
    rw [t1, if_pos rfl] at hr
    cases t2 : s.drop.next 2 [kTABLE] with
    | true =>
      rw [t2, if_pos rfl] at hr
      rw [← Option.some.inj hr]
      exact stmt_table h t1 t2
    | false =>
      rw [t2, if_neg (by simp)] at hr
      rw [← Option.some.inj hr]
      exact stmt_index h t1 t2
  | false =>
  rw [t1, if_neg (by simp)] at hr
  cases t2 : s.next 2 [kINSERT] with
  | true =>
    rw [t2, if_pos rfl] at hr
    obtain ⟨s2, he, hr2⟩ := Option.bind_eq_some_iff.1 hr
    rw [← Option.some.inj hr2]
    exact stmt_insert n h t1 t2 he
  | false =>
  rw [t2, if_neg (by simp)] at hr
  cases t3 : s.next 2 [kUPDATE] with
  | true =>
    rw [t3, if_pos rfl] at hr
    obtain ⟨q, hi, hr2⟩ := Option.bind_eq_some_iff.1 hr
    obtain ⟨p, hw, hr3⟩ := Option.bind_eq_some_iff.1 hr2
    rw [← Option.some.inj hr3]
    exact stmt_update n h t1 t2 t3 hi hw
  | false =>
  rw [t3, if_neg (by simp)] at hr
  cases t4 : s.next 2 [kDELETE] with
  | true =>
    rw [t4, if_pos rfl] at hr
    obtain ⟨p, hw, hr3⟩ := Option.bind_eq_some_iff.1 hr
    rw [← Option.some.inj hr3]
    exact stmt_delete n h t1 t2 t3 t4 hw
  | false =>
  rw [t4, if_neg (by simp)] at hr
  cases t5 : s.next 2 [kSELECT] with
  | true =>
    rw [t5, if_pos rfl] at hr
    exact stmt_select n h t1 t2 t3 t4 t5 hr
  | false =>
  rw [t5, if_neg (by simp)] at hr
  rw [← Option.some.inj hr]
  exact stmt_bad h t1 t2 t3 t4 t5

end Go.Proofs.YtcjmhmmjfgjcnaaGreatDoor.Pa

/- parse: names, numbers, paths, a struct's names. -/
namespace Go.Proofs.YtcjmhmmjfgjcnaaGreatDoor.Pa
open Go.RowKit Go.Proofs.YtcjmhmmjfgjcnaaGreatDoor.Lx

theorem showV_err (t : Tok) : ∃ (b : ByteArray) (c : Int), showV t = .tuple #[.string b, .int .i64 c] ∧ (c == 0) = showOk t := by
  unfold showV
  by_cases h : showOk t = true
  · rw [if_pos h]; exact ⟨_, _, rfl, by rw [h]; rfl⟩
  · rw [if_neg h]; exact ⟨_, _, rfl, by have : showOk t = false := by simpa using h
                                        rw [this]; rfl⟩
theorem nameS_calls (s : Txt) (w : World) (hs : s.length ≤ 1073741824) (he : Env w) :
    Calls Tryz.prog 61 #[.string ⟨s.toArray⟩] w fun e w' => e = .returned (.bool (nameB s)) ∧ Below w.heap.size w w' := by
  have Hs := Lib.hid (Show_calls ⟨1, s, 0, 0⟩ 0 w hs (by simp) (by simp) (by rw [showS_str _ (by simp) (by simp)]; simp only; omega) he)
  obtain ⟨b, c, hv, hc⟩ := showV_err ⟨1, s, 0, 0⟩
  rw [hv] at Hs
  have Hc := Lib.hid (show (c == 0) = nameB s from hc)
  clear hs he hv hc
  go_enter Tryz.func61, Tryz.ntmps61
  go_wp2_with fail
  refine Hs.out.mono ?_
  rintro e w1 ⟨rfl, hb⟩
  have Hb := Lib.hid hb
  clear hb
  go_wp2_with fail
  go_ret
  exact ⟨ret_bool Hc.out, Hb.out⟩

theorem parseInt_ok (s : ByteArray) (w : World) (hs : s.size ≤ 281474976710656) (v : Int) (hp : Lib.parseIntB 64 (L s) = .ok v) :
    Calls Tryz.prog 143 #[.string s, .int .i64 10, .int .i64 64] w fun e w' => e = .returned (.tuple #[.int .i64 v, .nilIface]) ∧ Below w.heap.size w w' := by
  refine (Tryz.strconv_ParseInt_10_at64_ok s (by omega) v hp w).mono ?_
  rintro e w' ⟨rfl, hw⟩
  refine ⟨rfl, ?_⟩
  rcases hw with rfl | ⟨t, rfl⟩
  · exact Below.refl _ _
  · exact ⟨rfl, rfl, rfl, by rw [Lib.bytesWorld_size]; omega, fun i hi => Lib.bytesWorld_at_old w _ _ i hi⟩
theorem parseInt_bad (s : ByteArray) (w : World) (hs : s.size ≤ 281474976710656) (he : Env w) (hp : ∀ u, Lib.parseIntB 64 (L s) ≠ .ok u) :
    Calls Tryz.prog 143 #[.string s, .int .i64 10, .int .i64 64] w fun e w' => (∃ (u : Int) (N : Nat), e = .returned (.tuple #[.int .i64 u, .iface 217 (.pointer (some ⟨N, 0, none⟩))])) ∧ Below w.heap.size w w' := by
  cases hq : Lib.parseIntB 64 (L s) with
  | ok u => exact absurd hq (hp u)
  | range =>
    obtain ⟨ev, h1, h2⟩ := he.rng
    refine (Tryz.strconv_ParseInt_10_at64_range s hs hq ev w h1 h2).mono ?_
    rintro e w' ⟨N, rfl, _, _, hb⟩
    exact ⟨⟨_, N, rfl⟩, hb⟩
  | _ =>
    obtain ⟨ev, h1, h2⟩ := he.syn
    refine (Any.strconv_ParseInt_10_at64_syntax Tryz.laysC174 s hs hq ev w h1 h2).mono ?_
    rintro e w' ⟨N, rfl, _, _, hb⟩
    exact ⟨⟨_, N, rfl⟩, hb⟩
theorem parseInt_bd {l : Txt} {v : Int} (h : Lib.parseIntB 64 l = .ok v) : -9223372036854775808 ≤ v ∧ v ≤ 9223372036854775807 := by
  unfold Lib.parseIntB at h
  split at h
  · cases h
  · simp only at h
    split at h
    · cases h
    · cases h
    · rename_i u hu
      split at h
      · cases h
      · split at h
        · cases h
        · simp only [Lib.NumEnd.ok.injEq] at h
          rename_i h1 h2
          simp only [not_and, Nat.not_le, Nat.not_lt] at h1 h2
          split at h <;> (rename_i h3; first | (have := h2 h3; omega) | (have := h1 h3; omega))

set_option maxRecDepth 100000 in
theorem number_calls' (s : Txt) (w : World) (hs : s.length ≤ 1073741824) (he : Env w) :
    Calls Tryz.prog 110 #[.string ⟨s.toArray⟩] w fun e w' => e = .returned (.bool (numberB s)) ∧ Below w.heap.size w w' := by
  have He := Lib.hid he
  have hsz : (⟨s.toArray⟩ : ByteArray).size ≤ 281474976710656 := by rw [size_mk]; omega
  by_cases hok : ∃ v, Lib.parseIntB 64 s = .ok v
  · obtain ⟨v, hv⟩ := hok
    obtain ⟨b1, b2⟩ := parseInt_bd hv
    have Hp := Lib.hid (parseInt_ok ⟨s.toArray⟩ w hsz v (by rw [L_mk]; exact hv))
    by_cases h0 : 0 ≤ v
    · have Hn := Lib.hid (show decide (Lib.itoa v = s) = numberB s by unfold numberB; rw [hv]; simp [h0])
      have Hq := Lib.hid (bytes_beq (Lib.itoa v) s)
      have hd : decide (0 ≤ v) = true := by simp [h0]
      clear hv he hs
      go_enter Tryz.func110, Tryz.ntmps110
      go_wp2_with fail
      refine Hp.out.mono ?_
      rintro e w1 ⟨rfl, hb⟩
      have Hb := Lib.hid hb
      clear hb
      go_wp2_with fail
      refine (formatInt_calls v w1 b1 b2 (He.out.below Hb.out)).mono ?_
      rintro e w2 ⟨rfl, hb2⟩
      have Hb2 := Lib.hid (Hb.out.trans (hb2.mono Hb.out.size))
      clear hb2
      go_wp2_with fail
      go_ret
      exact ⟨ret_bool (by rw [← Hn.out, ← Hq.out]; simp), Hb2.out⟩
    · have Hn := Lib.hid (show numberB s = false by unfold numberB; rw [hv]; simp [h0])
      have hd : decide (0 ≤ v) = false := by simp [h0]
      clear hv he hs
      go_enter Tryz.func110, Tryz.ntmps110
      go_wp2_with fail
      refine Hp.out.mono ?_
      rintro e w1 ⟨rfl, hb⟩
      have Hb := Lib.hid hb
      clear hb
      go_wp2_with fail
      go_ret
      exact ⟨ret_bool Hn.out.symm, Hb.out⟩
  · have Hn := Lib.hid (show numberB s = false by
      unfold numberB
      split
      · rename_i n hn; exact absurd ⟨n, hn⟩ hok
      · rfl)
    have Hp := Lib.hid (parseInt_bad ⟨s.toArray⟩ w hsz he (fun u hu => hok ⟨u, by rwa [L_mk] at hu⟩))
    clear hok he hs
    go_enter Tryz.func110, Tryz.ntmps110
    go_wp2_with fail
    refine Hp.out.mono ?_
    rintro e w1 ⟨⟨u, N, rfl⟩, hb⟩
    have Hb := Lib.hid hb
    clear hb
    go_wp2_with fail
    go_ret
    exact ⟨ret_bool Hn.out.symm, Hb.out⟩

theorem splitB_strs (s : Txt) (c : UInt8) : ((Lib.splitB ⟨#[c]⟩ 0 (Lib.countB ⟨s.toArray⟩ ⟨#[c]⟩) ⟨s.toArray⟩).map Value.string) = strsC (Lib.split s [c]) := by
  have h := Lib.splitB_data ⟨#[c]⟩ 0 (Lib.countB ⟨s.toArray⟩ ⟨#[c]⟩) ⟨s.toArray⟩
  have e : Lib.split s [c] = (Lib.splitB ⟨#[c]⟩ 0 (Lib.countB ⟨s.toArray⟩ ⟨#[c]⟩) ⟨s.toArray⟩).map (·.data.toList) := by
    rw [h]
    unfold Lib.split Lib.countB
    simp
  rw [e]
  unfold strsC
  rw [List.map_map]
  exact List.map_congr_left fun b _ => by simp
theorem split_len (s : Txt) (c : UInt8) : (Lib.split s [c]).length = Lib.countB ⟨s.toArray⟩ ⟨#[c]⟩ + 1 := by
  have h := congrArg List.length (splitB_strs s c)
  rw [List.length_map, Lib.splitB_all ⟨#[c]⟩ (Nat.le_refl 1) 0 _ _ rfl] at h
  simp only [strsC, List.length_map] at h
  exact h.symm
theorem split_calls (s : Txt) (c : UInt8) (w : World) (hs : s.length ≤ 1073741824) (he : Env w) :
    Calls Tryz.prog 109 #[.string ⟨s.toArray⟩, .string ⟨#[c]⟩] w fun e w' => e = .returned (.slice (some ⟨w.heap.size, 0, none⟩) (Lib.split s [c]).length (Lib.split s [c]).length) ∧ w.alloc (.cells (strsC (Lib.split s [c])).toArray 9) = w' := by
  obtain ⟨m, hm⟩ := he.max
  refine (Tryz.strings_Split ⟨s.toArray⟩ ⟨#[c]⟩ m w (by rw [size_mk]; omega) hm (Nat.le_refl 1)).mono ?_
  rintro e w' ⟨rfl, rfl⟩
  refine ⟨?_, ?_⟩
  · rw [split_len]
  · rw [splitB_strs]
theorem split_each (s : Txt) (c : UInt8) : ∀ t ∈ Lib.split s [c], t.length ≤ s.length := by
  have key : ∀ (k : Nat) (s : Txt), ∀ t ∈ Lib.splitK [c] 0 k s, t.length ≤ s.length := by
    intro k
    induction k with
    | zero => intro s t ht; simp [Lib.splitK] at ht; subst ht; exact Nat.le_refl _
    | succ k ih =>
      intro s t ht
      unfold Lib.splitK at ht
      split at ht
      · simp at ht; subst ht; exact Nat.le_refl _
      · rcases List.mem_cons.1 ht with h | h
        · subst h; rw [List.length_take]; omega
        · have := ih _ t h
          rw [List.length_drop] at this
          omega
  exact key _ s
theorem split_count (s : Txt) (c : UInt8) : (Lib.split s [c]).length ≤ s.length + 1 := by
  rw [split_len]
  have := Lib.countB_le ⟨#[c]⟩ (Nat.le_refl 1) s.length ⟨s.toArray⟩ (by rw [size_mk]; exact Nat.le_refl _)
  rw [size_mk] at this
  omega

end Go.Proofs.YtcjmhmmjfgjcnaaGreatDoor.Pa
