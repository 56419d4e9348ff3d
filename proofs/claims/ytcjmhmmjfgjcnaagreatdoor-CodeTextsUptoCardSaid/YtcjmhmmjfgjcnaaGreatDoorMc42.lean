/- Parts: PaK PaS PbG PbH PbI. -/
import Derived.Test.YtcjmhmmjfgjcnaaGreatDoorMc36
import Derived.Test.YtcjmhmmjfgjcnaaGreatDoorMc40
import Derived.Test.YtcjmhmmjfgjcnaaGreatDoorMc41
import Derived.Deep.DeepCutAuto
import Derived.RegionTactic

/- The parser: picked. -/
namespace Go.Proofs.YtcjmhmmjfgjcnaaGreatDoor.Pa
open Go.RowKit Go.Proofs.YtcjmhmmjfgjcnaaGreatDoor.Lx
variable {x : Px}
variable {w w0 w1 wr w' : World} {sv0 lv sv lv' sv' lv1 vi ve : Value} {s0 s s' : St} {Bs : Nat} {st : Stm} {evs : List Value}

theorem SmM.weaken (h : SmM x w1 sv0 s0 wr lv sv s Bs st vi ve evs) (hn : Now x w sv0 w1 lv1 sv0 s0) (hold : x.W.heap.size ≤ w.heap.size) : SmM x w sv0 s0 wr lv sv s Bs st vi ve evs :=
  ⟨hn.trans h.now, h.blk, h.safe, Nat.le_trans hn.keep.1 h.low, hold, h.its, h.exp, h.neE, fun v hv b hb => Nat.le_trans hn.keep.1 (h.fr v hv b hb)⟩
theorem SmM.aside (h : SmM x w sv0 s0 wr lv sv s Bs st vi ve evs) {B0 : Nat} (hlow : w.heap.size ≤ B0) (hS : SafeB x wr sv B0) (hne : B0 ≠ Bs) (hr : ∀ v ∈ vi :: ve :: evs, v.ownBlock ≠ some B0) (hz : w'.heap.size = wr.heap.size) (hos : ∀ b, b ≠ B0 → w'.heap[b]? = wr.heap[b]?)
    (hbel : ∀ base, base ≤ B0 → Below base wr w') : SmM x w sv0 s0 w' lv sv s Bs st vi ve evs := by
  have hz' : wr.heap.size ≤ w'.heap.size := by omega
  exact ⟨now_other h.now h.old hlow hS.2.1 hS.2.2 hz hos hbel, (hos Bs (fun e => hne e.symm)).trans h.blk, h.safe.grow hz', h.low, h.old,
    ⟨h.its.lenE, own_same h.its.row fun g hg _ => hos g (fun e => hr vi (by simp) (by rw [hg, e])), fun b hb => ⟨(h.its.safe b hb).1.grow hz', (h.its.safe b hb).2⟩, fun j h1 h2 => (h.its.exps j h1 h2).other hz' fun b hb => hos b (fun e => hr _ (List.mem_cons_of_mem _ (List.mem_cons_of_mem _ (List.getElem_mem h2))) (by rw [hb, e])), h.its.ne⟩,
    h.exp.other hz' fun b hb => hos b (fun e => hr ve (by simp) (by rw [hb, e])), h.neE, h.fr⟩
theorem SmM.bare (h : SmM x w0 sv0 s0 wr lv sv s Bs stm0 (.slice none 0 0) (.slice none 0 0) []) (hn : Now x wr sv w' lv' sv' s') : SmM x w0 sv0 s0 w' lv' sv' s' Bs stm0 (.slice none 0 0) (.slice none 0 0) [] :=
  ⟨h.now.trans hn, (h.safe.heap hn).trans h.blk, h.safe.now hn, h.low, h.old, ItH.nil _ _ _ _ _, HeldRow.nil _ _ _ _, h.neE, h.fr⟩
theorem ItH.re {its : List Itm} {v : Value} {B' : Nat} (h : ItH x w sv s Bs v its evs) (h1 : v.ownBlock ≠ some B') (h2 : ∀ u ∈ evs, u.ownBlock ≠ some B') : ItH x w sv s B' v its evs :=
  ⟨h.lenE, h.row, fun b hb => ⟨(h.safe b hb).1, fun e => h1 (by rw [hb, e])⟩, h.exps, h2⟩
theorem ItH.sl {its : List Itm} {v : Value} (h : ItH x w sv s Bs v its evs) : ∃ a c, v = .slice a its.length c := own_form h.row

theorem again_facts (wr : World) (B0 : Nat) (st : Stm) (vi ve : Value) : (Pa.again wr B0 st vi ve).heap.size = wr.heap.size ∧ (∀ b, b ≠ B0 → (Pa.again wr B0 st vi ve).heap[b]? = wr.heap[b]?) ∧ ∀ base, base ≤ B0 → Below base wr (Pa.again wr B0 st vi ve) := by
  refine ⟨by simp [Pa.again], fun b hb => ?_, fun base hb => ((((((((Below.refl _ _).setCell hb _).setCell hb _).setCell hb _).setCell hb _).setCell hb _).setCell hb _).setCell hb _)⟩
  unfold Pa.again
  rw [Below.heap_setCell _ _ _ _ hb, Below.heap_setCell _ _ _ _ hb, Below.heap_setCell _ _ _ _ hb, Below.heap_setCell _ _ _ _ hb, Below.heap_setCell _ _ _ _ hb, Below.heap_setCell _ _ _ _ hb, Below.heap_setCell _ _ _ _ hb]

def Sm1 (x : Px) (w1 : World) (sv0 : Value) (s0 : St) (Bs : Nat) (st : Stm) (s : St) (wx : World) : Prop := ∃ lv sv vi ve evs, SmM x w1 sv0 s0 wx lv sv s Bs st vi ve evs

set_option maxHeartbeats 4000000 in
set_option maxRecDepth 100000 in
theorem picked_calls (n : Nat) {w : World} {lv sv : Value} {s : St} (h : PS x w lv sv s) {r : Stm × St} (hr : picked n s = some r) :
    Calls Tryz.prog 89 #[.pointer (some ⟨x.B, 0, none⟩)] w (GaveSm x w sv s r.1 r.2) := by
  unfold picked at hr
  obtain ⟨q, hq, hr1⟩ := Option.bind_eq_some_iff.1 hr
  simp only [] at hr1
  generalize hf : fromT (q.2.keys [kFROM]) = f at *
  obtain ⟨p, hp, hr2⟩ := Option.bind_eq_some_iff.1 hr1
  generalize ho : orderT p.2 = o at *
  have hr3 := Option.some.inj hr2
  have hold := h.bel.size
  have Hold := Lib.hid hold
  have H0 := Lib.hid ((Now.refl h).alloc (.cells (smC stm0 (.slice none 0 0) (.slice none 0 0)) 33))
  have Hsafe := Lib.hid (SafeB.new h (.cells (smC stm0 (.slice none 0 0) (.slice none 0 0)) 33))
  have Hblk := Lib.hid (heap_alloc_new w (.cells (smC stm0 (.slice none 0 0) (.slice none 0 0)) 33))
  have M0 := Lib.hid (SmM.start (h.step (alloc_below w (.cells (smC stm0 (.slice none 0 0) (.slice none 0 0)) 33))) { stm0 with kind := 6 } rfl rfl)
  have hB0 : (w.alloc (.cells (smC stm0 (.slice none 0 0) (.slice none 0 0)) 33)).heap.size = w.heap.size + 1 := by simp
  rw [hB0] at M0
  have Hq := Lib.hid hq
  have Hf := Lib.hid hf
  have Hp := Lib.hid hp
  have Ho := Lib.hid ho
  have Hr := Lib.hid hr3
  have HB0 := Lib.hid hB0
  clear h hr hq hr1 hf hp hr2 ho hr3 hold hB0
  go_enter Tryz.func89, Tryz.ntmps89
  go_wp2_with fail
  refine (take_callsC (M0.out.alloc _).now.ps 5 _ [[42]] (StrsAt.new' _ [[42]] 1 _ _ _ _ rfl rfl (by simp)) (by simp)).mono ?_
  generalize hbx : s.next 5 [[42]] = bx at *
  have Hbx := Lib.hid hbx
  clear hbx
  rintro e w2 ⟨rfl, lv2, h2⟩
  have M2 := Lib.hid ((M0.out.alloc _).cur h2 (after_steps _ _ _))
  generalize hT : s.taken 5 [[42]] = T2 at *
  clear hT h2
  unfold Tok.val
  obtain ⟨⟨k0, k1, k2, k3, k4, k5, k6⟩, g0, g1, g2, g3, g4, g5, g6⟩ := seven M2.out.blk
  have hX := M2.out.safe.1
  go_upto_if 16 with fail
  go_cut [] (fun wx => Hid (Sm1 x (w.alloc (.cells (smC stm0 (.slice none 0 0) (.slice none 0 0)) 33)) sv s (w.heap.size + 1) { stm0 with kind := 6, items := q.1 } q.2 wx))
  case first =>
    have hq := Hq.out
    unfold what at hq
    cases bx with
    | true =>
      rw [if_pos Hbx.out] at hq
      have Hq' := Lib.hid (Option.some.inj hq)
      have e2 := Lib.hid (next_take Hbx.out).1
      clear hq
      go_wp2_with fail
      go_meet
      exact ⟨_, _, _, _, _, by rw [← Hq'.out]; have := M2.out; rw [e2.out] at this; exact this.alloc _⟩
    | false =>
      rw [if_neg (by rw [Hbx.out]; simp)] at hq
      have Hq' := Lib.hid hq
      have e2 := Lib.hid (need_no Hbx.out).2
      have m3 := M2.out.alloc (.cells #[.int .u8 T2.kind, .string ⟨T2.text.toArray⟩, .int .i64 T2.num, .int .i64 T2.pos] 41)
      rw [e2.out] at m3
      have M3 := Lib.hid m3
      clear hq m3
      go_wp2_with fail
      refine (items_calls n false M3.out.now.ps Hq'.out).mono ?_
      rintro e w4 ⟨lv4, sv4, vo4, vn4, ev4, nm4, rfl, h4⟩
      obtain ⟨ai4, ci4, rfl⟩ := own_form h4.out
      have Q4 := Lib.hid (M3.out.gave h4.now h4.held)
      have M4 := Lib.hid (M3.out.items h4)
      clear h4 k0 k1 k2 k3 k4 k5 k6 g0 g1 g2 g3 g4 g5 g6 hX
      obtain ⟨⟨k0, k1, k2, k3, k4, k5, k6⟩, g0, g1, g2, g3, g4, g5, g6⟩ := seven Q4.out.blk
      have hX := Q4.out.safe.1
      go_wp2_with fail
      go_meet
      exact ⟨_, _, _, _, _, M4.out⟩
  case rest =>
    clear k0 k1 k2 k3 k4 k5 k6 g0 g1 g2 g3 g4 g5 g6 hX
    obtain ⟨lv5, sv5, vi5, ve5, ev5, m5⟩ := hcut
    have M5 := Lib.hid m5
    obtain ⟨ai5, ci5, rfl⟩ := m5.its.sl
    obtain ⟨ae5, ce5, rfl⟩ := own_form m5.exp.row
    obtain ⟨⟨k0, k1, k2, k3, k4, k5, k6⟩, g0, g1, g2, g3, g4, g5, g6⟩ := seven m5.blk
    have hX := m5.safe.1
    clear m5
    go_wp2_with fail
    have A6 := Lib.hid (M5.out.alloc (.cells (strsC [kFROM]).toArray 9))
    have X6 := Lib.hid (texts_new M5.out.now.ps)
    have T6 := Lib.hid (fun (W : World) (B0 : Nat) (hB : W.heap.size = B0) => TextsAt.new' W [kFROM] 1 B0 _ 9 (0, 0) rfl rfl hB)
    refine (keys_callsC A6.out.now.ps _ 1 [kFROM] rfl (by omega) (T6.out _ _ (by simp)).2 (by have := X6.out.1; simpa using this) (by have := X6.out.2; simpa using this)).mono ?_
    generalize hs6 : q.2.keys [kFROM] = s6 at *
    have Hs6 := Lib.hid hs6
    clear hs6
    rintro e w6 ⟨rfl, lv6, h6⟩
    have M6 := Lib.hid (A6.out.cur h6 (by rw [← Hs6.out]; exact keys_steps _ _))
    clear h6
    clear k0 k1 k2 k3 k4 k5 k6 g0 g1 g2 g3 g4 g5 g6 hX
    obtain ⟨⟨k0, k1, k2, k3, k4, k5, k6⟩, g0, g1, g2, g3, g4, g5, g6⟩ := seven M6.out.blk
    have hX := M6.out.safe.1
    go_wp2_with fail
    refine (key_callsC M6.out.now.ps kHISTORY).mono ?_
    generalize hby : s6.next 2 [kHISTORY] = bh at *
    have Hby := Lib.hid hby
    clear hby
    rintro e w7 ⟨rfl, lv7, h7⟩
    have m7 := M6.out.cur h7 (after_steps _ _ _)
    have M7 := Lib.hid (m7.put 5 (.bool bh) { stm0 with kind := 6, items := q.1, history := bh } rfl rfl rfl)
    clear h7 k0 k1 k2 k3 k4 k5 k6 g0 g1 g2 g3 g4 g5 g6 hX
    obtain ⟨⟨k0, k1, k2, k3, k4, k5, k6⟩, g0, g1, g2, g3, g4, g5, g6⟩ := seven m7.blk
    have hX := m7.safe.1
    clear m7
    go_upto_if 31 with fail
    go_cut [] (fun wx => Hid (Sm1 x (w.alloc (.cells (smC stm0 (.slice none 0 0) (.slice none 0 0)) 33)) sv s (w.heap.size + 1) { stm0 with kind := 6, items := q.1, history := f.1, table := f.2.1 } f.2.2 wx))
    case first =>
      have hf := Hf.out
      unfold fromT at hf
      cases bh with
      | true =>
        rw [if_pos Hby.out] at hf
        simp only [] at hf
        have Hf' := Lib.hid hf
        have e7 := Lib.hid (next_take Hby.out).1
        clear hf
        clear k0 k1 k2 k3 k4 k5 k6 g0 g1 g2 g3 g4 g5 g6 hX
        obtain ⟨⟨k0, k1, k2, k3, k4, k5, k6⟩, g0, g1, g2, g3, g4, g5, g6⟩ := seven M7.out.blk
        have hX := M7.out.safe.1
        rw [e7.out] at M7
        go_wp2_with fail
        refine (sign_callsC M7.out.now.ps [40]).mono ?_
        rintro e w8 ⟨rfl, lv8, h8⟩
        have M8 := Lib.hid (M7.out.cur h8 (sign_steps _ _))
        clear h8
        clear k0 k1 k2 k3 k4 k5 k6 g0 g1 g2 g3 g4 g5 g6 hX
        obtain ⟨⟨k0, k1, k2, k3, k4, k5, k6⟩, g0, g1, g2, g3, g4, g5, g6⟩ := seven M8.out.blk
        have hX := M8.out.safe.1
        go_wp2_with fail
        refine (name_callsC M8.out.now.ps).mono ?_
        rintro e w9 ⟨rfl, lv9, h9⟩
        have M9 := Lib.hid (M8.out.cur h9 (name_steps _))
        clear h9
        clear k0 k1 k2 k3 k4 k5 k6 g0 g1 g2 g3 g4 g5 g6 hX
        obtain ⟨⟨k0, k1, k2, k3, k4, k5, k6⟩, g0, g1, g2, g3, g4, g5, g6⟩ := seven M9.out.blk
        have hX := M9.out.safe.1
        have M10 := Lib.hid (M9.out.put 1 (.string ⟨(s6.drop.sign [40]).nameT.toArray⟩) ({ stm0 with kind := 6, items := q.1, history := true, table := (s6.drop.sign [40]).nameT }) rfl rfl rfl)
        go_wp2_with fail
        refine (sign_callsC M10.out.now.ps [41]).mono ?_
        rintro e w11 ⟨rfl, lv11, h11⟩
        have M11 := Lib.hid (M10.out.cur h11 (sign_steps _ _))
        clear h11
        clear k0 k1 k2 k3 k4 k5 k6 g0 g1 g2 g3 g4 g5 g6 hX
        obtain ⟨⟨k0, k1, k2, k3, k4, k5, k6⟩, g0, g1, g2, g3, g4, g5, g6⟩ := seven M11.out.blk
        have hX := M11.out.safe.1
        go_wp2_with fail
        go_meet
        exact ⟨_, _, _, _, _, by rw [← Hf'.out]; exact M11.out⟩
      | false =>
        rw [if_neg (by rw [Hby.out]; simp)] at hf
        have Hf' := Lib.hid hf
        have e7 := Lib.hid (need_no Hby.out).2
        clear hf
        clear k0 k1 k2 k3 k4 k5 k6 g0 g1 g2 g3 g4 g5 g6 hX
        obtain ⟨⟨k0, k1, k2, k3, k4, k5, k6⟩, g0, g1, g2, g3, g4, g5, g6⟩ := seven M7.out.blk
        have hX := M7.out.safe.1
        rw [e7.out] at M7
        go_wp2_with fail
        refine (name_callsC M7.out.now.ps).mono ?_
        rintro e w8 ⟨rfl, lv8, h8⟩
        have M8 := Lib.hid (M7.out.cur h8 (name_steps _))
        clear h8
        clear k0 k1 k2 k3 k4 k5 k6 g0 g1 g2 g3 g4 g5 g6 hX
        obtain ⟨⟨k0, k1, k2, k3, k4, k5, k6⟩, g0, g1, g2, g3, g4, g5, g6⟩ := seven M8.out.blk
        have hX := M8.out.safe.1
        have M9 := Lib.hid (M8.out.put 1 (.string ⟨s6.nameT.toArray⟩) ({ stm0 with kind := 6, items := q.1, history := false, table := s6.nameT }) rfl rfl rfl)
        go_wp2_with fail
        go_meet
        exact ⟨_, _, _, _, _, by rw [← Hf'.out]; exact M9.out⟩
    case rest =>
      clear k0 k1 k2 k3 k4 k5 k6 g0 g1 g2 g3 g4 g5 g6 hX
      obtain ⟨lv20, sv20, vi20, ve20, ev20, m20⟩ := hcut
      have M20 := Lib.hid m20
      obtain ⟨ai20, ci20, rfl⟩ := m20.its.sl
      obtain ⟨aq20, cq20, rfl⟩ := own_form m20.exp.row
      obtain ⟨⟨k0, k1, k2, k3, k4, k5, k6⟩, g0, g1, g2, g3, g4, g5, g6⟩ := seven m20.blk
      have hX := m20.safe.1
      clear m20
      go_wp2_with fail
      refine (where_calls n M20.out.now.ps Hp.out).mono ?_
      rintro e w21 ⟨lv21, sv21, v21, rfl, h21, hv21, hf21, hh21⟩
      obtain ⟨ae21, ce21, rfl⟩ := own_form hv21.row
      have Q21 := Lib.hid (M20.out.gave h21 hh21)
      have M21 := Lib.hid (M20.out.row h21 hv21 hf21 hh21)
      clear h21 hv21 hf21 hh21
      clear k0 k1 k2 k3 k4 k5 k6 g0 g1 g2 g3 g4 g5 g6 hX
      obtain ⟨⟨k0, k1, k2, k3, k4, k5, k6⟩, g0, g1, g2, g3, g4, g5, g6⟩ := seven Q21.out.blk
      have hX := Q21.out.safe.1
      go_wp2_with fail
      refine (key_callsC M21.out.now.ps kORDER).mono ?_
      generalize hbz : p.2.next 2 [kORDER] = bo at *
      have Hbz := Lib.hid hbz
      clear hbz
      rintro e w22 ⟨rfl, lv22, h22⟩
      have M22 := Lib.hid (M21.out.cur h22 (after_steps _ _ _))
      clear h22 k0 k1 k2 k3 k4 k5 k6 g0 g1 g2 g3 g4 g5 g6 hX
      obtain ⟨⟨k0, k1, k2, k3, k4, k5, k6⟩, g0, g1, g2, g3, g4, g5, g6⟩ := seven M22.out.blk
      have hX := M22.out.safe.1
      go_upto_if 56 with fail
      go_cut [] (fun wx => Hid (Sm1 x (w.alloc (.cells (smC stm0 (.slice none 0 0) (.slice none 0 0)) 33)) sv s (w.heap.size + 1) r.1 r.2 wx))
      case first =>
        have ho := Ho.out
        unfold orderT at ho
        cases bo with
        | true =>
          rw [if_pos Hbz.out] at ho
          simp only [] at ho
          generalize hs22 : p.2.drop.keys [kBY] = s22 at *
          have Hs22 := Lib.hid hs22
          have Ho' := Lib.hid ho
          have e22 := Lib.hid (next_take Hbz.out).1
          clear ho hs22
          rw [e22.out] at M22
          go_wp2_with fail
          have A23 := Lib.hid (M22.out.alloc (.cells (strsC [kBY]).toArray 9))
          have X23 := Lib.hid (texts_new M22.out.now.ps)
          have T23 := Lib.hid (fun (W : World) (B0 : Nat) (hB : W.heap.size = B0) => TextsAt.new' W [kBY] 1 B0 _ 9 (0, 0) rfl rfl hB)
          refine (keys_callsC A23.out.now.ps _ 1 [kBY] rfl (by omega) (T23.out _ _ (by simp)).2 (by have := X23.out.1; simpa using this) (by have := X23.out.2; simpa using this)).mono ?_
          rw [Hs22.out]
          rintro e w23 ⟨rfl, lv23, h23⟩
          have M23 := Lib.hid (A23.out.cur h23 (by rw [← Hs22.out]; exact keys_steps _ _))
          clear h23
          clear k0 k1 k2 k3 k4 k5 k6 g0 g1 g2 g3 g4 g5 g6 hX
          obtain ⟨⟨k0, k1, k2, k3, k4, k5, k6⟩, g0, g1, g2, g3, g4, g5, g6⟩ := seven M23.out.blk
          have hX := M23.out.safe.1
          go_wp2_with fail
          refine (name_callsC M23.out.now.ps).mono ?_
          rintro e w24 ⟨rfl, lv24, h24⟩
          have M24 := Lib.hid (M23.out.cur h24 (name_steps _))
          clear h24
          clear k0 k1 k2 k3 k4 k5 k6 g0 g1 g2 g3 g4 g5 g6 hX
          obtain ⟨⟨k0, k1, k2, k3, k4, k5, k6⟩, g0, g1, g2, g3, g4, g5, g6⟩ := seven M24.out.blk
          have hX := M24.out.safe.1
          have M25 := Lib.hid (M24.out.put 2 (.string ⟨s22.nameT.toArray⟩) ({ stm0 with kind := 6, items := q.1, history := f.1, table := f.2.1, expr := p.1, field := s22.nameT }) rfl rfl rfl)
          go_wp2_with fail
          refine (key_callsC M25.out.now.ps kDESC).mono ?_
          generalize hbd : s22.name.next 2 [kDESC] = bd at *
          have Hbd := Lib.hid hbd
          clear hbd
          rintro e w27 ⟨rfl, lv27, h27⟩
          have m27 := M25.out.cur h27 (after_steps _ _ _)
          have M27 := Lib.hid (m27.put 6 (.bool bd) { stm0 with kind := 6, items := q.1, history := f.1, table := f.2.1, expr := p.1, field := s22.nameT, desc := bd } rfl rfl rfl)
          clear h27 k0 k1 k2 k3 k4 k5 k6 g0 g1 g2 g3 g4 g5 g6 hX
          obtain ⟨⟨k0, k1, k2, k3, k4, k5, k6⟩, g0, g1, g2, g3, g4, g5, g6⟩ := seven m27.blk
          have hX := m27.safe.1
          clear m27
          go_wp2_with fail
          go_meet
          exact ⟨_, _, _, _, _, by rw [← Hr.out, ← Ho'.out]; simp only []; exact M27.out⟩
        | false =>
          rw [if_neg (by rw [Hbz.out]; simp)] at ho
          have Ho' := Lib.hid ho
          have e22 := Lib.hid (need_no Hbz.out).2
          clear ho
          rw [e22.out] at M22
          go_wp2_with fail
          go_meet
          exact ⟨_, _, _, _, _, by rw [← Hr.out, ← Ho'.out]; exact M22.out⟩
      case rest =>
        clear k0 k1 k2 k3 k4 k5 k6 g0 g1 g2 g3 g4 g5 g6 hX
        obtain ⟨lv30, sv30, vi30, ve30, ev30, m30⟩ := hcut
        have M30 := Lib.hid m30
        obtain ⟨ai30, ci30, rfl⟩ := m30.its.sl
        obtain ⟨aq30, cq30, rfl⟩ := own_form m30.exp.row
        obtain ⟨⟨k0, k1, k2, k3, k4, k5, k6⟩, g0, g1, g2, g3, g4, g5, g6⟩ := seven m30.blk
        have hX := m30.safe.1
        have hs0 := Hsafe.out.now m30.now
        have hb0 := (Hsafe.out.heap m30.now).trans Hblk.out
        have Hs0 := Lib.hid hs0
        obtain ⟨⟨j0, j1, j2, j3, j4, j5, j6⟩, l0, l1, l2, l3, l4, l5, l6⟩ := seven hb0
        have hX0 := hs0.1
        have Hfin := Lib.hid ((m30.weaken H0.out Hold.out).aside (B0 := w.heap.size) (Nat.le_refl _) hs0 (by omega) (fun v hv e => by have := m30.fr v hv _ e; rw [HB0.out] at this; omega) (again_facts _ _ r.1 (.slice ai30 r.1.items.length ci30) (.slice aq30 r.1.expr.length cq30)).1 (again_facts _ _ _ _ _).2.1 (again_facts _ _ _ _ _).2.2)
        clear m30 hs0 hb0
        go_wp2_with fail
        exact bodyPost_ret (v := smV r.1 (.slice ai30 r.1.items.length ci30) (.slice aq30 r.1.expr.length cq30)) (by simp [smV, smC, results, Tryz.results89, go_sem, j0, j1, j2, j3, j4, j5, j6]) rfl ⟨_, _, _, _, _, _, rfl, Hfin.out⟩

end Go.Proofs.YtcjmhmmjfgjcnaaGreatDoor.Pa

/- The parser: stmt whole. -/
namespace Go.Proofs.YtcjmhmmjfgjcnaaGreatDoor.Pa
open Go.RowKit Go.Proofs.YtcjmhmmjfgjcnaaGreatDoor.Lx
variable {x : Px}

set_option maxHeartbeats 2000000 in
set_option maxRecDepth 100000 in
theorem stmt_select (n : Nat) {w : World} {lv sv : Value} {s : St} (h : PS x w lv sv s) (t1 : s.next 2 [kCREATE] = false) (t2 : s.next 2 [kINSERT] = false) (t3 : s.next 2 [kUPDATE] = false) (t4 : s.next 2 [kDELETE] = false) (t5 : s.next 2 [kSELECT] = true) {r : Stm × St} (hp : picked n s.drop = some r) :
    Calls Tryz.prog 41 #[.pointer (some ⟨x.B, 0, none⟩)] w (GaveSm x w sv s r.1 r.2) := by
  have M0 := Lib.hid (SmM.start h stm0 rfl rfl)
  have T1 := Lib.hid t1
  have T1b := Lib.hid (need_no t1).2
  have T2 := Lib.hid t2
  have T2b := Lib.hid (need_no t2).2
  have T3 := Lib.hid t3
  have T3b := Lib.hid (need_no t3).2
  have T4 := Lib.hid t4
  have T4b := Lib.hid (need_no t4).2
  have T5 := Lib.hid t5
  have T5b := Lib.hid (next_take t5).1
  have Hp := Lib.hid hp
  clear h t1 t2 t3 t4 t5 hp
  go_enter Tryz.func41, Tryz.ntmps41
  go_wp2_with fail
  refine (key_callsC M0.out.now.ps kCREATE).mono ?_
  rw [T1.out, T1b.out]
  rintro e w1 ⟨rfl, lv1, h1⟩
  have M1 := Lib.hid (M0.out.cur h1 rfl)
  clear h1
  obtain ⟨⟨k0, k1, k2, k3, k4, k5, k6⟩, g0, g1, g2, g3, g4, g5, g6⟩ := seven M1.out.blk
  have hX := M1.out.safe.1
  go_wp2_with fail
  refine (key_callsC M1.out.now.ps kINSERT).mono ?_
  rw [T2.out, T2b.out]
  rintro e w2 ⟨rfl, lv2, h2⟩
  have M2 := Lib.hid (M1.out.cur h2 rfl)
  clear h2
  clear k0 k1 k2 k3 k4 k5 k6 g0 g1 g2 g3 g4 g5 g6 hX
  obtain ⟨⟨k0, k1, k2, k3, k4, k5, k6⟩, g0, g1, g2, g3, g4, g5, g6⟩ := seven M2.out.blk
  have hX := M2.out.safe.1
  go_wp2_with fail
  refine (key_callsC M2.out.now.ps kUPDATE).mono ?_
  rw [T3.out, T3b.out]
  rintro e w3 ⟨rfl, lv3, h3⟩
  have M3 := Lib.hid (M2.out.cur h3 rfl)
  clear h3
  clear k0 k1 k2 k3 k4 k5 k6 g0 g1 g2 g3 g4 g5 g6 hX
  obtain ⟨⟨k0, k1, k2, k3, k4, k5, k6⟩, g0, g1, g2, g3, g4, g5, g6⟩ := seven M3.out.blk
  have hX := M3.out.safe.1
  go_wp2_with fail
  refine (key_callsC M3.out.now.ps kDELETE).mono ?_
  rw [T4.out, T4b.out]
  rintro e w4 ⟨rfl, lv4, h4⟩
  have M4 := Lib.hid (M3.out.cur h4 rfl)
  clear h4
  clear k0 k1 k2 k3 k4 k5 k6 g0 g1 g2 g3 g4 g5 g6 hX
  obtain ⟨⟨k0, k1, k2, k3, k4, k5, k6⟩, g0, g1, g2, g3, g4, g5, g6⟩ := seven M4.out.blk
  have hX := M4.out.safe.1
  go_wp2_with fail
  refine (key_callsC M4.out.now.ps kSELECT).mono ?_
  rw [T5.out, T5b.out]
  rintro e w5 ⟨rfl, lv5, h5⟩
  have M5 := Lib.hid (M4.out.cur h5 rfl)
  clear h5
  clear k0 k1 k2 k3 k4 k5 k6 g0 g1 g2 g3 g4 g5 g6 hX
  obtain ⟨⟨k0, k1, k2, k3, k4, k5, k6⟩, g0, g1, g2, g3, g4, g5, g6⟩ := seven M5.out.blk
  have hX := M5.out.safe.1
  go_wp2_with fail
  refine (picked_calls n M5.out.now.ps Hp.out).mono ?_
  rintro e w6 ⟨lv6, sv6, Bs6, vi6, ve6, ev6, rfl, h6⟩
  obtain ⟨ai6, ci6, rfl⟩ := h6.its.sl
  obtain ⟨aq6, cq6, rfl⟩ := own_form h6.exp.row
  have mb := M5.out.bare h6.now
  have hz := M5.out.safe.1
  have Mf := Lib.hid (mb.all r.1 _ _ ev6 (h6.its.re (fun e => by have := h6.fr _ (by simp) _ e; omega) (fun u hu e => by have := h6.fr u (by simp [hu]) _ e; omega)) h6.exp (fun e => by have := h6.fr _ (List.mem_cons_of_mem _ (List.mem_cons_self)) _ e; omega) (fun v hv b hb => Nat.le_trans M5.out.now.keep.1 (h6.fr v hv b hb)))
  clear k0 k1 k2 k3 k4 k5 k6 g0 g1 g2 g3 g4 g5 g6 hX h6 hz
  obtain ⟨⟨k0, k1, k2, k3, k4, k5, k6⟩, g0, g1, g2, g3, g4, g5, g6⟩ := seven mb.blk
  have hX := mb.safe.1
  clear mb
  unfold smV smC
  go_wp2_with fail
  exact bodyPost_ret (v := smV r.1 (.slice ai6 r.1.items.length ci6) (.slice aq6 r.1.expr.length cq6)) (by simp [smV, smC, results, Tryz.results41, go_sem, k0, k1, k2, k3, k4, k5, k6]) rfl ⟨_, _, _, _, _, _, rfl, Mf.out⟩

theorem stmt_calls (n : Nat) {w : World} {lv sv : Value} {s : St} (h : PS x w lv sv s) {r : Stm × St} (hr : stmt n s = some r) :
    Calls Tryz.prog 41 #[.pointer (some ⟨x.B, 0, none⟩)] w (GaveSm x w sv s r.1 r.2) := by
  unfold stmt at hr
  cases t1 : s.next 2 [kCREATE] with
  | true =>
    rw [t1, if_pos rfl] at hr
    cases t2 : s.drop.next 2 [kTABLE] with
    | true =>
      rw [t2, if_pos rfl] at hr
      rw [← Option.some.inj hr]
      exact stmt_table h t1 t2
    | false =>
      rw [t2, if_neg (by simp)] at hr
      rw [← Option.some.inj hr]
      exact stmt_index h t1 t2
  | false =>
  rw [t1, if_neg (by simp)] at hr
  cases t2 : s.next 2 [kINSERT] with
  | true =>
    rw [t2, if_pos rfl] at hr
    obtain ⟨s2, he, hr2⟩ := Option.bind_eq_some_iff.1 hr
    rw [← Option.some.inj hr2]
    exact stmt_insert n h t1 t2 he
  | false =>
  rw [t2, if_neg (by simp)] at hr
  cases t3 : s.next 2 [kUPDATE] with
  | true =>
    rw [t3, if_pos rfl] at hr
    obtain ⟨q, hi, hr2⟩ := Option.bind_eq_some_iff.1 hr
    obtain ⟨p, hw, hr3⟩ := Option.bind_eq_some_iff.1 hr2
    rw [← Option.some.inj hr3]
    exact stmt_update n h t1 t2 t3 hi hw
  | false =>
  rw [t3, if_neg (by simp)] at hr
  cases t4 : s.next 2 [kDELETE] with
  | true =>
    rw [t4, if_pos rfl] at hr
    obtain ⟨p, hw, hr3⟩ := Option.bind_eq_some_iff.1 hr
    rw [← Option.some.inj hr3]
    exact stmt_delete n h t1 t2 t3 t4 hw
  | false =>
  rw [t4, if_neg (by simp)] at hr
  cases t5 : s.next 2 [kSELECT] with
  | true =>
    rw [t5, if_pos rfl] at hr
    exact stmt_select n h t1 t2 t3 t4 t5 hr
  | false =>
  rw [t5, if_neg (by simp)] at hr
  rw [← Option.some.inj hr]
  exact stmt_bad h t1 t2 t3 t4 t5

end Go.Proofs.YtcjmhmmjfgjcnaaGreatDoor.Pa

/- parse: items (the check's). -/
namespace Go.Proofs.YtcjmhmmjfgjcnaaGreatDoor.Pa
open Go.RowKit Go.Proofs.YtcjmhmmjfgjcnaaGreatDoor.Lx

def ItmsIn (w : World) (v : Value) (l : List Itm) : Prop := ∃ (a : Option Addr) (n c : Nat), v = .slice a n c ∧ l.length = n ∧ n ≤ c ∧ ∀ (i : Nat) (h : i < l.length), ∃ (g o : Nat) (ve : Value), a = some ⟨g, o, none⟩ ∧ w.cell? ⟨g, o + i * 2, none⟩ = some (.string ⟨l[i].name.toArray⟩) ∧ w.cell? ⟨g, o + i * 2 + 1, none⟩ = some ve ∧ StpsIn w ve l[i].expr
theorem ItmsIn.below {w w' : World} {v : Value} {l : List Itm} (h : ItmsIn w v l) (hb : Below w.heap.size w w') : ItmsIn w' v l := by
  obtain ⟨a, n, c, rfl, hn, hc, hj⟩ := h
  refine ⟨a, n, c, rfl, hn, hc, fun i hi => ?_⟩
  obtain ⟨g, o, ve, e, h0, h1, h2⟩ := hj i hi
  have hg : g < w.heap.size := World.block_lt_of_cell? _ _ h0
  exact ⟨g, o, ve, e, (hb.cell (p := ⟨g, _, none⟩) hg).trans h0, (hb.cell (p := ⟨g, _, none⟩) hg).trans h1, h2.below hb⟩

def itemB (x : Itm) : Bool := nameB x.name && rightB x.expr
theorem all_take_snoc {α : Type} (p : α → Bool) (l : List α) (k : Nat) (h : k < l.length) : (l.take (k + 1)).all p = ((l.take k).all p && p l[k]) := by
  rw [List.take_succ_eq_append_getElem h, List.all_append]; simp
theorem all_false_at {α : Type} (p : α → Bool) (l : List α) (k : Nat) (h : k < l.length) (e : p l[k] = false) : l.all p = false := by
  rw [List.all_eq_false]; exact ⟨l[k], List.getElem_mem h, by simp [e]⟩
theorem itemsB_false (l : List Itm) (k : Nat) (h : k < l.length) (e : itemB l[k] = false) : itemsB l = false := by
  unfold itemsB; rw [show (l.all fun x => nameB x.name && rightB x.expr) = false from all_false_at itemB l k h e]; rfl

set_option maxHeartbeats 1000000 in
set_option maxRecDepth 100000 in
theorem itemsS_calls (w : World) (v : Value) (l : List Itm) (h : ItmsIn w v l) (hl : l.length ≤ 1048575) (hs : ∀ t ∈ l, t.name.length ≤ 1073741824 ∧ t.expr.length ≤ 1048576 ∧ ∀ y ∈ t.expr, y.text.length ≤ 1048575) (he : Env w) :
    Calls Tryz.prog 62 #[v] w fun e w' => e = .returned (.bool (itemsB l)) ∧ Below w.heap.size w w' := by
  obtain ⟨a, n, c, rfl, hn, hc, hj⟩ := h
  have Hn := Lib.hid hn
  have Hj := Lib.hid hj
  have Hs := Lib.hid hs
  have He := Lib.hid he
  have hn2 : n ≤ 1048575 := by omega
  clear hn hj hs he
  go_enter Tryz.func62, Tryz.ntmps62
  go_wp2_with fail
  go_loopw [3, 8] (fun s3 i wr => ∃ (k a3 c3 : Nat) (b3 : Option Addr), k ≤ n ∧ i = .int .i64 k ∧ s3 = .slice b3 a3 c3 ∧ Hid (Below w.heap.size w wr ∧ OwnStrs wr w.heap.size (.slice b3 a3 c3) ((l.take k).map Itm.name) ∧ (l.take k).all itemB = true)) (fun _ i _ => n - (intOf i).toNat)
  case atStart => exact ⟨0, 0, 0, none, Nat.zero_le _, rfl, rfl, Below.refl _ _, OwnStrs.nil _ _, rfl⟩
  case round =>
    obtain ⟨k, a3, c3, b3, hk, rfl, rfl, hb, hown, hall⟩ := hrel
    have Hb := Lib.hid hb
    have Hown := Lib.hid hown
    have Hall := Lib.hid hall
    by_cases hlt : k < n
    · have hkl : k < l.length := by rw [Hn.out]; exact hlt
      obtain ⟨g, o, ve, rfl, q0, q1, ⟨a4, n4, c4, rfl, hst⟩⟩ := (show ∃ (g o : Nat) (ve : Value), a = some ⟨g, o, none⟩ ∧ wr.cell? ⟨g, o + k * 2, none⟩ = some (.string ⟨l[k].name.toArray⟩) ∧ wr.cell? ⟨g, o + k * 2 + 1, none⟩ = some ve ∧ StpsIn wr ve l[k].expr by
        obtain ⟨g, o, ve, e, h0, h1, h2⟩ := Hj.out k hkl
        have hg : g < w.heap.size := World.block_lt_of_cell? _ _ h0
        exact ⟨g, o, ve, e, (hb.cell (p := ⟨g, _, none⟩) hg).trans h0, (hb.cell (p := ⟨g, _, none⟩) hg).trans h1, h2.below hb⟩)
      have hst' : StpsIn wr (.slice a4 n4 c4) l[k].expr := ⟨a4, n4, c4, rfl, hst⟩
      obtain ⟨z1, z2, z3⟩ := Hs.out _ (List.getElem_mem hkl)
      have Hnm := Lib.hid (fun (w2 : World) (hb2 : Below wr.heap.size wr w2) => nameS_calls l[k].name w2 z1 ((He.out.below hb).below hb2))
      have Hrt := Lib.hid (fun (w2 : World) (hb2 : Below wr.heap.size wr w2) => Right_calls w2 _ l[k].expr (hst'.below hb2) z2 z3 ((He.out.below hb).below hb2))
      have Htk := Lib.hid (all_take_snoc itemB l k hkl)
      have Hfl := Lib.hid (itemsB_false l k hkl)
      have Htn := Lib.hid (show (l.take (k + 1)).map Itm.name = (l.take k).map Itm.name ++ [l[k].name] by rw [List.take_succ_eq_append_getElem hkl, List.map_append]; rfl)
      have Hlen := Lib.hid (show ((l.take k).map Itm.name).length = k by simp; omega)
      have hgw : g < wr.heap.size := World.block_lt_of_cell? _ _ q0
      clear hst hst' z1 z2 z3 hb hown hall
      unfold itemB at Htk Hfl
      generalize l[k] = it at *
      cases hnb : nameB it.name with
      | false =>
        have HR := Lib.hid (show itemsB l = false from Hfl.out (by rw [hnb]; rfl))
        rw [hnb] at Hnm
        clear Hfl Htk hnb
        go_wp2_with fail
        refine (Hnm.out _ (alloc_below _ _)).mono ?_
        rintro e w2 ⟨rfl, hb2⟩
        have Hb2 := Lib.hid (Hb.out.trans (((alloc_below wr _).trans (hb2.mono (alloc_below wr _).size)).mono Hb.out.size))
        clear hb2
        go_wp2_with fail
        go_ret
        exact ⟨ret_bool HR.out.symm, Hb2.out⟩
      | true =>
        rw [hnb] at Hnm
        have Hblk := Lib.hid (heap_alloc_new wr (.cells #[.string ⟨it.name.toArray⟩, .slice a4 n4 c4] 95))
        cases hrb : rightB it.expr with
        | false =>
          have HR := Lib.hid (show itemsB l = false from Hfl.out (by rw [hrb, Bool.and_false]))
          rw [hrb] at Hrt
          clear Hfl Htk hnb hrb
          go_wp2_with fail
          refine (Hnm.out _ (alloc_below _ _)).mono ?_
          rintro e w2 ⟨rfl, hb2⟩
          obtain ⟨⟨r0, r1⟩, -⟩ := two ((hb2.block wr.heap.size (by simp)).trans Hblk.out)
          have Hb2 := Lib.hid ((alloc_below wr _).trans (hb2.mono (alloc_below wr _).size))
          clear hb2
          go_wp2_with fail
          refine (Hrt.out _ Hb2.out).mono ?_
          rintro e w3 ⟨rfl, hb3⟩
          have Hb3 := Lib.hid (Hb.out.trans ((Hb2.out.trans (hb3.mono Hb2.out.size)).mono Hb.out.size))
          clear hb3
          go_wp2_with fail
          go_ret
          exact ⟨ret_bool HR.out.symm, Hb3.out⟩
        | true =>
          have Hall2 := Lib.hid (show (l.take (k + 1)).all itemB = true by rw [show (l.take (k + 1)).all itemB = _ from Htk.out, show ((l.take k).all fun x => nameB x.name && rightB x.expr) = true from Hall.out, hnb, hrb]; rfl)
          rw [hrb] at Hrt
          clear Hfl Htk hnb hrb
          obtain ⟨i0, hi0, hz0, hz1, hz2⟩ := info_parts strInfo
          have Hi0 := Lib.hid hi0
          have Hz0 := Lib.hid hz0
          have Hz1 := Lib.hid hz1
          have Hz2 := Lib.hid hz2
          clear hi0 hz0 hz1 hz2
          go_wp2_with fail
          refine (Hnm.out _ (alloc_below _ _)).mono ?_
          rintro e w2 ⟨rfl, hb2⟩
          obtain ⟨⟨r0, r1⟩, -⟩ := two ((hb2.block wr.heap.size (by simp)).trans Hblk.out)
          have Hlt2 := Lib.hid (show wr.heap.size < w2.heap.size by have := hb2.size; simp at this; omega)
          have Hblk2 := Lib.hid ((hb2.block wr.heap.size (by simp)).trans Hblk.out)
          have Hb2 := Lib.hid ((alloc_below wr _).trans (hb2.mono (alloc_below wr _).size))
          clear hb2
          go_wp2_with fail
          refine (Hrt.out _ Hb2.out).mono ?_
          rintro e w3 ⟨rfl, hb3⟩
          have hblk3 := (hb3.block wr.heap.size Hlt2.out).trans Hblk2.out
          obtain ⟨⟨s0, s1⟩, -⟩ := two hblk3
          have hb4 := Hb2.out.trans (hb3.mono Hb2.out.size)
          have hown4 : OwnStrs (w3.alloc (.cells #[.string ⟨it.name.toArray⟩] 9)) w.heap.size (.slice b3 a3 c3) ((l.take k).map Itm.name) :=
            own_same Hown.out fun g _ hg => (hb4.trans ((alloc_below w3 _).mono hb4.size)).block g hg
          unfold OwnStrs at hown4
          rw [show ((l.take k).map Itm.name).length = k from Hlen.out] at hown4
          have Hown4 := Lib.hid hown4
          have Hb4 := Lib.hid ((Hb.out.trans (hb4.mono Hb.out.size)).trans ((alloc_below w3 (.cells #[.string ⟨it.name.toArray⟩] 9)).mono (Nat.le_trans Hb.out.size hb4.size)))
          have Hnews := Lib.hid (World.news_of_block (cs := #[.string ⟨it.name.toArray⟩]) (t := 9) (fr := (0, 0)) (heap_alloc_new w3 (.cells #[.string ⟨it.name.toArray⟩] 9)))
          clear hb3 hb4 hown4 hblk3 r0 r1
          go_wp2_with (at_builtin; go_must (refine wpList_append_own_at _ rfl _ _ 93 rfl w.heap.size 9 i0 _ 1 16 Tryz.underlying93 Hi0.out Hz0.out Hz1.out Hz2.out rfl (by decide) _ k (strsC ((l.take k).map Itm.name)) rfl Hown4.out ⟨w3.heap.size, 0, none⟩ 1 1 [.string ⟨it.name.toArray⟩] rfl rfl ?c1 ?c2 ?c3 ?c4 ?c5 ?_))
          case c1 => exact Hnews.out
          case c2 => simp [Value.oneCell']
          case c3 => unfold maxLen; omega
          case c4 => omega
          case c5 => exact Hb4.out.size
          intro v7 w7 hown7 hgrow7 _ hat7
          have hown7' : OwnStrs w7 w.heap.size v7 ((l.take (k + 1)).map Itm.name) := by
            unfold OwnStrs
            rw [Htn.out, strsC_snoc, List.length_append, show ((l.take k).map Itm.name).length = k from Hlen.out, List.map_take]
            exact hown7
          obtain ⟨a7, c7, rfl⟩ := own_form hown7
          have Hown7 := Lib.hid hown7'
          have Hb7 := Lib.hid (Hb4.out.grown hgrow7 Hb4.out.size fun b hb => (World.ownsRow.lt Hown4.out b hb).1)
          clear hown7 hgrow7 hat7 hown7'
          go_wp2_with fail
          go_roundw
          case rel => exact ⟨k + 1, _, _, _, by omega, by go_num, rfl, Hb7.out, Hown7.out, Hall2.out⟩
          case measure => simp [intOf]; omega
    · have hkn : k = n := by omega
      subst hkn
      have hkk : l.take k = l := List.take_of_length_le (by rw [Hn.out]; exact Nat.le_refl _)
      rw [hkk] at hown hall
      have Hap := Lib.hid (fun hs => apart_calls wr _ (l.map Itm.name) hown.strs (by simp; omega) hs)
      have Hls := Lib.hid (show ∀ t ∈ l.map Itm.name, t.length ≤ 1073741824 from fun t ht => by
        obtain ⟨x, hx, rfl⟩ := List.mem_map.1 ht
        exact (Hs.out x hx).1)
      have HR := Lib.hid (show itemsB l = (decide (l.length ≤ 64) && decide ((l.map Itm.name).Nodup)) by
        unfold itemsB apartB; rw [show (l.all fun x => nameB x.name && rightB x.expr) = true from hall]; rfl)
      clear hown hall hb
      generalize hbd : decide ((l.map Itm.name).Nodup) = bd at *
      rw [Hn.out] at HR
      have HR' := Lib.hid HR.out
      clear HR hbd
      by_cases h64 : k ≤ 64
      · have b64 : decide ((k : Int) ≤ 64) = true := by rw [decide_eq_true_iff]; omega
        go_wp2_with fail
        refine (Hap.out Hls.out).mono ?_
        rintro e w8 ⟨rfl, hb8⟩
        have Hb8 := Lib.hid (Hb.out.trans (hb8.mono Hb.out.size))
        clear hb8
        go_wp2_with fail
        go_ret
        exact ⟨ret_bool (by rw [HR'.out, decide_eq_true h64]; simp), Hb8.out⟩
      · have b64 : decide ((k : Int) ≤ 64) = false := by rw [decide_eq_false_iff_not]; omega
        go_wp2_with fail
        go_ret
        exact ⟨ret_bool (by rw [HR'.out, decide_eq_false h64]; rfl), Hb.out⟩

end Go.Proofs.YtcjmhmmjfgjcnaaGreatDoor.Pa

/- parse: a read statement's rows, read. -/
namespace Go.Proofs.YtcjmhmmjfgjcnaaGreatDoor.Pa
open Go.RowKit Go.Proofs.YtcjmhmmjfgjcnaaGreatDoor.Lx

theorem itsC_get : ∀ (l : List Itm) (es : List Value) (i : Nat) (h : i < l.length) (h' : i < es.length), (itsC l es)[i * 2]? = some (.string ⟨l[i].name.toArray⟩) ∧ (itsC l es)[i * 2 + 1]? = some es[i]
  | [], _, i, h, _ => absurd h (Nat.not_lt_zero _)
  | _, [], i, _, h => absurd h (Nat.not_lt_zero _)
  | t :: l, e :: es, 0, _, _ => ⟨rfl, rfl⟩
  | t :: l, e :: es, i + 1, h, h' => by
    have hi := itsC_get l es i (by simpa using h) (by simpa using h')
    refine ⟨?_, ?_⟩
    · rw [show (i + 1) * 2 = i * 2 + 2 by omega]; exact hi.1
    · rw [show (i + 1) * 2 + 1 = i * 2 + 1 + 2 by omega]; exact hi.2
variable {x : Px}
end Go.Proofs.YtcjmhmmjfgjcnaaGreatDoor.Pa

/- parse: Check. -/
namespace Go.Proofs.YtcjmhmmjfgjcnaaGreatDoor.Pa
open Go.RowKit Go.Proofs.YtcjmhmmjfgjcnaaGreatDoor.Lx

def Stm.val (st : Stm) (vi ve : Value) : Value := .agg #[.int .u8 st.kind, .string ⟨st.table.toArray⟩, .string ⟨st.field.toArray⟩, vi, ve, .bool st.history, .bool st.desc]
def checkV (x : Stm) : Value := .int .i64 (if checkB x then 0 else 13)
structure CkM (w wx : World) (st : Stm) (vi ve : Value) (z : Stm) (zi ze : Value) : Prop where
  c1 : wx.heap[w.heap.size]? = some (.cells (smC st vi ve) 33)
  c2 : wx.heap[w.heap.size + 1]? = some (.cells (smC z zi ze) 33)
  bel : Below w.heap.size w wx
theorem CkM.step {w wx w' : World} {st z : Stm} {vi ve zi ze : Value} (h : CkM w wx st vi ve z zi ze) (hb : Below wx.heap.size wx w') : CkM w w' st vi ve z zi ze :=
  ⟨(hb.block _ (lt_of_heap h.c1)).trans h.c1, (hb.block _ (lt_of_heap h.c2)).trans h.c2, h.bel.trans (hb.mono h.bel.size)⟩
theorem CkM.start (w : World) (st z : Stm) (vi ve zi ze : Value) : CkM w ((w.alloc (.cells (smC st vi ve) 33)).alloc (.cells (smC z zi ze) 33)) st vi ve z zi ze := by
  refine ⟨(Below.heap_alloc _ _ _ (by simp)).trans (heap_alloc_new _ _), ?_, (((Below.refl _ _).alloc (Nat.le_refl _) _).alloc (by simp) _)⟩
  have := heap_alloc_new (w.alloc (.cells (smC st vi ve) 33)) (.cells (smC z zi ze) 33)
  simpa using this
theorem CkM.set {w wx : World} {st z : Stm} {vi ve zi ze : Value} (h : CkM w wx st vi ve z zi ze) (z' : Stm) (zi' ze' : Value) (i : Nat) (v : Value) (e : (smC z zi ze).setIfInBounds i v = smC z' zi' ze') :
    CkM w (wx.setCell ⟨w.heap.size + 1, i, none⟩ v) st vi ve z' zi' ze' :=
  ⟨(Below.heap_setCell _ _ _ _ (show w.heap.size ≠ w.heap.size + 1 by omega)).trans h.c1, set_block h.c2 _ _ e, h.bel.setCell (show w.heap.size ≤ w.heap.size + 1 by omega) _⟩

end Go.Proofs.YtcjmhmmjfgjcnaaGreatDoor.Pa
