/- Parts: PbMe. -/
import Derived.Test.YtcjmhmmjfgjcnaaGreatDoorMh33
import Derived.RegionTactic

/- parse: Check, where the expression is empty. -/
namespace Go.Proofs.YtcjmhmmjfgjcnaaGreatDoor.Pa
open Go.RowKit Go.Proofs.YtcjmhmmjfgjcnaaGreatDoor.Lx

set_option maxHeartbeats 8000000 in
set_option maxRecDepth 100000 in
theorem check_e (st : Stm) (w : World) (vi ve : Value) (h : CkArgs w st vi ve) (hex : st.expr.isEmpty = true) :
    Calls Tryz.prog 22 #[st.val vi ve] w fun e w' => e = .returned (checkV st) ∧ Below w.heap.size w w' := by
  have hi := h.hi
  have hv := h.hv
  obtain ⟨ai, ni, ci, rfl, hni, -⟩ := hi
  obtain ⟨ae, ne, ce, rfl, hne, -⟩ := hv
  have Hn := Lib.hid (fun (w2 : World) (hb : Below w.heap.size w w2) => nameS_calls st.table w2 h.ht (h.he.below hb))
  have Hf := Lib.hid (fun (w2 : World) (hb : Below w.heap.size w w2) => nameS_calls st.field w2 h.hf (h.he.below hb))
  have Hr := Lib.hid (fun (w2 : World) (hb : Below w.heap.size w w2) => Right_calls w2 _ st.expr (h.hv.below hb) h.hl h.hy (h.he.below hb))
  have Hc := Lib.hid (fun (w2 : World) (hb : Below w.heap.size w w2) => Closed_calls w2 _ st.expr (h.hv.below hb) (by have := h.hl; omega))
  have Hi := Lib.hid (fun (w2 : World) (hb : Below w.heap.size w w2) => itemsS_calls w2 _ st.items (h.hi.below hb) h.hil h.his (h.he.below hb))
  have Hs := Lib.hid (CkM.start w st ⟨st.kind, st.table, [], [], [], false, false⟩ (.slice ai ni ci) (.slice ae ne ce) (.slice none 0 0) (.slice none 0 0))
  have HV := Lib.hid (show checkV st = .int .i64 (if okS st && alikeS st then 0 else 13) by unfold checkV; rw [checkB_eq])
  have Hni := Lib.hid hni
  have Hne := Lib.hid hne
  have hil := h.hil
  have hel := h.hl
  rw [hni] at hil
  rw [hne] at hel
  have hne0 : ((ne : Int) == 0) = true := by
    have h0 : st.expr = [] := List.isEmpty_iff.1 hex
    have h1 : ne = 0 := by rw [← hne, h0]; rfl
    rw [beq_iff_eq]; omega
  have Hex := Lib.hid hex
  have Hemp := Lib.hid (len0 st.items)
  rw [hni] at Hemp
  clear h hni hne hex
  unfold Stm.val
  go_enter Tryz.func22, Tryz.ntmps22
  go_upto_block 0 with (first
    | (go_at_call 61; refine (Hn.out _ Hs.out.bel).mono ?_; rintro e w2 ⟨rfl, hb2⟩; have M2 := Lib.hid (Hs.out.step hb2); obtain ⟨⟨k0, k1, k2, k3, k4, k5, k6⟩, -⟩ := seven M2.out.c1; obtain ⟨⟨q0, q1, q2, q3, q4, q5, q6⟩, f0, f1, f2, f3, f4, f5, f6⟩ := seven M2.out.c2; clear hb2)
    | (go_at_call 24; refine (Hr.out _ M2.out.bel).mono ?_; rintro e w3 ⟨rfl, hb3⟩; have M3 := Lib.hid (M2.out.step hb3); clear hb3 k0 k1 k2 k3 k4 k5 k6 q0 q1 q2 q3 q4 q5 q6 f0 f1 f2 f3 f4 f5 f6; obtain ⟨⟨k0, k1, k2, k3, k4, k5, k6⟩, -⟩ := seven M3.out.c1; obtain ⟨⟨q0, q1, q2, q3, q4, q5, q6⟩, f0, f1, f2, f3, f4, f5, f6⟩ := seven M3.out.c2))
  have Hnb : ∃ nb, Hid (nameB st.table = nb) := ⟨_, rfl⟩
  obtain ⟨nb, Hnb⟩ := Hnb
  have Hrb : ∃ rb, Hid (rightB st.expr = rb) := ⟨_, rfl⟩
  obtain ⟨rb, Hrb⟩ := Hrb
  rw [Hnb.out]
  rw [Hrb.out] at Hr
  go_cut [4] (fun s4 wx => s4 = .bool (okS st) ∧ ∃ za zc xa xc, Hid (CkM w wx st (.slice ai ni ci) (.slice ae ne ce) (bareS st) (.slice za (bareS st).items.length zc) (.slice xa (bareS st).expr.length xc)))

  case first =>
    by_cases h1 : st.kind = 1
    · have HB := Lib.hid (show bareS st = ⟨st.kind, st.table, [], [], [], false, false⟩ by unfold bareS; simp [h1])
      have b1 : ((st.kind : Int) == 1) = true := by rw [beq_iff_eq]; omega
      have HO := Lib.hid (show okS st = (nb) by unfold okS; simp [h1, Hnb.out])
      clear h1
      go_wp2_with fail
      go_meet
      exact ⟨by rw [HO.out], none, 0, none, 0, by rw [HB.out]; exact M2.out⟩
    by_cases h2 : st.kind = 2
    · have HB := Lib.hid (show bareS st = ⟨st.kind, st.table, st.field, [], [], false, false⟩ by unfold bareS; simp [h2])
      have b1 : ((st.kind : Int) == 1) = false := by rw [beq_eq_false_iff_ne]; omega
      have b2 : ((st.kind : Int) == 2) = true := by rw [beq_iff_eq]; omega
      have M4 := Lib.hid (M2.out.set ⟨st.kind, st.table, st.field, [], [], false, false⟩ _ _ 2 _ rfl)
      cases nb with
      | false =>
        have HO := Lib.hid (show okS st = (false) by unfold okS; simp [h2, Hnb.out])
        clear h2
        go_wp2_with fail
        go_meet
        exact ⟨by rw [HO.out], none, 0, none, 0, by rw [HB.out]; exact M4.out⟩
      | true =>
        have HO := Lib.hid (show okS st = (nameB st.field) by unfold okS; simp [h2, Hnb.out])
        clear h2
        go_wp2_with fail
        refine (Hf.out _ M4.out.bel).mono ?_
        rintro e w5 ⟨rfl, hb5⟩
        have M5 := Lib.hid (M4.out.step hb5)
        clear hb5 k0 k1 k2 k3 k4 k5 k6 q0 q1 q2 q3 q4 q5 q6 f0 f1 f2 f3 f4 f5 f6
        obtain ⟨⟨k0, k1, k2, k3, k4, k5, k6⟩, -⟩ := seven M5.out.c1
        obtain ⟨⟨q0, q1, q2, q3, q4, q5, q6⟩, f0, f1, f2, f3, f4, f5, f6⟩ := seven M5.out.c2
        go_wp2_with fail
        go_meet
        exact ⟨by rw [HO.out], none, 0, none, 0, by rw [HB.out]; exact M5.out⟩
    by_cases h3 : st.kind = 3
    · have HB := Lib.hid (show bareS st = ⟨st.kind, st.table, [], [], st.expr, false, false⟩ by unfold bareS; simp [h3])
      have b1 : ((st.kind : Int) == 1) = false := by rw [beq_eq_false_iff_ne]; omega
      have b2 : ((st.kind : Int) == 2) = false := by rw [beq_eq_false_iff_ne]; omega
      have b3 : ((st.kind : Int) == 3) = true := by rw [beq_iff_eq]; omega
      have M4 := Lib.hid (M2.out.set ⟨st.kind, st.table, [], [], st.expr, false, false⟩ (.slice none 0 0) (.slice ae ne ce) 4 _ rfl)
      cases nb with
      | false =>
        have HO := Lib.hid (show okS st = (false) by unfold okS; simp [h3, Hnb.out, Hrb.out])
        clear h3
        go_wp2_with fail
        go_meet
        exact ⟨by rw [HO.out], none, 0, ae, ce, by rw [HB.out]; rw [Hne.out]; exact M4.out⟩
      | true =>
        cases rb with
        | false =>
          have HO := Lib.hid (show okS st = (false) by unfold okS; simp [h3, Hnb.out, Hrb.out])
          clear h3
          go_wp2_with fail
          refine (Hr.out _ M4.out.bel).mono ?_
          rintro e w5 ⟨rfl, hb5⟩
          have M5 := Lib.hid (M4.out.step hb5)
          clear hb5 k0 k1 k2 k3 k4 k5 k6 q0 q1 q2 q3 q4 q5 q6 f0 f1 f2 f3 f4 f5 f6
          obtain ⟨⟨k0, k1, k2, k3, k4, k5, k6⟩, -⟩ := seven M5.out.c1
          obtain ⟨⟨q0, q1, q2, q3, q4, q5, q6⟩, f0, f1, f2, f3, f4, f5, f6⟩ := seven M5.out.c2
          go_wp2_with fail
          go_meet
          exact ⟨by rw [HO.out], none, 0, ae, ce, by rw [HB.out]; rw [Hne.out]; exact M5.out⟩
        | true =>
          have HO := Lib.hid (show okS st = (closedB st.expr) by unfold okS; simp [h3, Hnb.out, Hrb.out])
          clear h3
          go_wp2_with fail
          refine (Hr.out _ M4.out.bel).mono ?_
          rintro e w5 ⟨rfl, hb5⟩
          have M5 := Lib.hid (M4.out.step hb5)
          clear hb5 k0 k1 k2 k3 k4 k5 k6 q0 q1 q2 q3 q4 q5 q6 f0 f1 f2 f3 f4 f5 f6
          obtain ⟨⟨k0, k1, k2, k3, k4, k5, k6⟩, -⟩ := seven M5.out.c1
          obtain ⟨⟨q0, q1, q2, q3, q4, q5, q6⟩, f0, f1, f2, f3, f4, f5, f6⟩ := seven M5.out.c2
          go_wp2_with fail
          refine (Hc.out _ M5.out.bel).mono ?_
          rintro e w6 ⟨rfl, hb6⟩
          have M6 := Lib.hid (M5.out.step hb6)
          clear hb6 k0 k1 k2 k3 k4 k5 k6 q0 q1 q2 q3 q4 q5 q6 f0 f1 f2 f3 f4 f5 f6
          obtain ⟨⟨k0, k1, k2, k3, k4, k5, k6⟩, -⟩ := seven M6.out.c1
          obtain ⟨⟨q0, q1, q2, q3, q4, q5, q6⟩, f0, f1, f2, f3, f4, f5, f6⟩ := seven M6.out.c2
          go_wp2_with fail
          go_meet
          exact ⟨by rw [HO.out], none, 0, ae, ce, by rw [HB.out]; rw [Hne.out]; exact M6.out⟩
    by_cases h4 : st.kind = 4
    · have HB := Lib.hid (show bareS st = ⟨st.kind, st.table, [], st.items, st.expr, false, false⟩ by unfold bareS; simp [h4])
      have b1 : ((st.kind : Int) == 1) = false := by rw [beq_eq_false_iff_ne]; omega
      have b2 : ((st.kind : Int) == 2) = false := by rw [beq_eq_false_iff_ne]; omega
      have b3 : ((st.kind : Int) == 3) = false := by rw [beq_eq_false_iff_ne]; omega
      have b4 : ((st.kind : Int) == 4) = true := by rw [beq_iff_eq]; omega
      have M4a := (M2.out.step (Below.refl _ _).drew).set ⟨st.kind, st.table, [], st.items, [], false, false⟩ (.slice ai ni ci) (.slice none 0 0) 3 _ rfl
      have M4 := Lib.hid (M4a.set ⟨st.kind, st.table, [], st.items, st.expr, false, false⟩ (.slice ai ni ci) (.slice ae ne ce) 4 _ rfl)
      clear M4a
      cases nb with
      | false =>
        have HO := Lib.hid (show okS st = (false) by unfold okS; simp [h4, Hnb.out, Hrb.out, Hex.out])
        clear h4
        go_wp2_with fail
        go_region
        go_wp2_with fail
        go_meet
        exact ⟨by rw [HO.out], ai, ci, ae, ce, by rw [HB.out]; rw [Hni.out]; rw [Hne.out]; exact M4.out⟩
      | true =>
        cases hib : itemsB st.items with
        | false =>
          have HO := Lib.hid (show okS st = (false) by unfold okS; simp [h4, Hnb.out, Hrb.out, Hex.out, hib])
          rw [hib] at Hi
          clear h4 hib
          go_wp2_with fail
          go_region
          go_wp2_with fail
          refine (Hi.out _ M4.out.bel).mono ?_
          rintro e w5 ⟨rfl, hb5⟩
          have M5 := Lib.hid (M4.out.step hb5)
          clear hb5 k0 k1 k2 k3 k4 k5 k6 q0 q1 q2 q3 q4 q5 q6 f0 f1 f2 f3 f4 f5 f6
          obtain ⟨⟨k0, k1, k2, k3, k4, k5, k6⟩, -⟩ := seven M5.out.c1
          obtain ⟨⟨q0, q1, q2, q3, q4, q5, q6⟩, f0, f1, f2, f3, f4, f5, f6⟩ := seven M5.out.c2
          go_wp2_with fail
          go_meet
          exact ⟨by rw [HO.out], ai, ci, ae, ce, by rw [HB.out]; rw [Hni.out]; rw [Hne.out]; exact M5.out⟩
        | true =>
          rw [hib] at Hi
          by_cases h0 : ni = 0
          · have g0 : ¬ (0 : Int) < (ni : Int) := by omega
            have hie : st.items.isEmpty = true := by rw [← Hemp.out]; exact decide_eq_true h0
            have HO := Lib.hid (show okS st = (false) by unfold okS; simp [h4, Hnb.out, Hrb.out, Hex.out, hib, hie])
            clear h4 hib hie h0
            go_wp2_with fail
            go_region
            go_wp2_with fail
            refine (Hi.out _ M4.out.bel).mono ?_
            rintro e w5 ⟨rfl, hb5⟩
            have M5 := Lib.hid (M4.out.step hb5)
            clear hb5 k0 k1 k2 k3 k4 k5 k6 q0 q1 q2 q3 q4 q5 q6 f0 f1 f2 f3 f4 f5 f6
            obtain ⟨⟨k0, k1, k2, k3, k4, k5, k6⟩, -⟩ := seven M5.out.c1
            obtain ⟨⟨q0, q1, q2, q3, q4, q5, q6⟩, f0, f1, f2, f3, f4, f5, f6⟩ := seven M5.out.c2
            go_wp2_with fail
            go_meet
            exact ⟨by rw [HO.out]; exact congrArg Value.bool (decide_eq_false (by omega)), ai, ci, ae, ce, by rw [HB.out]; rw [Hni.out]; rw [Hne.out]; exact M5.out⟩
          · have g0 : (0 : Int) < (ni : Int) := by omega
            have hie : st.items.isEmpty = false := by rw [← Hemp.out]; exact decide_eq_false h0
            have HO := Lib.hid (show okS st = (true) by unfold okS; simp [h4, Hnb.out, Hrb.out, Hex.out, hib, hie])
            clear h4 hib hie h0
            go_wp2_with fail
            go_region
            go_wp2_with fail
            refine (Hi.out _ M4.out.bel).mono ?_
            rintro e w5 ⟨rfl, hb5⟩
            have M5 := Lib.hid (M4.out.step hb5)
            clear hb5 k0 k1 k2 k3 k4 k5 k6 q0 q1 q2 q3 q4 q5 q6 f0 f1 f2 f3 f4 f5 f6
            obtain ⟨⟨k0, k1, k2, k3, k4, k5, k6⟩, -⟩ := seven M5.out.c1
            obtain ⟨⟨q0, q1, q2, q3, q4, q5, q6⟩, f0, f1, f2, f3, f4, f5, f6⟩ := seven M5.out.c2
            go_wp2_with fail
            go_meet
            exact ⟨by rw [HO.out]; exact congrArg Value.bool (decide_eq_true (by omega)), ai, ci, ae, ce, by rw [HB.out]; rw [Hni.out]; rw [Hne.out]; exact M5.out⟩
    by_cases h5 : st.kind = 5
    · have HB := Lib.hid (show bareS st = ⟨st.kind, st.table, [], [], st.expr, false, false⟩ by unfold bareS; simp [h5])
      have b1 : ((st.kind : Int) == 1) = false := by rw [beq_eq_false_iff_ne]; omega
      have b2 : ((st.kind : Int) == 2) = false := by rw [beq_eq_false_iff_ne]; omega
      have b3 : ((st.kind : Int) == 3) = false := by rw [beq_eq_false_iff_ne]; omega
      have b4 : ((st.kind : Int) == 4) = false := by rw [beq_eq_false_iff_ne]; omega
      have b5 : ((st.kind : Int) == 5) = true := by rw [beq_iff_eq]; omega
      have M4 := Lib.hid (M2.out.set ⟨st.kind, st.table, [], [], st.expr, false, false⟩ (.slice none 0 0) (.slice ae ne ce) 4 _ rfl)
      cases nb with
      | false =>
        have HO := Lib.hid (show okS st = (false) by unfold okS; simp [h5, Hnb.out, Hrb.out, Hex.out])
        clear h5
        go_wp2_with fail
        go_meet
        exact ⟨by rw [HO.out], none, 0, ae, ce, by rw [HB.out]; rw [Hne.out]; exact M4.out⟩
      | true =>
        have HO := Lib.hid (show okS st = (true) by unfold okS; simp [h5, Hnb.out, Hrb.out, Hex.out])
        clear h5
        go_wp2_with fail
        go_meet
        exact ⟨by rw [HO.out], none, 0, ae, ce, by rw [HB.out]; rw [Hne.out]; exact M4.out⟩
    by_cases h6 : st.kind = 6
    · have HB := Lib.hid (show bareS st = st by unfold bareS; rw [if_pos (.inr h6), if_pos (.inr h6), if_pos (.inr (.inr (.inr h6))), decide_eq_true h6]; rfl)
      have b1 : ((st.kind : Int) == 1) = false := by rw [beq_eq_false_iff_ne]; omega
      have b2 : ((st.kind : Int) == 2) = false := by rw [beq_eq_false_iff_ne]; omega
      have b3 : ((st.kind : Int) == 3) = false := by rw [beq_eq_false_iff_ne]; omega
      have b4 : ((st.kind : Int) == 4) = false := by rw [beq_eq_false_iff_ne]; omega
      have b5 : ((st.kind : Int) == 5) = false := by rw [beq_eq_false_iff_ne]; omega
      have b6 : ((st.kind : Int) == 6) = true := by rw [beq_iff_eq]; omega
      have M4 := Lib.hid (M2.out.all7)
      cases nb with
      | false =>
        have HO := Lib.hid (show okS st = (false) by unfold okS; simp [h6, Hnb.out, Hrb.out, Hex.out])
        clear h6
        go_wp2_with fail
        go_meet
        exact ⟨by rw [HO.out], ai, ci, ae, ce, by rw [HB.out]; rw [Hni.out]; rw [Hne.out]; exact M4.out⟩
      | true =>
        cases hib : itemsB st.items with
        | false =>
          have HO := Lib.hid (show okS st = (false) by unfold okS; simp [h6, Hnb.out, Hrb.out, Hex.out, hib])
          rw [hib] at Hi
          clear h6 hib
          go_wp2_with fail
          refine (Hi.out _ M4.out.bel).mono ?_
          rintro e w5 ⟨rfl, hb5⟩
          have M5 := Lib.hid (M4.out.step hb5)
          clear hb5 k0 k1 k2 k3 k4 k5 k6 q0 q1 q2 q3 q4 q5 q6 f0 f1 f2 f3 f4 f5 f6
          obtain ⟨⟨k0, k1, k2, k3, k4, k5, k6⟩, -⟩ := seven M5.out.c1
          obtain ⟨⟨q0, q1, q2, q3, q4, q5, q6⟩, f0, f1, f2, f3, f4, f5, f6⟩ := seven M5.out.c2
          go_wp2_with fail
          go_meet
          exact ⟨by rw [HO.out], ai, ci, ae, ce, by rw [HB.out]; rw [Hni.out]; rw [Hne.out]; exact M5.out⟩
        | true =>
          rw [hib] at Hi
          cases hnf : nameB st.field with
          | true =>
            have HO := Lib.hid (show okS st = (true) by unfold okS; simp [h6, Hnb.out, Hrb.out, Hex.out, hib, hnf])
            rw [hnf] at Hf
            clear h6 hib hnf
            go_wp2_with fail
            refine (Hi.out _ M4.out.bel).mono ?_
            rintro e w5 ⟨rfl, hb5⟩
            have M5 := Lib.hid (M4.out.step hb5)
            clear hb5 k0 k1 k2 k3 k4 k5 k6 q0 q1 q2 q3 q4 q5 q6 f0 f1 f2 f3 f4 f5 f6
            obtain ⟨⟨k0, k1, k2, k3, k4, k5, k6⟩, -⟩ := seven M5.out.c1
            obtain ⟨⟨q0, q1, q2, q3, q4, q5, q6⟩, f0, f1, f2, f3, f4, f5, f6⟩ := seven M5.out.c2
            go_wp2_with fail
            refine (Hf.out _ M5.out.bel).mono ?_
            rintro e w6 ⟨rfl, hb6⟩
            have M6 := Lib.hid (M5.out.step hb6)
            clear hb6 k0 k1 k2 k3 k4 k5 k6 q0 q1 q2 q3 q4 q5 q6 f0 f1 f2 f3 f4 f5 f6
            obtain ⟨⟨k0, k1, k2, k3, k4, k5, k6⟩, -⟩ := seven M6.out.c1
            obtain ⟨⟨q0, q1, q2, q3, q4, q5, q6⟩, f0, f1, f2, f3, f4, f5, f6⟩ := seven M6.out.c2
            go_wp2_with fail
            go_meet
            exact ⟨by rw [HO.out], ai, ci, ae, ce, by rw [HB.out]; rw [Hni.out]; rw [Hne.out]; exact M6.out⟩
          | false =>
            have HO := Lib.hid (show okS st = (decide (st.field = []) && !st.desc) by unfold okS; simp [h6, Hnb.out, Hrb.out, Hex.out, hib, hnf, nil0])
            rw [hnf] at Hf
            clear h6 hib hnf
            go_wp2_with fail
            refine (Hi.out _ M4.out.bel).mono ?_
            rintro e w5 ⟨rfl, hb5⟩
            have M5 := Lib.hid (M4.out.step hb5)
            clear hb5 k0 k1 k2 k3 k4 k5 k6 q0 q1 q2 q3 q4 q5 q6 f0 f1 f2 f3 f4 f5 f6
            obtain ⟨⟨k0, k1, k2, k3, k4, k5, k6⟩, -⟩ := seven M5.out.c1
            obtain ⟨⟨q0, q1, q2, q3, q4, q5, q6⟩, f0, f1, f2, f3, f4, f5, f6⟩ := seven M5.out.c2
            obtain ⟨fb, hfb⟩ : ∃ fb : ByteArray, fb = ⟨st.field.toArray⟩ := ⟨_, rfl⟩
            rw [← hfb] at k2 Hf
            have Hfe := Lib.hid (show fb.toList = [] ↔ st.field = [] by rw [hfb]; first | simp [ByteArray.toList_eq] | simp)
            clear hfb
            go_wp2_with fail
            refine (Hf.out _ M5.out.bel).mono ?_
            rintro e w6 ⟨rfl, hb6⟩
            have M6 := Lib.hid (M5.out.step hb6)
            have k2 := (hb6.cell (p := ⟨w.heap.size, 2, none⟩) (World.block_lt_of_cell? _ _ k2)).trans k2
            obtain ⟨⟨-, -, -, -, -, -, k6⟩, -⟩ := seven M6.out.c1
            clear hb6
            by_cases hfe : fb.toList = []
            · have Hd := Lib.hid (decide_eq_true (Hfe.out.1 hfe))
              go_wp2_with fail
              all_goals
                go_meet
                exact ⟨by rw [HO.out, Hd.out]; simp [*], ai, ci, ae, ce, by rw [HB.out]; rw [Hni.out]; rw [Hne.out]; exact M6.out⟩
            · have Hd := Lib.hid (decide_eq_false (fun e => hfe (Hfe.out.2 e)))
              go_wp2_with fail
              go_meet
              exact ⟨by rw [HO.out, Hd.out]; simp, ai, ci, ae, ce, by rw [HB.out]; rw [Hni.out]; rw [Hne.out]; exact M6.out⟩
    have HO := Lib.hid (show okS st = false by unfold okS; simp [h1, h2, h3, h4, h5, h6])
    have HB := Lib.hid (show bareS st = ⟨st.kind, st.table, [], [], [], false, false⟩ by unfold bareS; simp [h2, h3, h4, h5, h6])
    have b1 : ((st.kind : Int) == 1) = false := by rw [beq_eq_false_iff_ne]; omega
    have b2 : ((st.kind : Int) == 2) = false := by rw [beq_eq_false_iff_ne]; omega
    have b3 : ((st.kind : Int) == 3) = false := by rw [beq_eq_false_iff_ne]; omega
    have b4 : ((st.kind : Int) == 4) = false := by rw [beq_eq_false_iff_ne]; omega
    have b5 : ((st.kind : Int) == 5) = false := by rw [beq_eq_false_iff_ne]; omega
    have b6 : ((st.kind : Int) == 6) = false := by rw [beq_eq_false_iff_ne]; omega
    clear h1 h2 h3 h4 h5 h6
    go_wp2_with fail
    go_meet
    exact ⟨by rw [HO.out], none, 0, none, 0, by rw [HB.out]; exact M2.out⟩
  case rest =>
    obtain ⟨rfl, za, zc, xa, xc, M⟩ := hcut
    clear k0 k1 k2 k3 k4 k5 k6 q0 q1 q2 q3 q4 q5 q6 f0 f1 f2 f3 f4 f5 f6
    obtain ⟨⟨k0, k1, k2, k3, k4, k5, k6⟩, -⟩ := seven M.out.c1
    obtain ⟨⟨q0, q1, q2, q3, q4, q5, q6⟩, -⟩ := seven M.out.c2
    have HA := Lib.hid (show alikeS st = (decide (ni = (bareS st).items.length) && (decide (ne = (bareS st).expr.length) && (decide (st.field = (bareS st).field) && ((st.history == (bareS st).history) && (st.desc == (bareS st).desc))))) by unfold alikeS; rw [Hni.out, Hne.out])
    have hzi : (bareS st).items.length ≤ 1048576 := by
      have h1 : (bareS st).items.length ≤ st.items.length := by unfold bareS; simp only; split <;> simp
      rw [Hni.out] at h1; omega
    have hze : (bareS st).expr.length ≤ 1048576 := by
      have h1 : (bareS st).expr.length ≤ st.expr.length := by unfold bareS; simp only; split <;> simp
      rw [Hne.out] at h1; omega
    generalize okS st = ok at *
    generalize alikeS st = al at *
    generalize (bareS st).items.length = zn at *
    generalize (bareS st).expr.length = xn at *
    generalize (bareS st).field = zf at *
    generalize bareS st = z at *
    by_cases a1 : ni = zn
    · subst a1
      by_cases a2 : ne = xn
      · subst a2
        by_cases a3 : st.field = zf
        · cases a4 : (st.history == z.history) with
          | true =>
            cases a5 : (st.desc == z.desc) with
            | true =>
              have Hal := Lib.hid (show al = true by rw [HA.out, a3, a4, a5]; simp)
              cases ok
              all_goals
                go_wp2_with fail
                go_ret
                exact ⟨by rw [HV.out, Hal.out]; rfl, M.out.bel⟩
            | false =>
              have Hal := Lib.hid (show al = false by rw [HA.out, a5]; simp)
              cases ok
              all_goals
                go_wp2_with fail
                go_ret
                exact ⟨by rw [HV.out, Hal.out]; rfl, M.out.bel⟩
          | false =>
            have Hal := Lib.hid (show al = false by rw [HA.out, a4]; simp)
            cases ok
            all_goals
              go_wp2_with fail
              go_ret
              exact ⟨by rw [HV.out, Hal.out]; rfl, M.out.bel⟩
        · have Hal := Lib.hid (show al = false by rw [HA.out, decide_eq_false a3]; simp)
          cases ok
          all_goals
            go_wp2_with fail
            go_ret
            exact ⟨by rw [HV.out, Hal.out]; rfl, M.out.bel⟩
      · have a2' : ((ne : Int) == (xn : Int)) = false := by rw [beq_eq_false_iff_ne]; omega
        have Hal := Lib.hid (show al = false by rw [HA.out, decide_eq_false a2]; simp)
        cases ok
        all_goals
          go_wp2_with fail
          go_ret
          exact ⟨by rw [HV.out, Hal.out]; rfl, M.out.bel⟩
    · have a1' : ((ni : Int) == (zn : Int)) = false := by rw [beq_eq_false_iff_ne]; omega
      have Hal := Lib.hid (show al = false by rw [HA.out, decide_eq_false a1]; simp)
      cases ok
      all_goals
        go_wp2_with fail
        go_ret
        exact ⟨by rw [HV.out, Hal.out]; rfl, M.out.bel⟩

end Go.Proofs.YtcjmhmmjfgjcnaaGreatDoor.Pa
