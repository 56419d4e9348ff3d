/- Parts: RdC5 RdC6. -/
import Derived.Test.YtcjmhmmjfgjcnaaGreatDoorMe41

/- codicilref10: Check, statements of kind 5. -/
namespace Go.Proofs.YtcjmhmmjfgjcnaaGreatDoor.Rf
open Go.RowKit Go.Proofs.YtcjmhmmjfgjcnaaGreatDoor.Lx Go.Proofs.YtcjmhmmjfgjcnaaGreatDoor.Pa

set_option maxHeartbeats 4000000 in
set_option maxRecDepth 100000 in
theorem ckR_5e (tb fd : Txt) (its : List Itm) (ex : List Stp) (hi de : Bool) (w : World) (vi ve : Value) (h : CkArgs w ⟨5, tb, fd, its, ex, hi, de⟩ vi ve) (hex : ex.isEmpty = true) :
    Calls Tryz.prog 23 #[.agg #[.int .u8 5, .string ⟨tb.toArray⟩, .string ⟨fd.toArray⟩, vi, ve, .bool hi, .bool de]] w fun e w' => e = .returned (checkV ⟨5, tb, fd, its, ex, hi, de⟩) ∧ Below w.heap.size w w' := by
  obtain ⟨ai, ni, ci, ae, ne, ce, rfl, rfl, Hn, Hf, Hr, Hc, Hi, Hni, Hne⟩ := ckR_parts h 0 0 rfl
  have M1 := Lib.hid (BxM.start w 5 tb fd (.slice ai ni ci) (.slice ae ne ce) hi de)
  have g1 : ((ne : Int) == 0) = true := Hne.out.trans hex
  have Hex := Lib.hid hex
  obtain ⟨⟨k0, k1, k2, k3, k4, k5, k6⟩, -⟩ := seven M1.out.blk
  clear h hex
  go_enter Tryz.func23, Tryz.ntmps23
  cases hnb : nameB tb with
  | false =>
    rw [hnb] at Hn
    have HO := Lib.hid (show checkV ⟨5, tb, fd, its, ex, hi, de⟩ = .int .i64 13 by unfold checkV checkB; simp [hnb, Hex.out])
    go_wp2_with fail
    refine (Hn.out _ M1.out.bel).mono ?_
    rintro e w2 ⟨rfl, hb2⟩
    have M2 := Lib.hid (M1.out.step hb2)
    clear hb2 k0 k1 k2 k3 k4 k5 k6
    obtain ⟨⟨k0, k1, k2, k3, k4, k5, k6⟩, -⟩ := seven M2.out.blk
    go_wp2_with fail
    go_ret
    exact ⟨by rw [HO.out]; rfl, M2.out.bel⟩
  | true =>
    rw [hnb] at Hn
    cases hie : its.isEmpty with
    | false =>
      have g0 : ((ni : Int) == 0) = false := Hni.out.trans hie
      have HO := Lib.hid (show checkV ⟨5, tb, fd, its, ex, hi, de⟩ = .int .i64 13 by unfold checkV checkB; simp [hnb, hie, Hex.out])
      go_wp2_with fail
      refine (Hn.out _ M1.out.bel).mono ?_
      rintro e w2 ⟨rfl, hb2⟩
      have M2 := Lib.hid (M1.out.step hb2)
      clear hb2 k0 k1 k2 k3 k4 k5 k6
      obtain ⟨⟨k0, k1, k2, k3, k4, k5, k6⟩, -⟩ := seven M2.out.blk
      go_wp2_with fail
      go_ret
      exact ⟨by rw [HO.out]; rfl, M2.out.bel⟩
    | true =>
      have g0 : ((ni : Int) == 0) = true := Hni.out.trans hie
      cases hhi : hi with
      | false =>
        subst hhi
        cases hde : de with
        | false =>
          subst hde
          cases hfe : fd.isEmpty with
          | false =>
            have HO := Lib.hid (show checkV ⟨5, tb, fd, its, ex, false, false⟩ = .int .i64 13 by unfold checkV checkB; simp [hnb, hie, hfe, Hex.out])
            go_wp2_with fail
            refine (Hn.out _ M1.out.bel).mono ?_
            rintro e w2 ⟨rfl, hb2⟩
            have M2 := Lib.hid (M1.out.step hb2)
            clear hb2 k0 k1 k2 k3 k4 k5 k6
            obtain ⟨⟨k0, k1, k2, k3, k4, k5, k6⟩, -⟩ := seven M2.out.blk
            go_wp2_with fail
            go_ret
            exact ⟨by rw [HO.out]; rfl, M2.out.bel⟩
          | true =>
            have HO := Lib.hid (show checkV ⟨5, tb, fd, its, ex, false, false⟩ = .int .i64 0 by unfold checkV checkB; simp [hnb, hie, hfe, Hex.out])
            go_wp2_with fail
            refine (Hn.out _ M1.out.bel).mono ?_
            rintro e w2 ⟨rfl, hb2⟩
            have M2 := Lib.hid (M1.out.step hb2)
            clear hb2 k0 k1 k2 k3 k4 k5 k6
            obtain ⟨⟨k0, k1, k2, k3, k4, k5, k6⟩, -⟩ := seven M2.out.blk
            go_wp2_with fail
            go_ret
            exact ⟨by rw [HO.out]; rfl, M2.out.bel⟩
        | true =>
          subst hde
          have HO := Lib.hid (show checkV ⟨5, tb, fd, its, ex, false, true⟩ = .int .i64 13 by unfold checkV checkB; simp [hnb, hie, Hex.out])
          go_wp2_with fail
          refine (Hn.out _ M1.out.bel).mono ?_
          rintro e w2 ⟨rfl, hb2⟩
          have M2 := Lib.hid (M1.out.step hb2)
          clear hb2 k0 k1 k2 k3 k4 k5 k6
          obtain ⟨⟨k0, k1, k2, k3, k4, k5, k6⟩, -⟩ := seven M2.out.blk
          go_wp2_with fail
          go_ret
          exact ⟨by rw [HO.out]; rfl, M2.out.bel⟩
      | true =>
        subst hhi
        have HO := Lib.hid (show checkV ⟨5, tb, fd, its, ex, true, de⟩ = .int .i64 13 by unfold checkV checkB; simp [hnb, hie, Hex.out])
        go_wp2_with fail
        refine (Hn.out _ M1.out.bel).mono ?_
        rintro e w2 ⟨rfl, hb2⟩
        have M2 := Lib.hid (M1.out.step hb2)
        clear hb2 k0 k1 k2 k3 k4 k5 k6
        obtain ⟨⟨k0, k1, k2, k3, k4, k5, k6⟩, -⟩ := seven M2.out.blk
        go_wp2_with fail
        go_ret
        exact ⟨by rw [HO.out]; rfl, M2.out.bel⟩

set_option maxHeartbeats 4000000 in
set_option maxRecDepth 100000 in
theorem ckR_5n (tb fd : Txt) (its : List Itm) (ex : List Stp) (hi de : Bool) (w : World) (vi ve : Value) (h : CkArgs w ⟨5, tb, fd, its, ex, hi, de⟩ vi ve) (hex : ex.isEmpty = false) :
    Calls Tryz.prog 23 #[.agg #[.int .u8 5, .string ⟨tb.toArray⟩, .string ⟨fd.toArray⟩, vi, ve, .bool hi, .bool de]] w fun e w' => e = .returned (checkV ⟨5, tb, fd, its, ex, hi, de⟩) ∧ Below w.heap.size w w' := by
  obtain ⟨ai, ni, ci, ae, ne, ce, rfl, rfl, Hn, Hf, Hr, Hc, Hi, Hni, Hne⟩ := ckR_parts h 0 0 rfl
  have M1 := Lib.hid (BxM.start w 5 tb fd (.slice ai ni ci) (.slice ae ne ce) hi de)
  have g1 : ((ne : Int) == 0) = false := Hne.out.trans hex
  have Hex := Lib.hid hex
  obtain ⟨⟨k0, k1, k2, k3, k4, k5, k6⟩, -⟩ := seven M1.out.blk
  clear h hex
  go_enter Tryz.func23, Tryz.ntmps23
  cases hnb : nameB tb with
  | false =>
    rw [hnb] at Hn
    have HO := Lib.hid (show checkV ⟨5, tb, fd, its, ex, hi, de⟩ = .int .i64 13 by unfold checkV checkB; simp [hnb, Hex.out])
    go_wp2_with fail
    refine (Hr.out _ M1.out.bel).mono ?_
    rintro e w2 ⟨rfl, hb2⟩
    have M2 := Lib.hid (M1.out.step hb2)
    clear hb2 k0 k1 k2 k3 k4 k5 k6
    obtain ⟨⟨k0, k1, k2, k3, k4, k5, k6⟩, -⟩ := seven M2.out.blk
    go_wp2_with fail
    refine (Hn.out _ M2.out.bel).mono ?_
    rintro e w3 ⟨rfl, hb3⟩
    have M3 := Lib.hid (M2.out.step hb3)
    clear hb3 k0 k1 k2 k3 k4 k5 k6
    obtain ⟨⟨k0, k1, k2, k3, k4, k5, k6⟩, -⟩ := seven M3.out.blk
    go_wp2_with fail
    go_ret
    exact ⟨by rw [HO.out]; rfl, M3.out.bel⟩
  | true =>
    rw [hnb] at Hn
    cases hie : its.isEmpty with
    | false =>
      have g0 : ((ni : Int) == 0) = false := Hni.out.trans hie
      have HO := Lib.hid (show checkV ⟨5, tb, fd, its, ex, hi, de⟩ = .int .i64 13 by unfold checkV checkB; simp [hnb, hie, Hex.out])
      go_wp2_with fail
      refine (Hr.out _ M1.out.bel).mono ?_
      rintro e w2 ⟨rfl, hb2⟩
      have M2 := Lib.hid (M1.out.step hb2)
      clear hb2 k0 k1 k2 k3 k4 k5 k6
      obtain ⟨⟨k0, k1, k2, k3, k4, k5, k6⟩, -⟩ := seven M2.out.blk
      go_wp2_with fail
      refine (Hn.out _ M2.out.bel).mono ?_
      rintro e w3 ⟨rfl, hb3⟩
      have M3 := Lib.hid (M2.out.step hb3)
      clear hb3 k0 k1 k2 k3 k4 k5 k6
      obtain ⟨⟨k0, k1, k2, k3, k4, k5, k6⟩, -⟩ := seven M3.out.blk
      go_wp2_with fail
      go_ret
      exact ⟨by rw [HO.out]; rfl, M3.out.bel⟩
    | true =>
      have g0 : ((ni : Int) == 0) = true := Hni.out.trans hie
      cases hhi : hi with
      | false =>
        subst hhi
        cases hde : de with
        | false =>
          subst hde
          cases hfe : fd.isEmpty with
          | false =>
            have HO := Lib.hid (show checkV ⟨5, tb, fd, its, ex, false, false⟩ = .int .i64 13 by unfold checkV checkB; simp [hnb, hie, hfe, Hex.out])
            go_wp2_with fail
            refine (Hr.out _ M1.out.bel).mono ?_
            rintro e w2 ⟨rfl, hb2⟩
            have M2 := Lib.hid (M1.out.step hb2)
            clear hb2 k0 k1 k2 k3 k4 k5 k6
            obtain ⟨⟨k0, k1, k2, k3, k4, k5, k6⟩, -⟩ := seven M2.out.blk
            go_wp2_with fail
            refine (Hn.out _ M2.out.bel).mono ?_
            rintro e w3 ⟨rfl, hb3⟩
            have M3 := Lib.hid (M2.out.step hb3)
            clear hb3 k0 k1 k2 k3 k4 k5 k6
            obtain ⟨⟨k0, k1, k2, k3, k4, k5, k6⟩, -⟩ := seven M3.out.blk
            go_wp2_with fail
            go_ret
            exact ⟨by rw [HO.out]; rfl, M3.out.bel⟩
          | true =>
            cases hrb : rightB ex with
            | false =>
              rw [hrb] at Hr
              have HO := Lib.hid (show checkV ⟨5, tb, fd, its, ex, false, false⟩ = .int .i64 13 by unfold checkV checkB; simp [hnb, hie, hfe, hrb, Hex.out])
              go_wp2_with fail
              refine (Hr.out _ M1.out.bel).mono ?_
              rintro e w2 ⟨rfl, hb2⟩
              have M2 := Lib.hid (M1.out.step hb2)
              clear hb2 k0 k1 k2 k3 k4 k5 k6
              obtain ⟨⟨k0, k1, k2, k3, k4, k5, k6⟩, -⟩ := seven M2.out.blk
              go_wp2_with fail
              refine (Hn.out _ M2.out.bel).mono ?_
              rintro e w3 ⟨rfl, hb3⟩
              have M3 := Lib.hid (M2.out.step hb3)
              clear hb3 k0 k1 k2 k3 k4 k5 k6
              obtain ⟨⟨k0, k1, k2, k3, k4, k5, k6⟩, -⟩ := seven M3.out.blk
              go_wp2_with fail
              go_ret
              exact ⟨by rw [HO.out]; rfl, M3.out.bel⟩
            | true =>
              rw [hrb] at Hr
              have HO := Lib.hid (show checkV ⟨5, tb, fd, its, ex, false, false⟩ = .int .i64 0 by unfold checkV checkB; simp [hnb, hie, hfe, hrb, Hex.out])
              go_wp2_with fail
              refine (Hr.out _ M1.out.bel).mono ?_
              rintro e w2 ⟨rfl, hb2⟩
              have M2 := Lib.hid (M1.out.step hb2)
              clear hb2 k0 k1 k2 k3 k4 k5 k6
              obtain ⟨⟨k0, k1, k2, k3, k4, k5, k6⟩, -⟩ := seven M2.out.blk
              go_wp2_with fail
              refine (Hn.out _ M2.out.bel).mono ?_
              rintro e w3 ⟨rfl, hb3⟩
              have M3 := Lib.hid (M2.out.step hb3)
              clear hb3 k0 k1 k2 k3 k4 k5 k6
              obtain ⟨⟨k0, k1, k2, k3, k4, k5, k6⟩, -⟩ := seven M3.out.blk
              go_wp2_with fail
              go_ret
              exact ⟨by rw [HO.out]; rfl, M3.out.bel⟩
        | true =>
          subst hde
          have HO := Lib.hid (show checkV ⟨5, tb, fd, its, ex, false, true⟩ = .int .i64 13 by unfold checkV checkB; simp [hnb, hie, Hex.out])
          go_wp2_with fail
          refine (Hr.out _ M1.out.bel).mono ?_
          rintro e w2 ⟨rfl, hb2⟩
          have M2 := Lib.hid (M1.out.step hb2)
          clear hb2 k0 k1 k2 k3 k4 k5 k6
          obtain ⟨⟨k0, k1, k2, k3, k4, k5, k6⟩, -⟩ := seven M2.out.blk
          go_wp2_with fail
          refine (Hn.out _ M2.out.bel).mono ?_
          rintro e w3 ⟨rfl, hb3⟩
          have M3 := Lib.hid (M2.out.step hb3)
          clear hb3 k0 k1 k2 k3 k4 k5 k6
          obtain ⟨⟨k0, k1, k2, k3, k4, k5, k6⟩, -⟩ := seven M3.out.blk
          go_wp2_with fail
          go_ret
          exact ⟨by rw [HO.out]; rfl, M3.out.bel⟩
      | true =>
        subst hhi
        have HO := Lib.hid (show checkV ⟨5, tb, fd, its, ex, true, de⟩ = .int .i64 13 by unfold checkV checkB; simp [hnb, hie, Hex.out])
        go_wp2_with fail
        refine (Hr.out _ M1.out.bel).mono ?_
        rintro e w2 ⟨rfl, hb2⟩
        have M2 := Lib.hid (M1.out.step hb2)
        clear hb2 k0 k1 k2 k3 k4 k5 k6
        obtain ⟨⟨k0, k1, k2, k3, k4, k5, k6⟩, -⟩ := seven M2.out.blk
        go_wp2_with fail
        refine (Hn.out _ M2.out.bel).mono ?_
        rintro e w3 ⟨rfl, hb3⟩
        have M3 := Lib.hid (M2.out.step hb3)
        clear hb3 k0 k1 k2 k3 k4 k5 k6
        obtain ⟨⟨k0, k1, k2, k3, k4, k5, k6⟩, -⟩ := seven M3.out.blk
        go_wp2_with fail
        go_ret
        exact ⟨by rw [HO.out]; rfl, M3.out.bel⟩

end Go.Proofs.YtcjmhmmjfgjcnaaGreatDoor.Rf

/- codicilref10: Check, statements of kind 6. -/
namespace Go.Proofs.YtcjmhmmjfgjcnaaGreatDoor.Rf
open Go.RowKit Go.Proofs.YtcjmhmmjfgjcnaaGreatDoor.Lx Go.Proofs.YtcjmhmmjfgjcnaaGreatDoor.Pa

set_option maxHeartbeats 4000000 in
set_option maxRecDepth 100000 in
theorem ckR_6e (tb fd : Txt) (its : List Itm) (ex : List Stp) (hi de : Bool) (w : World) (vi ve : Value) (h : CkArgs w ⟨6, tb, fd, its, ex, hi, de⟩ vi ve) (hex : ex.isEmpty = true) :
    Calls Tryz.prog 23 #[.agg #[.int .u8 6, .string ⟨tb.toArray⟩, .string ⟨fd.toArray⟩, vi, ve, .bool hi, .bool de]] w fun e w' => e = .returned (checkV ⟨6, tb, fd, its, ex, hi, de⟩) ∧ Below w.heap.size w w' := by
  obtain ⟨ai, ni, ci, ae, ne, ce, rfl, rfl, Hn, Hf, Hr, Hc, Hi, Hni, Hne⟩ := ckR_parts h 0 0 rfl
  have M1 := Lib.hid (BxM.start w 6 tb fd (.slice ai ni ci) (.slice ae ne ce) hi de)
  have g1 : ((ne : Int) == 0) = true := Hne.out.trans hex
  have Hex := Lib.hid hex
  obtain ⟨⟨k0, k1, k2, k3, k4, k5, k6⟩, -⟩ := seven M1.out.blk
  clear h hex
  go_enter Tryz.func23, Tryz.ntmps23
  cases hnb : nameB tb with
  | false =>
    rw [hnb] at Hn
    have HO := Lib.hid (show checkV ⟨6, tb, fd, its, ex, hi, de⟩ = .int .i64 13 by unfold checkV checkB; simp [hnb, Hex.out])
    go_wp2_with fail
    refine (Hn.out _ M1.out.bel).mono ?_
    rintro e w2 ⟨rfl, hb2⟩
    have M2 := Lib.hid (M1.out.step hb2)
    clear hb2 k0 k1 k2 k3 k4 k5 k6
    obtain ⟨⟨k0, k1, k2, k3, k4, k5, k6⟩, -⟩ := seven M2.out.blk
    go_wp2_with fail
    go_ret
    exact ⟨by rw [HO.out]; rfl, M2.out.bel⟩
  | true =>
    rw [hnb] at Hn
    cases hib : itemsB its with
    | false =>
      rw [show (decide (0 ≤ its.length) && itemsB its) = false from by rw [hib, Bool.and_false]] at Hi
      have HO := Lib.hid (show checkV ⟨6, tb, fd, its, ex, hi, de⟩ = .int .i64 13 by unfold checkV checkB; simp [hnb, hib, Hex.out])
      go_wp2_with fail
      refine (Hn.out _ M1.out.bel).mono ?_
      rintro e w2 ⟨rfl, hb2⟩
      have M2 := Lib.hid (M1.out.step hb2)
      clear hb2 k0 k1 k2 k3 k4 k5 k6
      obtain ⟨⟨k0, k1, k2, k3, k4, k5, k6⟩, -⟩ := seven M2.out.blk
      go_wp2_with fail
      refine (Hi.out _ M2.out.bel).mono ?_
      rintro e w3 ⟨rfl, hb3⟩
      have M3 := Lib.hid (M2.out.step hb3)
      clear hb3 k0 k1 k2 k3 k4 k5 k6
      obtain ⟨⟨k0, k1, k2, k3, k4, k5, k6⟩, -⟩ := seven M3.out.blk
      go_wp2_with fail
      go_ret
      exact ⟨by rw [HO.out]; rfl, M3.out.bel⟩
    | true =>
      rw [show (decide (0 ≤ its.length) && itemsB its) = true from by rw [hib, Bool.and_true, decide_eq_true (Nat.zero_le _)]] at Hi
      cases hfe : fd.isEmpty with
      | false =>
        cases hfb : nameB fd with
        | false =>
          rw [hfb] at Hf
          have HO := Lib.hid (show checkV ⟨6, tb, fd, its, ex, hi, de⟩ = .int .i64 13 by unfold checkV checkB; simp [hnb, hib, hfe, hfb, Hex.out])
          go_wp2_with fail
          refine (Hn.out _ M1.out.bel).mono ?_
          rintro e w2 ⟨rfl, hb2⟩
          have M2 := Lib.hid (M1.out.step hb2)
          clear hb2 k0 k1 k2 k3 k4 k5 k6
          obtain ⟨⟨k0, k1, k2, k3, k4, k5, k6⟩, -⟩ := seven M2.out.blk
          go_wp2_with fail
          refine (Hi.out _ M2.out.bel).mono ?_
          rintro e w3 ⟨rfl, hb3⟩
          have M3 := Lib.hid (M2.out.step hb3)
          clear hb3 k0 k1 k2 k3 k4 k5 k6
          obtain ⟨⟨k0, k1, k2, k3, k4, k5, k6⟩, -⟩ := seven M3.out.blk
          go_wp2_with fail
          refine (Hf.out _ M3.out.bel).mono ?_
          rintro e w4 ⟨rfl, hb4⟩
          have M4 := Lib.hid (M3.out.step hb4)
          clear hb4 k0 k1 k2 k3 k4 k5 k6
          obtain ⟨⟨k0, k1, k2, k3, k4, k5, k6⟩, -⟩ := seven M4.out.blk
          go_wp2_with fail
          go_ret
          exact ⟨by rw [HO.out]; rfl, M4.out.bel⟩
        | true =>
          rw [hfb] at Hf
          have HO := Lib.hid (show checkV ⟨6, tb, fd, its, ex, hi, de⟩ = .int .i64 0 by unfold checkV checkB; simp [hnb, hib, hfe, hfb, Hex.out])
          go_wp2_with fail
          refine (Hn.out _ M1.out.bel).mono ?_
          rintro e w2 ⟨rfl, hb2⟩
          have M2 := Lib.hid (M1.out.step hb2)
          clear hb2 k0 k1 k2 k3 k4 k5 k6
          obtain ⟨⟨k0, k1, k2, k3, k4, k5, k6⟩, -⟩ := seven M2.out.blk
          go_wp2_with fail
          refine (Hi.out _ M2.out.bel).mono ?_
          rintro e w3 ⟨rfl, hb3⟩
          have M3 := Lib.hid (M2.out.step hb3)
          clear hb3 k0 k1 k2 k3 k4 k5 k6
          obtain ⟨⟨k0, k1, k2, k3, k4, k5, k6⟩, -⟩ := seven M3.out.blk
          go_wp2_with fail
          refine (Hf.out _ M3.out.bel).mono ?_
          rintro e w4 ⟨rfl, hb4⟩
          have M4 := Lib.hid (M3.out.step hb4)
          clear hb4 k0 k1 k2 k3 k4 k5 k6
          obtain ⟨⟨k0, k1, k2, k3, k4, k5, k6⟩, -⟩ := seven M4.out.blk
          go_wp2_with fail
          go_ret
          exact ⟨by rw [HO.out]; rfl, M4.out.bel⟩
      | true =>
        cases hde : de with
        | false =>
          subst hde
          have HO := Lib.hid (show checkV ⟨6, tb, fd, its, ex, hi, false⟩ = .int .i64 0 by unfold checkV checkB; simp [hnb, hib, hfe, Hex.out])
          go_wp2_with fail
          refine (Hn.out _ M1.out.bel).mono ?_
          rintro e w2 ⟨rfl, hb2⟩
          have M2 := Lib.hid (M1.out.step hb2)
          clear hb2 k0 k1 k2 k3 k4 k5 k6
          obtain ⟨⟨k0, k1, k2, k3, k4, k5, k6⟩, -⟩ := seven M2.out.blk
          go_wp2_with fail
          refine (Hi.out _ M2.out.bel).mono ?_
          rintro e w3 ⟨rfl, hb3⟩
          have M3 := Lib.hid (M2.out.step hb3)
          clear hb3 k0 k1 k2 k3 k4 k5 k6
          obtain ⟨⟨k0, k1, k2, k3, k4, k5, k6⟩, -⟩ := seven M3.out.blk
          go_wp2_with fail
          go_ret
          exact ⟨by rw [HO.out]; rfl, M3.out.bel⟩
        | true =>
          subst hde
          cases hfb : nameB fd with
          | false =>
            have HO := Lib.hid (show checkV ⟨6, tb, fd, its, ex, hi, true⟩ = .int .i64 13 by unfold checkV checkB; simp [hnb, hib, hfe, hfb, Hex.out])
            go_wp2_with fail
            refine (Hn.out _ M1.out.bel).mono ?_
            rintro e w2 ⟨rfl, hb2⟩
            have M2 := Lib.hid (M1.out.step hb2)
            clear hb2 k0 k1 k2 k3 k4 k5 k6
            obtain ⟨⟨k0, k1, k2, k3, k4, k5, k6⟩, -⟩ := seven M2.out.blk
            go_wp2_with fail
            refine (Hi.out _ M2.out.bel).mono ?_
            rintro e w3 ⟨rfl, hb3⟩
            have M3 := Lib.hid (M2.out.step hb3)
            clear hb3 k0 k1 k2 k3 k4 k5 k6
            obtain ⟨⟨k0, k1, k2, k3, k4, k5, k6⟩, -⟩ := seven M3.out.blk
            go_wp2_with fail
            go_ret
            exact ⟨by rw [HO.out]; rfl, M3.out.bel⟩
          | true =>
            exact absurd hfb (by rw [List.isEmpty_iff.1 hfe]; decide)

set_option maxHeartbeats 4000000 in
set_option maxRecDepth 100000 in
theorem ckR_6n (tb fd : Txt) (its : List Itm) (ex : List Stp) (hi de : Bool) (w : World) (vi ve : Value) (h : CkArgs w ⟨6, tb, fd, its, ex, hi, de⟩ vi ve) (hex : ex.isEmpty = false) :
    Calls Tryz.prog 23 #[.agg #[.int .u8 6, .string ⟨tb.toArray⟩, .string ⟨fd.toArray⟩, vi, ve, .bool hi, .bool de]] w fun e w' => e = .returned (checkV ⟨6, tb, fd, its, ex, hi, de⟩) ∧ Below w.heap.size w w' := by
  obtain ⟨ai, ni, ci, ae, ne, ce, rfl, rfl, Hn, Hf, Hr, Hc, Hi, Hni, Hne⟩ := ckR_parts h 0 0 rfl
  have M1 := Lib.hid (BxM.start w 6 tb fd (.slice ai ni ci) (.slice ae ne ce) hi de)
  have g1 : ((ne : Int) == 0) = false := Hne.out.trans hex
  have Hex := Lib.hid hex
  obtain ⟨⟨k0, k1, k2, k3, k4, k5, k6⟩, -⟩ := seven M1.out.blk
  clear h hex
  go_enter Tryz.func23, Tryz.ntmps23
  cases hnb : nameB tb with
  | false =>
    rw [hnb] at Hn
    have HO := Lib.hid (show checkV ⟨6, tb, fd, its, ex, hi, de⟩ = .int .i64 13 by unfold checkV checkB; simp [hnb, Hex.out])
    go_wp2_with fail
    refine (Hr.out _ M1.out.bel).mono ?_
    rintro e w2 ⟨rfl, hb2⟩
    have M2 := Lib.hid (M1.out.step hb2)
    clear hb2 k0 k1 k2 k3 k4 k5 k6
    obtain ⟨⟨k0, k1, k2, k3, k4, k5, k6⟩, -⟩ := seven M2.out.blk
    go_wp2_with fail
    refine (Hn.out _ M2.out.bel).mono ?_
    rintro e w3 ⟨rfl, hb3⟩
    have M3 := Lib.hid (M2.out.step hb3)
    clear hb3 k0 k1 k2 k3 k4 k5 k6
    obtain ⟨⟨k0, k1, k2, k3, k4, k5, k6⟩, -⟩ := seven M3.out.blk
    go_wp2_with fail
    go_ret
    exact ⟨by rw [HO.out]; rfl, M3.out.bel⟩
  | true =>
    rw [hnb] at Hn
    cases hrb : rightB ex with
    | false =>
      rw [hrb] at Hr
      have HO := Lib.hid (show checkV ⟨6, tb, fd, its, ex, hi, de⟩ = .int .i64 13 by unfold checkV checkB; simp [hnb, hrb, Hex.out])
      go_wp2_with fail
      refine (Hr.out _ M1.out.bel).mono ?_
      rintro e w2 ⟨rfl, hb2⟩
      have M2 := Lib.hid (M1.out.step hb2)
      clear hb2 k0 k1 k2 k3 k4 k5 k6
      obtain ⟨⟨k0, k1, k2, k3, k4, k5, k6⟩, -⟩ := seven M2.out.blk
      go_wp2_with fail
      refine (Hn.out _ M2.out.bel).mono ?_
      rintro e w3 ⟨rfl, hb3⟩
      have M3 := Lib.hid (M2.out.step hb3)
      clear hb3 k0 k1 k2 k3 k4 k5 k6
      obtain ⟨⟨k0, k1, k2, k3, k4, k5, k6⟩, -⟩ := seven M3.out.blk
      go_wp2_with fail
      go_ret
      exact ⟨by rw [HO.out]; rfl, M3.out.bel⟩
    | true =>
      rw [hrb] at Hr
      cases hib : itemsB its with
      | false =>
        rw [show (decide (0 ≤ its.length) && itemsB its) = false from by rw [hib, Bool.and_false]] at Hi
        have HO := Lib.hid (show checkV ⟨6, tb, fd, its, ex, hi, de⟩ = .int .i64 13 by unfold checkV checkB; simp [hnb, hrb, hib, Hex.out])
        go_wp2_with fail
        refine (Hr.out _ M1.out.bel).mono ?_
        rintro e w2 ⟨rfl, hb2⟩
        have M2 := Lib.hid (M1.out.step hb2)
        clear hb2 k0 k1 k2 k3 k4 k5 k6
        obtain ⟨⟨k0, k1, k2, k3, k4, k5, k6⟩, -⟩ := seven M2.out.blk
        go_wp2_with fail
        refine (Hn.out _ M2.out.bel).mono ?_
        rintro e w3 ⟨rfl, hb3⟩
        have M3 := Lib.hid (M2.out.step hb3)
        clear hb3 k0 k1 k2 k3 k4 k5 k6
        obtain ⟨⟨k0, k1, k2, k3, k4, k5, k6⟩, -⟩ := seven M3.out.blk
        go_wp2_with fail
        refine (Hi.out _ M3.out.bel).mono ?_
        rintro e w4 ⟨rfl, hb4⟩
        have M4 := Lib.hid (M3.out.step hb4)
        clear hb4 k0 k1 k2 k3 k4 k5 k6
        obtain ⟨⟨k0, k1, k2, k3, k4, k5, k6⟩, -⟩ := seven M4.out.blk
        go_wp2_with fail
        go_ret
        exact ⟨by rw [HO.out]; rfl, M4.out.bel⟩
      | true =>
        rw [show (decide (0 ≤ its.length) && itemsB its) = true from by rw [hib, Bool.and_true, decide_eq_true (Nat.zero_le _)]] at Hi
        cases hfe : fd.isEmpty with
        | false =>
          cases hfb : nameB fd with
          | false =>
            rw [hfb] at Hf
            have HO := Lib.hid (show checkV ⟨6, tb, fd, its, ex, hi, de⟩ = .int .i64 13 by unfold checkV checkB; simp [hnb, hrb, hib, hfe, hfb, Hex.out])
            go_wp2_with fail
            refine (Hr.out _ M1.out.bel).mono ?_
            rintro e w2 ⟨rfl, hb2⟩
            have M2 := Lib.hid (M1.out.step hb2)
            clear hb2 k0 k1 k2 k3 k4 k5 k6
            obtain ⟨⟨k0, k1, k2, k3, k4, k5, k6⟩, -⟩ := seven M2.out.blk
            go_wp2_with fail
            refine (Hn.out _ M2.out.bel).mono ?_
            rintro e w3 ⟨rfl, hb3⟩
            have M3 := Lib.hid (M2.out.step hb3)
            clear hb3 k0 k1 k2 k3 k4 k5 k6
            obtain ⟨⟨k0, k1, k2, k3, k4, k5, k6⟩, -⟩ := seven M3.out.blk
            go_wp2_with fail
            refine (Hi.out _ M3.out.bel).mono ?_
            rintro e w4 ⟨rfl, hb4⟩
            have M4 := Lib.hid (M3.out.step hb4)
            clear hb4 k0 k1 k2 k3 k4 k5 k6
            obtain ⟨⟨k0, k1, k2, k3, k4, k5, k6⟩, -⟩ := seven M4.out.blk
            go_wp2_with fail
            refine (Hf.out _ M4.out.bel).mono ?_
            rintro e w5 ⟨rfl, hb5⟩
            have M5 := Lib.hid (M4.out.step hb5)
            clear hb5 k0 k1 k2 k3 k4 k5 k6
            obtain ⟨⟨k0, k1, k2, k3, k4, k5, k6⟩, -⟩ := seven M5.out.blk
            go_wp2_with fail
            go_ret
            exact ⟨by rw [HO.out]; rfl, M5.out.bel⟩
          | true =>
            rw [hfb] at Hf
            have HO := Lib.hid (show checkV ⟨6, tb, fd, its, ex, hi, de⟩ = .int .i64 0 by unfold checkV checkB; simp [hnb, hrb, hib, hfe, hfb, Hex.out])
            go_wp2_with fail
            refine (Hr.out _ M1.out.bel).mono ?_
            rintro e w2 ⟨rfl, hb2⟩
            have M2 := Lib.hid (M1.out.step hb2)
            clear hb2 k0 k1 k2 k3 k4 k5 k6
            obtain ⟨⟨k0, k1, k2, k3, k4, k5, k6⟩, -⟩ := seven M2.out.blk
            go_wp2_with fail
            refine (Hn.out _ M2.out.bel).mono ?_
            rintro e w3 ⟨rfl, hb3⟩
            have M3 := Lib.hid (M2.out.step hb3)
            clear hb3 k0 k1 k2 k3 k4 k5 k6
            obtain ⟨⟨k0, k1, k2, k3, k4, k5, k6⟩, -⟩ := seven M3.out.blk
            go_wp2_with fail
            refine (Hi.out _ M3.out.bel).mono ?_
            rintro e w4 ⟨rfl, hb4⟩
            have M4 := Lib.hid (M3.out.step hb4)
            clear hb4 k0 k1 k2 k3 k4 k5 k6
            obtain ⟨⟨k0, k1, k2, k3, k4, k5, k6⟩, -⟩ := seven M4.out.blk
            go_wp2_with fail
            refine (Hf.out _ M4.out.bel).mono ?_
            rintro e w5 ⟨rfl, hb5⟩
            have M5 := Lib.hid (M4.out.step hb5)
            clear hb5 k0 k1 k2 k3 k4 k5 k6
            obtain ⟨⟨k0, k1, k2, k3, k4, k5, k6⟩, -⟩ := seven M5.out.blk
            go_wp2_with fail
            go_ret
            exact ⟨by rw [HO.out]; rfl, M5.out.bel⟩
        | true =>
          cases hde : de with
          | false =>
            subst hde
            have HO := Lib.hid (show checkV ⟨6, tb, fd, its, ex, hi, false⟩ = .int .i64 0 by unfold checkV checkB; simp [hnb, hrb, hib, hfe, Hex.out])
            go_wp2_with fail
            refine (Hr.out _ M1.out.bel).mono ?_
            rintro e w2 ⟨rfl, hb2⟩
            have M2 := Lib.hid (M1.out.step hb2)
            clear hb2 k0 k1 k2 k3 k4 k5 k6
            obtain ⟨⟨k0, k1, k2, k3, k4, k5, k6⟩, -⟩ := seven M2.out.blk
            go_wp2_with fail
            refine (Hn.out _ M2.out.bel).mono ?_
            rintro e w3 ⟨rfl, hb3⟩
            have M3 := Lib.hid (M2.out.step hb3)
            clear hb3 k0 k1 k2 k3 k4 k5 k6
            obtain ⟨⟨k0, k1, k2, k3, k4, k5, k6⟩, -⟩ := seven M3.out.blk
            go_wp2_with fail
            refine (Hi.out _ M3.out.bel).mono ?_
            rintro e w4 ⟨rfl, hb4⟩
            have M4 := Lib.hid (M3.out.step hb4)
            clear hb4 k0 k1 k2 k3 k4 k5 k6
            obtain ⟨⟨k0, k1, k2, k3, k4, k5, k6⟩, -⟩ := seven M4.out.blk
            go_wp2_with fail
            go_ret
            exact ⟨by rw [HO.out]; rfl, M4.out.bel⟩
          | true =>
            subst hde
            cases hfb : nameB fd with
            | false =>
              have HO := Lib.hid (show checkV ⟨6, tb, fd, its, ex, hi, true⟩ = .int .i64 13 by unfold checkV checkB; simp [hnb, hrb, hib, hfe, hfb, Hex.out])
              go_wp2_with fail
              refine (Hr.out _ M1.out.bel).mono ?_
              rintro e w2 ⟨rfl, hb2⟩
              have M2 := Lib.hid (M1.out.step hb2)
              clear hb2 k0 k1 k2 k3 k4 k5 k6
              obtain ⟨⟨k0, k1, k2, k3, k4, k5, k6⟩, -⟩ := seven M2.out.blk
              go_wp2_with fail
              refine (Hn.out _ M2.out.bel).mono ?_
              rintro e w3 ⟨rfl, hb3⟩
              have M3 := Lib.hid (M2.out.step hb3)
              clear hb3 k0 k1 k2 k3 k4 k5 k6
              obtain ⟨⟨k0, k1, k2, k3, k4, k5, k6⟩, -⟩ := seven M3.out.blk
              go_wp2_with fail
              refine (Hi.out _ M3.out.bel).mono ?_
              rintro e w4 ⟨rfl, hb4⟩
              have M4 := Lib.hid (M3.out.step hb4)
              clear hb4 k0 k1 k2 k3 k4 k5 k6
              obtain ⟨⟨k0, k1, k2, k3, k4, k5, k6⟩, -⟩ := seven M4.out.blk
              go_wp2_with fail
              go_ret
              exact ⟨by rw [HO.out]; rfl, M4.out.bel⟩
            | true =>
              exact absurd hfb (by rw [List.isEmpty_iff.1 hfe]; decide)

end Go.Proofs.YtcjmhmmjfgjcnaaGreatDoor.Rf
