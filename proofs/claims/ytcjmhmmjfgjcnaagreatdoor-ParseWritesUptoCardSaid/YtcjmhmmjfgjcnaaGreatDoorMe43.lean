/- Parts: RdC3 RdC4. -/
import Derived.Test.YtcjmhmmjfgjcnaaGreatDoorMe41

/- codicilref10: Check, statements of kind 3. -/
namespace Go.Proofs.YtcjmhmmjfgjcnaaGreatDoor.Rf
open Go.RowKit Go.Proofs.YtcjmhmmjfgjcnaaGreatDoor.Lx Go.Proofs.YtcjmhmmjfgjcnaaGreatDoor.Pa

set_option maxHeartbeats 4000000 in
set_option maxRecDepth 100000 in
theorem ckR_3e (tb fd : Txt) (its : List Itm) (ex : List Stp) (hi de : Bool) (w : World) (vi ve : Value) (h : CkArgs w ⟨3, tb, fd, its, ex, hi, de⟩ vi ve) (hex : ex.isEmpty = true) :
    Calls Tryz.prog 23 #[.agg #[.int .u8 3, .string ⟨tb.toArray⟩, .string ⟨fd.toArray⟩, vi, ve, .bool hi, .bool de]] w fun e w' => e = .returned (checkV ⟨3, tb, fd, its, ex, hi, de⟩) ∧ Below w.heap.size w w' := by
  obtain ⟨ai, ni, ci, ae, ne, ce, rfl, rfl, Hn, Hf, Hr, Hc, Hi, Hni, Hne⟩ := ckR_parts h 0 0 rfl
  have M1 := Lib.hid (BxM.start w 3 tb fd (.slice ai ni ci) (.slice ae ne ce) hi de)
  have g1 : ((ne : Int) == 0) = true := Hne.out.trans hex
  have Hex := Lib.hid hex
  obtain ⟨⟨k0, k1, k2, k3, k4, k5, k6⟩, -⟩ := seven M1.out.blk
  clear h hex
  go_enter Tryz.func23, Tryz.ntmps23
  cases hnb : nameB tb with
  | false =>
    rw [hnb] at Hn
    have HO := Lib.hid (show checkV ⟨3, tb, fd, its, ex, hi, de⟩ = .int .i64 13 by unfold checkV checkB; simp [hnb])
    go_wp2_with fail
    refine (Hn.out _ M1.out.bel).mono ?_
    rintro e w2 ⟨rfl, hb2⟩
    have M2 := Lib.hid (M1.out.step hb2)
    clear hb2 k0 k1 k2 k3 k4 k5 k6
    obtain ⟨⟨k0, k1, k2, k3, k4, k5, k6⟩, -⟩ := seven M2.out.blk
    go_wp2_with fail
    go_ret
    exact ⟨by rw [HO.out]; rfl, M2.out.bel⟩
  | true =>
    rw [hnb] at Hn
    cases hie : its.isEmpty with
    | false =>
      have g0 : ((ni : Int) == 0) = false := Hni.out.trans hie
      have HO := Lib.hid (show checkV ⟨3, tb, fd, its, ex, hi, de⟩ = .int .i64 13 by unfold checkV checkB; simp [hnb, hie])
      go_wp2_with fail
      refine (Hn.out _ M1.out.bel).mono ?_
      rintro e w2 ⟨rfl, hb2⟩
      have M2 := Lib.hid (M1.out.step hb2)
      clear hb2 k0 k1 k2 k3 k4 k5 k6
      obtain ⟨⟨k0, k1, k2, k3, k4, k5, k6⟩, -⟩ := seven M2.out.blk
      go_wp2_with fail
      go_ret
      exact ⟨by rw [HO.out]; rfl, M2.out.bel⟩
    | true =>
      have g0 : ((ni : Int) == 0) = true := Hni.out.trans hie
      cases hhi : hi with
      | false =>
        subst hhi
        cases hde : de with
        | false =>
          subst hde
          cases hfe : fd.isEmpty with
          | false =>
            have HO := Lib.hid (show checkV ⟨3, tb, fd, its, ex, false, false⟩ = .int .i64 13 by unfold checkV checkB; simp [hnb, hie, hfe])
            go_wp2_with fail
            refine (Hn.out _ M1.out.bel).mono ?_
            rintro e w2 ⟨rfl, hb2⟩
            have M2 := Lib.hid (M1.out.step hb2)
            clear hb2 k0 k1 k2 k3 k4 k5 k6
            obtain ⟨⟨k0, k1, k2, k3, k4, k5, k6⟩, -⟩ := seven M2.out.blk
            go_wp2_with fail
            go_ret
            exact ⟨by rw [HO.out]; rfl, M2.out.bel⟩
          | true =>
            have hrb : rightB ex = false := by rw [List.isEmpty_iff.1 Hex.out]; decide
            rw [hrb] at Hr
            have HO := Lib.hid (show checkV ⟨3, tb, fd, its, ex, false, false⟩ = .int .i64 13 by unfold checkV checkB; simp [hnb, hie, hfe, hrb])
            go_wp2_with fail
            refine (Hn.out _ M1.out.bel).mono ?_
            rintro e w2 ⟨rfl, hb2⟩
            have M2 := Lib.hid (M1.out.step hb2)
            clear hb2 k0 k1 k2 k3 k4 k5 k6
            obtain ⟨⟨k0, k1, k2, k3, k4, k5, k6⟩, -⟩ := seven M2.out.blk
            go_wp2_with fail
            refine (Hr.out _ M2.out.bel).mono ?_
            rintro e w3 ⟨rfl, hb3⟩
            have M3 := Lib.hid (M2.out.step hb3)
            clear hb3 k0 k1 k2 k3 k4 k5 k6
            obtain ⟨⟨k0, k1, k2, k3, k4, k5, k6⟩, -⟩ := seven M3.out.blk
            go_wp2_with fail
            go_ret
            exact ⟨by rw [HO.out]; rfl, M3.out.bel⟩
        | true =>
          subst hde
          have HO := Lib.hid (show checkV ⟨3, tb, fd, its, ex, false, true⟩ = .int .i64 13 by unfold checkV checkB; simp [hnb, hie])
          go_wp2_with fail
          refine (Hn.out _ M1.out.bel).mono ?_
          rintro e w2 ⟨rfl, hb2⟩
          have M2 := Lib.hid (M1.out.step hb2)
          clear hb2 k0 k1 k2 k3 k4 k5 k6
          obtain ⟨⟨k0, k1, k2, k3, k4, k5, k6⟩, -⟩ := seven M2.out.blk
          go_wp2_with fail
          go_ret
          exact ⟨by rw [HO.out]; rfl, M2.out.bel⟩
      | true =>
        subst hhi
        have HO := Lib.hid (show checkV ⟨3, tb, fd, its, ex, true, de⟩ = .int .i64 13 by unfold checkV checkB; simp [hnb, hie])
        go_wp2_with fail
        refine (Hn.out _ M1.out.bel).mono ?_
        rintro e w2 ⟨rfl, hb2⟩
        have M2 := Lib.hid (M1.out.step hb2)
        clear hb2 k0 k1 k2 k3 k4 k5 k6
        obtain ⟨⟨k0, k1, k2, k3, k4, k5, k6⟩, -⟩ := seven M2.out.blk
        go_wp2_with fail
        go_ret
        exact ⟨by rw [HO.out]; rfl, M2.out.bel⟩

set_option maxHeartbeats 4000000 in
set_option maxRecDepth 100000 in
theorem ckR_3n (tb fd : Txt) (its : List Itm) (ex : List Stp) (hi de : Bool) (w : World) (vi ve : Value) (h : CkArgs w ⟨3, tb, fd, its, ex, hi, de⟩ vi ve) (hex : ex.isEmpty = false) :
    Calls Tryz.prog 23 #[.agg #[.int .u8 3, .string ⟨tb.toArray⟩, .string ⟨fd.toArray⟩, vi, ve, .bool hi, .bool de]] w fun e w' => e = .returned (checkV ⟨3, tb, fd, its, ex, hi, de⟩) ∧ Below w.heap.size w w' := by
  obtain ⟨ai, ni, ci, ae, ne, ce, rfl, rfl, Hn, Hf, Hr, Hc, Hi, Hni, Hne⟩ := ckR_parts h 0 0 rfl
  have M1 := Lib.hid (BxM.start w 3 tb fd (.slice ai ni ci) (.slice ae ne ce) hi de)
  have g1 : ((ne : Int) == 0) = false := Hne.out.trans hex
  have Hex := Lib.hid hex
  obtain ⟨⟨k0, k1, k2, k3, k4, k5, k6⟩, -⟩ := seven M1.out.blk
  clear h hex
  go_enter Tryz.func23, Tryz.ntmps23
  cases hnb : nameB tb with
  | false =>
    rw [hnb] at Hn
    have HO := Lib.hid (show checkV ⟨3, tb, fd, its, ex, hi, de⟩ = .int .i64 13 by unfold checkV checkB; simp [hnb])
    go_wp2_with fail
    refine (Hr.out _ M1.out.bel).mono ?_
    rintro e w2 ⟨rfl, hb2⟩
    have M2 := Lib.hid (M1.out.step hb2)
    clear hb2 k0 k1 k2 k3 k4 k5 k6
    obtain ⟨⟨k0, k1, k2, k3, k4, k5, k6⟩, -⟩ := seven M2.out.blk
    go_wp2_with fail
    refine (Hn.out _ M2.out.bel).mono ?_
    rintro e w3 ⟨rfl, hb3⟩
    have M3 := Lib.hid (M2.out.step hb3)
    clear hb3 k0 k1 k2 k3 k4 k5 k6
    obtain ⟨⟨k0, k1, k2, k3, k4, k5, k6⟩, -⟩ := seven M3.out.blk
    go_wp2_with fail
    go_ret
    exact ⟨by rw [HO.out]; rfl, M3.out.bel⟩
  | true =>
    rw [hnb] at Hn
    cases hie : its.isEmpty with
    | false =>
      have g0 : ((ni : Int) == 0) = false := Hni.out.trans hie
      have HO := Lib.hid (show checkV ⟨3, tb, fd, its, ex, hi, de⟩ = .int .i64 13 by unfold checkV checkB; simp [hnb, hie])
      go_wp2_with fail
      refine (Hr.out _ M1.out.bel).mono ?_
      rintro e w2 ⟨rfl, hb2⟩
      have M2 := Lib.hid (M1.out.step hb2)
      clear hb2 k0 k1 k2 k3 k4 k5 k6
      obtain ⟨⟨k0, k1, k2, k3, k4, k5, k6⟩, -⟩ := seven M2.out.blk
      go_wp2_with fail
      refine (Hn.out _ M2.out.bel).mono ?_
      rintro e w3 ⟨rfl, hb3⟩
      have M3 := Lib.hid (M2.out.step hb3)
      clear hb3 k0 k1 k2 k3 k4 k5 k6
      obtain ⟨⟨k0, k1, k2, k3, k4, k5, k6⟩, -⟩ := seven M3.out.blk
      go_wp2_with fail
      go_ret
      exact ⟨by rw [HO.out]; rfl, M3.out.bel⟩
    | true =>
      have g0 : ((ni : Int) == 0) = true := Hni.out.trans hie
      cases hhi : hi with
      | false =>
        subst hhi
        cases hde : de with
        | false =>
          subst hde
          cases hfe : fd.isEmpty with
          | false =>
            have HO := Lib.hid (show checkV ⟨3, tb, fd, its, ex, false, false⟩ = .int .i64 13 by unfold checkV checkB; simp [hnb, hie, hfe])
            go_wp2_with fail
            refine (Hr.out _ M1.out.bel).mono ?_
            rintro e w2 ⟨rfl, hb2⟩
            have M2 := Lib.hid (M1.out.step hb2)
            clear hb2 k0 k1 k2 k3 k4 k5 k6
            obtain ⟨⟨k0, k1, k2, k3, k4, k5, k6⟩, -⟩ := seven M2.out.blk
            go_wp2_with fail
            refine (Hn.out _ M2.out.bel).mono ?_
            rintro e w3 ⟨rfl, hb3⟩
            have M3 := Lib.hid (M2.out.step hb3)
            clear hb3 k0 k1 k2 k3 k4 k5 k6
            obtain ⟨⟨k0, k1, k2, k3, k4, k5, k6⟩, -⟩ := seven M3.out.blk
            go_wp2_with fail
            go_ret
            exact ⟨by rw [HO.out]; rfl, M3.out.bel⟩
          | true =>
            cases hrb : rightB ex with
            | false =>
              rw [hrb] at Hr
              have HO := Lib.hid (show checkV ⟨3, tb, fd, its, ex, false, false⟩ = .int .i64 13 by unfold checkV checkB; simp [hnb, hie, hfe, hrb])
              go_wp2_with fail
              refine (Hr.out _ M1.out.bel).mono ?_
              rintro e w2 ⟨rfl, hb2⟩
              have M2 := Lib.hid (M1.out.step hb2)
              clear hb2 k0 k1 k2 k3 k4 k5 k6
              obtain ⟨⟨k0, k1, k2, k3, k4, k5, k6⟩, -⟩ := seven M2.out.blk
              go_wp2_with fail
              refine (Hn.out _ M2.out.bel).mono ?_
              rintro e w3 ⟨rfl, hb3⟩
              have M3 := Lib.hid (M2.out.step hb3)
              clear hb3 k0 k1 k2 k3 k4 k5 k6
              obtain ⟨⟨k0, k1, k2, k3, k4, k5, k6⟩, -⟩ := seven M3.out.blk
              go_wp2_with fail
              refine (Hr.out _ M3.out.bel).mono ?_
              rintro e w4 ⟨rfl, hb4⟩
              have M4 := Lib.hid (M3.out.step hb4)
              clear hb4 k0 k1 k2 k3 k4 k5 k6
              obtain ⟨⟨k0, k1, k2, k3, k4, k5, k6⟩, -⟩ := seven M4.out.blk
              go_wp2_with fail
              go_ret
              exact ⟨by rw [HO.out]; rfl, M4.out.bel⟩
            | true =>
              rw [hrb] at Hr
              cases hcb : closedB ex with
              | false =>
                rw [hcb] at Hc
                have HO := Lib.hid (show checkV ⟨3, tb, fd, its, ex, false, false⟩ = .int .i64 13 by unfold checkV checkB; simp [hnb, hie, hfe, hrb, hcb])
                go_wp2_with fail
                refine (Hr.out _ M1.out.bel).mono ?_
                rintro e w2 ⟨rfl, hb2⟩
                have M2 := Lib.hid (M1.out.step hb2)
                clear hb2 k0 k1 k2 k3 k4 k5 k6
                obtain ⟨⟨k0, k1, k2, k3, k4, k5, k6⟩, -⟩ := seven M2.out.blk
                go_wp2_with fail
                refine (Hn.out _ M2.out.bel).mono ?_
                rintro e w3 ⟨rfl, hb3⟩
                have M3 := Lib.hid (M2.out.step hb3)
                clear hb3 k0 k1 k2 k3 k4 k5 k6
                obtain ⟨⟨k0, k1, k2, k3, k4, k5, k6⟩, -⟩ := seven M3.out.blk
                go_wp2_with fail
                refine (Hr.out _ M3.out.bel).mono ?_
                rintro e w4 ⟨rfl, hb4⟩
                have M4 := Lib.hid (M3.out.step hb4)
                clear hb4 k0 k1 k2 k3 k4 k5 k6
                obtain ⟨⟨k0, k1, k2, k3, k4, k5, k6⟩, -⟩ := seven M4.out.blk
                go_wp2_with fail
                refine (Hc.out _ M4.out.bel).mono ?_
                rintro e w5 ⟨rfl, hb5⟩
                have M5 := Lib.hid (M4.out.step hb5)
                clear hb5 k0 k1 k2 k3 k4 k5 k6
                obtain ⟨⟨k0, k1, k2, k3, k4, k5, k6⟩, -⟩ := seven M5.out.blk
                go_wp2_with fail
                go_ret
                exact ⟨by rw [HO.out]; rfl, M5.out.bel⟩
              | true =>
                rw [hcb] at Hc
                have HO := Lib.hid (show checkV ⟨3, tb, fd, its, ex, false, false⟩ = .int .i64 0 by unfold checkV checkB; simp [hnb, hie, hfe, hrb, hcb])
                go_wp2_with fail
                refine (Hr.out _ M1.out.bel).mono ?_
                rintro e w2 ⟨rfl, hb2⟩
                have M2 := Lib.hid (M1.out.step hb2)
                clear hb2 k0 k1 k2 k3 k4 k5 k6
                obtain ⟨⟨k0, k1, k2, k3, k4, k5, k6⟩, -⟩ := seven M2.out.blk
                go_wp2_with fail
                refine (Hn.out _ M2.out.bel).mono ?_
                rintro e w3 ⟨rfl, hb3⟩
                have M3 := Lib.hid (M2.out.step hb3)
                clear hb3 k0 k1 k2 k3 k4 k5 k6
                obtain ⟨⟨k0, k1, k2, k3, k4, k5, k6⟩, -⟩ := seven M3.out.blk
                go_wp2_with fail
                refine (Hr.out _ M3.out.bel).mono ?_
                rintro e w4 ⟨rfl, hb4⟩
                have M4 := Lib.hid (M3.out.step hb4)
                clear hb4 k0 k1 k2 k3 k4 k5 k6
                obtain ⟨⟨k0, k1, k2, k3, k4, k5, k6⟩, -⟩ := seven M4.out.blk
                go_wp2_with fail
                refine (Hc.out _ M4.out.bel).mono ?_
                rintro e w5 ⟨rfl, hb5⟩
                have M5 := Lib.hid (M4.out.step hb5)
                clear hb5 k0 k1 k2 k3 k4 k5 k6
                obtain ⟨⟨k0, k1, k2, k3, k4, k5, k6⟩, -⟩ := seven M5.out.blk
                go_wp2_with fail
                go_ret
                exact ⟨by rw [HO.out]; rfl, M5.out.bel⟩
        | true =>
          subst hde
          have HO := Lib.hid (show checkV ⟨3, tb, fd, its, ex, false, true⟩ = .int .i64 13 by unfold checkV checkB; simp [hnb, hie])
          go_wp2_with fail
          refine (Hr.out _ M1.out.bel).mono ?_
          rintro e w2 ⟨rfl, hb2⟩
          have M2 := Lib.hid (M1.out.step hb2)
          clear hb2 k0 k1 k2 k3 k4 k5 k6
          obtain ⟨⟨k0, k1, k2, k3, k4, k5, k6⟩, -⟩ := seven M2.out.blk
          go_wp2_with fail
          refine (Hn.out _ M2.out.bel).mono ?_
          rintro e w3 ⟨rfl, hb3⟩
          have M3 := Lib.hid (M2.out.step hb3)
          clear hb3 k0 k1 k2 k3 k4 k5 k6
          obtain ⟨⟨k0, k1, k2, k3, k4, k5, k6⟩, -⟩ := seven M3.out.blk
          go_wp2_with fail
          go_ret
          exact ⟨by rw [HO.out]; rfl, M3.out.bel⟩
      | true =>
        subst hhi
        have HO := Lib.hid (show checkV ⟨3, tb, fd, its, ex, true, de⟩ = .int .i64 13 by unfold checkV checkB; simp [hnb, hie])
        go_wp2_with fail
        refine (Hr.out _ M1.out.bel).mono ?_
        rintro e w2 ⟨rfl, hb2⟩
        have M2 := Lib.hid (M1.out.step hb2)
        clear hb2 k0 k1 k2 k3 k4 k5 k6
        obtain ⟨⟨k0, k1, k2, k3, k4, k5, k6⟩, -⟩ := seven M2.out.blk
        go_wp2_with fail
        refine (Hn.out _ M2.out.bel).mono ?_
        rintro e w3 ⟨rfl, hb3⟩
        have M3 := Lib.hid (M2.out.step hb3)
        clear hb3 k0 k1 k2 k3 k4 k5 k6
        obtain ⟨⟨k0, k1, k2, k3, k4, k5, k6⟩, -⟩ := seven M3.out.blk
        go_wp2_with fail
        go_ret
        exact ⟨by rw [HO.out]; rfl, M3.out.bel⟩

end Go.Proofs.YtcjmhmmjfgjcnaaGreatDoor.Rf

/- codicilref10: Check, statements of kind 4. -/
namespace Go.Proofs.YtcjmhmmjfgjcnaaGreatDoor.Rf
open Go.RowKit Go.Proofs.YtcjmhmmjfgjcnaaGreatDoor.Lx Go.Proofs.YtcjmhmmjfgjcnaaGreatDoor.Pa

set_option maxHeartbeats 4000000 in
set_option maxRecDepth 100000 in
theorem ckR_4e (tb fd : Txt) (its : List Itm) (ex : List Stp) (hi de : Bool) (w : World) (vi ve : Value) (h : CkArgs w ⟨4, tb, fd, its, ex, hi, de⟩ vi ve) (hex : ex.isEmpty = true) :
    Calls Tryz.prog 23 #[.agg #[.int .u8 4, .string ⟨tb.toArray⟩, .string ⟨fd.toArray⟩, vi, ve, .bool hi, .bool de]] w fun e w' => e = .returned (checkV ⟨4, tb, fd, its, ex, hi, de⟩) ∧ Below w.heap.size w w' := by
  obtain ⟨ai, ni, ci, ae, ne, ce, rfl, rfl, Hn, Hf, Hr, Hc, Hi, Hni, Hne⟩ := ckR_parts h 1 1 rfl
  have M1 := Lib.hid (BxM.start w 4 tb fd (.slice ai ni ci) (.slice ae ne ce) hi de)
  have g1 : ((ne : Int) == 0) = true := Hne.out.trans hex
  have Hex := Lib.hid hex
  obtain ⟨⟨k0, k1, k2, k3, k4, k5, k6⟩, -⟩ := seven M1.out.blk
  clear h hex
  go_enter Tryz.func23, Tryz.ntmps23
  cases hnb : nameB tb with
  | false =>
    rw [hnb] at Hn
    have HO := Lib.hid (show checkV ⟨4, tb, fd, its, ex, hi, de⟩ = .int .i64 13 by unfold checkV checkB; simp [hnb, Hex.out])
    go_wp2_with fail
    refine (Hn.out _ M1.out.bel).mono ?_
    rintro e w2 ⟨rfl, hb2⟩
    have M2 := Lib.hid (M1.out.step hb2)
    clear hb2 k0 k1 k2 k3 k4 k5 k6
    obtain ⟨⟨k0, k1, k2, k3, k4, k5, k6⟩, -⟩ := seven M2.out.blk
    go_wp2_with fail
    go_ret
    exact ⟨by rw [HO.out]; rfl, M2.out.bel⟩
  | true =>
    rw [hnb] at Hn
    cases hhi : hi with
    | false =>
      subst hhi
      cases hde : de with
      | false =>
        subst hde
        cases hfe : fd.isEmpty with
        | false =>
          have HO := Lib.hid (show checkV ⟨4, tb, fd, its, ex, false, false⟩ = .int .i64 13 by unfold checkV checkB; simp [hnb, hfe, Hex.out])
          go_wp2_with fail
          refine (Hn.out _ M1.out.bel).mono ?_
          rintro e w2 ⟨rfl, hb2⟩
          have M2 := Lib.hid (M1.out.step hb2)
          clear hb2 k0 k1 k2 k3 k4 k5 k6
          obtain ⟨⟨k0, k1, k2, k3, k4, k5, k6⟩, -⟩ := seven M2.out.blk
          go_wp2_with fail
          go_ret
          exact ⟨by rw [HO.out]; rfl, M2.out.bel⟩
        | true =>
          cases hib : itemsB its with
          | false =>
            rw [show (decide (1 ≤ its.length) && itemsB its) = false from by rw [hib, Bool.and_false]] at Hi
            have HO := Lib.hid (show checkV ⟨4, tb, fd, its, ex, false, false⟩ = .int .i64 13 by unfold checkV checkB; simp [hnb, hfe, hib, Hex.out])
            go_wp2_with fail
            refine (Hn.out _ M1.out.bel).mono ?_
            rintro e w2 ⟨rfl, hb2⟩
            have M2 := Lib.hid (M1.out.step hb2)
            clear hb2 k0 k1 k2 k3 k4 k5 k6
            obtain ⟨⟨k0, k1, k2, k3, k4, k5, k6⟩, -⟩ := seven M2.out.blk
            go_wp2_with fail
            refine (Hi.out _ M2.out.bel).mono ?_
            rintro e w3 ⟨rfl, hb3⟩
            have M3 := Lib.hid (M2.out.step hb3)
            clear hb3 k0 k1 k2 k3 k4 k5 k6
            obtain ⟨⟨k0, k1, k2, k3, k4, k5, k6⟩, -⟩ := seven M3.out.blk
            go_wp2_with fail
            go_ret
            exact ⟨by rw [HO.out]; rfl, M3.out.bel⟩
          | true =>
            cases hie : its.isEmpty with
            | false =>
              rw [show (decide (1 ≤ its.length) && itemsB its) = true from by rw [hib, Bool.and_true, decide_eq_true (items_some hie)]] at Hi
              have HO := Lib.hid (show checkV ⟨4, tb, fd, its, ex, false, false⟩ = .int .i64 0 by unfold checkV checkB; simp [hnb, hfe, hib, hie, Hex.out])
              go_wp2_with fail
              refine (Hn.out _ M1.out.bel).mono ?_
              rintro e w2 ⟨rfl, hb2⟩
              have M2 := Lib.hid (M1.out.step hb2)
              clear hb2 k0 k1 k2 k3 k4 k5 k6
              obtain ⟨⟨k0, k1, k2, k3, k4, k5, k6⟩, -⟩ := seven M2.out.blk
              go_wp2_with fail
              refine (Hi.out _ M2.out.bel).mono ?_
              rintro e w3 ⟨rfl, hb3⟩
              have M3 := Lib.hid (M2.out.step hb3)
              clear hb3 k0 k1 k2 k3 k4 k5 k6
              obtain ⟨⟨k0, k1, k2, k3, k4, k5, k6⟩, -⟩ := seven M3.out.blk
              go_wp2_with fail
              go_ret
              exact ⟨by rw [HO.out]; rfl, M3.out.bel⟩
            | true =>
              rw [show (decide (1 ≤ its.length) && itemsB its) = false from by rw [decide_eq_false (items_none hie), Bool.false_and]] at Hi
              have HO := Lib.hid (show checkV ⟨4, tb, fd, its, ex, false, false⟩ = .int .i64 13 by unfold checkV checkB; simp [hnb, hfe, hib, hie, Hex.out])
              go_wp2_with fail
              refine (Hn.out _ M1.out.bel).mono ?_
              rintro e w2 ⟨rfl, hb2⟩
              have M2 := Lib.hid (M1.out.step hb2)
              clear hb2 k0 k1 k2 k3 k4 k5 k6
              obtain ⟨⟨k0, k1, k2, k3, k4, k5, k6⟩, -⟩ := seven M2.out.blk
              go_wp2_with fail
              refine (Hi.out _ M2.out.bel).mono ?_
              rintro e w3 ⟨rfl, hb3⟩
              have M3 := Lib.hid (M2.out.step hb3)
              clear hb3 k0 k1 k2 k3 k4 k5 k6
              obtain ⟨⟨k0, k1, k2, k3, k4, k5, k6⟩, -⟩ := seven M3.out.blk
              go_wp2_with fail
              go_ret
              exact ⟨by rw [HO.out]; rfl, M3.out.bel⟩
      | true =>
        subst hde
        have HO := Lib.hid (show checkV ⟨4, tb, fd, its, ex, false, true⟩ = .int .i64 13 by unfold checkV checkB; simp [hnb, Hex.out])
        go_wp2_with fail
        refine (Hn.out _ M1.out.bel).mono ?_
        rintro e w2 ⟨rfl, hb2⟩
        have M2 := Lib.hid (M1.out.step hb2)
        clear hb2 k0 k1 k2 k3 k4 k5 k6
        obtain ⟨⟨k0, k1, k2, k3, k4, k5, k6⟩, -⟩ := seven M2.out.blk
        go_wp2_with fail
        go_ret
        exact ⟨by rw [HO.out]; rfl, M2.out.bel⟩
    | true =>
      subst hhi
      have HO := Lib.hid (show checkV ⟨4, tb, fd, its, ex, true, de⟩ = .int .i64 13 by unfold checkV checkB; simp [hnb, Hex.out])
      go_wp2_with fail
      refine (Hn.out _ M1.out.bel).mono ?_
      rintro e w2 ⟨rfl, hb2⟩
      have M2 := Lib.hid (M1.out.step hb2)
      clear hb2 k0 k1 k2 k3 k4 k5 k6
      obtain ⟨⟨k0, k1, k2, k3, k4, k5, k6⟩, -⟩ := seven M2.out.blk
      go_wp2_with fail
      go_ret
      exact ⟨by rw [HO.out]; rfl, M2.out.bel⟩

set_option maxHeartbeats 4000000 in
set_option maxRecDepth 100000 in
theorem ckR_4n (tb fd : Txt) (its : List Itm) (ex : List Stp) (hi de : Bool) (w : World) (vi ve : Value) (h : CkArgs w ⟨4, tb, fd, its, ex, hi, de⟩ vi ve) (hex : ex.isEmpty = false) :
    Calls Tryz.prog 23 #[.agg #[.int .u8 4, .string ⟨tb.toArray⟩, .string ⟨fd.toArray⟩, vi, ve, .bool hi, .bool de]] w fun e w' => e = .returned (checkV ⟨4, tb, fd, its, ex, hi, de⟩) ∧ Below w.heap.size w w' := by
  obtain ⟨ai, ni, ci, ae, ne, ce, rfl, rfl, Hn, Hf, Hr, Hc, Hi, Hni, Hne⟩ := ckR_parts h 1 1 rfl
  have M1 := Lib.hid (BxM.start w 4 tb fd (.slice ai ni ci) (.slice ae ne ce) hi de)
  have g1 : ((ne : Int) == 0) = false := Hne.out.trans hex
  have Hex := Lib.hid hex
  obtain ⟨⟨k0, k1, k2, k3, k4, k5, k6⟩, -⟩ := seven M1.out.blk
  clear h hex
  go_enter Tryz.func23, Tryz.ntmps23
  cases hnb : nameB tb with
  | false =>
    rw [hnb] at Hn
    have HO := Lib.hid (show checkV ⟨4, tb, fd, its, ex, hi, de⟩ = .int .i64 13 by unfold checkV checkB; simp [hnb, Hex.out])
    go_wp2_with fail
    refine (Hr.out _ M1.out.bel).mono ?_
    rintro e w2 ⟨rfl, hb2⟩
    have M2 := Lib.hid (M1.out.step hb2)
    clear hb2 k0 k1 k2 k3 k4 k5 k6
    obtain ⟨⟨k0, k1, k2, k3, k4, k5, k6⟩, -⟩ := seven M2.out.blk
    go_wp2_with fail
    refine (Hn.out _ M2.out.bel).mono ?_
    rintro e w3 ⟨rfl, hb3⟩
    have M3 := Lib.hid (M2.out.step hb3)
    clear hb3 k0 k1 k2 k3 k4 k5 k6
    obtain ⟨⟨k0, k1, k2, k3, k4, k5, k6⟩, -⟩ := seven M3.out.blk
    go_wp2_with fail
    go_ret
    exact ⟨by rw [HO.out]; rfl, M3.out.bel⟩
  | true =>
    rw [hnb] at Hn
    cases hhi : hi with
    | false =>
      subst hhi
      cases hde : de with
      | false =>
        subst hde
        cases hfe : fd.isEmpty with
        | false =>
          have HO := Lib.hid (show checkV ⟨4, tb, fd, its, ex, false, false⟩ = .int .i64 13 by unfold checkV checkB; simp [hnb, hfe, Hex.out])
          go_wp2_with fail
          refine (Hr.out _ M1.out.bel).mono ?_
          rintro e w2 ⟨rfl, hb2⟩
          have M2 := Lib.hid (M1.out.step hb2)
          clear hb2 k0 k1 k2 k3 k4 k5 k6
          obtain ⟨⟨k0, k1, k2, k3, k4, k5, k6⟩, -⟩ := seven M2.out.blk
          go_wp2_with fail
          refine (Hn.out _ M2.out.bel).mono ?_
          rintro e w3 ⟨rfl, hb3⟩
          have M3 := Lib.hid (M2.out.step hb3)
          clear hb3 k0 k1 k2 k3 k4 k5 k6
          obtain ⟨⟨k0, k1, k2, k3, k4, k5, k6⟩, -⟩ := seven M3.out.blk
          go_wp2_with fail
          go_ret
          exact ⟨by rw [HO.out]; rfl, M3.out.bel⟩
        | true =>
          cases hrb : rightB ex with
          | false =>
            rw [hrb] at Hr
            have HO := Lib.hid (show checkV ⟨4, tb, fd, its, ex, false, false⟩ = .int .i64 13 by unfold checkV checkB; simp [hnb, hfe, hrb, Hex.out])
            go_wp2_with fail
            refine (Hr.out _ M1.out.bel).mono ?_
            rintro e w2 ⟨rfl, hb2⟩
            have M2 := Lib.hid (M1.out.step hb2)
            clear hb2 k0 k1 k2 k3 k4 k5 k6
            obtain ⟨⟨k0, k1, k2, k3, k4, k5, k6⟩, -⟩ := seven M2.out.blk
            go_wp2_with fail
            refine (Hn.out _ M2.out.bel).mono ?_
            rintro e w3 ⟨rfl, hb3⟩
            have M3 := Lib.hid (M2.out.step hb3)
            clear hb3 k0 k1 k2 k3 k4 k5 k6
            obtain ⟨⟨k0, k1, k2, k3, k4, k5, k6⟩, -⟩ := seven M3.out.blk
            go_wp2_with fail
            go_ret
            exact ⟨by rw [HO.out]; rfl, M3.out.bel⟩
          | true =>
            rw [hrb] at Hr
            cases hib : itemsB its with
            | false =>
              rw [show (decide (1 ≤ its.length) && itemsB its) = false from by rw [hib, Bool.and_false]] at Hi
              have HO := Lib.hid (show checkV ⟨4, tb, fd, its, ex, false, false⟩ = .int .i64 13 by unfold checkV checkB; simp [hnb, hfe, hrb, hib, Hex.out])
              go_wp2_with fail
              refine (Hr.out _ M1.out.bel).mono ?_
              rintro e w2 ⟨rfl, hb2⟩
              have M2 := Lib.hid (M1.out.step hb2)
              clear hb2 k0 k1 k2 k3 k4 k5 k6
              obtain ⟨⟨k0, k1, k2, k3, k4, k5, k6⟩, -⟩ := seven M2.out.blk
              go_wp2_with fail
              refine (Hn.out _ M2.out.bel).mono ?_
              rintro e w3 ⟨rfl, hb3⟩
              have M3 := Lib.hid (M2.out.step hb3)
              clear hb3 k0 k1 k2 k3 k4 k5 k6
              obtain ⟨⟨k0, k1, k2, k3, k4, k5, k6⟩, -⟩ := seven M3.out.blk
              go_wp2_with fail
              refine (Hi.out _ M3.out.bel).mono ?_
              rintro e w4 ⟨rfl, hb4⟩
              have M4 := Lib.hid (M3.out.step hb4)
              clear hb4 k0 k1 k2 k3 k4 k5 k6
              obtain ⟨⟨k0, k1, k2, k3, k4, k5, k6⟩, -⟩ := seven M4.out.blk
              go_wp2_with fail
              go_ret
              exact ⟨by rw [HO.out]; rfl, M4.out.bel⟩
            | true =>
              cases hie : its.isEmpty with
              | false =>
                rw [show (decide (1 ≤ its.length) && itemsB its) = true from by rw [hib, Bool.and_true, decide_eq_true (items_some hie)]] at Hi
                have HO := Lib.hid (show checkV ⟨4, tb, fd, its, ex, false, false⟩ = .int .i64 0 by unfold checkV checkB; simp [hnb, hfe, hrb, hib, hie, Hex.out])
                go_wp2_with fail
                refine (Hr.out _ M1.out.bel).mono ?_
                rintro e w2 ⟨rfl, hb2⟩
                have M2 := Lib.hid (M1.out.step hb2)
                clear hb2 k0 k1 k2 k3 k4 k5 k6
                obtain ⟨⟨k0, k1, k2, k3, k4, k5, k6⟩, -⟩ := seven M2.out.blk
                go_wp2_with fail
                refine (Hn.out _ M2.out.bel).mono ?_
                rintro e w3 ⟨rfl, hb3⟩
                have M3 := Lib.hid (M2.out.step hb3)
                clear hb3 k0 k1 k2 k3 k4 k5 k6
                obtain ⟨⟨k0, k1, k2, k3, k4, k5, k6⟩, -⟩ := seven M3.out.blk
                go_wp2_with fail
                refine (Hi.out _ M3.out.bel).mono ?_
                rintro e w4 ⟨rfl, hb4⟩
                have M4 := Lib.hid (M3.out.step hb4)
                clear hb4 k0 k1 k2 k3 k4 k5 k6
                obtain ⟨⟨k0, k1, k2, k3, k4, k5, k6⟩, -⟩ := seven M4.out.blk
                go_wp2_with fail
                go_ret
                exact ⟨by rw [HO.out]; rfl, M4.out.bel⟩
              | true =>
                rw [show (decide (1 ≤ its.length) && itemsB its) = false from by rw [decide_eq_false (items_none hie), Bool.false_and]] at Hi
                have HO := Lib.hid (show checkV ⟨4, tb, fd, its, ex, false, false⟩ = .int .i64 13 by unfold checkV checkB; simp [hnb, hfe, hrb, hib, hie, Hex.out])
                go_wp2_with fail
                refine (Hr.out _ M1.out.bel).mono ?_
                rintro e w2 ⟨rfl, hb2⟩
                have M2 := Lib.hid (M1.out.step hb2)
                clear hb2 k0 k1 k2 k3 k4 k5 k6
                obtain ⟨⟨k0, k1, k2, k3, k4, k5, k6⟩, -⟩ := seven M2.out.blk
                go_wp2_with fail
                refine (Hn.out _ M2.out.bel).mono ?_
                rintro e w3 ⟨rfl, hb3⟩
                have M3 := Lib.hid (M2.out.step hb3)
                clear hb3 k0 k1 k2 k3 k4 k5 k6
                obtain ⟨⟨k0, k1, k2, k3, k4, k5, k6⟩, -⟩ := seven M3.out.blk
                go_wp2_with fail
                refine (Hi.out _ M3.out.bel).mono ?_
                rintro e w4 ⟨rfl, hb4⟩
                have M4 := Lib.hid (M3.out.step hb4)
                clear hb4 k0 k1 k2 k3 k4 k5 k6
                obtain ⟨⟨k0, k1, k2, k3, k4, k5, k6⟩, -⟩ := seven M4.out.blk
                go_wp2_with fail
                go_ret
                exact ⟨by rw [HO.out]; rfl, M4.out.bel⟩
      | true =>
        subst hde
        have HO := Lib.hid (show checkV ⟨4, tb, fd, its, ex, false, true⟩ = .int .i64 13 by unfold checkV checkB; simp [hnb, Hex.out])
        go_wp2_with fail
        refine (Hr.out _ M1.out.bel).mono ?_
        rintro e w2 ⟨rfl, hb2⟩
        have M2 := Lib.hid (M1.out.step hb2)
        clear hb2 k0 k1 k2 k3 k4 k5 k6
        obtain ⟨⟨k0, k1, k2, k3, k4, k5, k6⟩, -⟩ := seven M2.out.blk
        go_wp2_with fail
        refine (Hn.out _ M2.out.bel).mono ?_
        rintro e w3 ⟨rfl, hb3⟩
        have M3 := Lib.hid (M2.out.step hb3)
        clear hb3 k0 k1 k2 k3 k4 k5 k6
        obtain ⟨⟨k0, k1, k2, k3, k4, k5, k6⟩, -⟩ := seven M3.out.blk
        go_wp2_with fail
        go_ret
        exact ⟨by rw [HO.out]; rfl, M3.out.bel⟩
    | true =>
      subst hhi
      have HO := Lib.hid (show checkV ⟨4, tb, fd, its, ex, true, de⟩ = .int .i64 13 by unfold checkV checkB; simp [hnb, Hex.out])
      go_wp2_with fail
      refine (Hr.out _ M1.out.bel).mono ?_
      rintro e w2 ⟨rfl, hb2⟩
      have M2 := Lib.hid (M1.out.step hb2)
      clear hb2 k0 k1 k2 k3 k4 k5 k6
      obtain ⟨⟨k0, k1, k2, k3, k4, k5, k6⟩, -⟩ := seven M2.out.blk
      go_wp2_with fail
      refine (Hn.out _ M2.out.bel).mono ?_
      rintro e w3 ⟨rfl, hb3⟩
      have M3 := Lib.hid (M2.out.step hb3)
      clear hb3 k0 k1 k2 k3 k4 k5 k6
      obtain ⟨⟨k0, k1, k2, k3, k4, k5, k6⟩, -⟩ := seven M3.out.blk
      go_wp2_with fail
      go_ret
      exact ⟨by rw [HO.out]; rfl, M3.out.bel⟩

end Go.Proofs.YtcjmhmmjfgjcnaaGreatDoor.Rf
