/- Parts: RdC1 RdC2. -/
import Derived.Test.YtcjmhmmjfgjcnaaGreatDoorMe41

/- codicilref10: Check, statements of kind 1. -/
namespace Go.Proofs.YtcjmhmmjfgjcnaaGreatDoor.Rf
open Go.RowKit Go.Proofs.YtcjmhmmjfgjcnaaGreatDoor.Lx Go.Proofs.YtcjmhmmjfgjcnaaGreatDoor.Pa

set_option maxHeartbeats 4000000 in
set_option maxRecDepth 100000 in
theorem ckR_1e (tb fd : Txt) (its : List Itm) (ex : List Stp) (hi de : Bool) (w : World) (vi ve : Value) (h : CkArgs w ⟨1, tb, fd, its, ex, hi, de⟩ vi ve) (hex : ex.isEmpty = true) :
    Calls Tryz.prog 23 #[.agg #[.int .u8 1, .string ⟨tb.toArray⟩, .string ⟨fd.toArray⟩, vi, ve, .bool hi, .bool de]] w fun e w' => e = .returned (checkV ⟨1, tb, fd, its, ex, hi, de⟩) ∧ Below w.heap.size w w' := by
  obtain ⟨ai, ni, ci, ae, ne, ce, rfl, rfl, Hn, Hf, Hr, Hc, Hi, Hni, Hne⟩ := ckR_parts h 0 0 rfl
  have M1 := Lib.hid (BxM.start w 1 tb fd (.slice ai ni ci) (.slice ae ne ce) hi de)
  have g1 : ((ne : Int) == 0) = true := Hne.out.trans hex
  have Hex := Lib.hid hex
  obtain ⟨⟨k0, k1, k2, k3, k4, k5, k6⟩, -⟩ := seven M1.out.blk
  clear h hex
  go_enter Tryz.func23, Tryz.ntmps23
  cases hnb : nameB tb with
  | false =>
    rw [hnb] at Hn
    have HO := Lib.hid (show checkV ⟨1, tb, fd, its, ex, hi, de⟩ = .int .i64 13 by unfold checkV checkB; simp [hnb, Hex.out])
    go_wp2_with fail
    refine (Hn.out _ M1.out.bel).mono ?_
    rintro e w2 ⟨rfl, hb2⟩
    have M2 := Lib.hid (M1.out.step hb2)
    clear hb2 k0 k1 k2 k3 k4 k5 k6
    obtain ⟨⟨k0, k1, k2, k3, k4, k5, k6⟩, -⟩ := seven M2.out.blk
    go_wp2_with fail
    go_ret
    exact ⟨by rw [HO.out]; rfl, M2.out.bel⟩
  | true =>
    rw [hnb] at Hn
    cases hie : its.isEmpty with
    | false =>
      have g0 : ((ni : Int) == 0) = false := Hni.out.trans hie
      have HO := Lib.hid (show checkV ⟨1, tb, fd, its, ex, hi, de⟩ = .int .i64 13 by unfold checkV checkB; simp [hnb, hie, Hex.out])
      go_wp2_with fail
      refine (Hn.out _ M1.out.bel).mono ?_
      rintro e w2 ⟨rfl, hb2⟩
      have M2 := Lib.hid (M1.out.step hb2)
      clear hb2 k0 k1 k2 k3 k4 k5 k6
      obtain ⟨⟨k0, k1, k2, k3, k4, k5, k6⟩, -⟩ := seven M2.out.blk
      go_wp2_with fail
      go_ret
      exact ⟨by rw [HO.out]; rfl, M2.out.bel⟩
    | true =>
      have g0 : ((ni : Int) == 0) = true := Hni.out.trans hie
      cases hhi : hi with
      | false =>
        subst hhi
        cases hde : de with
        | false =>
          subst hde
          cases hfe : fd.isEmpty with
          | false =>
            have HO := Lib.hid (show checkV ⟨1, tb, fd, its, ex, false, false⟩ = .int .i64 13 by unfold checkV checkB; simp [hnb, hie, hfe, Hex.out])
            go_wp2_with fail
            refine (Hn.out _ M1.out.bel).mono ?_
            rintro e w2 ⟨rfl, hb2⟩
            have M2 := Lib.hid (M1.out.step hb2)
            clear hb2 k0 k1 k2 k3 k4 k5 k6
            obtain ⟨⟨k0, k1, k2, k3, k4, k5, k6⟩, -⟩ := seven M2.out.blk
            go_wp2_with fail
            go_ret
            exact ⟨by rw [HO.out]; rfl, M2.out.bel⟩
          | true =>
            have HO := Lib.hid (show checkV ⟨1, tb, fd, its, ex, false, false⟩ = .int .i64 0 by unfold checkV checkB; simp [hnb, hie, hfe, Hex.out])
            go_wp2_with fail
            refine (Hn.out _ M1.out.bel).mono ?_
            rintro e w2 ⟨rfl, hb2⟩
            have M2 := Lib.hid (M1.out.step hb2)
            clear hb2 k0 k1 k2 k3 k4 k5 k6
            obtain ⟨⟨k0, k1, k2, k3, k4, k5, k6⟩, -⟩ := seven M2.out.blk
            go_wp2_with fail
            go_ret
            exact ⟨by rw [HO.out]; rfl, M2.out.bel⟩
        | true =>
          subst hde
          have HO := Lib.hid (show checkV ⟨1, tb, fd, its, ex, false, true⟩ = .int .i64 13 by unfold checkV checkB; simp [hnb, hie, Hex.out])
          go_wp2_with fail
          refine (Hn.out _ M1.out.bel).mono ?_
          rintro e w2 ⟨rfl, hb2⟩
          have M2 := Lib.hid (M1.out.step hb2)
          clear hb2 k0 k1 k2 k3 k4 k5 k6
          obtain ⟨⟨k0, k1, k2, k3, k4, k5, k6⟩, -⟩ := seven M2.out.blk
          go_wp2_with fail
          go_ret
          exact ⟨by rw [HO.out]; rfl, M2.out.bel⟩
      | true =>
        subst hhi
        have HO := Lib.hid (show checkV ⟨1, tb, fd, its, ex, true, de⟩ = .int .i64 13 by unfold checkV checkB; simp [hnb, hie, Hex.out])
        go_wp2_with fail
        refine (Hn.out _ M1.out.bel).mono ?_
        rintro e w2 ⟨rfl, hb2⟩
        have M2 := Lib.hid (M1.out.step hb2)
        clear hb2 k0 k1 k2 k3 k4 k5 k6
        obtain ⟨⟨k0, k1, k2, k3, k4, k5, k6⟩, -⟩ := seven M2.out.blk
        go_wp2_with fail
        go_ret
        exact ⟨by rw [HO.out]; rfl, M2.out.bel⟩

set_option maxHeartbeats 4000000 in
set_option maxRecDepth 100000 in
theorem ckR_1n (tb fd : Txt) (its : List Itm) (ex : List Stp) (hi de : Bool) (w : World) (vi ve : Value) (h : CkArgs w ⟨1, tb, fd, its, ex, hi, de⟩ vi ve) (hex : ex.isEmpty = false) :
    Calls Tryz.prog 23 #[.agg #[.int .u8 1, .string ⟨tb.toArray⟩, .string ⟨fd.toArray⟩, vi, ve, .bool hi, .bool de]] w fun e w' => e = .returned (checkV ⟨1, tb, fd, its, ex, hi, de⟩) ∧ Below w.heap.size w w' := by
  obtain ⟨ai, ni, ci, ae, ne, ce, rfl, rfl, Hn, Hf, Hr, Hc, Hi, Hni, Hne⟩ := ckR_parts h 0 0 rfl
  have M1 := Lib.hid (BxM.start w 1 tb fd (.slice ai ni ci) (.slice ae ne ce) hi de)
  have g1 : ((ne : Int) == 0) = false := Hne.out.trans hex
  have Hex := Lib.hid hex
  obtain ⟨⟨k0, k1, k2, k3, k4, k5, k6⟩, -⟩ := seven M1.out.blk
  clear h hex
  go_enter Tryz.func23, Tryz.ntmps23
  cases hnb : nameB tb with
  | false =>
    rw [hnb] at Hn
    have HO := Lib.hid (show checkV ⟨1, tb, fd, its, ex, hi, de⟩ = .int .i64 13 by unfold checkV checkB; simp [hnb, Hex.out])
    go_wp2_with fail
    refine (Hr.out _ M1.out.bel).mono ?_
    rintro e w2 ⟨rfl, hb2⟩
    have M2 := Lib.hid (M1.out.step hb2)
    clear hb2 k0 k1 k2 k3 k4 k5 k6
    obtain ⟨⟨k0, k1, k2, k3, k4, k5, k6⟩, -⟩ := seven M2.out.blk
    go_wp2_with fail
    refine (Hn.out _ M2.out.bel).mono ?_
    rintro e w3 ⟨rfl, hb3⟩
    have M3 := Lib.hid (M2.out.step hb3)
    clear hb3 k0 k1 k2 k3 k4 k5 k6
    obtain ⟨⟨k0, k1, k2, k3, k4, k5, k6⟩, -⟩ := seven M3.out.blk
    go_wp2_with fail
    go_ret
    exact ⟨by rw [HO.out]; rfl, M3.out.bel⟩
  | true =>
    rw [hnb] at Hn
    cases hie : its.isEmpty with
    | false =>
      have g0 : ((ni : Int) == 0) = false := Hni.out.trans hie
      have HO := Lib.hid (show checkV ⟨1, tb, fd, its, ex, hi, de⟩ = .int .i64 13 by unfold checkV checkB; simp [hnb, hie, Hex.out])
      go_wp2_with fail
      refine (Hr.out _ M1.out.bel).mono ?_
      rintro e w2 ⟨rfl, hb2⟩
      have M2 := Lib.hid (M1.out.step hb2)
      clear hb2 k0 k1 k2 k3 k4 k5 k6
      obtain ⟨⟨k0, k1, k2, k3, k4, k5, k6⟩, -⟩ := seven M2.out.blk
      go_wp2_with fail
      refine (Hn.out _ M2.out.bel).mono ?_
      rintro e w3 ⟨rfl, hb3⟩
      have M3 := Lib.hid (M2.out.step hb3)
      clear hb3 k0 k1 k2 k3 k4 k5 k6
      obtain ⟨⟨k0, k1, k2, k3, k4, k5, k6⟩, -⟩ := seven M3.out.blk
      go_wp2_with fail
      go_ret
      exact ⟨by rw [HO.out]; rfl, M3.out.bel⟩
    | true =>
      have g0 : ((ni : Int) == 0) = true := Hni.out.trans hie
      cases hhi : hi with
      | false =>
        subst hhi
        cases hde : de with
        | false =>
          subst hde
          cases hfe : fd.isEmpty with
          | false =>
            have HO := Lib.hid (show checkV ⟨1, tb, fd, its, ex, false, false⟩ = .int .i64 13 by unfold checkV checkB; simp [hnb, hie, hfe, Hex.out])
            go_wp2_with fail
            refine (Hr.out _ M1.out.bel).mono ?_
            rintro e w2 ⟨rfl, hb2⟩
            have M2 := Lib.hid (M1.out.step hb2)
            clear hb2 k0 k1 k2 k3 k4 k5 k6
            obtain ⟨⟨k0, k1, k2, k3, k4, k5, k6⟩, -⟩ := seven M2.out.blk
            go_wp2_with fail
            refine (Hn.out _ M2.out.bel).mono ?_
            rintro e w3 ⟨rfl, hb3⟩
            have M3 := Lib.hid (M2.out.step hb3)
            clear hb3 k0 k1 k2 k3 k4 k5 k6
            obtain ⟨⟨k0, k1, k2, k3, k4, k5, k6⟩, -⟩ := seven M3.out.blk
            go_wp2_with fail
            go_ret
            exact ⟨by rw [HO.out]; rfl, M3.out.bel⟩
          | true =>
            have HO := Lib.hid (show checkV ⟨1, tb, fd, its, ex, false, false⟩ = .int .i64 13 by unfold checkV checkB; simp [hnb, hie, hfe, Hex.out])
            go_wp2_with fail
            refine (Hr.out _ M1.out.bel).mono ?_
            rintro e w2 ⟨rfl, hb2⟩
            have M2 := Lib.hid (M1.out.step hb2)
            clear hb2 k0 k1 k2 k3 k4 k5 k6
            obtain ⟨⟨k0, k1, k2, k3, k4, k5, k6⟩, -⟩ := seven M2.out.blk
            go_wp2_with fail
            refine (Hn.out _ M2.out.bel).mono ?_
            rintro e w3 ⟨rfl, hb3⟩
            have M3 := Lib.hid (M2.out.step hb3)
            clear hb3 k0 k1 k2 k3 k4 k5 k6
            obtain ⟨⟨k0, k1, k2, k3, k4, k5, k6⟩, -⟩ := seven M3.out.blk
            go_wp2_with fail
            go_ret
            exact ⟨by rw [HO.out]; rfl, M3.out.bel⟩
        | true =>
          subst hde
          have HO := Lib.hid (show checkV ⟨1, tb, fd, its, ex, false, true⟩ = .int .i64 13 by unfold checkV checkB; simp [hnb, hie, Hex.out])
          go_wp2_with fail
          refine (Hr.out _ M1.out.bel).mono ?_
          rintro e w2 ⟨rfl, hb2⟩
          have M2 := Lib.hid (M1.out.step hb2)
          clear hb2 k0 k1 k2 k3 k4 k5 k6
          obtain ⟨⟨k0, k1, k2, k3, k4, k5, k6⟩, -⟩ := seven M2.out.blk
          go_wp2_with fail
          refine (Hn.out _ M2.out.bel).mono ?_
          rintro e w3 ⟨rfl, hb3⟩
          have M3 := Lib.hid (M2.out.step hb3)
          clear hb3 k0 k1 k2 k3 k4 k5 k6
          obtain ⟨⟨k0, k1, k2, k3, k4, k5, k6⟩, -⟩ := seven M3.out.blk
          go_wp2_with fail
          go_ret
          exact ⟨by rw [HO.out]; rfl, M3.out.bel⟩
      | true =>
        subst hhi
        have HO := Lib.hid (show checkV ⟨1, tb, fd, its, ex, true, de⟩ = .int .i64 13 by unfold checkV checkB; simp [hnb, hie, Hex.out])
        go_wp2_with fail
        refine (Hr.out _ M1.out.bel).mono ?_
        rintro e w2 ⟨rfl, hb2⟩
        have M2 := Lib.hid (M1.out.step hb2)
        clear hb2 k0 k1 k2 k3 k4 k5 k6
        obtain ⟨⟨k0, k1, k2, k3, k4, k5, k6⟩, -⟩ := seven M2.out.blk
        go_wp2_with fail
        refine (Hn.out _ M2.out.bel).mono ?_
        rintro e w3 ⟨rfl, hb3⟩
        have M3 := Lib.hid (M2.out.step hb3)
        clear hb3 k0 k1 k2 k3 k4 k5 k6
        obtain ⟨⟨k0, k1, k2, k3, k4, k5, k6⟩, -⟩ := seven M3.out.blk
        go_wp2_with fail
        go_ret
        exact ⟨by rw [HO.out]; rfl, M3.out.bel⟩

end Go.Proofs.YtcjmhmmjfgjcnaaGreatDoor.Rf

/- codicilref10: Check, statements of kind 2. -/
namespace Go.Proofs.YtcjmhmmjfgjcnaaGreatDoor.Rf
open Go.RowKit Go.Proofs.YtcjmhmmjfgjcnaaGreatDoor.Lx Go.Proofs.YtcjmhmmjfgjcnaaGreatDoor.Pa

set_option maxHeartbeats 4000000 in
set_option maxRecDepth 100000 in
theorem ckR_2e (tb fd : Txt) (its : List Itm) (ex : List Stp) (hi de : Bool) (w : World) (vi ve : Value) (h : CkArgs w ⟨2, tb, fd, its, ex, hi, de⟩ vi ve) (hex : ex.isEmpty = true) :
    Calls Tryz.prog 23 #[.agg #[.int .u8 2, .string ⟨tb.toArray⟩, .string ⟨fd.toArray⟩, vi, ve, .bool hi, .bool de]] w fun e w' => e = .returned (checkV ⟨2, tb, fd, its, ex, hi, de⟩) ∧ Below w.heap.size w w' := by
  obtain ⟨ai, ni, ci, ae, ne, ce, rfl, rfl, Hn, Hf, Hr, Hc, Hi, Hni, Hne⟩ := ckR_parts h 0 0 rfl
  have M1 := Lib.hid (BxM.start w 2 tb fd (.slice ai ni ci) (.slice ae ne ce) hi de)
  have g1 : ((ne : Int) == 0) = true := Hne.out.trans hex
  have Hex := Lib.hid hex
  obtain ⟨⟨k0, k1, k2, k3, k4, k5, k6⟩, -⟩ := seven M1.out.blk
  clear h hex
  go_enter Tryz.func23, Tryz.ntmps23
  cases hnb : nameB tb with
  | false =>
    rw [hnb] at Hn
    have HO := Lib.hid (show checkV ⟨2, tb, fd, its, ex, hi, de⟩ = .int .i64 13 by unfold checkV checkB; simp [hnb, Hex.out])
    go_wp2_with fail
    refine (Hn.out _ M1.out.bel).mono ?_
    rintro e w2 ⟨rfl, hb2⟩
    have M2 := Lib.hid (M1.out.step hb2)
    clear hb2 k0 k1 k2 k3 k4 k5 k6
    obtain ⟨⟨k0, k1, k2, k3, k4, k5, k6⟩, -⟩ := seven M2.out.blk
    go_wp2_with fail
    go_ret
    exact ⟨by rw [HO.out]; rfl, M2.out.bel⟩
  | true =>
    rw [hnb] at Hn
    cases hie : its.isEmpty with
    | false =>
      have g0 : ((ni : Int) == 0) = false := Hni.out.trans hie
      have HO := Lib.hid (show checkV ⟨2, tb, fd, its, ex, hi, de⟩ = .int .i64 13 by unfold checkV checkB; simp [hnb, hie, Hex.out])
      go_wp2_with fail
      refine (Hn.out _ M1.out.bel).mono ?_
      rintro e w2 ⟨rfl, hb2⟩
      have M2 := Lib.hid (M1.out.step hb2)
      clear hb2 k0 k1 k2 k3 k4 k5 k6
      obtain ⟨⟨k0, k1, k2, k3, k4, k5, k6⟩, -⟩ := seven M2.out.blk
      go_wp2_with fail
      go_ret
      exact ⟨by rw [HO.out]; rfl, M2.out.bel⟩
    | true =>
      have g0 : ((ni : Int) == 0) = true := Hni.out.trans hie
      cases hhi : hi with
      | false =>
        subst hhi
        cases hde : de with
        | false =>
          subst hde
          cases hfb : nameB fd with
          | false =>
            rw [hfb] at Hf
            have HO := Lib.hid (show checkV ⟨2, tb, fd, its, ex, false, false⟩ = .int .i64 13 by unfold checkV checkB; simp [hnb, hie, hfb, Hex.out])
            go_wp2_with fail
            refine (Hn.out _ M1.out.bel).mono ?_
            rintro e w2 ⟨rfl, hb2⟩
            have M2 := Lib.hid (M1.out.step hb2)
            clear hb2 k0 k1 k2 k3 k4 k5 k6
            obtain ⟨⟨k0, k1, k2, k3, k4, k5, k6⟩, -⟩ := seven M2.out.blk
            go_wp2_with fail
            refine (Hf.out _ M2.out.bel).mono ?_
            rintro e w3 ⟨rfl, hb3⟩
            have M3 := Lib.hid (M2.out.step hb3)
            clear hb3 k0 k1 k2 k3 k4 k5 k6
            obtain ⟨⟨k0, k1, k2, k3, k4, k5, k6⟩, -⟩ := seven M3.out.blk
            go_wp2_with fail
            go_ret
            exact ⟨by rw [HO.out]; rfl, M3.out.bel⟩
          | true =>
            rw [hfb] at Hf
            have HO := Lib.hid (show checkV ⟨2, tb, fd, its, ex, false, false⟩ = .int .i64 0 by unfold checkV checkB; simp [hnb, hie, hfb, Hex.out])
            go_wp2_with fail
            refine (Hn.out _ M1.out.bel).mono ?_
            rintro e w2 ⟨rfl, hb2⟩
            have M2 := Lib.hid (M1.out.step hb2)
            clear hb2 k0 k1 k2 k3 k4 k5 k6
            obtain ⟨⟨k0, k1, k2, k3, k4, k5, k6⟩, -⟩ := seven M2.out.blk
            go_wp2_with fail
            refine (Hf.out _ M2.out.bel).mono ?_
            rintro e w3 ⟨rfl, hb3⟩
            have M3 := Lib.hid (M2.out.step hb3)
            clear hb3 k0 k1 k2 k3 k4 k5 k6
            obtain ⟨⟨k0, k1, k2, k3, k4, k5, k6⟩, -⟩ := seven M3.out.blk
            go_wp2_with fail
            go_ret
            exact ⟨by rw [HO.out]; rfl, M3.out.bel⟩
        | true =>
          subst hde
          have HO := Lib.hid (show checkV ⟨2, tb, fd, its, ex, false, true⟩ = .int .i64 13 by unfold checkV checkB; simp [hnb, hie, Hex.out])
          go_wp2_with fail
          refine (Hn.out _ M1.out.bel).mono ?_
          rintro e w2 ⟨rfl, hb2⟩
          have M2 := Lib.hid (M1.out.step hb2)
          clear hb2 k0 k1 k2 k3 k4 k5 k6
          obtain ⟨⟨k0, k1, k2, k3, k4, k5, k6⟩, -⟩ := seven M2.out.blk
          go_wp2_with fail
          go_ret
          exact ⟨by rw [HO.out]; rfl, M2.out.bel⟩
      | true =>
        subst hhi
        have HO := Lib.hid (show checkV ⟨2, tb, fd, its, ex, true, de⟩ = .int .i64 13 by unfold checkV checkB; simp [hnb, hie, Hex.out])
        go_wp2_with fail
        refine (Hn.out _ M1.out.bel).mono ?_
        rintro e w2 ⟨rfl, hb2⟩
        have M2 := Lib.hid (M1.out.step hb2)
        clear hb2 k0 k1 k2 k3 k4 k5 k6
        obtain ⟨⟨k0, k1, k2, k3, k4, k5, k6⟩, -⟩ := seven M2.out.blk
        go_wp2_with fail
        go_ret
        exact ⟨by rw [HO.out]; rfl, M2.out.bel⟩

set_option maxHeartbeats 4000000 in
set_option maxRecDepth 100000 in
theorem ckR_2n (tb fd : Txt) (its : List Itm) (ex : List Stp) (hi de : Bool) (w : World) (vi ve : Value) (h : CkArgs w ⟨2, tb, fd, its, ex, hi, de⟩ vi ve) (hex : ex.isEmpty = false) :
    Calls Tryz.prog 23 #[.agg #[.int .u8 2, .string ⟨tb.toArray⟩, .string ⟨fd.toArray⟩, vi, ve, .bool hi, .bool de]] w fun e w' => e = .returned (checkV ⟨2, tb, fd, its, ex, hi, de⟩) ∧ Below w.heap.size w w' := by
  obtain ⟨ai, ni, ci, ae, ne, ce, rfl, rfl, Hn, Hf, Hr, Hc, Hi, Hni, Hne⟩ := ckR_parts h 0 0 rfl
  have M1 := Lib.hid (BxM.start w 2 tb fd (.slice ai ni ci) (.slice ae ne ce) hi de)
  have g1 : ((ne : Int) == 0) = false := Hne.out.trans hex
  have Hex := Lib.hid hex
  obtain ⟨⟨k0, k1, k2, k3, k4, k5, k6⟩, -⟩ := seven M1.out.blk
  clear h hex
  go_enter Tryz.func23, Tryz.ntmps23
  cases hnb : nameB tb with
  | false =>
    rw [hnb] at Hn
    have HO := Lib.hid (show checkV ⟨2, tb, fd, its, ex, hi, de⟩ = .int .i64 13 by unfold checkV checkB; simp [hnb, Hex.out])
    go_wp2_with fail
    refine (Hr.out _ M1.out.bel).mono ?_
    rintro e w2 ⟨rfl, hb2⟩
    have M2 := Lib.hid (M1.out.step hb2)
    clear hb2 k0 k1 k2 k3 k4 k5 k6
    obtain ⟨⟨k0, k1, k2, k3, k4, k5, k6⟩, -⟩ := seven M2.out.blk
    go_wp2_with fail
    refine (Hn.out _ M2.out.bel).mono ?_
    rintro e w3 ⟨rfl, hb3⟩
    have M3 := Lib.hid (M2.out.step hb3)
    clear hb3 k0 k1 k2 k3 k4 k5 k6
    obtain ⟨⟨k0, k1, k2, k3, k4, k5, k6⟩, -⟩ := seven M3.out.blk
    go_wp2_with fail
    go_ret
    exact ⟨by rw [HO.out]; rfl, M3.out.bel⟩
  | true =>
    rw [hnb] at Hn
    cases hie : its.isEmpty with
    | false =>
      have g0 : ((ni : Int) == 0) = false := Hni.out.trans hie
      have HO := Lib.hid (show checkV ⟨2, tb, fd, its, ex, hi, de⟩ = .int .i64 13 by unfold checkV checkB; simp [hnb, hie, Hex.out])
      go_wp2_with fail
      refine (Hr.out _ M1.out.bel).mono ?_
      rintro e w2 ⟨rfl, hb2⟩
      have M2 := Lib.hid (M1.out.step hb2)
      clear hb2 k0 k1 k2 k3 k4 k5 k6
      obtain ⟨⟨k0, k1, k2, k3, k4, k5, k6⟩, -⟩ := seven M2.out.blk
      go_wp2_with fail
      refine (Hn.out _ M2.out.bel).mono ?_
      rintro e w3 ⟨rfl, hb3⟩
      have M3 := Lib.hid (M2.out.step hb3)
      clear hb3 k0 k1 k2 k3 k4 k5 k6
      obtain ⟨⟨k0, k1, k2, k3, k4, k5, k6⟩, -⟩ := seven M3.out.blk
      go_wp2_with fail
      go_ret
      exact ⟨by rw [HO.out]; rfl, M3.out.bel⟩
    | true =>
      have g0 : ((ni : Int) == 0) = true := Hni.out.trans hie
      cases hhi : hi with
      | false =>
        subst hhi
        cases hde : de with
        | false =>
          subst hde
          have HO := Lib.hid (show checkV ⟨2, tb, fd, its, ex, false, false⟩ = .int .i64 13 by unfold checkV checkB; simp [hnb, hie, Hex.out])
          go_wp2_with fail
          refine (Hr.out _ M1.out.bel).mono ?_
          rintro e w2 ⟨rfl, hb2⟩
          have M2 := Lib.hid (M1.out.step hb2)
          clear hb2 k0 k1 k2 k3 k4 k5 k6
          obtain ⟨⟨k0, k1, k2, k3, k4, k5, k6⟩, -⟩ := seven M2.out.blk
          go_wp2_with fail
          refine (Hn.out _ M2.out.bel).mono ?_
          rintro e w3 ⟨rfl, hb3⟩
          have M3 := Lib.hid (M2.out.step hb3)
          clear hb3 k0 k1 k2 k3 k4 k5 k6
          obtain ⟨⟨k0, k1, k2, k3, k4, k5, k6⟩, -⟩ := seven M3.out.blk
          go_wp2_with fail
          go_ret
          exact ⟨by rw [HO.out]; rfl, M3.out.bel⟩
        | true =>
          subst hde
          have HO := Lib.hid (show checkV ⟨2, tb, fd, its, ex, false, true⟩ = .int .i64 13 by unfold checkV checkB; simp [hnb, hie, Hex.out])
          go_wp2_with fail
          refine (Hr.out _ M1.out.bel).mono ?_
          rintro e w2 ⟨rfl, hb2⟩
          have M2 := Lib.hid (M1.out.step hb2)
          clear hb2 k0 k1 k2 k3 k4 k5 k6
          obtain ⟨⟨k0, k1, k2, k3, k4, k5, k6⟩, -⟩ := seven M2.out.blk
          go_wp2_with fail
          refine (Hn.out _ M2.out.bel).mono ?_
          rintro e w3 ⟨rfl, hb3⟩
          have M3 := Lib.hid (M2.out.step hb3)
          clear hb3 k0 k1 k2 k3 k4 k5 k6
          obtain ⟨⟨k0, k1, k2, k3, k4, k5, k6⟩, -⟩ := seven M3.out.blk
          go_wp2_with fail
          go_ret
          exact ⟨by rw [HO.out]; rfl, M3.out.bel⟩
      | true =>
        subst hhi
        have HO := Lib.hid (show checkV ⟨2, tb, fd, its, ex, true, de⟩ = .int .i64 13 by unfold checkV checkB; simp [hnb, hie, Hex.out])
        go_wp2_with fail
        refine (Hr.out _ M1.out.bel).mono ?_
        rintro e w2 ⟨rfl, hb2⟩
        have M2 := Lib.hid (M1.out.step hb2)
        clear hb2 k0 k1 k2 k3 k4 k5 k6
        obtain ⟨⟨k0, k1, k2, k3, k4, k5, k6⟩, -⟩ := seven M2.out.blk
        go_wp2_with fail
        refine (Hn.out _ M2.out.bel).mono ?_
        rintro e w3 ⟨rfl, hb3⟩
        have M3 := Lib.hid (M2.out.step hb3)
        clear hb3 k0 k1 k2 k3 k4 k5 k6
        obtain ⟨⟨k0, k1, k2, k3, k4, k5, k6⟩, -⟩ := seven M3.out.blk
        go_wp2_with fail
        go_ret
        exact ⟨by rw [HO.out]; rfl, M3.out.bel⟩

end Go.Proofs.YtcjmhmmjfgjcnaaGreatDoor.Rf
