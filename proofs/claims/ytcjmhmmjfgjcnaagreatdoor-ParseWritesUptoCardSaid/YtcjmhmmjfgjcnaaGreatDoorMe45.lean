/- Parts: RdCo RdD. -/
import Derived.Test.YtcjmhmmjfgjcnaaGreatDoorMe41
import Derived.Test.YtcjmhmmjfgjcnaaGreatDoorMe42
import Derived.Test.YtcjmhmmjfgjcnaaGreatDoorMe43
import Derived.Test.YtcjmhmmjfgjcnaaGreatDoorMe44

/- codicilref10: Check, statements of kind no other. -/
namespace Go.Proofs.YtcjmhmmjfgjcnaaGreatDoor.Rf
open Go.RowKit Go.Proofs.YtcjmhmmjfgjcnaaGreatDoor.Lx Go.Proofs.YtcjmhmmjfgjcnaaGreatDoor.Pa

set_option maxHeartbeats 4000000 in
set_option maxRecDepth 100000 in
theorem ckR_oe (kd : Nat) (hk : ∀ j : Nat, 1 ≤ j → j ≤ 6 → kd ≠ j) (tb fd : Txt) (its : List Itm) (ex : List Stp) (hi de : Bool) (w : World) (vi ve : Value) (h : CkArgs w ⟨kd, tb, fd, its, ex, hi, de⟩ vi ve) (hex : ex.isEmpty = true) :
    Calls Tryz.prog 23 #[.agg #[.int .u8 kd, .string ⟨tb.toArray⟩, .string ⟨fd.toArray⟩, vi, ve, .bool hi, .bool de]] w fun e w' => e = .returned (checkV ⟨kd, tb, fd, its, ex, hi, de⟩) ∧ Below w.heap.size w w' := by
  obtain ⟨ai, ni, ci, ae, ne, ce, rfl, rfl, Hn, Hf, Hr, Hc, Hi, Hni, Hne⟩ := ckR_parts h 0 0 rfl
  have M1 := Lib.hid (BxM.start w kd tb fd (.slice ai ni ci) (.slice ae ne ce) hi de)
  have g1 : ((ne : Int) == 0) = true := Hne.out.trans hex
  have Hex := Lib.hid hex
  obtain ⟨⟨k0, k1, k2, k3, k4, k5, k6⟩, -⟩ := seven M1.out.blk
  have b1 : ((kd : Int) == 1) = false := by rw [beq_eq_false_iff_ne]; have := hk 1 (by omega) (by omega); omega
  have b2 : ((kd : Int) == 2) = false := by rw [beq_eq_false_iff_ne]; have := hk 2 (by omega) (by omega); omega
  have b3 : ((kd : Int) == 3) = false := by rw [beq_eq_false_iff_ne]; have := hk 3 (by omega) (by omega); omega
  have b4 : ((kd : Int) == 4) = false := by rw [beq_eq_false_iff_ne]; have := hk 4 (by omega) (by omega); omega
  have b5 : ((kd : Int) == 5) = false := by rw [beq_eq_false_iff_ne]; have := hk 5 (by omega) (by omega); omega
  have b6 : ((kd : Int) == 6) = false := by rw [beq_eq_false_iff_ne]; have := hk 6 (by omega) (by omega); omega
  have d1 := hk 1 (by omega) (by omega)
  have d2 := hk 2 (by omega) (by omega)
  have d3 := hk 3 (by omega) (by omega)
  have d4 := hk 4 (by omega) (by omega)
  have d5 := hk 5 (by omega) (by omega)
  have d6 := hk 6 (by omega) (by omega)
  have Hd := Lib.hid (And.intro d1 (And.intro d2 (And.intro d3 (And.intro d4 (And.intro d5 d6)))))
  clear hk d1 d2 d3 d4 d5 d6
  clear h hex
  go_enter Tryz.func23, Tryz.ntmps23
  cases hnb : nameB tb with
  | false =>
    rw [hnb] at Hn
    have HO := Lib.hid (show checkV ⟨kd, tb, fd, its, ex, hi, de⟩ = .int .i64 13 by unfold checkV checkB; simp [Hd.out])
    go_wp2_with fail
    refine (Hn.out _ M1.out.bel).mono ?_
    rintro e w2 ⟨rfl, hb2⟩
    have M2 := Lib.hid (M1.out.step hb2)
    clear hb2 k0 k1 k2 k3 k4 k5 k6
    obtain ⟨⟨k0, k1, k2, k3, k4, k5, k6⟩, -⟩ := seven M2.out.blk
    go_wp2_with fail
    go_ret
    exact ⟨by rw [HO.out]; rfl, M2.out.bel⟩
  | true =>
    rw [hnb] at Hn
    cases hie : its.isEmpty with
    | false =>
      have g0 : ((ni : Int) == 0) = false := Hni.out.trans hie
      have HO := Lib.hid (show checkV ⟨kd, tb, fd, its, ex, hi, de⟩ = .int .i64 13 by unfold checkV checkB; simp [Hd.out])
      go_wp2_with fail
      refine (Hn.out _ M1.out.bel).mono ?_
      rintro e w2 ⟨rfl, hb2⟩
      have M2 := Lib.hid (M1.out.step hb2)
      clear hb2 k0 k1 k2 k3 k4 k5 k6
      obtain ⟨⟨k0, k1, k2, k3, k4, k5, k6⟩, -⟩ := seven M2.out.blk
      go_wp2_with fail
      go_ret
      exact ⟨by rw [HO.out]; rfl, M2.out.bel⟩
    | true =>
      have g0 : ((ni : Int) == 0) = true := Hni.out.trans hie
      cases hhi : hi with
      | false =>
        subst hhi
        cases hde : de with
        | false =>
          subst hde
          cases hfe : fd.isEmpty with
          | false =>
            have HO := Lib.hid (show checkV ⟨kd, tb, fd, its, ex, false, false⟩ = .int .i64 13 by unfold checkV checkB; simp [Hd.out])
            go_wp2_with fail
            refine (Hn.out _ M1.out.bel).mono ?_
            rintro e w2 ⟨rfl, hb2⟩
            have M2 := Lib.hid (M1.out.step hb2)
            clear hb2 k0 k1 k2 k3 k4 k5 k6
            obtain ⟨⟨k0, k1, k2, k3, k4, k5, k6⟩, -⟩ := seven M2.out.blk
            go_wp2_with fail
            go_ret
            exact ⟨by rw [HO.out]; rfl, M2.out.bel⟩
          | true =>
            have HO := Lib.hid (show checkV ⟨kd, tb, fd, its, ex, false, false⟩ = .int .i64 13 by unfold checkV checkB; simp [Hd.out])
            go_wp2_with fail
            refine (Hn.out _ M1.out.bel).mono ?_
            rintro e w2 ⟨rfl, hb2⟩
            have M2 := Lib.hid (M1.out.step hb2)
            clear hb2 k0 k1 k2 k3 k4 k5 k6
            obtain ⟨⟨k0, k1, k2, k3, k4, k5, k6⟩, -⟩ := seven M2.out.blk
            go_wp2_with fail
            go_ret
            exact ⟨by rw [HO.out]; rfl, M2.out.bel⟩
        | true =>
          subst hde
          have HO := Lib.hid (show checkV ⟨kd, tb, fd, its, ex, false, true⟩ = .int .i64 13 by unfold checkV checkB; simp [Hd.out])
          go_wp2_with fail
          refine (Hn.out _ M1.out.bel).mono ?_
          rintro e w2 ⟨rfl, hb2⟩
          have M2 := Lib.hid (M1.out.step hb2)
          clear hb2 k0 k1 k2 k3 k4 k5 k6
          obtain ⟨⟨k0, k1, k2, k3, k4, k5, k6⟩, -⟩ := seven M2.out.blk
          go_wp2_with fail
          go_ret
          exact ⟨by rw [HO.out]; rfl, M2.out.bel⟩
      | true =>
        subst hhi
        have HO := Lib.hid (show checkV ⟨kd, tb, fd, its, ex, true, de⟩ = .int .i64 13 by unfold checkV checkB; simp [Hd.out])
        go_wp2_with fail
        refine (Hn.out _ M1.out.bel).mono ?_
        rintro e w2 ⟨rfl, hb2⟩
        have M2 := Lib.hid (M1.out.step hb2)
        clear hb2 k0 k1 k2 k3 k4 k5 k6
        obtain ⟨⟨k0, k1, k2, k3, k4, k5, k6⟩, -⟩ := seven M2.out.blk
        go_wp2_with fail
        go_ret
        exact ⟨by rw [HO.out]; rfl, M2.out.bel⟩

set_option maxHeartbeats 4000000 in
set_option maxRecDepth 100000 in
theorem ckR_on (kd : Nat) (hk : ∀ j : Nat, 1 ≤ j → j ≤ 6 → kd ≠ j) (tb fd : Txt) (its : List Itm) (ex : List Stp) (hi de : Bool) (w : World) (vi ve : Value) (h : CkArgs w ⟨kd, tb, fd, its, ex, hi, de⟩ vi ve) (hex : ex.isEmpty = false) :
    Calls Tryz.prog 23 #[.agg #[.int .u8 kd, .string ⟨tb.toArray⟩, .string ⟨fd.toArray⟩, vi, ve, .bool hi, .bool de]] w fun e w' => e = .returned (checkV ⟨kd, tb, fd, its, ex, hi, de⟩) ∧ Below w.heap.size w w' := by
  obtain ⟨ai, ni, ci, ae, ne, ce, rfl, rfl, Hn, Hf, Hr, Hc, Hi, Hni, Hne⟩ := ckR_parts h 0 0 rfl
  have M1 := Lib.hid (BxM.start w kd tb fd (.slice ai ni ci) (.slice ae ne ce) hi de)
  have g1 : ((ne : Int) == 0) = false := Hne.out.trans hex
  have Hex := Lib.hid hex
  obtain ⟨⟨k0, k1, k2, k3, k4, k5, k6⟩, -⟩ := seven M1.out.blk
  have b1 : ((kd : Int) == 1) = false := by rw [beq_eq_false_iff_ne]; have := hk 1 (by omega) (by omega); omega
  have b2 : ((kd : Int) == 2) = false := by rw [beq_eq_false_iff_ne]; have := hk 2 (by omega) (by omega); omega
  have b3 : ((kd : Int) == 3) = false := by rw [beq_eq_false_iff_ne]; have := hk 3 (by omega) (by omega); omega
  have b4 : ((kd : Int) == 4) = false := by rw [beq_eq_false_iff_ne]; have := hk 4 (by omega) (by omega); omega
  have b5 : ((kd : Int) == 5) = false := by rw [beq_eq_false_iff_ne]; have := hk 5 (by omega) (by omega); omega
  have b6 : ((kd : Int) == 6) = false := by rw [beq_eq_false_iff_ne]; have := hk 6 (by omega) (by omega); omega
  have d1 := hk 1 (by omega) (by omega)
  have d2 := hk 2 (by omega) (by omega)
  have d3 := hk 3 (by omega) (by omega)
  have d4 := hk 4 (by omega) (by omega)
  have d5 := hk 5 (by omega) (by omega)
  have d6 := hk 6 (by omega) (by omega)
  have Hd := Lib.hid (And.intro d1 (And.intro d2 (And.intro d3 (And.intro d4 (And.intro d5 d6)))))
  clear hk d1 d2 d3 d4 d5 d6
  clear h hex
  go_enter Tryz.func23, Tryz.ntmps23
  cases hnb : nameB tb with
  | false =>
    rw [hnb] at Hn
    have HO := Lib.hid (show checkV ⟨kd, tb, fd, its, ex, hi, de⟩ = .int .i64 13 by unfold checkV checkB; simp [Hd.out])
    go_wp2_with fail
    refine (Hr.out _ M1.out.bel).mono ?_
    rintro e w2 ⟨rfl, hb2⟩
    have M2 := Lib.hid (M1.out.step hb2)
    clear hb2 k0 k1 k2 k3 k4 k5 k6
    obtain ⟨⟨k0, k1, k2, k3, k4, k5, k6⟩, -⟩ := seven M2.out.blk
    go_wp2_with fail
    refine (Hn.out _ M2.out.bel).mono ?_
    rintro e w3 ⟨rfl, hb3⟩
    have M3 := Lib.hid (M2.out.step hb3)
    clear hb3 k0 k1 k2 k3 k4 k5 k6
    obtain ⟨⟨k0, k1, k2, k3, k4, k5, k6⟩, -⟩ := seven M3.out.blk
    go_wp2_with fail
    go_ret
    exact ⟨by rw [HO.out]; rfl, M3.out.bel⟩
  | true =>
    rw [hnb] at Hn
    cases hie : its.isEmpty with
    | false =>
      have g0 : ((ni : Int) == 0) = false := Hni.out.trans hie
      have HO := Lib.hid (show checkV ⟨kd, tb, fd, its, ex, hi, de⟩ = .int .i64 13 by unfold checkV checkB; simp [Hd.out])
      go_wp2_with fail
      refine (Hr.out _ M1.out.bel).mono ?_
      rintro e w2 ⟨rfl, hb2⟩
      have M2 := Lib.hid (M1.out.step hb2)
      clear hb2 k0 k1 k2 k3 k4 k5 k6
      obtain ⟨⟨k0, k1, k2, k3, k4, k5, k6⟩, -⟩ := seven M2.out.blk
      go_wp2_with fail
      refine (Hn.out _ M2.out.bel).mono ?_
      rintro e w3 ⟨rfl, hb3⟩
      have M3 := Lib.hid (M2.out.step hb3)
      clear hb3 k0 k1 k2 k3 k4 k5 k6
      obtain ⟨⟨k0, k1, k2, k3, k4, k5, k6⟩, -⟩ := seven M3.out.blk
      go_wp2_with fail
      go_ret
      exact ⟨by rw [HO.out]; rfl, M3.out.bel⟩
    | true =>
      have g0 : ((ni : Int) == 0) = true := Hni.out.trans hie
      cases hhi : hi with
      | false =>
        subst hhi
        cases hde : de with
        | false =>
          subst hde
          cases hfe : fd.isEmpty with
          | false =>
            have HO := Lib.hid (show checkV ⟨kd, tb, fd, its, ex, false, false⟩ = .int .i64 13 by unfold checkV checkB; simp [Hd.out])
            go_wp2_with fail
            refine (Hr.out _ M1.out.bel).mono ?_
            rintro e w2 ⟨rfl, hb2⟩
            have M2 := Lib.hid (M1.out.step hb2)
            clear hb2 k0 k1 k2 k3 k4 k5 k6
            obtain ⟨⟨k0, k1, k2, k3, k4, k5, k6⟩, -⟩ := seven M2.out.blk
            go_wp2_with fail
            refine (Hn.out _ M2.out.bel).mono ?_
            rintro e w3 ⟨rfl, hb3⟩
            have M3 := Lib.hid (M2.out.step hb3)
            clear hb3 k0 k1 k2 k3 k4 k5 k6
            obtain ⟨⟨k0, k1, k2, k3, k4, k5, k6⟩, -⟩ := seven M3.out.blk
            go_wp2_with fail
            go_ret
            exact ⟨by rw [HO.out]; rfl, M3.out.bel⟩
          | true =>
            have HO := Lib.hid (show checkV ⟨kd, tb, fd, its, ex, false, false⟩ = .int .i64 13 by unfold checkV checkB; simp [Hd.out])
            go_wp2_with fail
            refine (Hr.out _ M1.out.bel).mono ?_
            rintro e w2 ⟨rfl, hb2⟩
            have M2 := Lib.hid (M1.out.step hb2)
            clear hb2 k0 k1 k2 k3 k4 k5 k6
            obtain ⟨⟨k0, k1, k2, k3, k4, k5, k6⟩, -⟩ := seven M2.out.blk
            go_wp2_with fail
            refine (Hn.out _ M2.out.bel).mono ?_
            rintro e w3 ⟨rfl, hb3⟩
            have M3 := Lib.hid (M2.out.step hb3)
            clear hb3 k0 k1 k2 k3 k4 k5 k6
            obtain ⟨⟨k0, k1, k2, k3, k4, k5, k6⟩, -⟩ := seven M3.out.blk
            go_wp2_with fail
            go_ret
            exact ⟨by rw [HO.out]; rfl, M3.out.bel⟩
        | true =>
          subst hde
          have HO := Lib.hid (show checkV ⟨kd, tb, fd, its, ex, false, true⟩ = .int .i64 13 by unfold checkV checkB; simp [Hd.out])
          go_wp2_with fail
          refine (Hr.out _ M1.out.bel).mono ?_
          rintro e w2 ⟨rfl, hb2⟩
          have M2 := Lib.hid (M1.out.step hb2)
          clear hb2 k0 k1 k2 k3 k4 k5 k6
          obtain ⟨⟨k0, k1, k2, k3, k4, k5, k6⟩, -⟩ := seven M2.out.blk
          go_wp2_with fail
          refine (Hn.out _ M2.out.bel).mono ?_
          rintro e w3 ⟨rfl, hb3⟩
          have M3 := Lib.hid (M2.out.step hb3)
          clear hb3 k0 k1 k2 k3 k4 k5 k6
          obtain ⟨⟨k0, k1, k2, k3, k4, k5, k6⟩, -⟩ := seven M3.out.blk
          go_wp2_with fail
          go_ret
          exact ⟨by rw [HO.out]; rfl, M3.out.bel⟩
      | true =>
        subst hhi
        have HO := Lib.hid (show checkV ⟨kd, tb, fd, its, ex, true, de⟩ = .int .i64 13 by unfold checkV checkB; simp [Hd.out])
        go_wp2_with fail
        refine (Hr.out _ M1.out.bel).mono ?_
        rintro e w2 ⟨rfl, hb2⟩
        have M2 := Lib.hid (M1.out.step hb2)
        clear hb2 k0 k1 k2 k3 k4 k5 k6
        obtain ⟨⟨k0, k1, k2, k3, k4, k5, k6⟩, -⟩ := seven M2.out.blk
        go_wp2_with fail
        refine (Hn.out _ M2.out.bel).mono ?_
        rintro e w3 ⟨rfl, hb3⟩
        have M3 := Lib.hid (M2.out.step hb3)
        clear hb3 k0 k1 k2 k3 k4 k5 k6
        obtain ⟨⟨k0, k1, k2, k3, k4, k5, k6⟩, -⟩ := seven M3.out.blk
        go_wp2_with fail
        go_ret
        exact ⟨by rw [HO.out]; rfl, M3.out.bel⟩

end Go.Proofs.YtcjmhmmjfgjcnaaGreatDoor.Rf

/- codicilref10: Check. -/
namespace Go.Proofs.YtcjmhmmjfgjcnaaGreatDoor.Rf
open Go.RowKit Go.Proofs.YtcjmhmmjfgjcnaaGreatDoor.Lx Go.Proofs.YtcjmhmmjfgjcnaaGreatDoor.Pa

theorem CheckR10_calls (st : Stm) (w : World) (vi ve : Value) (h : CkArgs w st vi ve) :
    Calls Tryz.prog 23 #[st.val vi ve] w fun e w' => e = .returned (checkV st) ∧ Below w.heap.size w w' := by
  obtain ⟨kd, tb, fd, its, ex, hi, de⟩ := st
  by_cases h1 : kd = 1
  · subst h1; cases hx : ex.isEmpty; exact ckR_1n tb fd its ex hi de w vi ve h hx; exact ckR_1e tb fd its ex hi de w vi ve h hx
  by_cases h2 : kd = 2
  · subst h2; cases hx : ex.isEmpty; exact ckR_2n tb fd its ex hi de w vi ve h hx; exact ckR_2e tb fd its ex hi de w vi ve h hx
  by_cases h3 : kd = 3
  · subst h3; cases hx : ex.isEmpty; exact ckR_3n tb fd its ex hi de w vi ve h hx; exact ckR_3e tb fd its ex hi de w vi ve h hx
  by_cases h4 : kd = 4
  · subst h4; cases hx : ex.isEmpty; exact ckR_4n tb fd its ex hi de w vi ve h hx; exact ckR_4e tb fd its ex hi de w vi ve h hx
  by_cases h5 : kd = 5
  · subst h5; cases hx : ex.isEmpty; exact ckR_5n tb fd its ex hi de w vi ve h hx; exact ckR_5e tb fd its ex hi de w vi ve h hx
  by_cases h6 : kd = 6
  · subst h6; cases hx : ex.isEmpty; exact ckR_6n tb fd its ex hi de w vi ve h hx; exact ckR_6e tb fd its ex hi de w vi ve h hx
  have hk : ∀ j : Nat, 1 ≤ j → j ≤ 6 → kd ≠ j := fun j _ _ e => by omega
  cases hx : ex.isEmpty; exact ckR_on kd hk tb fd its ex hi de w vi ve h hx; exact ckR_oe kd hk tb fd its ex hi de w vi ve h hx

end Go.Proofs.YtcjmhmmjfgjcnaaGreatDoor.Rf
