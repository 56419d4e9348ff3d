/- Parts: QaS QaT. -/
import Derived.Test.YtcjmhmmjfgjcnaaGreatDoorMa29

/- code: the checker's step at a jump. -/
namespace Go.Proofs.YtcjmhmmjfgjcnaaGreatDoor.Cd
open Go.RowKit Go.Proofs.YtcjmhmmjfgjcnaaGreatDoor.Lx Go.Proofs.YtcjmhmmjfgjcnaaGreatDoor.Pa Go.Maps

attribute [local go_sem high] ins_equal
theorem below_drewQ {B : Nat} {a w : World} (h : Below B a w) (n : Nat) : Below B a (w.drewN n) := h.trans ⟨rfl, rfl, rfl, Nat.le_refl _, fun _ _ => rfl⟩
/-- the cells that are read while a place is come to -/
def JmpS (w : World) (B : Nat) (pv : Value) (to' : Int) (wx : World) : Prop := wx.cell? ⟨w.heap.size, 4, none⟩ = some (.int .i64 to') ∧ wx.cell? ⟨B, 0, none⟩ = some pv
theorem StM.cells {w0 w wx : World} {B bm n : Nat} {pv : Value} {hs : Hts} {x z : Ins} (h : StM w0 w wx B bm n pv hs x z) : JmpS w B pv x.to wx := by
  obtain ⟨⟨k0, k1, k2, k3, k4⟩, -⟩ := fiveB h.c1
  obtain ⟨⟨c0, c1⟩, -⟩ := twoB h.chk.blk
  exact ⟨k4, c0⟩
/-- a place has been come to -/
theorem StM.came {w0 w wx w' : World} {B bm n m : Nat} {pv : Value} {hs hs' : Hts} {x z : Ins} (h : StM w0 w wx B bm n pv hs x z) (hg : wx.grownBy w' (some bm)) (hc : ChkM w0 w' B bm m pv hs') : StM w0 w w' B bm m pv hs' x z := by
  have hl := h.lt
  exact ⟨(hg.block _ (ltH h.c1) (by simp; omega)).trans h.c1, (hg.block _ (ltH h.c2) (by simp; omega)).trans h.c2, hc, h.lt⟩
theorem StM.jump {w0 w : World} {B bm n : Nat} {pv : Value} {hs : Hts} (h : ChkM w0 w B bm n pv hs) (x : Ins) : StM w0 w ((w.alloc (.cells #[.int .u8 x.op, .int .u8 x.st.kind, .string ⟨x.st.text.toArray⟩, .int .i64 x.st.num, .int .i64 x.to] 63)).alloc (.cells #[.int .u8 x.op, .int .u8 0, .string ⟨#[]⟩, .int .i64 0, .int .i64 x.to] 63)) B bm n pv hs x ⟨x.op, ⟨0, [], 0⟩, x.to⟩ := by
  have hb := allocB (w.alloc (.cells #[.int .u8 x.op, .int .u8 x.st.kind, .string ⟨x.st.text.toArray⟩, .int .i64 x.st.num, .int .i64 x.to] 63)) (.cells #[.int .u8 x.op, .int .u8 0, .string ⟨#[]⟩, .int .i64 0, .int .i64 x.to] 63)
  refine ⟨(hb.block _ (by simp)).trans (heap_alloc_new _ _), ?_, (h.step (allocB w _)).step hb, ltH h.blk, ?_⟩
  · have := heap_alloc_new (w.alloc (.cells #[.int .u8 x.op, .int .u8 x.st.kind, .string ⟨x.st.text.toArray⟩, .int .i64 x.st.num, .int .i64 x.to] 63)) (.cells #[.int .u8 x.op, .int .u8 0, .string ⟨#[]⟩, .int .i64 0, .int .i64 x.to] 63)
    rw [show (w.alloc (.cells #[.int .u8 x.op, .int .u8 x.st.kind, .string ⟨x.st.text.toArray⟩, .int .i64 x.st.num, .int .i64 x.to] 63)).heap.size = w.heap.size + 1 by simp] at this
    exact this
  · obtain ⟨D, ⟨es, clock, hb, _⟩, _⟩ := h.map
    exact ltH hb

set_option maxHeartbeats 4000000 in
set_option maxRecDepth 100000 in
theorem step_2 (w0 w : World) (B bm n h : Nat) (pv : Value) (hs : Hts) (p : List Ins) (i : Nat) (H : ChkM w0 w B bm n pv hs) (hp : InsIn w0 pv p) (hi : i < p.length) (hi2 : p.length ≤ 1000000) (hn : n ≤ 900000) (hK : h ≤ 900000) (hh : hs i = some h)
    (ho : p[i].op = 2) :
    Calls Tryz.prog 74 #[.pointer (some ⟨B, 0, none⟩), .int .i64 i] w (StepGave w0 B bm n pv (stepK p.length i p[i] hs)) := by
  have Hsk := Lib.hid (show stepK p.length i p[i] hs = if (i : Int) < p[i].to ∧ p[i].to ≤ (p.length : Int) then
      (hs.come p[i].to.toNat h).bind fun hs' => if p[i].st = stp0 ∧ 1 ≤ h then hs'.come (i + 1) (h - 1) else none else none by
    unfold stepK
    rw [hh]
    simp only
    rw [if_neg (by omega), if_pos (by omega)]
    rw [ho]
    rfl)
  have HM := Lib.hid H
  obtain ⟨g, o, c, rfl, hc, hcl⟩ := ins_at hp H.bel i hi
  have hg := hcl.lt
  obtain ⟨q0, q1, q2, q3, q4⟩ := hcl
  obtain ⟨⟨c0, c1⟩, -⟩ := twoB H.blk
  have hB := ltH H.blk
  have hi3 : (i : Int) < p.length := by omega
  generalize p[i] = x at *
  generalize p.length = N at *
  obtain ⟨op, st, to'⟩ := x
  simp only at ho
  subst ho
  have Hkey := Lib.hid (keyOf_int_mk (P := Tryz.prog) (k := 3) Tryz.underlying3 (a := (i : Int)) (WalkArith.wf_i64 (by omega)))
  have H1 := Lib.hid (HM.out.step (allocB w (.cells #[.int .u8 2, .int .u8 st.kind, .string ⟨st.text.toArray⟩, .int .i64 st.num, .int .i64 to'] 63)))
  obtain ⟨D, hown, hD⟩ := H1.out.map
  have Hown := Lib.hid hown
  have Hhas := Lib.hid (hD.hasK i)
  have Hat := Lib.hid (show ∀ c : Int, D.atKey (.int .i64 (i : Int)) (.lit (.int .i64 0)) = .lit (.int .i64 c) → c = (h : Int) from fun c hc => by
    rw [hD.atK i, hh] at hc
    simp only [Option.getD_some, DataW.lit.injEq, Lit.int.injEq, true_and] at hc
    exact hc.symm)
  rw [hh] at Hhas
  have Hst := Lib.hid (StM.jump H ⟨2, st, to'⟩)
  have hsub : (-9223372036854775808 : Int) ≤ (h : Int) - 1 := by omega
  clear H hp hown hD
  go_enter Tryz.func74, Tryz.ntmps74
  by_cases h1 : (i : Int) < to'
  · by_cases h2 : to' ≤ (N : Int)
    · obtain ⟨t, rfl⟩ : ∃ t : Nat, to' = t := ⟨to'.toNat, by omega⟩
      have hle : ¬ t ≤ i := by omega
      have hgt : ¬ N < t := by omega
      have d1 : decide (t ≤ i) = false := decide_eq_false hle
      have d2 : decide (N < t) = false := decide_eq_false hgt
      have Hd := Lib.hid (Hst.out.step (Below.refl _ _).drew)
      have Hc := Lib.hid (come_calls w0 _ B bm n _ hs t h Hd.out.chk (by omega) (by omega) (by omega))
      have hS0 := Hd.out.cells
      have Hk := Lib.hid (show stepK N i ⟨2, st, t⟩ hs = if comeB hs t h then (if st = stp0 ∧ 1 ≤ h then (if comeB (fun j => if j = t then some h else hs j) (i + 1) (h - 1) then some (fun j => if j = i + 1 then some (h - 1) else if j = t then some h else hs j) else none) else none) else none by
        rw [Hsk.out, if_pos ⟨h1, h2⟩, Int.toNat_natCast, come_eq]
        split
        · simp only [Option.bind_some, come_eq]
        · rfl)
      go_wp2_with (first | (at_lookup; refine wpList_lookup_own_ok_int _ rfl _ _ 115 rfl 3 3 .i64 keyI Tryz.underlying115 Tryz.underlying3 (zeroH _) bm n D rfl Hown.out _ _ rfl Hkey.out ?_; intro c hat hwc; rw [Hhas.out]; obtain rfl := Hat.out c hat; clear hat hwc))
      go_region_held3 (fun w' => w'.cell? ⟨w.heap.size, 4, none⟩ = some (.int .i64 (t : Int)) ∧ w'.cell? ⟨B, 0, none⟩ = some (.slice (some ⟨g, o, none⟩) N c)) (first | exact hS0 | exact hS6)
        (first | (go_at_call 121; refine Hc.out.mono ?_; rintro e w4 ⟨rfl, hst4, hg4⟩; have H4 := Lib.hid (Hd.out.came hg4 hst4); have hS6 := H4.out.cells; clear hst4 hg4))
      have hq : insQ 2 2 st.kind 0 ⟨st.text.toArray⟩ ⟨#[]⟩ st.num 0 t t = decide (st = ⟨0, [], 0⟩) := (insQ_eq ⟨2, st, t⟩ ⟨2, ⟨0, [], 0⟩, t⟩).trans (by simp only [Ins.mk.injEq, true_and, and_true])
      obtain ⟨⟨k0, k1, k2, k3, k4⟩, -⟩ := fiveB H4.out.c1
      obtain ⟨⟨z0, z1, z2, z3, z4⟩, -⟩ := fiveB H4.out.c2
      have Hc2 := Lib.hid (come_calls w0 w4 B bm (n + 1) _ (fun j => if j = t then some h else hs j) (i + 1) (h - 1) H4.out.chk (by omega) (by omega) (by omega))
      clear hS0 hS6
      generalize comeB hs t h = cb at *
      cases cb
      · have HR := Lib.hid (show stepK N i ⟨2, st, t⟩ hs = none by rw [Hk.out]; rfl)
        clear hq
        go_wp2_with fail
        go_ret
        rw [HR.out]
        exact ⟨rfl, H4.out.chk.bel⟩
      · by_cases hz : st = ⟨0, [], 0⟩
        · rw [decide_eq_true hz] at hq
          by_cases hh1 : 1 ≤ h
          · have HR := Lib.hid (show stepK N i ⟨2, st, t⟩ hs = (if comeB (fun j => if j = t then some h else hs j) (i + 1) (h - 1) then some (fun j => if j = i + 1 then some (h - 1) else if j = t then some h else hs j) else none) by rw [Hk.out, if_pos rfl, if_pos ⟨hz, hh1⟩])
            have hh2 : (1 : Int) ≤ h := by omega
            rw [show ((i + 1 : Nat) : Int) = (i : Int) + 1 by omega, show ((h - 1 : Nat) : Int) = (h : Int) - 1 by omega] at Hc2
            clear hz
            go_wp2_with fail
            refine Hc2.out.mono ?_
            rintro e w5 ⟨rfl, hst5, -⟩
            have Hst5 := Lib.hid hst5
            clear hst5
            generalize comeB (fun j => if j = t then some h else hs j) (i + 1) (h - 1) = cb at *
            cases cb
            · go_wp2_with fail
              go_ret
              rw [HR.out]
              exact ⟨rfl, Hst5.out.bel⟩
            · go_wp2_with fail
              go_ret
              rw [HR.out]
              exact ⟨rfl, n + 2, by omega, Hst5.out⟩
          · have HR := Lib.hid (show stepK N i ⟨2, st, t⟩ hs = none by rw [Hk.out, if_pos rfl, if_neg (fun h => hh1 h.2)])
            have hh2 : ¬ (1 : Int) ≤ h := by omega
            clear hz hh1
            go_wp2_with fail
            go_ret
            rw [HR.out]
            exact ⟨rfl, H4.out.chk.bel⟩
        · rw [decide_eq_false hz] at hq
          have HR := Lib.hid (show stepK N i ⟨2, st, t⟩ hs = none by rw [Hk.out, if_pos rfl, if_neg (fun h => hz h.1)])
          clear hz
          go_wp2_with fail
          go_ret
          rw [HR.out]
          exact ⟨rfl, H4.out.chk.bel⟩
    · have HR := Lib.hid (show stepK N i ⟨2, st, to'⟩ hs = none by rw [Hsk.out, if_neg (by simp only; omega)])
      have hle : ¬ to' ≤ (i : Int) := by omega
      have hgt : (N : Int) < to' := by omega
      have d1 : decide (to' ≤ (i : Int)) = false := decide_eq_false hle
      have d2 : decide ((N : Int) < to') = true := decide_eq_true hgt
      clear h1 h2
      go_wp2_with (first | (at_lookup; refine wpList_lookup_own_ok_int _ rfl _ _ 115 rfl 3 3 .i64 keyI Tryz.underlying115 Tryz.underlying3 (zeroH _) bm n D rfl Hown.out _ _ rfl Hkey.out ?_; intro c hat hwc; rw [Hhas.out]; obtain rfl := Hat.out c hat; clear hat hwc))
      go_region
      go_wp2_with fail
      go_ret
      rw [HR.out]
      exact ⟨rfl, stepH Hst.out.chk.bel (below_drewQ (Below.refl _ _) _)⟩
  · have HR := Lib.hid (show stepK N i ⟨2, st, to'⟩ hs = none by rw [Hsk.out, if_neg (by simp only; omega)])
    have hle : to' ≤ (i : Int) := by omega
    have d1 : decide (to' ≤ (i : Int)) = true := decide_eq_true hle
    clear h1
    go_wp2_with (first | (at_lookup; refine wpList_lookup_own_ok_int _ rfl _ _ 115 rfl 3 3 .i64 keyI Tryz.underlying115 Tryz.underlying3 (zeroH _) bm n D rfl Hown.out _ _ rfl Hkey.out ?_; intro c hat hwc; rw [Hhas.out]; obtain rfl := Hat.out c hat; clear hat hwc))
    go_region
    go_wp2_with fail
    go_ret
    rw [HR.out]
    exact ⟨rfl, stepH Hst.out.chk.bel (below_drewQ (Below.refl _ _) _)⟩

end Go.Proofs.YtcjmhmmjfgjcnaaGreatDoor.Cd

/- code: the checker's step at OR; its step; Check. -/
namespace Go.Proofs.YtcjmhmmjfgjcnaaGreatDoor.Cd
open Go.RowKit Go.Proofs.YtcjmhmmjfgjcnaaGreatDoor.Lx Go.Proofs.YtcjmhmmjfgjcnaaGreatDoor.Pa Go.Maps

attribute [local go_sem high] ins_equal

set_option maxHeartbeats 4000000 in
set_option maxRecDepth 100000 in
theorem step_4 (w0 w : World) (B bm n h : Nat) (pv : Value) (hs : Hts) (p : List Ins) (i : Nat) (H : ChkM w0 w B bm n pv hs) (hp : InsIn w0 pv p) (hi : i < p.length) (hi2 : p.length ≤ 1000000) (hn : n ≤ 900000) (hK : h ≤ 900000) (hh : hs i = some h)
    (ho : p[i].op = 4) :
    Calls Tryz.prog 74 #[.pointer (some ⟨B, 0, none⟩), .int .i64 i] w (StepGave w0 B bm n pv (stepK p.length i p[i] hs)) := by
  have Hsk := Lib.hid (show stepK p.length i p[i] hs = if (i : Int) < p[i].to ∧ p[i].to ≤ (p.length : Int) then
      (hs.come p[i].to.toNat h).bind fun hs' => if p[i].st = stp0 ∧ 1 ≤ h then hs'.come (i + 1) h else none else none by
    unfold stepK
    rw [hh]
    simp only
    rw [if_neg (by omega), if_pos (by omega)]
    rw [ho]
    rfl)
  have HM := Lib.hid H
  obtain ⟨g, o, c, rfl, hc, hcl⟩ := ins_at hp H.bel i hi
  have hg := hcl.lt
  obtain ⟨q0, q1, q2, q3, q4⟩ := hcl
  obtain ⟨⟨c0, c1⟩, -⟩ := twoB H.blk
  have hB := ltH H.blk
  have hi3 : (i : Int) < p.length := by omega
  generalize p[i] = x at *
  generalize p.length = N at *
  obtain ⟨op, st, to'⟩ := x
  simp only at ho
  subst ho
  have Hkey := Lib.hid (keyOf_int_mk (P := Tryz.prog) (k := 3) Tryz.underlying3 (a := (i : Int)) (WalkArith.wf_i64 (by omega)))
  have H1 := Lib.hid (HM.out.step (allocB w (.cells #[.int .u8 4, .int .u8 st.kind, .string ⟨st.text.toArray⟩, .int .i64 st.num, .int .i64 to'] 63)))
  obtain ⟨D, hown, hD⟩ := H1.out.map
  have Hown := Lib.hid hown
  have Hhas := Lib.hid (hD.hasK i)
  have Hat := Lib.hid (show ∀ c : Int, D.atKey (.int .i64 (i : Int)) (.lit (.int .i64 0)) = .lit (.int .i64 c) → c = (h : Int) from fun c hc => by
    rw [hD.atK i, hh] at hc
    simp only [Option.getD_some, DataW.lit.injEq, Lit.int.injEq, true_and] at hc
    exact hc.symm)
  rw [hh] at Hhas
  have Hst := Lib.hid (StM.jump H ⟨4, st, to'⟩)
  clear H hp hown hD
  go_enter Tryz.func74, Tryz.ntmps74
  by_cases h1 : (i : Int) < to'
  · by_cases h2 : to' ≤ (N : Int)
    · obtain ⟨t, rfl⟩ : ∃ t : Nat, to' = t := ⟨to'.toNat, by omega⟩
      have hle : ¬ t ≤ i := by omega
      have hgt : ¬ N < t := by omega
      have d1 : decide (t ≤ i) = false := decide_eq_false hle
      have d2 : decide (N < t) = false := decide_eq_false hgt
      have Hd := Lib.hid (Hst.out.step (Below.refl _ _).drew)
      have Hc := Lib.hid (come_calls w0 _ B bm n _ hs t h Hd.out.chk (by omega) (by omega) (by omega))
      have hS0 := Hd.out.cells
      have Hk := Lib.hid (show stepK N i ⟨4, st, t⟩ hs = if comeB hs t h then (if st = stp0 ∧ 1 ≤ h then (if comeB (fun j => if j = t then some h else hs j) (i + 1) h then some (fun j => if j = i + 1 then some h else if j = t then some h else hs j) else none) else none) else none by
        rw [Hsk.out, if_pos ⟨h1, h2⟩, Int.toNat_natCast, come_eq]
        split
        · simp only [Option.bind_some, come_eq]
        · rfl)
      go_wp2_with (first | (at_lookup; refine wpList_lookup_own_ok_int _ rfl _ _ 115 rfl 3 3 .i64 keyI Tryz.underlying115 Tryz.underlying3 (zeroH _) bm n D rfl Hown.out _ _ rfl Hkey.out ?_; intro c hat hwc; rw [Hhas.out]; obtain rfl := Hat.out c hat; clear hat hwc))
      go_region_held3 (fun w' => w'.cell? ⟨w.heap.size, 4, none⟩ = some (.int .i64 (t : Int)) ∧ w'.cell? ⟨B, 0, none⟩ = some (.slice (some ⟨g, o, none⟩) N c)) (first | exact hS0 | exact hS6)
        (first | (go_at_call 121; refine Hc.out.mono ?_; rintro e w4 ⟨rfl, hst4, hg4⟩; have H4 := Lib.hid (Hd.out.came hg4 hst4); have hS6 := H4.out.cells; clear hst4 hg4))
      have hq : insQ 4 4 st.kind 0 ⟨st.text.toArray⟩ ⟨#[]⟩ st.num 0 t t = decide (st = ⟨0, [], 0⟩) := (insQ_eq ⟨4, st, t⟩ ⟨4, ⟨0, [], 0⟩, t⟩).trans (by simp only [Ins.mk.injEq, true_and, and_true])
      obtain ⟨⟨k0, k1, k2, k3, k4⟩, -⟩ := fiveB H4.out.c1
      obtain ⟨⟨z0, z1, z2, z3, z4⟩, -⟩ := fiveB H4.out.c2
      have Hc2 := Lib.hid (come_calls w0 w4 B bm (n + 1) _ (fun j => if j = t then some h else hs j) (i + 1) h H4.out.chk (by omega) (by omega) (by omega))
      clear hS0 hS6
      generalize comeB hs t h = cb at *
      cases cb
      · have HR := Lib.hid (show stepK N i ⟨4, st, t⟩ hs = none by rw [Hk.out]; rfl)
        clear hq
        go_wp2_with fail
        go_ret
        rw [HR.out]
        exact ⟨rfl, H4.out.chk.bel⟩
      · by_cases hz : st = ⟨0, [], 0⟩
        · rw [decide_eq_true hz] at hq
          by_cases hh1 : 1 ≤ h
          · have HR := Lib.hid (show stepK N i ⟨4, st, t⟩ hs = (if comeB (fun j => if j = t then some h else hs j) (i + 1) h then some (fun j => if j = i + 1 then some h else if j = t then some h else hs j) else none) by rw [Hk.out, if_pos rfl, if_pos ⟨hz, hh1⟩])
            have hh2 : (1 : Int) ≤ h := by omega
            rw [show ((i + 1 : Nat) : Int) = (i : Int) + 1 by omega] at Hc2
            clear hz
            go_wp2_with fail
            refine Hc2.out.mono ?_
            rintro e w5 ⟨rfl, hst5, -⟩
            have Hst5 := Lib.hid hst5
            clear hst5
            generalize comeB (fun j => if j = t then some h else hs j) (i + 1) h = cb at *
            cases cb
            · go_wp2_with fail
              go_ret
              rw [HR.out]
              exact ⟨rfl, Hst5.out.bel⟩
            · go_wp2_with fail
              go_ret
              rw [HR.out]
              exact ⟨rfl, n + 2, by omega, Hst5.out⟩
          · have HR := Lib.hid (show stepK N i ⟨4, st, t⟩ hs = none by rw [Hk.out, if_pos rfl, if_neg (fun h => hh1 h.2)])
            have hh2 : ¬ (1 : Int) ≤ h := by omega
            clear hz hh1
            go_wp2_with fail
            go_ret
            rw [HR.out]
            exact ⟨rfl, H4.out.chk.bel⟩
        · rw [decide_eq_false hz] at hq
          have HR := Lib.hid (show stepK N i ⟨4, st, t⟩ hs = none by rw [Hk.out, if_pos rfl, if_neg (fun h => hz h.1)])
          clear hz
          go_wp2_with fail
          go_ret
          rw [HR.out]
          exact ⟨rfl, H4.out.chk.bel⟩
    · have HR := Lib.hid (show stepK N i ⟨4, st, to'⟩ hs = none by rw [Hsk.out, if_neg (by simp only; omega)])
      have hle : ¬ to' ≤ (i : Int) := by omega
      have hgt : (N : Int) < to' := by omega
      have d1 : decide (to' ≤ (i : Int)) = false := decide_eq_false hle
      have d2 : decide ((N : Int) < to') = true := decide_eq_true hgt
      clear h1 h2
      go_wp2_with (first | (at_lookup; refine wpList_lookup_own_ok_int _ rfl _ _ 115 rfl 3 3 .i64 keyI Tryz.underlying115 Tryz.underlying3 (zeroH _) bm n D rfl Hown.out _ _ rfl Hkey.out ?_; intro c hat hwc; rw [Hhas.out]; obtain rfl := Hat.out c hat; clear hat hwc))
      go_region
      go_wp2_with fail
      go_ret
      rw [HR.out]
      exact ⟨rfl, stepH Hst.out.chk.bel (below_drewQ (Below.refl _ _) _)⟩
  · have HR := Lib.hid (show stepK N i ⟨4, st, to'⟩ hs = none by rw [Hsk.out, if_neg (by simp only; omega)])
    have hle : to' ≤ (i : Int) := by omega
    have d1 : decide (to' ≤ (i : Int)) = true := decide_eq_true hle
    clear h1
    go_wp2_with (first | (at_lookup; refine wpList_lookup_own_ok_int _ rfl _ _ 115 rfl 3 3 .i64 keyI Tryz.underlying115 Tryz.underlying3 (zeroH _) bm n D rfl Hown.out _ _ rfl Hkey.out ?_; intro c hat hwc; rw [Hhas.out]; obtain rfl := Hat.out c hat; clear hat hwc))
    go_region
    go_wp2_with fail
    go_ret
    rw [HR.out]
    exact ⟨rfl, stepH Hst.out.chk.bel (below_drewQ (Below.refl _ _) _)⟩

/-- the heights are low -/
def Low (hs : Hts) (K : Nat) : Prop := ∀ j v, hs j = some v → v ≤ K
theorem come_low {hs hs' : Hts} {i h K : Nat} (hl : Low hs K) (hh : h ≤ K) (e : hs.come i h = some hs') : Low hs' K := by
  unfold Hts.come at e
  split at e
  · obtain rfl := Option.some.inj e
    intro j v hv
    simp only at hv
    split at hv
    · obtain rfl := Option.some.inj hv; exact hh
    · exact hl j v hv
  · cases e
theorem Low.mono {hs : Hts} {K L : Nat} (h : Low hs K) (hk : K ≤ L) : Low hs L := fun j v hv => Nat.le_trans (h j v hv) hk
theorem stepK_low {N i K : Nat} {x : Ins} {hs hs' : Hts} (hl : Low hs K) (e : stepK N i x hs = some hs') : Low hs' (K + 1) := by
  unfold stepK at e
  split at e
  · cases e
  · rename_i h hh
    have h0 := hl i h hh
    split at e
    · split at e
      · cases e
      · split at e
        · exact come_low (hl.mono (Nat.le_succ K)) (by omega) e
        · cases e
    · split at e
      · split at e
        · cases hc : hs.come x.to.toNat h with
          | none => rw [hc] at e; cases e
          | some h4 =>
            rw [hc, Option.bind_some] at e
            split at e
            · exact come_low ((come_low hl h0 hc).mono (Nat.le_succ K)) (by split <;> omega) e
            · cases e
        · cases e
      · split at e
        · split at e
          · exact come_low (hl.mono (Nat.le_succ K)) (by omega) e
          · cases e
        · split at e
          · split at e
            · exact come_low (hl.mono (Nat.le_succ K)) (by omega) e
            · cases e
          · cases e
theorem step_calls (w0 w : World) (B bm n : Nat) (pv : Value) (hs : Hts) (p : List Ins) (i : Nat) (H : ChkM w0 w B bm n pv hs) (hp : InsIn w0 pv p) (hi : i < p.length) (hi2 : p.length ≤ 1000000) (hn : n ≤ 900000) (hK : Low hs 900000)
    (HT : TakesOk w0 p[i].st) :
    Calls Tryz.prog 74 #[.pointer (some ⟨B, 0, none⟩), .int .i64 i] w (StepGave w0 B bm n pv (stepK p.length i p[i] hs)) := by
  cases hh : hs i with
  | none =>
    refine (step_none w0 w B bm n pv hs p i H hp hi hi2 hh).mono ?_
    intro e w' h
    rw [show stepK p.length i p[i] hs = none by unfold stepK; rw [hh]]
    exact h
  | some h =>
    have h0 := hK i h hh
    by_cases h1 : p[i].op = 1
    · exact step_one w0 w B bm n h pv hs p i H hp hi hi2 hn h0 hh h1 HT
    by_cases h2 : p[i].op = 2
    · exact step_2 w0 w B bm n h pv hs p i H hp hi hi2 hn h0 hh h2
    by_cases h3 : p[i].op = 3
    · exact step_3 w0 w B bm n h pv hs p i H hp hi hi2 hn h0 hh h3
    by_cases h4 : p[i].op = 4
    · exact step_4 w0 w B bm n h pv hs p i H hp hi hi2 hn h0 hh h4
    by_cases h5 : p[i].op = 5
    · exact step_5 w0 w B bm n h pv hs p i H hp hi hi2 hn h0 hh h5
    exact step_other w0 w B bm n h pv hs p i H hp hi hi2 hh (by omega)

end Go.Proofs.YtcjmhmmjfgjcnaaGreatDoor.Cd
