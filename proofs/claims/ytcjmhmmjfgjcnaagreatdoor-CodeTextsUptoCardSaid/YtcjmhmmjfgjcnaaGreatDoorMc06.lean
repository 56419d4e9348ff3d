/- Parts: QaS QaT QaU. -/
import Derived.Test.YtcjmhmmjfgjcnaaGreatDoorMc05
import Derived.BigFrame

/- code: the checker's step at a jump. -/
namespace Go.Proofs.YtcjmhmmjfgjcnaaGreatDoor.Cd
open Go.RowKit Go.Proofs.YtcjmhmmjfgjcnaaGreatDoor.Lx Go.Proofs.YtcjmhmmjfgjcnaaGreatDoor.Pa Go.Maps

attribute [local go_sem high] ins_equal
theorem below_drewQ {B : Nat} {a w : World} (h : Below B a w) (n : Nat) : Below B a (w.drewN n) := h.trans ⟨rfl, rfl, rfl, Nat.le_refl _, fun _ _ => rfl⟩
def JmpS (w : World) (B : Nat) (pv : Value) (to' : Int) (wx : World) : Prop := wx.cell? ⟨w.heap.size, 4, none⟩ = some (.int .i64 to') ∧ wx.cell? ⟨B, 0, none⟩ = some pv
theorem StM.cells {w0 w wx : World} {B bm n : Nat} {pv : Value} {hs : Hts} {x z : Ins} (h : StM w0 w wx B bm n pv hs x z) : JmpS w B pv x.to wx := by
  obtain ⟨⟨k0, k1, k2, k3, k4⟩, -⟩ := fiveB h.c1
  obtain ⟨⟨c0, c1⟩, -⟩ := twoB h.chk.blk
  exact ⟨k4, c0⟩
theorem StM.came {w0 w wx w' : World} {B bm n m : Nat} {pv : Value} {hs hs' : Hts} {x z : Ins} (h : StM w0 w wx B bm n pv hs x z) (hg : wx.grownBy w' (some bm)) (hc : ChkM w0 w' B bm m pv hs') : StM w0 w w' B bm m pv hs' x z := by
  have hl := h.lt
  exact ⟨(hg.block _ (ltH h.c1) (by simp; omega)).trans h.c1, (hg.block _ (ltH h.c2) (by simp; omega)).trans h.c2, hc, h.lt⟩
theorem StM.jump {w0 w : World} {B bm n : Nat} {pv : Value} {hs : Hts} (h : ChkM w0 w B bm n pv hs) (x : Ins) : StM w0 w ((w.alloc (.cells #[.int .u8 x.op, .int .u8 x.st.kind, .string ⟨x.st.text.toArray⟩, .int .i64 x.st.num, .int .i64 x.to] 63)).alloc (.cells #[.int .u8 x.op, .int .u8 0, .string ⟨#[]⟩, .int .i64 0, .int .i64 x.to] 63)) B bm n pv hs x ⟨x.op, ⟨0, [], 0⟩, x.to⟩ := by
  have hb := allocB (w.alloc (.cells #[.int .u8 x.op, .int .u8 x.st.kind, .string ⟨x.st.text.toArray⟩, .int .i64 x.st.num, .int .i64 x.to] 63)) (.cells #[.int .u8 x.op, .int .u8 0, .string ⟨#[]⟩, .int .i64 0, .int .i64 x.to] 63)
  refine ⟨(hb.block _ (by simp)).trans (heap_alloc_new _ _), ?_, (h.step (allocB w _)).step hb, ltH h.blk, ?_⟩
  · have := heap_alloc_new (w.alloc (.cells #[.int .u8 x.op, .int .u8 x.st.kind, .string ⟨x.st.text.toArray⟩, .int .i64 x.st.num, .int .i64 x.to] 63)) (.cells #[.int .u8 x.op, .int .u8 0, .string ⟨#[]⟩, .int .i64 0, .int .i64 x.to] 63)
    rw [show (w.alloc (.cells #[.int .u8 x.op, .int .u8 x.st.kind, .string ⟨x.st.text.toArray⟩, .int .i64 x.st.num, .int .i64 x.to] 63)).heap.size = w.heap.size + 1 by simp] at this
    exact this
  · obtain ⟨D, ⟨es, clock, hb, _⟩, _⟩ := h.map
    exact ltH hb

set_option maxHeartbeats 4000000 in
set_option maxRecDepth 100000 in
theorem step_2 (w0 w : World) (B bm n h : Nat) (pv : Value) (hs : Hts) (p : List Ins) (i : Nat) (H : ChkM w0 w B bm n pv hs) (hp : InsIn w0 pv p) (hi : i < p.length) (hi2 : p.length ≤ 1000000) (hn : n ≤ 900000) (hK : h ≤ 900000) (hh : hs i = some h)
    (ho : p[i].op = 2) :
    Calls Tryz.prog 74 #[.pointer (some ⟨B, 0, none⟩), .int .i64 i] w (StepGave w0 B bm n pv (stepK p.length i p[i] hs)) := by
  have Hsk := Lib.hid (show stepK p.length i p[i] hs = if (i : Int) < p[i].to ∧ p[i].to ≤ (p.length : Int) then
      (hs.come p[i].to.toNat h).bind fun hs' => if p[i].st = stp0 ∧ 1 ≤ h then hs'.come (i + 1) (h - 1) else none else none by
    unfold stepK
    rw [hh]
    simp only
    rw [if_neg (by omega), if_pos (by omega)]
    rw [ho]
    rfl)
  have HM := Lib.hid H
  obtain ⟨g, o, c, rfl, hc, hcl⟩ := ins_at hp H.bel i hi
  have hg := hcl.lt
  obtain ⟨q0, q1, q2, q3, q4⟩ := hcl
  obtain ⟨⟨c0, c1⟩, -⟩ := twoB H.blk
  have hB := ltH H.blk
  have hi3 : (i : Int) < p.length := by omega
  generalize p[i] = x at *
  generalize p.length = N at *
  obtain ⟨op, st, to'⟩ := x
  simp only at ho
  subst ho
  have Hkey := Lib.hid (keyOf_int_mk (P := Tryz.prog) (k := 3) Tryz.underlying3 (a := (i : Int)) (WalkArith.wf_i64 (by omega)))
  have H1 := Lib.hid (HM.out.step (allocB w (.cells #[.int .u8 2, .int .u8 st.kind, .string ⟨st.text.toArray⟩, .int .i64 st.num, .int .i64 to'] 63)))
  obtain ⟨D, hown, hD⟩ := H1.out.map
  have Hown := Lib.hid hown
  have Hhas := Lib.hid (hD.hasK i)
  have Hat := Lib.hid (show ∀ c : Int, D.atKey (.int .i64 (i : Int)) (.lit (.int .i64 0)) = .lit (.int .i64 c) → c = (h : Int) from fun c hc => by
    rw [hD.atK i, hh] at hc
    simp only [Option.getD_some, DataW.lit.injEq, Lit.int.injEq, true_and] at hc
    exact hc.symm)
  rw [hh] at Hhas
  have Hst := Lib.hid (StM.jump H ⟨2, st, to'⟩)
  have hsub : (-9223372036854775808 : Int) ≤ (h : Int) - 1 := by omega
  clear H hp hown hD
  go_enter Tryz.func74, Tryz.ntmps74
  by_cases h1 : (i : Int) < to'
  · by_cases h2 : to' ≤ (N : Int)
    · obtain ⟨t, rfl⟩ : ∃ t : Nat, to' = t := ⟨to'.toNat, by omega⟩
      have hle : ¬ t ≤ i := by omega
      have hgt : ¬ N < t := by omega
      have d1 : decide (t ≤ i) = false := decide_eq_false hle
      have d2 : decide (N < t) = false := decide_eq_false hgt
      have Hd := Lib.hid (Hst.out.step (Below.refl _ _).drew)
      have Hc := Lib.hid (come_calls w0 _ B bm n _ hs t h Hd.out.chk (by omega) (by omega) (by omega))
      have hS0 := Hd.out.cells
      have Hk := Lib.hid (show stepK N i ⟨2, st, t⟩ hs = if comeB hs t h then (if st = stp0 ∧ 1 ≤ h then (if comeB (fun j => if j = t then some h else hs j) (i + 1) (h - 1) then some (fun j => if j = i + 1 then some (h - 1) else if j = t then some h else hs j) else none) else none) else none by
        rw [Hsk.out, if_pos ⟨h1, h2⟩, Int.toNat_natCast, come_eq]
        split
        · simp only [Option.bind_some, come_eq]
        · rfl)
      go_wp2_with (first | (at_lookup; refine wpList_lookup_own_ok_int _ rfl _ _ 115 rfl 3 3 .i64 keyI Tryz.underlying115 Tryz.underlying3 (zeroH _) bm n D rfl Hown.out _ _ rfl Hkey.out ?_; intro c hat hwc; rw [Hhas.out]; obtain rfl := Hat.out c hat; clear hat hwc))
      go_region_held3 (fun w' => w'.cell? ⟨w.heap.size, 4, none⟩ = some (.int .i64 (t : Int)) ∧ w'.cell? ⟨B, 0, none⟩ = some (.slice (some ⟨g, o, none⟩) N c)) (first | exact hS0 | exact hS6)
        (first | (go_at_call 121; refine Hc.out.mono ?_; rintro e w4 ⟨rfl, hst4, hg4⟩; have H4 := Lib.hid (Hd.out.came hg4 hst4); have hS6 := H4.out.cells; clear hst4 hg4))
      have hq : insQ 2 2 st.kind 0 ⟨st.text.toArray⟩ ⟨#[]⟩ st.num 0 t t = decide (st = ⟨0, [], 0⟩) := (insQ_eq ⟨2, st, t⟩ ⟨2, ⟨0, [], 0⟩, t⟩).trans (by simp only [Ins.mk.injEq, true_and, and_true])
      obtain ⟨⟨k0, k1, k2, k3, k4⟩, -⟩ := fiveB H4.out.c1
      obtain ⟨⟨z0, z1, z2, z3, z4⟩, -⟩ := fiveB H4.out.c2
      have Hc2 := Lib.hid (come_calls w0 w4 B bm (n + 1) _ (fun j => if j = t then some h else hs j) (i + 1) (h - 1) H4.out.chk (by omega) (by omega) (by omega))
      clear hS0 hS6
      generalize comeB hs t h = cb at *
      cases cb
      · have HR := Lib.hid (show stepK N i ⟨2, st, t⟩ hs = none by rw [Hk.out]; rfl)
        clear hq
        go_wp2_with fail
        go_ret
        rw [HR.out]
        exact ⟨rfl, H4.out.chk.bel⟩
      · by_cases hz : st = ⟨0, [], 0⟩
        · rw [decide_eq_true hz] at hq
          by_cases hh1 : 1 ≤ h
          · have HR := Lib.hid (show stepK N i ⟨2, st, t⟩ hs = (if comeB (fun j => if j = t then some h else hs j) (i + 1) (h - 1) then some (fun j => if j = i + 1 then some (h - 1) else if j = t then some h else hs j) else none) by rw [Hk.out, if_pos rfl, if_pos ⟨hz, hh1⟩])
            have hh2 : (1 : Int) ≤ h := by omega
            rw [show ((i + 1 : Nat) : Int) = (i : Int) + 1 by omega, show ((h - 1 : Nat) : Int) = (h : Int) - 1 by omega] at Hc2
            clear hz
            go_wp2_with fail
            refine Hc2.out.mono ?_
            rintro e w5 ⟨rfl, hst5, -⟩
            have Hst5 := Lib.hid hst5
            clear hst5
            generalize comeB (fun j => if j = t then some h else hs j) (i + 1) (h - 1) = cb at *
            cases cb
            · go_wp2_with fail
              go_ret
              rw [HR.out]
              exact ⟨rfl, Hst5.out.bel⟩
            · go_wp2_with fail
              go_ret
              rw [HR.out]
              exact ⟨rfl, n + 2, by omega, Hst5.out⟩
          · have HR := Lib.hid (show stepK N i ⟨2, st, t⟩ hs = none by rw [Hk.out, if_pos rfl, if_neg (fun h => hh1 h.2)])
            have hh2 : ¬ (1 : Int) ≤ h := by omega
            clear hz hh1
            go_wp2_with fail
            go_ret
            rw [HR.out]
            exact ⟨rfl, H4.out.chk.bel⟩
        · rw [decide_eq_false hz] at hq
          have HR := Lib.hid (show stepK N i ⟨2, st, t⟩ hs = none by rw [Hk.out, if_pos rfl, if_neg (fun h => hz h.1)])
          clear hz
          go_wp2_with fail
          go_ret
          rw [HR.out]
          exact ⟨rfl, H4.out.chk.bel⟩
    · have HR := Lib.hid (show stepK N i ⟨2, st, to'⟩ hs = none by rw [Hsk.out, if_neg (by simp only; omega)])
      have hle : ¬ to' ≤ (i : Int) := by omega
      have hgt : (N : Int) < to' := by omega
      have d1 : decide (to' ≤ (i : Int)) = false := decide_eq_false hle
      have d2 : decide ((N : Int) < to') = true := decide_eq_true hgt
      clear h1 h2
      go_wp2_with (first | (at_lookup; refine wpList_lookup_own_ok_int _ rfl _ _ 115 rfl 3 3 .i64 keyI Tryz.underlying115 Tryz.underlying3 (zeroH _) bm n D rfl Hown.out _ _ rfl Hkey.out ?_; intro c hat hwc; rw [Hhas.out]; obtain rfl := Hat.out c hat; clear hat hwc))
      go_region
      go_wp2_with fail
      go_ret
      rw [HR.out]
      exact ⟨rfl, stepH Hst.out.chk.bel (below_drewQ (Below.refl _ _) _)⟩
  · have HR := Lib.hid (show stepK N i ⟨2, st, to'⟩ hs = none by rw [Hsk.out, if_neg (by simp only; omega)])
    have hle : to' ≤ (i : Int) := by omega
    have d1 : decide (to' ≤ (i : Int)) = true := decide_eq_true hle
    clear h1
    go_wp2_with (first | (at_lookup; refine wpList_lookup_own_ok_int _ rfl _ _ 115 rfl 3 3 .i64 keyI Tryz.underlying115 Tryz.underlying3 (zeroH _) bm n D rfl Hown.out _ _ rfl Hkey.out ?_; intro c hat hwc; rw [Hhas.out]; obtain rfl := Hat.out c hat; clear hat hwc))
    go_region
    go_wp2_with fail
    go_ret
    rw [HR.out]
    exact ⟨rfl, stepH Hst.out.chk.bel (below_drewQ (Below.refl _ _) _)⟩

end Go.Proofs.YtcjmhmmjfgjcnaaGreatDoor.Cd

/- code: the checker's step at OR; its step; Check. -/
namespace Go.Proofs.YtcjmhmmjfgjcnaaGreatDoor.Cd
open Go.RowKit Go.Proofs.YtcjmhmmjfgjcnaaGreatDoor.Lx Go.Proofs.YtcjmhmmjfgjcnaaGreatDoor.Pa Go.Maps

attribute [local go_sem high] ins_equal

set_option maxHeartbeats 4000000 in
set_option maxRecDepth 100000 in
theorem step_4 (w0 w : World) (B bm n h : Nat) (pv : Value) (hs : Hts) (p : List Ins) (i : Nat) (H : ChkM w0 w B bm n pv hs) (hp : InsIn w0 pv p) (hi : i < p.length) (hi2 : p.length ≤ 1000000) (hn : n ≤ 900000) (hK : h ≤ 900000) (hh : hs i = some h)
    (ho : p[i].op = 4) :
    Calls Tryz.prog 74 #[.pointer (some ⟨B, 0, none⟩), .int .i64 i] w (StepGave w0 B bm n pv (stepK p.length i p[i] hs)) := by
  have Hsk := Lib.hid (show stepK p.length i p[i] hs = if (i : Int) < p[i].to ∧ p[i].to ≤ (p.length : Int) then
      (hs.come p[i].to.toNat h).bind fun hs' => if p[i].st = stp0 ∧ 1 ≤ h then hs'.come (i + 1) h else none else none by
    unfold stepK
    rw [hh]
    simp only
    rw [if_neg (by omega), if_pos (by omega)]
    rw [ho]
    rfl)
  have HM := Lib.hid H
  obtain ⟨g, o, c, rfl, hc, hcl⟩ := ins_at hp H.bel i hi
  have hg := hcl.lt
  obtain ⟨q0, q1, q2, q3, q4⟩ := hcl
  obtain ⟨⟨c0, c1⟩, -⟩ := twoB H.blk
  have hB := ltH H.blk
  have hi3 : (i : Int) < p.length := by omega
  generalize p[i] = x at *
  generalize p.length = N at *
  obtain ⟨op, st, to'⟩ := x
  simp only at ho
  subst ho
  have Hkey := Lib.hid (keyOf_int_mk (P := Tryz.prog) (k := 3) Tryz.underlying3 (a := (i : Int)) (WalkArith.wf_i64 (by omega)))
  have H1 := Lib.hid (HM.out.step (allocB w (.cells #[.int .u8 4, .int .u8 st.kind, .string ⟨st.text.toArray⟩, .int .i64 st.num, .int .i64 to'] 63)))
  obtain ⟨D, hown, hD⟩ := H1.out.map
  have Hown := Lib.hid hown
  have Hhas := Lib.hid (hD.hasK i)
  have Hat := Lib.hid (show ∀ c : Int, D.atKey (.int .i64 (i : Int)) (.lit (.int .i64 0)) = .lit (.int .i64 c) → c = (h : Int) from fun c hc => by
    rw [hD.atK i, hh] at hc
    simp only [Option.getD_some, DataW.lit.injEq, Lit.int.injEq, true_and] at hc
    exact hc.symm)
  rw [hh] at Hhas
  have Hst := Lib.hid (StM.jump H ⟨4, st, to'⟩)
  clear H hp hown hD
  go_enter Tryz.func74, Tryz.ntmps74
  by_cases h1 : (i : Int) < to'
  · by_cases h2 : to' ≤ (N : Int)
    · obtain ⟨t, rfl⟩ : ∃ t : Nat, to' = t := ⟨to'.toNat, by omega⟩
      have hle : ¬ t ≤ i := by omega
      have hgt : ¬ N < t := by omega
      have d1 : decide (t ≤ i) = false := decide_eq_false hle
      have d2 : decide (N < t) = false := decide_eq_false hgt
      have Hd := Lib.hid (Hst.out.step (Below.refl _ _).drew)
      have Hc := Lib.hid (come_calls w0 _ B bm n _ hs t h Hd.out.chk (by omega) (by omega) (by omega))
      have hS0 := Hd.out.cells
      have Hk := Lib.hid (show stepK N i ⟨4, st, t⟩ hs = if comeB hs t h then (if st = stp0 ∧ 1 ≤ h then (if comeB (fun j => if j = t then some h else hs j) (i + 1) h then some (fun j => if j = i + 1 then some h else if j = t then some h else hs j) else none) else none) else none by
        rw [Hsk.out, if_pos ⟨h1, h2⟩, Int.toNat_natCast, come_eq]
        split
        · simp only [Option.bind_some, come_eq]
        · rfl)
      go_wp2_with (first | (at_lookup; refine wpList_lookup_own_ok_int _ rfl _ _ 115 rfl 3 3 .i64 keyI Tryz.underlying115 Tryz.underlying3 (zeroH _) bm n D rfl Hown.out _ _ rfl Hkey.out ?_; intro c hat hwc; rw [Hhas.out]; obtain rfl := Hat.out c hat; clear hat hwc))
      go_region_held3 (fun w' => w'.cell? ⟨w.heap.size, 4, none⟩ = some (.int .i64 (t : Int)) ∧ w'.cell? ⟨B, 0, none⟩ = some (.slice (some ⟨g, o, none⟩) N c)) (first | exact hS0 | exact hS6)
        (first | (go_at_call 121; refine Hc.out.mono ?_; rintro e w4 ⟨rfl, hst4, hg4⟩; have H4 := Lib.hid (Hd.out.came hg4 hst4); have hS6 := H4.out.cells; clear hst4 hg4))
      have hq : insQ 4 4 st.kind 0 ⟨st.text.toArray⟩ ⟨#[]⟩ st.num 0 t t = decide (st = ⟨0, [], 0⟩) := (insQ_eq ⟨4, st, t⟩ ⟨4, ⟨0, [], 0⟩, t⟩).trans (by simp only [Ins.mk.injEq, true_and, and_true])
      obtain ⟨⟨k0, k1, k2, k3, k4⟩, -⟩ := fiveB H4.out.c1
      obtain ⟨⟨z0, z1, z2, z3, z4⟩, -⟩ := fiveB H4.out.c2
      have Hc2 := Lib.hid (come_calls w0 w4 B bm (n + 1) _ (fun j => if j = t then some h else hs j) (i + 1) h H4.out.chk (by omega) (by omega) (by omega))
      clear hS0 hS6
      generalize comeB hs t h = cb at *
      cases cb
      · have HR := Lib.hid (show stepK N i ⟨4, st, t⟩ hs = none by rw [Hk.out]; rfl)
        clear hq
        go_wp2_with fail
        go_ret
        rw [HR.out]
        exact ⟨rfl, H4.out.chk.bel⟩
      · by_cases hz : st = ⟨0, [], 0⟩
        · rw [decide_eq_true hz] at hq
          by_cases hh1 : 1 ≤ h
          · have HR := Lib.hid (show stepK N i ⟨4, st, t⟩ hs = (if comeB (fun j => if j = t then some h else hs j) (i + 1) h then some (fun j => if j = i + 1 then some h else if j = t then some h else hs j) else none) by rw [Hk.out, if_pos rfl, if_pos ⟨hz, hh1⟩])
            have hh2 : (1 : Int) ≤ h := by omega
            rw [show ((i + 1 : Nat) : Int) = (i : Int) + 1 by omega] at Hc2
            clear hz
            go_wp2_with fail
            refine Hc2.out.mono ?_
            rintro e w5 ⟨rfl, hst5, -⟩
            have Hst5 := Lib.hid hst5
            clear hst5
            generalize comeB (fun j => if j = t then some h else hs j) (i + 1) h = cb at *
            cases cb
            · go_wp2_with fail
              go_ret
              rw [HR.out]
              exact ⟨rfl, Hst5.out.bel⟩
            · go_wp2_with fail
              go_ret
              rw [HR.out]
              exact ⟨rfl, n + 2, by omega, Hst5.out⟩
          · have HR := Lib.hid (show stepK N i ⟨4, st, t⟩ hs = none by rw [Hk.out, if_pos rfl, if_neg (fun h => hh1 h.2)])
            have hh2 : ¬ (1 : Int) ≤ h := by omega
            clear hz hh1
            go_wp2_with fail
            go_ret
            rw [HR.out]
            exact ⟨rfl, H4.out.chk.bel⟩
        · rw [decide_eq_false hz] at hq
          have HR := Lib.hid (show stepK N i ⟨4, st, t⟩ hs = none by rw [Hk.out, if_pos rfl, if_neg (fun h => hz h.1)])
          clear hz
          go_wp2_with fail
          go_ret
          rw [HR.out]
          exact ⟨rfl, H4.out.chk.bel⟩
    · have HR := Lib.hid (show stepK N i ⟨4, st, to'⟩ hs = none by rw [Hsk.out, if_neg (by simp only; omega)])
      have hle : ¬ to' ≤ (i : Int) := by omega
      have hgt : (N : Int) < to' := by omega
      have d1 : decide (to' ≤ (i : Int)) = false := decide_eq_false hle
      have d2 : decide ((N : Int) < to') = true := decide_eq_true hgt
      clear h1 h2
      go_wp2_with (first | (at_lookup; refine wpList_lookup_own_ok_int _ rfl _ _ 115 rfl 3 3 .i64 keyI Tryz.underlying115 Tryz.underlying3 (zeroH _) bm n D rfl Hown.out _ _ rfl Hkey.out ?_; intro c hat hwc; rw [Hhas.out]; obtain rfl := Hat.out c hat; clear hat hwc))
      go_region
      go_wp2_with fail
      go_ret
      rw [HR.out]
      exact ⟨rfl, stepH Hst.out.chk.bel (below_drewQ (Below.refl _ _) _)⟩
  · have HR := Lib.hid (show stepK N i ⟨4, st, to'⟩ hs = none by rw [Hsk.out, if_neg (by simp only; omega)])
    have hle : to' ≤ (i : Int) := by omega
    have d1 : decide (to' ≤ (i : Int)) = true := decide_eq_true hle
    clear h1
    go_wp2_with (first | (at_lookup; refine wpList_lookup_own_ok_int _ rfl _ _ 115 rfl 3 3 .i64 keyI Tryz.underlying115 Tryz.underlying3 (zeroH _) bm n D rfl Hown.out _ _ rfl Hkey.out ?_; intro c hat hwc; rw [Hhas.out]; obtain rfl := Hat.out c hat; clear hat hwc))
    go_region
    go_wp2_with fail
    go_ret
    rw [HR.out]
    exact ⟨rfl, stepH Hst.out.chk.bel (below_drewQ (Below.refl _ _) _)⟩

def Low (hs : Hts) (K : Nat) : Prop := ∀ j v, hs j = some v → v ≤ K
theorem come_low {hs hs' : Hts} {i h K : Nat} (hl : Low hs K) (hh : h ≤ K) (e : hs.come i h = some hs') : Low hs' K := by
  unfold Hts.come at e
  split at e
  · obtain rfl := Option.some.inj e
    intro j v hv
    simp only at hv
    split at hv
    · obtain rfl := Option.some.inj hv; exact hh
    · exact hl j v hv
  · cases e
theorem Low.mono {hs : Hts} {K L : Nat} (h : Low hs K) (hk : K ≤ L) : Low hs L := fun j v hv => Nat.le_trans (h j v hv) hk
theorem stepK_low {N i K : Nat} {x : Ins} {hs hs' : Hts} (hl : Low hs K) (e : stepK N i x hs = some hs') : Low hs' (K + 1) := by
  unfold stepK at e
  split at e
  · cases e
  · rename_i h hh
    have h0 := hl i h hh
    split at e
    · split at e
      · cases e
      · split at e
        · exact come_low (hl.mono (Nat.le_succ K)) (by omega) e
        · cases e
    · split at e
      · split at e
        · cases hc : hs.come x.to.toNat h with
          | none => rw [hc] at e; cases e
          | some h4 =>
            rw [hc, Option.bind_some] at e
            split at e
            · exact come_low ((come_low hl h0 hc).mono (Nat.le_succ K)) (by split <;> omega) e
            · cases e
        · cases e
      · split at e
        · split at e
          · exact come_low (hl.mono (Nat.le_succ K)) (by omega) e
          · cases e
        · split at e
          · split at e
            · exact come_low (hl.mono (Nat.le_succ K)) (by omega) e
            · cases e
          · cases e
theorem step_calls (w0 w : World) (B bm n : Nat) (pv : Value) (hs : Hts) (p : List Ins) (i : Nat) (H : ChkM w0 w B bm n pv hs) (hp : InsIn w0 pv p) (hi : i < p.length) (hi2 : p.length ≤ 1000000) (hn : n ≤ 900000) (hK : Low hs 900000)
    (HT : TakesOk w0 p[i].st) :
    Calls Tryz.prog 74 #[.pointer (some ⟨B, 0, none⟩), .int .i64 i] w (StepGave w0 B bm n pv (stepK p.length i p[i] hs)) := by
  cases hh : hs i with
  | none =>
    refine (step_none w0 w B bm n pv hs p i H hp hi hi2 hh).mono ?_
    intro e w' h
    rw [show stepK p.length i p[i] hs = none by unfold stepK; rw [hh]]
    exact h
  | some h =>
    have h0 := hK i h hh
    by_cases h1 : p[i].op = 1
    · exact step_one w0 w B bm n h pv hs p i H hp hi hi2 hn h0 hh h1 HT
    by_cases h2 : p[i].op = 2
    · exact step_2 w0 w B bm n h pv hs p i H hp hi hi2 hn h0 hh h2
    by_cases h3 : p[i].op = 3
    · exact step_3 w0 w B bm n h pv hs p i H hp hi hi2 hn h0 hh h3
    by_cases h4 : p[i].op = 4
    · exact step_4 w0 w B bm n h pv hs p i H hp hi hi2 hn h0 hh h4
    by_cases h5 : p[i].op = 5
    · exact step_5 w0 w B bm n h pv hs p i H hp hi hi2 hn h0 hh h5
    exact step_other w0 w B bm n h pv hs p i H hp hi hi2 hh (by omega)

end Go.Proofs.YtcjmhmmjfgjcnaaGreatDoor.Cd

/- code: Check. -/
namespace Go.Proofs.YtcjmhmmjfgjcnaaGreatDoor.Cd
open Go.RowKit Go.Proofs.YtcjmhmmjfgjcnaaGreatDoor.Lx Go.Proofs.YtcjmhmmjfgjcnaaGreatDoor.Pa Go.Maps

theorem wpList_insert_own {H : Type} {P : Program} (w : World) {ops : Array Oper} {rest : List Oper} {o : Oper} {a : Act} {Q : Exit → Act → World → Prop}
    (hg : o.guard = none) (m x v : Operand) (t : TypeId) (hop : o.op = Op.insert t m x v)
    (k e : TypeId) (K : Keyed P k) (ht : P.underlying t = some (.map k e)) (R : Value → Option (DataW H × List MemPlace)) (b n : Nat) (D : DataW H)
    (hm : a.eval m = .map (some b)) (hown : w.ownsMap P k R b n D) (hn : n < maxLen) (key val : Value) (kl : Lit) (hx : a.eval x = key) (hv : a.eval v = val) (hkey : keyOf P k key = some kl)
    (d : DataW H) (ps : List MemPlace) (hval : R val = some (d, ps))
    (hK : ∀ w', w'.ownsMap P k R b (n + 1) (D.put kl d) → w.grownBy w' (some b) → wpList P ops Q rest (a.put o.dst undef) w') :
    wpList P ops Q (o :: rest) a w := by
  refine wpList_plain hg fun K' hK' => ?_
  obtain ⟨w', hrun, r1, r2⟩ := hown.update K ht hn hkey hval
  unfold Oper.wp
  simp [execOp, hop, hm, hx, hv, hrun, Result.andThen]
  exact hK' _ _ (hK w' r1 r2)

theorem wpList_lookup_want_int {H : Type} {P : Program} (w : World) {ops : Array Oper} {rest : List Oper} {o : Oper} {a : Act} {Q : Exit → Act → World → Prop}
    (hw : Region.wanted o (yielded ops a.tmps) = true) (m x : Operand) (t : TypeId) (hop : o.op = Op.lookup t m x false)
    (k e : TypeId) (q : IntKind) (K : Keyed P k) (ht : P.underlying t = some (.map k e)) (he : P.underlying e = some (.int q)) (hz : (zeroValue e).run P w = .ok (.int q 0) w) (b n : Nat) (D : DataW H)
    (hm : a.eval m = .map (some b)) (hown : w.ownsMap P k (plainElem P e) b n D) (key : Value) (kl : Lit) (hx : a.eval x = key) (hkey : keyOf P k key = some kl)
    (hK : ∀ c : Int, D.atKey kl (.lit (.int q 0)) = .lit (.int q c) → (Lit.int q c).wf = true → wpList P ops Q rest (a.put o.dst (.int q c)) w) :
    wpList P ops Q (o :: rest) a w := by
  refine BigFrame.wpList_want hw fun K' hK' => ?_
  obtain ⟨c, hrun, hat, hwc⟩ := hown.lookup_int K ht he hz hkey
  unfold Oper.wp
  simp [execOp, hop, hm, hx, hrun, Result.andThen]
  exact hK' _ _ (hK c hat hwc)

def checkC (p : List Ins) : Value := .int .i64 (if checkI p then 0 else 11)
structure CkR (w wr : World) (B : Nat) (v : Value) (p : List Ins) (k : Nat) (ok : Bool) : Prop where
  bel : Below w.heap.size w wr
  no : ok = false → checkI p = false
  yes : ok = true → (1 ≤ p.length ∧ p.length ≤ 256) ∧ ∃ m hs, m ≤ 2 * k + 1 ∧ k ≤ p.length ∧ ChkM w wr B w.heap.size m v hs ∧ Low hs k ∧ runK p.length k (p.drop k) hs = runK p.length 0 p hs0
theorem hs0_low : Low hs0 0 := fun j v h => by
  unfold hs0 at h
  split at h
  · cases h; exact Nat.le_refl _
  · cases h
theorem checkI_none {p : List Ins} (h : runK p.length 0 p hs0 = none) : checkI p = false := by
  unfold checkI
  rw [h]
  simp

set_option maxHeartbeats 4000000 in
set_option maxRecDepth 100000 in
theorem Check_calls (w : World) (v : Value) (p : List Ins) (h : InsIn w v p) (hl : p.length ≤ 1000000) (HT : ∀ x ∈ p, TakesOk w x.st) :
    Calls Tryz.prog 32 #[v] w fun e w' => e = .returned (checkC p) ∧ Below w.heap.size w w' := by
  have Hin := Lib.hid h
  have HTk := Lib.hid HT
  obtain ⟨a, n, c, rfl, rfl, hc, -⟩ := h
  have Hmade := Lib.hid (World.ownsMap_made (H := Unit) w Tryz.prog 3 (plainElem Tryz.prog 3))
  have Hkey := Lib.hid (keyOf_int_mk (P := Tryz.prog) (k := 3) Tryz.underlying3 (a := 0) (WalkArith.wf_i64 (by omega)))
  have hmm := @run_makeMap Tryz.prog
  clear HT
  by_cases h1 : 1 ≤ p.length
  · by_cases h2 : p.length ≤ 256
    · have Hr := Lib.hid (show p.length = p.length from rfl)
      have HC := Lib.hid (show ∀ hs, runK p.length 0 p hs0 = some hs → checkC p = .int .i64 (if hs p.length = some 1 then 0 else 11) from fun hs e => by
        unfold checkC checkI
        rw [e]
        simp [h1, h2])
      generalize hN : p.length = N at *
      have HN := Lib.hid hN
      clear Hr hN
      go_enter Tryz.func32, Tryz.ntmps32
      go_wp2_with (refine wpList_insert_own _ rfl _ _ _ 115 rfl 3 3 keyI Tryz.underlying115 _ w.heap.size 0 _ rfl Hmade.out (by unfold maxLen; omega) _ _ _ rfl rfl Hkey.out _ [] (plainElem_int Tryz.underlying3 (WalkArith.wf_i64 (by omega))) ?_; intro w1 hown1 hgrow1)
      have Hw1 := Lib.hid (show ChkM w (w1.alloc (.cells #[.slice a N c, .map (some w.heap.size)] 117)) w1.heap.size w.heap.size 1 (.slice a N c) hs0 from by
        have hz : w.heap.size + 1 ≤ w1.heap.size := by have := hgrow1.size; simpa using this
        refine ⟨heap_alloc_new _ _, ⟨_, hown1.alloc _, holds_new.put 0 0⟩, ?_, by omega, Nat.le_refl _, by omega⟩
        have hb1 : Below w.heap.size w w1 := (allocB w _).grown hgrow1 (allocB w _).size fun b hb => by cases hb; exact Nat.le_refl _
        exact stepH hb1 (allocB w1 _))
      clear hown1 hgrow1
      go_loopw [4, 5] (fun s4 i wr => ∃ (k : Nat) (ok : Bool), k ≤ N ∧ i = .int .i64 k ∧ s4 = .bool ok ∧ Hid (CkR w wr w1.heap.size (.slice a N c) p k ok)) (fun _ i _ => N - (intOf i).toNat)
      case atStart => exact ⟨0, true, Nat.zero_le _, rfl, (by first | rfl | (simp; omega)), Hw1.out.bel, (fun h => by cases h), fun _ => ⟨by rw [HN.out]; exact ⟨h1, h2⟩, 1, hs0, Nat.le_refl _, Nat.zero_le _, Hw1.out, hs0_low, by rw [List.drop_zero]⟩⟩
      case round =>
        obtain ⟨k, ok, hk, rfl, rfl, hst⟩ := hrel
        have Hst := Lib.hid hst.out
        cases ok with
        | false =>
          have HCN := Lib.hid (show checkC p = .int .i64 11 by unfold checkC; rw [hst.out.no rfl]; rfl)
          clear hst
          go_wp2_with fail
          all_goals
            go_ret
            exact ⟨by rw [HCN.out]; rfl, Hst.out.bel⟩
        | true =>
          obtain ⟨-, m, hs, hm, hkp, hchk, hlow, hrun⟩ := hst.out.yes rfl
          have Hchk := Lib.hid hchk
          have Hrun := Lib.hid hrun
          have Hlow := Lib.hid hlow
          by_cases hlt : k < N
          · have hkl : k < p.length := by rw [HN.out]; exact hlt
            have Hs := Lib.hid (step_calls w wr w1.heap.size w.heap.size m (.slice a N c) hs p k hchk Hin.out hkl (by rw [HN.out]; omega) (by omega) (hlow.mono (by omega)) ((HTk.out _ (List.getElem_mem hkl))))
            have hd : p.drop k = p[k] :: p.drop (k + 1) := List.drop_eq_getElem_cons hkl
            rw [HN.out, hd] at hrun
            have hsl := fun hs' => stepK_low (N := p.length) (i := k) (x := p[k]) (hs' := hs') hlow
            cases hsk : stepK p.length k p[k] hs with
            | none =>
              rw [hsk] at Hs
              have Hno := Lib.hid (show checkI p = false from checkI_none (by rw [HN.out, ← hrun, runK, ← HN.out, hsk]; rfl))
              clear hst hchk hlow hrun hd hsl hsk
              go_wp2_with fail
              refine Hs.out.mono ?_
              rintro e w2 ⟨rfl, hb2⟩
              have Hb2 := Lib.hid hb2
              clear hb2
              go_wp2_with fail
              go_roundw
              case rel => exact ⟨k + 1, false, by omega, by go_num, rfl, Hb2.out, fun _ => Hno.out, (fun h => by cases h)⟩
              case measure => simp [intOf]; omega
            | some hs' =>
              rw [hsk] at Hs
              have Hlo2 := Lib.hid (hsl hs' hsk)
              have Hru2 := Lib.hid (show runK N (k + 1) (p.drop (k + 1)) hs' = runK N 0 p hs0 by rw [← hrun, runK, ← HN.out, hsk]; rfl)
              clear hst hchk hlow hrun hd hsl hsk
              go_wp2_with fail
              refine Hs.out.mono ?_
              rintro e w2 ⟨rfl, m2, hm2, hst2⟩
              have Hst2 := Lib.hid hst2
              clear hst2
              go_wp2_with fail
              go_roundw
              case rel => exact ⟨k + 1, true, by omega, by go_num, rfl, Hst2.out.bel, (fun h => by cases h), fun _ => ⟨by rw [HN.out]; exact ⟨h1, h2⟩, m2, hs', by omega, by rw [HN.out]; omega, Hst2.out, Hlo2.out, by rw [HN.out]; exact Hru2.out⟩⟩
              case measure => simp [intOf]; omega
          · have hkn : k = N := by omega
            subst hkn
            obtain ⟨⟨c0, c1⟩, -⟩ := twoB hchk.blk
            obtain ⟨D, hown, hD⟩ := hchk.map
            have hB := ltH hchk.blk
            have Hown := Lib.hid hown
            have HkeyN := Lib.hid (keyOf_int_mk (P := Tryz.prog) (k := 3) Tryz.underlying3 (a := (k : Int)) (WalkArith.wf_i64 (by omega)))
            have Hat := Lib.hid (show ∀ c : Int, D.atKey (.int .i64 (k : Int)) (.lit (.int .i64 0)) = .lit (.int .i64 c) → c = (((hs k).getD 0 : Nat) : Int) from fun c hc => by
              rw [hD.atK k] at hc
              simp only [DataW.lit.injEq, Lit.int.injEq, true_and] at hc
              exact hc.symm)
            have HR := Lib.hid (show checkC p = .int .i64 (if hs k = some 1 then 0 else 11) from HC.out hs (by
              rw [HN.out] at hrun
              rw [← hrun, List.drop_of_length_le (by rw [HN.out]; exact Nat.le_refl _), runK]))
            clear hst hchk hlow hrun hown hD
            by_cases h11 : hs k = some 1
            · rw [h11] at Hat HR
              simp only [Option.getD_some, if_true, Int.natCast_one] at Hat HR
              clear h11
              go_wp2_with (at_lookup; refine wpList_lookup_want_int _ rfl _ _ 115 rfl 3 3 .i64 keyI Tryz.underlying115 Tryz.underlying3 (zeroH _) w.heap.size m D rfl Hown.out _ _ rfl HkeyN.out ?_; intro c2 hat hwc; clear hwc; obtain rfl := Hat.out c2 hat; clear hat)
              go_ret
              exact ⟨by rw [HR.out]; rfl, Hst.out.bel⟩
            · rw [if_neg h11] at HR
              have hne : ¬ (((hs k).getD 0 : Nat) : Int) = 1 := by
                cases hv : hs k with
                | none => simp
                | some u => rw [hv] at h11; simp only [Option.some.injEq] at h11; simp only [Option.getD_some]; omega
              generalize (((hs k).getD 0 : Nat) : Int) = z at *
              clear h11
              go_wp2_with (at_lookup; refine wpList_lookup_want_int _ rfl _ _ 115 rfl 3 3 .i64 keyI Tryz.underlying115 Tryz.underlying3 (zeroH _) w.heap.size m D rfl Hown.out _ _ rfl HkeyN.out ?_; intro c2 hat hwc; clear hwc; obtain rfl := Hat.out c2 hat; clear hat)
              go_ret
              exact ⟨by rw [HR.out]; rfl, Hst.out.bel⟩
    · have HCN := Lib.hid (show checkC p = .int .i64 11 by unfold checkC checkI; rw [decide_eq_false (by omega)]; rfl)
      go_enter Tryz.func32, Tryz.ntmps32
      go_wp2_with (refine wpList_insert_own _ rfl _ _ _ 115 rfl 3 3 keyI Tryz.underlying115 _ w.heap.size 0 _ rfl Hmade.out (by unfold maxLen; omega) _ _ _ rfl rfl Hkey.out _ [] (plainElem_int Tryz.underlying3 (WalkArith.wf_i64 (by omega))) ?_; intro w1 hown1 hgrow1)
      have Hw1 := Lib.hid (show Below w.heap.size w (w1.alloc (.cells #[.slice a p.length c, .map (some w.heap.size)] 117)) from by
        have hb1 : Below w.heap.size w w1 := (allocB w _).grown hgrow1 (allocB w _).size fun b hb => by cases hb; exact Nat.le_refl _
        exact stepH hb1 (allocB w1 _))
      clear hown1 hgrow1
      go_loopw [4, 5] (fun s4 i wr => i = .int .i64 0 ∧ s4 = .bool false ∧ Hid (Below w.heap.size w wr)) (fun _ _ _ => 0)
      case atStart => exact ⟨rfl, (by first | rfl | (simp; omega)), Hw1⟩
      case round =>
        obtain ⟨rfl, rfl, hst⟩ := hrel
        go_wp2_with fail
        all_goals
          go_ret
          exact ⟨by rw [HCN.out]; rfl, hst.out⟩
  · have HCN := Lib.hid (show checkC p = .int .i64 11 by unfold checkC checkI; rw [decide_eq_false (by omega)]; rfl)
    go_enter Tryz.func32, Tryz.ntmps32
    go_wp2_with (refine wpList_insert_own _ rfl _ _ _ 115 rfl 3 3 keyI Tryz.underlying115 _ w.heap.size 0 _ rfl Hmade.out (by unfold maxLen; omega) _ _ _ rfl rfl Hkey.out _ [] (plainElem_int Tryz.underlying3 (WalkArith.wf_i64 (by omega))) ?_; intro w1 hown1 hgrow1)
    have Hw1 := Lib.hid (show Below w.heap.size w (w1.alloc (.cells #[.slice a p.length c, .map (some w.heap.size)] 117)) from by
      have hb1 : Below w.heap.size w w1 := (allocB w _).grown hgrow1 (allocB w _).size fun b hb => by cases hb; exact Nat.le_refl _
      exact stepH hb1 (allocB w1 _))
    clear hown1 hgrow1
    go_loopw [4, 5] (fun s4 i wr => i = .int .i64 0 ∧ s4 = .bool false ∧ Hid (Below w.heap.size w wr)) (fun _ _ _ => 0)
    case atStart => exact ⟨rfl, (by first | rfl | (simp; omega)), Hw1⟩
    case round =>
      obtain ⟨rfl, rfl, hst⟩ := hrel
      go_wp2_with fail
      all_goals
        go_ret
        exact ⟨by rw [HCN.out]; rfl, hst.out⟩

end Go.Proofs.YtcjmhmmjfgjcnaaGreatDoor.Cd
