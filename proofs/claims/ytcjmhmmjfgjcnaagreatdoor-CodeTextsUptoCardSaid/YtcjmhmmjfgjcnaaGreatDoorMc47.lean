/- Parts: QbJ QbE QbK RcJ. -/
import Derived.Test.YtcjmhmmjfgjcnaaGreatDoorMc06
import Derived.Test.YtcjmhmmjfgjcnaaGreatDoorMc28
import Derived.Test.YtcjmhmmjfgjcnaaGreatDoorMc30
import Derived.Test.YtcjmhmmjfgjcnaaGreatDoorMc31
import Derived.Test.YtcjmhmmjfgjcnaaGreatDoorMc46
import Derived.RegionTactic

/- code: Read. -/
namespace Go.Proofs.YtcjmhmmjfgjcnaaGreatDoor.Cd
open Go.RowKit Go.Proofs.YtcjmhmmjfgjcnaaGreatDoor.Lx Go.Proofs.YtcjmhmmjfgjcnaaGreatDoor.Pa

theorem takes_okR {w : World} {y : Stp} (he : Env w) (ht : y.text.length ≤ 1048575) : TakesOk w y := fun w2 hb => Takes_calls y w2 ht (he.below hb)
def curLeft (w : World) (B : Nat) : Nat := (match w.cell? ⟨B, 0, none⟩ with | some (.string s) => s.size | _ => 0) + (match w.cell? ⟨B, 1, none⟩ with | some (.bool false) => 1 | _ => 0)
theorem CurM.left {w0 w : World} {B : Nat} {c : Cu} (h : CurM w0 w B c) : curLeft w B = c.left.length + (if c.bad then 0 else 1) := by
  obtain ⟨⟨c0, c1⟩, -⟩ := twoB h.blk
  unfold curLeft
  rw [c0, c1]
  show (⟨c.left.toArray⟩ : ByteArray).size + _ = _
  rw [size_mk]
  cases c.bad <;> rfl
structure RdR (w wr : World) (B : Nat) (v : Value) (l : Txt) (n : Nat) (out : List Ins) (c : Cu) : Prop where
  rd : RdM w wr B v out c
  run : readF n out c = readQ l
  left : c.left.length ≤ n
  few : out.length + c.left.length ≤ l.length + (if c.bad then 1 else 0)
  all : ∀ x ∈ out, x.st.text.length ≤ 16384
  lle : c.left.length ≤ l.length
theorem RdR.next {w wr w' : World} {B n : Nat} {v v' : Value} {l : Txt} {out : List Ins} {c : Cu} (h : RdR w wr B v l n out c) (hne : c.left ≠ []) (hb : c.bad = false) (hl : l.length ≤ 16384) (hr : RdM w w' B v' (out ++ [(insF c).1]) (insF c).2) :
    ∃ n', RdR w w' B v' l n' (out ++ [(insF c).1]) (insF c).2 ∧ curLeft w' B < curLeft wr B := by
  have hpos : 0 < c.left.length := by
    cases hc : c.left with
    | nil => exact absurd hc hne
    | cons b r => simp
  have hlf := h.left
  have hfew := h.few
  have hle := ins_le c
  have hll := h.lle
  obtain ⟨n', rfl⟩ : ∃ n', n = n' + 1 := ⟨n - 1, by omega⟩
  have hrun := h.run
  rw [readF, if_pos ⟨hne, hb⟩] at hrun
  rw [if_neg (by rw [hb]; simp)] at hfew
  refine ⟨max n' (insF c).2.left.length, ⟨hr, ?_, Nat.le_max_right _ _, ?_, fun x hx => ?_, by omega⟩, ?_⟩
  · rcases ins_short c with h1 | h1
    · rw [readF_bad _ _ _ h1]
      rw [readF_bad _ _ _ h1] at hrun
      exact hrun
    · rw [Nat.max_eq_left (by omega)]
      exact hrun
  · rw [List.length_append, List.length_singleton]
    rcases ins_short c with h1 | h1
    · rw [if_pos h1]; omega
    · have : (if (insF c).2.bad = true then 1 else 0) ≥ 0 := Nat.zero_le _
      omega
  · rcases List.mem_append.1 hx with hx | hx
    · exact h.all x hx
    · rw [List.mem_singleton] at hx; subst hx; omega
  · rw [hr.cur.left, h.rd.cur.left, show (if c.bad = true then 0 else 1) = 1 by rw [hb]; rfl]
    rcases ins_short c with h1 | h1
    · rw [show (if (insF c).2.bad = true then 0 else 1) = 0 by rw [h1]; rfl]; omega
    · split <;> omega

set_option maxHeartbeats 4000000 in
set_option maxRecDepth 100000 in
theorem Read_calls (w : World) (s : ByteArray) (hs : s.size ≤ 1000000000) (he : Env w) :
    Calls Tryz.prog 30 #[.string s] w (GaveD w (L s)) := by
  have He := Lib.hid he
  obtain ⟨l, rfl⟩ : ∃ l : Txt, s = ⟨l.toArray⟩ := ⟨L s, (mk_L s).symm⟩
  rw [size_mk] at hs
  rw [L_mk]
  by_cases hl : l.length ≤ 16384
  · have hl2 : ¬ (16384 : Int) < l.length := by omega
    have HG := Lib.hid (show ∀ e w', Below w.heap.size w w' → (if (readQ l).2.bad = false ∧ checkI (readQ l).1 = true then ∃ v', e = .returned (.tuple #[v', .int .i64 0]) ∧ InsIn w' v' (readQ l).1 else e = .returned (.tuple #[.slice none 0 0, .int .i64 11])) → GaveD w l e w' from fun e w' h1 h2 => ⟨h1, by rw [if_pos hl]; exact h2⟩)
    have Hc0 := Lib.hid (show CurM w (w.alloc (.cells #[.string ⟨l.toArray⟩, .bool false] 109)) w.heap.size ⟨l, false⟩ from ⟨heap_alloc_new _ _, allocB _ _, Nat.le_refl _⟩)
    have Hl := Lib.hid hl
    clear he
    go_enter Tryz.func30, Tryz.ntmps30
    go_wp2_with fail
    go_loopw [4] (fun s4 wr => ∃ (m c4 n : Nat) (b4 : Option Addr) (out : List Ins) (c : Cu), s4 = .slice b4 m c4 ∧ out.length = m ∧ Hid (RdR w wr w.heap.size (.slice b4 m c4) l n out c)) (fun _ wr => curLeft wr w.heap.size)
    case atStart => exact ⟨0, 0, l.length, none, [], ⟨l, false⟩, rfl, rfl, ⟨Hc0.out, World.ownsRow_nil _ _ _ _⟩, rfl, Nat.le_refl _, by simp, (fun x hx => nomatch hx), Nat.le_refl _⟩
    case round =>
      obtain ⟨m, c4, n, b4, out, c, rfl, hm, hst⟩ := hrel
      have Hst := Lib.hid hst.out
      have hfew := hst.out.few
      have hcl := hst.out.lle
      obtain ⟨⟨c0, c1⟩, -⟩ := twoB hst.out.rd.cur.blk
      have hB := ltH hst.out.rd.cur.blk
      cases hbad : c.bad with
      | true =>
        rw [hbad] at c1 hfew
        have Hq := Lib.hid (show readQ l = (out, c) by rw [← hst.out.run, readF_bad _ _ _ hbad])
        have Hbd := Lib.hid hbad
        clear hst hbad
        go_wp2_with fail
        all_goals
          go_ret2
          exact HG.out _ _ Hst.out.rd.cur.bel (by rw [Hq.out, if_neg (fun h => by rw [Hbd.out] at h; cases h.1)]; rfl)
      | false =>
        rw [hbad] at c1 hfew
        have Hbd := Lib.hid hbad
        by_cases hne : c.left = []
        · rw [hne] at c0 hfew
          have Hq := Lib.hid (show readQ l = (out, c) by
            rw [← hst.out.run]
            cases n with
            | zero => rfl
            | succ n => rw [readF, if_neg (by simp [hne])])
          have Hck := Lib.hid (Check_calls wr _ out (InsIn.own hst.out.rd.own rfl) (by simp at hfew; omega) (fun x hx => takes_okR (He.out.below hst.out.rd.cur.bel) (by have := hst.out.all x hx; omega)))
          have Hin := Lib.hid (InsIn.own hst.out.rd.own rfl)
          unfold checkC at Hck
          subst m
          clear hst hbad hne
          cases hC : checkI out with
          | false =>
            rw [hC] at Hck
            have HC := Lib.hid hC
            clear hC
            go_wp2_with fail
            refine Hck.out.mono ?_
            rintro e w2 ⟨rfl, hb2⟩
            have Hb2 := Lib.hid (stepH Hst.out.rd.cur.bel hb2)
            clear hb2
            go_wp2_with fail
            go_ret2
            exact HG.out _ _ Hb2.out (by rw [Hq.out, if_neg (fun h => by rw [HC.out] at h; cases h.2)]; rfl)
          | true =>
            rw [hC] at Hck
            have HC := Lib.hid hC
            clear hC
            go_wp2_with fail
            refine Hck.out.mono ?_
            rintro e w2 ⟨rfl, hb2⟩
            have Hb2 := Lib.hid (stepH Hst.out.rd.cur.bel hb2)
            have Hin2 := Lib.hid (Hin.out.below hb2)
            clear hb2
            go_wp2_with fail
            go_ret2
            exact HG.out _ _ Hb2.out (by rw [Hq.out, if_pos ⟨Hbd.out, HC.out⟩]; exact ⟨_, rfl, Hin2.out⟩)
        · have hne2 : c.left.isEmpty = false := by cases hc : c.left with | nil => exact absurd hc hne | cons b r => rfl
          have Hnx := Lib.hid (fun w' v' hr => hst.out.next (w' := w') (v' := v') hne hbad Hl.out hr)
          have hll : c.left.length ≤ 16384 := by omega
          have hlb := byte_le c
          have hout : out.length ≤ 16384 := by simp at hfew; omega
          have Hby := Lib.hid (byte_calls w wr w.heap.size c hst.out.rd.cur (by omega))
          have hop := c.byte.1.toNat_lt
          subst m
          clear hst hbad hne
          by_cases h1 : c.byte.1.toNat = 1
          · have Hins := Lib.hid (show insF c = (⟨1, ⟨c.byte.2.byte.1.toNat, (c.byte.2.byte.2.number.2.number.2.take c.byte.2.byte.2.number.2.number.1).1, i64 c.byte.2.byte.2.number.1⟩, 0⟩, (c.byte.2.byte.2.number.2.number.2.take c.byte.2.byte.2.number.2.number.1).2) by unfold insF; rw [if_pos h1])
            have Hw := Lib.hid (show wrap64 (c.byte.2.byte.2.number.1 : Int) = i64 c.byte.2.byte.2.number.1 by have := number_lt c.byte.2.byte.2; unfold wrap64 i64; split <;> omega)
            have hlb2 := byte_le c.byte.2
            have hn1 := number_le c.byte.2.byte.2
            have hn2 := number_le c.byte.2.byte.2.number.2
            have hm := number_lt c.byte.2.byte.2.number.2
            rw [h1] at Hby
            clear h1
            go_wp2_with fail
            refine Hby.out.mono ?_
            rintro e w2 ⟨rfl, hM2, hO2⟩
            have HX := Lib.hid ((Hst.out.rd.cursor hM2 hO2).alloc ⟨1, ⟨0, [], 0⟩, 0⟩)
            have Hk2 := Lib.hid (byte_calls w _ w.heap.size c.byte.2 HX.out.rd.cur (by omega))
            clear hM2 hO2
            go_wp2_with fail
            refine Hk2.out.mono ?_
            rintro e w3 ⟨rfl, hM3, hO3⟩
            have HX3 := Lib.hid (HX.out.cursor hM3 hO3)
            obtain ⟨-, f0, f1, f2, f3, f4⟩ := fiveB HX3.out.blk
            have HX4 := Lib.hid (HX3.out.set ⟨1, ⟨c.byte.2.byte.1.toNat, [], 0⟩, 0⟩ 1 (.int .u8 c.byte.2.byte.1.toNat) rfl)
            have Hk4 := Lib.hid (number_callsC w _ w.heap.size c.byte.2.byte.2 HX4.out.rd.cur (by omega))
            have hB3 := ltH HX3.out.blk
            obtain ⟨⟨k0, k1, k2, k3, k4⟩, -⟩ := fiveB HX3.out.blk
            clear hM3 hO3
            go_wp2_with fail
            refine Hk4.out.mono ?_
            rintro e w5 ⟨rfl, hM5, hO5⟩
            have HX5 := Lib.hid (HX4.out.cursor hM5 hO5)
            clear k0 k1 k2 k3 k4 f0 f1 f2 f3 f4
            obtain ⟨⟨k0, k1, k2, k3, k4⟩, f0, f1, f2, f3, f4⟩ := fiveB HX5.out.blk
            have hB5 := ltH HX5.out.blk
            have HX6 := Lib.hid (HX5.out.set ⟨1, ⟨c.byte.2.byte.1.toNat, [], i64 c.byte.2.byte.2.number.1⟩, 0⟩ 3 (.int .i64 (wrap64 c.byte.2.byte.2.number.1)) (by rw [Hw.out]; rfl))
            have Hk6 := Lib.hid (number_callsC w _ w.heap.size c.byte.2.byte.2.number.2 HX6.out.rd.cur (by omega))
            clear hM5 hO5
            go_wp2_with fail
            refine Hk6.out.mono ?_
            rintro e w7 ⟨rfl, hM7, hO7⟩
            have HX7 := Lib.hid (HX6.out.cursor hM7 hO7)
            have Hk8 := Lib.hid (take_calls w w7 w.heap.size c.byte.2.byte.2.number.2.number.2 c.byte.2.byte.2.number.2.number.1 HX7.out.rd.cur (by omega) hm)
            clear hM7 hO7
            go_wp2_with fail
            refine Hk8.out.mono ?_
            rintro e w9 ⟨rfl, hM9, hO9⟩
            have HX9 := Lib.hid (HX7.out.cursor hM9 hO9)
            clear k0 k1 k2 k3 k4 f0 f1 f2 f3 f4 hM9 hO9
            obtain ⟨⟨k0, k1, k2, k3, k4⟩, f0, f1, f2, f3, f4⟩ := fiveB HX9.out.blk
            have hB9 := ltH HX9.out.blk
            have HXa := Lib.hid (HX9.out.set (insF c).1 2 (.string ⟨((c.byte.2.byte.2.number.2.number.2.take c.byte.2.byte.2.number.2.number.1).1).toArray⟩) (by rw [Hins.out]; rfl))
            have Hend := Lib.hid (show (c.byte.2.byte.2.number.2.number.2.take c.byte.2.byte.2.number.2.number.1).2 = (insF c).2 by rw [Hins.out])
            simp only at k0 k1 k2 k3 k4
            rw [Hend.out] at HXa
            have HO := Lib.hid (HXa.out.rd.own.alloc (.cells #[.int .u8 1, .int .u8 c.byte.2.byte.1.toNat, .string ⟨((c.byte.2.byte.2.number.2.number.2.take c.byte.2.byte.2.number.2.number.1).1).toArray⟩, .int .i64 (i64 c.byte.2.byte.2.number.1), .int .i64 0] 63))
            have hn1 := one_ins (w9.setCell ⟨w2.heap.size, 2, none⟩ (.string ⟨((c.byte.2.byte.2.number.2.number.2.take c.byte.2.byte.2.number.2.number.1).1).toArray⟩)) (insF c).1
            rw [Hins.out] at hn1
            rw [show ((w9.setCell ⟨w2.heap.size, 2, none⟩ (.string ⟨((c.byte.2.byte.2.number.2.number.2.take c.byte.2.byte.2.number.2.number.1).1).toArray⟩))).heap.size = w9.heap.size by simp] at hn1
            have HN := Lib.hid hn1
            have HBS := Lib.hid (show w.heap.size + 1 ≤ ((w9.setCell ⟨w2.heap.size, 2, none⟩ (.string ⟨((c.byte.2.byte.2.number.2.number.2.take c.byte.2.byte.2.number.2.number.1).1).toArray⟩)).alloc (.cells #[.int .u8 1, .int .u8 c.byte.2.byte.1.toNat, .string ⟨((c.byte.2.byte.2.number.2.number.2.take c.byte.2.byte.2.number.2.number.1).1).toArray⟩, .int .i64 (i64 c.byte.2.byte.2.number.1), .int .i64 0] 63)).heap.size from by have h1 := ltH HXa.out.rd.cur.blk; have h2 := (allocB (w9.setCell ⟨w2.heap.size, 2, none⟩ (.string ⟨((c.byte.2.byte.2.number.2.number.2.take c.byte.2.byte.2.number.2.number.1).1).toArray⟩)) (.cells #[.int .u8 1, .int .u8 c.byte.2.byte.1.toNat, .string ⟨((c.byte.2.byte.2.number.2.number.2.take c.byte.2.byte.2.number.2.number.1).1).toArray⟩, .int .i64 (i64 c.byte.2.byte.2.number.1), .int .i64 0] 63)).size; omega)
            clear hn1
            go_wp2_with (at_builtin; go_must (refine wp_appI rfl _ _ rfl (w.heap.size + 1) _ out.length out rfl HO.out w9.heap.size 0 1 1 [(⟨1, ⟨c.byte.2.byte.1.toNat, (c.byte.2.byte.2.number.2.number.2.take c.byte.2.byte.2.number.2.number.1).1, i64 c.byte.2.byte.2.number.1⟩, 0⟩ : Ins)] rfl rfl (fun ii hi => HN.out ii hi) (by omega) (by omega) HBS.out ?_); intro g7 c7 w8 ho7 hb7)
            have hx1 : (⟨1, ⟨c.byte.2.byte.1.toNat, (c.byte.2.byte.2.number.2.number.2.take c.byte.2.byte.2.number.2.number.1).1, i64 c.byte.2.byte.2.number.1⟩, 0⟩ : Ins) = (insF c).1 := by rw [Hins.out]
            rw [hx1] at ho7
            obtain ⟨n', Hn1, Hn2⟩ := Hnx.out _ _ (HXa.out.more ho7 (by simp) hb7)
            have Hn1' := Lib.hid Hn1
            have Hn2' := Lib.hid Hn2
            clear hx1 ho7 hb7 Hn1 Hn2
            go_roundw
            case rel => exact ⟨_, _, n', _, _, _, rfl, by simp, Hn1'.out⟩
            case measure => exact Hn2'.out
          · by_cases hO : c.byte.1.toNat = 2
            · skip
              have Hins := Lib.hid (show insF c = (⟨2, stp0, (min (c.byte.2.number.1 : Int) 257)⟩, c.byte.2.number.2) by unfold insF; rw [if_neg (by omega), if_pos (by omega), hO]; simp only [Prod.mk.injEq, Ins.mk.injEq, true_and, and_true]; omega)
              have hn1 := number_le c.byte.2
              have hnl := number_lt c.byte.2
              rw [hO] at Hby
              clear h1 hO
              go_wp2_with fail
              refine Hby.out.mono ?_
              rintro e w2 ⟨rfl, hM2, hO2⟩
              have HX := Lib.hid ((Hst.out.rd.cursor hM2 hO2).alloc ⟨2, ⟨0, [], 0⟩, 0⟩)
              have Hk4 := Lib.hid (number_callsC w _ w.heap.size c.byte.2 HX.out.rd.cur (by omega))
              clear hM2 hO2
              go_wp2_with fail
              refine Hk4.out.mono ?_
              rintro e w5 ⟨rfl, hM5, hO5⟩
              have HX5 := Lib.hid (HX.out.cursor hM5 hO5)
              obtain ⟨⟨k0, k1, k2, k3, k4⟩, f0, f1, f2, f3, f4⟩ := fiveB HX5.out.blk
              have hB5 := ltH HX5.out.blk
              have HXa := Lib.hid (HX5.out.set (insF c).1 4 (.int .i64 (min (c.byte.2.number.1 : Int) 257)) (by rw [Hins.out]; rfl))
              have Hend := Lib.hid (show c.byte.2.number.2 = (insF c).2 by rw [Hins.out])
              simp only at k0 k1 k2 k3 k4
              rw [Hend.out] at HXa
              have HO := Lib.hid (HXa.out.rd.own.alloc (.cells #[.int .u8 2, .int .u8 0, .string ⟨#[]⟩, .int .i64 0, .int .i64 (min (c.byte.2.number.1 : Int) 257)] 63))
              have hn1 := one_ins (w5.setCell ⟨w2.heap.size, 4, none⟩ (.int .i64 (min (c.byte.2.number.1 : Int) 257))) (insF c).1
              rw [Hins.out] at hn1
              rw [show ((w5.setCell ⟨w2.heap.size, 4, none⟩ (.int .i64 (min (c.byte.2.number.1 : Int) 257)))).heap.size = w5.heap.size by simp] at hn1
              have HN := Lib.hid hn1
              have HBS := Lib.hid (show w.heap.size + 1 ≤ ((w5.setCell ⟨w2.heap.size, 4, none⟩ (.int .i64 (min (c.byte.2.number.1 : Int) 257))).alloc (.cells #[.int .u8 2, .int .u8 0, .string ⟨#[]⟩, .int .i64 0, .int .i64 (min (c.byte.2.number.1 : Int) 257)] 63)).heap.size from by have h1 := ltH HXa.out.rd.cur.blk; have h2 := (allocB (w5.setCell ⟨w2.heap.size, 4, none⟩ (.int .i64 (min (c.byte.2.number.1 : Int) 257))) (.cells #[.int .u8 2, .int .u8 0, .string ⟨#[]⟩, .int .i64 0, .int .i64 (min (c.byte.2.number.1 : Int) 257)] 63)).size; omega)
              clear hn1 hM5 hO5
              go_wp2_with (at_builtin; go_must (refine wp_appI rfl _ _ rfl (w.heap.size + 1) _ out.length out rfl HO.out w5.heap.size 0 1 1 [(⟨2, stp0, (min (c.byte.2.number.1 : Int) 257)⟩ : Ins)] rfl rfl (fun ii hi => HN.out ii hi) (by omega) (by omega) HBS.out ?_); intro g7 c7 w8 ho7 hb7)
              have hx1 : (⟨2, stp0, (min (c.byte.2.number.1 : Int) 257)⟩ : Ins) = (insF c).1 := by rw [Hins.out]
              rw [hx1] at ho7
              obtain ⟨n', Hn1, Hn2⟩ := Hnx.out _ _ (HXa.out.more ho7 (by simp) hb7)
              have Hn1' := Lib.hid Hn1
              have Hn2' := Lib.hid Hn2
              clear hx1 ho7 hb7 Hn1 Hn2
              go_roundw
              case rel => exact ⟨_, _, n', _, _, _, rfl, by simp, Hn1'.out⟩
              case measure => exact Hn2'.out
            · by_cases hO4 : c.byte.1.toNat = 4
              · skip
                have Hins := Lib.hid (show insF c = (⟨4, stp0, (min (c.byte.2.number.1 : Int) 257)⟩, c.byte.2.number.2) by unfold insF; rw [if_neg (by omega), if_pos (by omega), hO4]; simp only [Prod.mk.injEq, Ins.mk.injEq, true_and, and_true]; omega)
                have hn1 := number_le c.byte.2
                have hnl := number_lt c.byte.2
                rw [hO4] at Hby
                clear h1 hO hO4
                go_wp2_with fail
                refine Hby.out.mono ?_
                rintro e w2 ⟨rfl, hM2, hO2⟩
                have HX := Lib.hid ((Hst.out.rd.cursor hM2 hO2).alloc ⟨4, ⟨0, [], 0⟩, 0⟩)
                have Hk4 := Lib.hid (number_callsC w _ w.heap.size c.byte.2 HX.out.rd.cur (by omega))
                clear hM2 hO2
                go_wp2_with fail
                refine Hk4.out.mono ?_
                rintro e w5 ⟨rfl, hM5, hO5⟩
                have HX5 := Lib.hid (HX.out.cursor hM5 hO5)
                obtain ⟨⟨k0, k1, k2, k3, k4⟩, f0, f1, f2, f3, f4⟩ := fiveB HX5.out.blk
                have hB5 := ltH HX5.out.blk
                have HXa := Lib.hid (HX5.out.set (insF c).1 4 (.int .i64 (min (c.byte.2.number.1 : Int) 257)) (by rw [Hins.out]; rfl))
                have Hend := Lib.hid (show c.byte.2.number.2 = (insF c).2 by rw [Hins.out])
                simp only at k0 k1 k2 k3 k4
                rw [Hend.out] at HXa
                have HO := Lib.hid (HXa.out.rd.own.alloc (.cells #[.int .u8 4, .int .u8 0, .string ⟨#[]⟩, .int .i64 0, .int .i64 (min (c.byte.2.number.1 : Int) 257)] 63))
                have hn1 := one_ins (w5.setCell ⟨w2.heap.size, 4, none⟩ (.int .i64 (min (c.byte.2.number.1 : Int) 257))) (insF c).1
                rw [Hins.out] at hn1
                rw [show ((w5.setCell ⟨w2.heap.size, 4, none⟩ (.int .i64 (min (c.byte.2.number.1 : Int) 257)))).heap.size = w5.heap.size by simp] at hn1
                have HN := Lib.hid hn1
                have HBS := Lib.hid (show w.heap.size + 1 ≤ ((w5.setCell ⟨w2.heap.size, 4, none⟩ (.int .i64 (min (c.byte.2.number.1 : Int) 257))).alloc (.cells #[.int .u8 4, .int .u8 0, .string ⟨#[]⟩, .int .i64 0, .int .i64 (min (c.byte.2.number.1 : Int) 257)] 63)).heap.size from by have h1 := ltH HXa.out.rd.cur.blk; have h2 := (allocB (w5.setCell ⟨w2.heap.size, 4, none⟩ (.int .i64 (min (c.byte.2.number.1 : Int) 257))) (.cells #[.int .u8 4, .int .u8 0, .string ⟨#[]⟩, .int .i64 0, .int .i64 (min (c.byte.2.number.1 : Int) 257)] 63)).size; omega)
                clear hn1 hM5 hO5
                go_wp2_with (at_builtin; go_must (refine wp_appI rfl _ _ rfl (w.heap.size + 1) _ out.length out rfl HO.out w5.heap.size 0 1 1 [(⟨4, stp0, (min (c.byte.2.number.1 : Int) 257)⟩ : Ins)] rfl rfl (fun ii hi => HN.out ii hi) (by omega) (by omega) HBS.out ?_); intro g7 c7 w8 ho7 hb7)
                have hx1 : (⟨4, stp0, (min (c.byte.2.number.1 : Int) 257)⟩ : Ins) = (insF c).1 := by rw [Hins.out]
                rw [hx1] at ho7
                obtain ⟨n', Hn1, Hn2⟩ := Hnx.out _ _ (HXa.out.more ho7 (by simp) hb7)
                have Hn1' := Lib.hid Hn1
                have Hn2' := Lib.hid Hn2
                clear hx1 ho7 hb7 Hn1 Hn2
                go_roundw
                case rel => exact ⟨_, _, n', _, _, _, rfl, by simp, Hn1'.out⟩
                case measure => exact Hn2'.out
              · skip
                have h2 : ¬ (c.byte.1.toNat = 2 ∨ c.byte.1.toNat = 4) := by omega
                have Hins := Lib.hid (show insF c = (⟨c.byte.1.toNat, stp0, 0⟩, c.byte.2) by unfold insF; rw [if_neg h1, if_neg h2])
                have e1 : ((c.byte.1.toNat : Int) == 1) = false := by rw [beq_eq_false_iff_ne]; omega
                have e2 : ((c.byte.1.toNat : Int) == 2) = false := by rw [beq_eq_false_iff_ne]; omega
                have e4 : ((c.byte.1.toNat : Int) == 4) = false := by rw [beq_eq_false_iff_ne]; omega
                clear h1 h2 hO hO4
                go_wp2_with fail
                refine Hby.out.mono ?_
                rintro e w2 ⟨rfl, hM2, hO2⟩
                have HX := Lib.hid ((Hst.out.rd.cursor hM2 hO2).alloc ⟨c.byte.1.toNat, ⟨0, [], 0⟩, 0⟩)
                have HXa := Lib.hid (show RdX w (w2.alloc (.cells #[.int .u8 c.byte.1.toNat, .int .u8 0, .string ⟨#[]⟩, .int .i64 0, .int .i64 0] 63)) w.heap.size w2.heap.size (.slice b4 out.length c4) out (insF c).2 (insF c).1 from by rw [Hins.out]; exact HX.out)
                have HO := Lib.hid (HXa.out.rd.own.alloc (.cells #[.int .u8 c.byte.1.toNat, .int .u8 0, .string ⟨#[]⟩, .int .i64 0, .int .i64 0] 63))
                have hn1 := one_ins (w2.alloc (.cells #[.int .u8 c.byte.1.toNat, .int .u8 0, .string ⟨#[]⟩, .int .i64 0, .int .i64 0] 63)) ⟨c.byte.1.toNat, stp0, 0⟩
                rw [show (w2.alloc (.cells #[.int .u8 c.byte.1.toNat, .int .u8 0, .string ⟨#[]⟩, .int .i64 0, .int .i64 0] 63)).heap.size = w2.heap.size + 1 by simp] at hn1
                have HN := Lib.hid hn1
                have HBS := Lib.hid (show w.heap.size + 1 ≤ ((w2.alloc (.cells #[.int .u8 c.byte.1.toNat, .int .u8 0, .string ⟨#[]⟩, .int .i64 0, .int .i64 0] 63)).alloc (.cells #[.int .u8 c.byte.1.toNat, .int .u8 0, .string ⟨#[]⟩, .int .i64 0, .int .i64 0] 63)).heap.size from by have h1 := ltH HXa.out.rd.cur.blk; have h2 := (allocB (w2.alloc (.cells #[.int .u8 c.byte.1.toNat, .int .u8 0, .string ⟨#[]⟩, .int .i64 0, .int .i64 0] 63)) (.cells #[.int .u8 c.byte.1.toNat, .int .u8 0, .string ⟨#[]⟩, .int .i64 0, .int .i64 0] 63)).size; omega)
                clear hn1 hM2 hO2
                go_wp2_with (at_builtin; go_must (refine wp_appI rfl _ _ rfl (w.heap.size + 1) _ out.length out rfl HO.out (w2.heap.size + 1) 0 1 1 [(⟨c.byte.1.toNat, stp0, 0⟩ : Ins)] rfl rfl (fun ii hi => HN.out ii hi) (by omega) (by omega) HBS.out ?_); intro g7 c7 w8 ho7 hb7)
                have hx1 : (⟨c.byte.1.toNat, stp0, 0⟩ : Ins) = (insF c).1 := by rw [Hins.out]
                rw [hx1] at ho7
                obtain ⟨n', Hn1, Hn2⟩ := Hnx.out _ _ (HXa.out.more ho7 (by simp) hb7)
                have Hn1' := Lib.hid Hn1
                have Hn2' := Lib.hid Hn2
                clear hx1 ho7 hb7 Hn1 Hn2
                go_roundw
                case rel => exact ⟨_, _, n', _, _, _, rfl, by simp, Hn1'.out⟩
                case measure => exact Hn2'.out
  · have hl2 : (16384 : Int) < l.length := by omega
    have HG := Lib.hid (show GaveD w l (.returned (.tuple #[.slice none 0 0, .int .i64 4])) w from ⟨Below.refl _ _, by rw [if_neg hl]⟩)
    clear he hl
    go_enter Tryz.func30, Tryz.ntmps30
    go_wp2_with fail
    go_ret2
    exact HG.out

end Go.Proofs.YtcjmhmmjfgjcnaaGreatDoor.Cd

/- codicilref13: Same. -/
namespace Go.Proofs.YtcjmhmmjfgjcnaaGreatDoor.Cd
open Go.RowKit Go.Proofs.YtcjmhmmjfgjcnaaGreatDoor.Lx Go.Proofs.YtcjmhmmjfgjcnaaGreatDoor.Pa

attribute [local go_sem high] ins_equal
set_option maxHeartbeats 2000000 in
set_option maxRecDepth 100000 in
theorem Same_calls (w : World) (va vb : Value) (a b : List Ins) (ha : InsIn w va a) (hb : InsIn w vb b) (hla : a.length ≤ 1000000) :
    Calls Tryz.prog 10 #[va, vb] w fun e w' => e = .returned (.bool (decide (a = b))) ∧ Below w.heap.size w w' := by
  obtain ⟨aa, na, ca, rfl, hna, hca, hja⟩ := ha
  obtain ⟨ab, nb, cb, rfl, hnb, hcb, hjb⟩ := hb
  by_cases hn : na = nb
  · subst hn
    have Hna := Lib.hid hna
    have Hnb := Lib.hid hnb
    have Hja := Lib.hid hja
    have Hjb := Lib.hid hjb
    have hs : na ≤ 1000000 := by omega
    clear hja hjb hnb hna hla
    go_enter Tryz.func10, Tryz.ntmps10
    go_wp2_with fail
    go_loopw [13] (fun i wr => ∃ k : Nat, k ≤ na ∧ i = .int .i64 k ∧ Hid (Below w.heap.size w wr ∧ a.take k = b.take k)) (fun i _ => na - (intOf i).toNat)
    case atStart => exact ⟨0, Nat.zero_le _, rfl, Below.refl _ _, by simp⟩
    case round =>
      obtain ⟨k, hk, rfl, hst⟩ := hrel
      have Hst := Lib.hid hst.out
      by_cases hlt : k < na
      · have ka : k < a.length := by rw [Hna.out]; exact hlt
        have kb : k < b.length := by rw [Hnb.out]; exact hlt
        obtain ⟨g, o, rfl, hcl⟩ := Hja.out k ka
        obtain ⟨g', o', rfl, hcl'⟩ := Hjb.out k kb
        obtain ⟨q0, q1, q2, q3, q4⟩ := hcl.below hst.out.1
        obtain ⟨r0, r1, r2, r3, r4⟩ := hcl'.below hst.out.1
        have hlt2 : (k : Int) < na := by omega
        have Hne := Lib.hid (show a[k] ≠ b[k] → decide (a = b) = false from fun h => decide_eq_false fun e => h (by subst e; rfl))
        have Heq := Lib.hid (show a[k] = b[k] → a.take (k + 1) = b.take (k + 1) from fun h => by
          rw [List.take_succ_eq_append_getElem ka, List.take_succ_eq_append_getElem kb, hst.out.2, h])
        have hq := insQ_eq a[k] b[k]
        generalize a[k] = x at *
        generalize b[k] = y at *
        by_cases e : x = y
        · rw [decide_eq_true e] at hq
          have He := Lib.hid (Heq.out e)
          clear hst hcl hcl' e Heq Hne
          go_wp2_with fail
          go_region
          go_wp2_with fail
          go_roundw
          case rel => exact ⟨k + 1, by omega, by go_num, stepB Hst.out.1 (Below.refl _ _).drew, He.out⟩
          case measure => simp [intOf]; omega
        · rw [decide_eq_false e] at hq
          have He := Lib.hid (Hne.out e)
          clear hst hcl hcl' e Heq Hne
          go_wp2_with fail
          go_region
          go_wp2_with fail
          go_ret
          exact ⟨ret_bool He.out.symm, stepB Hst.out.1 (Below.refl _ _).drew⟩
      · have hkn : k = na := by omega
        subst hkn
        have He := Lib.hid (show decide (a = b) = true from decide_eq_true (by
          have := hst.out.2
          rw [List.take_of_length_le (by rw [Hna.out]; exact Nat.le_refl _), List.take_of_length_le (by rw [Hnb.out]; exact Nat.le_refl _)] at this
          exact this))
        clear hst
        go_wp2_with fail
        go_ret
        exact ⟨ret_bool He.out.symm, Hst.out.1⟩
  · have He := Lib.hid (show decide (a = b) = false from decide_eq_false fun e => hn (by rw [← hna, ← hnb, e]))
    have hb1 : ((na : Int) == (nb : Int)) = false := by rw [beq_eq_false_iff_ne]; omega
    clear hja hjb
    go_enter Tryz.func10, Tryz.ntmps10
    go_wp2_with fail
    go_ret
    exact ⟨ret_bool He.out.symm, Below.refl _ _⟩

end Go.Proofs.YtcjmhmmjfgjcnaaGreatDoor.Cd

/- CodeBack, what its walk leans on. -/
namespace Go.Proofs.YtcjmhmmjfgjcnaaGreatDoor.Cd
open Go.RowKit Go.Proofs.YtcjmhmmjfgjcnaaGreatDoor.Lx Go.Proofs.YtcjmhmmjfgjcnaaGreatDoor.Pa

/-! ### what is read is small -/
theorem readF_few : ∀ (n : Nat) (out : List Ins) (c : Cu), (readF n out c).1.length ≤ out.length + n
  | 0, _, _ => Nat.le_refl _
  | n + 1, out, c => by
    rw [readF]
    split
    · have := readF_few n (out ++ [(insF c).1]) (insF c).2
      rw [List.length_append, List.length_singleton] at this
      omega
    · show out.length ≤ _
      omega
structure BkArgs (w : World) (v : Value) (p : List Ins) (s : Txt) : Prop where
  hv : InsIn w v p
  hl : p.length ≤ 1000000
  hs : StOk 1048575 p
  ht : s.length ≤ 1048576
  he : Env w
theorem beq_txt (a : Txt) : ((⟨a.toArray⟩ : ByteArray).toList == (⟨a.toArray⟩ : ByteArray).toList) = true := by simp

end Go.Proofs.YtcjmhmmjfgjcnaaGreatDoor.Cd

/- CodeTexts: the walk. -/
namespace Go.Proofs.YtcjmhmmjfgjcnaaGreatDoor.Cd
open Go.RowKit Go.Proofs.YtcjmhmmjfgjcnaaGreatDoor.Lx Go.Proofs.YtcjmhmmjfgjcnaaGreatDoor.Pa Go.Proofs.YtcjmhmmjfgjcnaaGreatDoor.Rf

def rdv (l : Txt) : List Ins × Nat := if l.length ≤ 16384 then (if (readQ l).2.bad = false ∧ checkI (readQ l).1 = true then ((readQ l).1, 0) else ([], 11)) else ([], 4)
def RdV (w : World) (l : Txt) (e : Ending) (w' : World) : Prop := ∃ v, e = .returned (.tuple #[v, .int .i64 (rdv l).2]) ∧ InsIn w' v (rdv l).1 ∧ Below w.heap.size w w'
theorem none_ins (w : World) : InsIn w (.slice none 0 0) [] := ⟨none, 0, 0, rfl, rfl, Nat.le_refl _, fun _ hj => absurd hj (Nat.not_lt_zero _)⟩
theorem GaveD.rdv {w : World} {l : Txt} {e : Ending} {w' : World} (h : GaveD w l e w') : RdV w l e w' := by
  obtain ⟨hb, h⟩ := h
  unfold RdV Cd.rdv
  split at h
  · split at h
    · obtain ⟨v, rfl, hv⟩ := h
      refine ⟨v, ?_, ?_, hb⟩
      · rw [if_pos (by assumption), if_pos (by assumption)]; rfl
      · rw [if_pos (by assumption), if_pos (by assumption)]; exact hv
    · refine ⟨.slice none 0 0, ?_, ?_, hb⟩
      · rw [if_pos (by assumption), if_neg (by assumption)]; exact h
      · rw [if_pos (by assumption), if_neg (by assumption)]; exact none_ins _
  · refine ⟨.slice none 0 0, ?_, ?_, hb⟩
    · rw [if_neg (by assumption)]; exact h
    · rw [if_neg (by assumption)]; exact none_ins _
theorem GaveRd.rdv {w : World} {l : Txt} {e : Ending} {w' : World} (h : GaveRd w l e w') : RdV w l e w' := by
  refine GaveD.rdv ⟨h.1, ?_⟩
  have h2 := h.2
  rw [read_is l.length [] l (Nat.le_refl _)] at h2
  by_cases hl : l.length ≤ 16384
  · rw [if_neg (by omega)] at h2
    rw [if_pos hl]
    unfold readQ
    by_cases hq : (readF l.length [] ⟨l, false⟩).2.bad = false ∧ checkI (readF l.length [] ⟨l, false⟩).1 = true
    · rw [if_pos hq] at h2 ⊢
      exact h2
    · rw [if_neg hq] at h2 ⊢
      exact h2
  · rw [if_pos (by omega)] at h2
    rw [if_neg hl]
    exact h2
theorem rdv_few {l : Txt} (h : l.length ≤ 1000000000) : (rdv l).1.length ≤ 1000000 := by
  unfold rdv
  split
  · split
    · have := readF_few l.length [] ⟨l, false⟩
      unfold readQ
      simp only [List.length_nil] at this ⊢
      omega
    · exact Nat.zero_le _
  · exact Nat.zero_le _
theorem textV_form (p : List Ins) : ∃ (t : Txt) (k : Nat), textV p = .tuple #[.string ⟨t.toArray⟩, .int .i64 k] := by
  unfold textV
  split
  · split
    · exact ⟨_, 0, rfl⟩
    · exact ⟨[], 4, rfl⟩
  · exact ⟨[], 11, rfl⟩

set_option maxHeartbeats 2000000 in
set_option maxRecDepth 100000 in
theorem CodeTexts_calls (w : World) (v : Value) (p : List Ins) (s : Txt) (h : BkArgs w v p s) :
    Calls Tryz.prog 6 #[v, .string ⟨s.toArray⟩] w fun e w' => e = .returned (.bool true) ∧ Below w.heap.size w w' := by
  have hst := h.ht
  have Hlv := Lib.hid (fun w2 (hb : Below w.heap.size w w2) => lives_calls w2 (h.he.below hb))
  have HTx := Lib.hid (Text_calls w v p h.hv h.hl (fun x hx => takes_ok h.he (h.hs x hx).1) (fun x hx => (h.hs x hx).2) (fun x hx => (h.hs x hx).1))
  have HTr := Lib.hid (fun w2 (hb : Below w.heap.size w w2) => TextR13_calls w2 v p (h.hv.below hb) h.hl (fun x hx => (h.hs x hx).1))
  have HR := Lib.hid (fun w2 (hb : Below w.heap.size w w2) => (Read_calls w2 ⟨s.toArray⟩ (by rw [size_mk]; omega) (h.he.below hb)).mono fun e w' hg => GaveD.rdv hg)
  have HRr := Lib.hid (fun w2 => (ReadR13_calls w2 s (by omega)).mono fun e w' hg => GaveRd.rdv hg)
  have HC := Lib.hid (fun w2 (hb : Below w.heap.size w w2) => Check_calls w2 v p (h.hv.below hb) h.hl (fun x hx => takes_ok (h.he.below hb) (h.hs x hx).1))
  have HCr := Lib.hid (fun w2 (hb : Below w.heap.size w w2) => CheckR_calls w2 v p (h.hv.below hb) h.hl (fun x hx => by have := (h.hs x hx).1; omega))
  have hfew := rdv_few (l := s) (by omega)
  rw [L_mk] at HR
  obtain ⟨t, k, htv⟩ := textV_form p
  rw [htv] at HTx HTr
  obtain ⟨a, n, c, rfl, -⟩ := id h.hv
  unfold RdV at HR HRr
  generalize rdv s = qk at HR HRr hfew
  obtain ⟨q, m⟩ := qk
  simp only at HR HRr hfew
  obtain ⟨ck, hck⟩ : ∃ ck : Nat, (if checkI p = true then 0 else 11 : Int) = ck := by split; exact ⟨0, rfl⟩; exact ⟨11, rfl⟩
  unfold checkC at HC
  unfold checkRV at HCr
  rw [hck] at HC HCr
  have ht1 := beq_txt t
  have ht2 : ((k : Int) == (k : Int)) = true := by simp
  have ht3 : ((m : Int) == (m : Int)) = true := by simp
  have ht4 : ((ck : Int) == (ck : Int)) = true := by simp
  have ht5 : (t == t) = true := by simp
  clear h hst htv hck
  go_enter Tryz.func6, Tryz.ntmps6
  go_wp2_with fail
  refine HTx.out.mono ?_
  rintro e w1 ⟨rfl, hb1⟩
  have Hb1 := Lib.hid hb1
  clear hb1
  go_wp2_with fail
  refine (HTr.out _ Hb1.out).mono ?_
  rintro e w2 ⟨rfl, hb2⟩
  have Hb2 := Lib.hid (stepB Hb1.out hb2)
  clear hb2
  go_wp2_with fail
  refine (HR.out _ Hb2.out).mono ?_
  rintro e w3 ⟨v3, rfl, hv3, hb3⟩
  have Hb3 := Lib.hid (stepB Hb2.out hb3)
  have Hv3 := Lib.hid hv3
  obtain ⟨a3, n3, c3, rfl, -⟩ := hv3
  clear hb3
  go_wp2_with fail
  refine (HRr.out _).mono ?_
  rintro e w4 ⟨v4, rfl, hv4, hb4⟩
  have Hb4 := Lib.hid (stepB Hb3.out hb4)
  have Hv4 := Lib.hid hv4
  have Hv3b := Lib.hid (Hv3.out.below hb4)
  obtain ⟨a4, n4, c4, rfl, -⟩ := hv4
  clear hb4
  go_wp2_with fail
  refine (Hlv.out _ Hb4.out).mono ?_
  rintro e w5 ⟨rfl, hb5⟩
  have Hb5 := Lib.hid (stepB Hb4.out hb5)
  have Hs := Lib.hid (Same_calls w5 _ _ q q (Hv3b.out.below hb5) (Hv4.out.below hb5) hfew)
  rw [decide_eq_true (show q = q from rfl)] at Hs
  clear hb5
  go_wp2_with fail
  refine Hs.out.mono ?_
  rintro e w6 ⟨rfl, hb6⟩
  have Hb6 := Lib.hid (stepB Hb5.out hb6)
  clear hb6
  go_wp2_with fail
  refine (HC.out _ Hb6.out).mono ?_
  rintro e w7 ⟨rfl, hb7⟩
  have Hb7 := Lib.hid (stepB Hb6.out hb7)
  clear hb7
  go_wp2_with fail
  refine (HCr.out _ Hb7.out).mono ?_
  rintro e w8 ⟨rfl, hb8⟩
  have Hb8 := Lib.hid (stepB Hb7.out hb8)
  clear hb8
  go_wp2_with fail
  go_ret
  exact ⟨rfl, Hb8.out⟩

end Go.Proofs.YtcjmhmmjfgjcnaaGreatDoor.Cd
