/- Parts: RdM RdA RdB. -/
import Derived.Test.YtcjmhmmjfgjcnaaGreatDoorMe25
import Derived.Test.YtcjmhmmjfgjcnaaGreatDoorMe33
import Derived.Test.YtcjmhmmjfgjcnaaGreatDoorMe37
import Derived.Test.YtcjmhmmjfgjcnaaGreatDoorMe40

/- codicilref10: listed. -/
namespace Go.Proofs.YtcjmhmmjfgjcnaaGreatDoor.Rf
open Go.RowKit Go.Proofs.YtcjmhmmjfgjcnaaGreatDoor.Lx Go.Proofs.YtcjmhmmjfgjcnaaGreatDoor.Pa

def itF (b : Bool) (i : Itm) : Txt := if b then setF i else asF i
def listT (b : Bool) (l : List Itm) : Txt := Lib.join (l.map (itF b)) [44, 32]
theorem listT_set (l : List Itm) : listT true l = setT l := rfl
theorem listT_as (l : List Itm) : listT false l = asT l := rfl
theorem catL0 (t n k e : List UInt8) (h : t = []) : (⟨t.toArray⟩ ++ (⟨n.toArray⟩ ++ ⟨k.toArray⟩ ++ ⟨e.toArray⟩) : ByteArray) = ⟨(n ++ k ++ e).toArray⟩ := by subst h; rw [cat2, cat2, cat2]; rfl
theorem catLk (t s n k e : List UInt8) : (⟨t.toArray⟩ ++ ⟨s.toArray⟩ ++ (⟨n.toArray⟩ ++ ⟨k.toArray⟩ ++ ⟨e.toArray⟩) : ByteArray) = ⟨(t ++ s ++ (n ++ k ++ e)).toArray⟩ := by rw [cat2, cat2, cat2, cat2]
theorem itF_len (b : Bool) (i : Itm) (B C : Nat) (hn : i.name.length ≤ B) (he : (showE i.expr).length ≤ C) : (itF b i).length ≤ B + C + 4 := by
  unfold itF setF asF
  split <;> simp only [kX, kASX, List.length_append, List.length_cons, List.length_nil] <;> omega
theorem listT_len (b : Bool) (l : List Itm) (k : Nat) (hl : l.length ≤ 64) (hs : ∀ t ∈ l, t.name.length ≤ 1073741824 ∧ t.expr.length ≤ 1048576 ∧ ∀ y ∈ t.expr, y.text.length ≤ 1048575) (hn : ∀ t ∈ l, ∀ y ∈ t.expr, y.num ≤ 9223372036854775807) :
    (Lib.join ((l.map (itF b)).take k) [44, 32]).length ≤ 650000000000 := by
  have h1 := join_len ((l.map (itF b)).take k) [44, 32]
  have h2 := lens_take (l.map (itF b)) k
  have h3 := lens_le (l := l.map (itF b)) (B := 9932231428) (fun x hx => by
    obtain ⟨y, hy, rfl⟩ := List.mem_map.1 hx
    have h4 := (hs y hy).1
    have h5 := showE_len (hn y hy) (hs y hy).2.2
    have := itF_len b y 1073741824 8858489600 h4 h5
    omega)
  have h4 := Nat.mul_le_mul_right 9932231428 (show (l.map (itF b)).length ≤ 64 by rw [List.length_map]; exact hl)
  have h5 : (l.map (itF b)).length ≤ 64 := by rw [List.length_map]; exact hl
  rw [List.length_take] at h1
  simp only [List.length_cons, List.length_nil] at h1
  omega

set_option maxHeartbeats 2000000 in
set_option maxRecDepth 100000 in
theorem ListedR_calls (b : Bool) (w : World) (v : Value) (l : List Itm) (h : ItmsIn w v l) (hl : l.length ≤ 64) (hs : ∀ t ∈ l, t.name.length ≤ 1073741824 ∧ t.expr.length ≤ 1048576 ∧ ∀ y ∈ t.expr, y.text.length ≤ 1048575)
    (hn : ∀ t ∈ l, ∀ y ∈ t.expr, y.num ≤ 9223372036854775807) (he : Env w) :
    Calls Tryz.prog 52 #[v, .bool b] w fun e w' => e = .returned (.string ⟨(listT b l).toArray⟩) ∧ Below w.heap.size w w' := by
  obtain ⟨a, n, c, rfl, hnn, hc, hj⟩ := h
  subst hnn
  have Hj := Lib.hid hj
  have Hs := Lib.hid hs
  have Hn := Lib.hid hn
  have He := Lib.hid he
  have Htl := Lib.hid (fun k => listT_len b l k hl hs hn)
  have HT := Lib.hid (show listT b l = Lib.join (l.map (itF b)) [44, 32] from rfl)
  clear hj hs hn he
  go_enter Tryz.func52, Tryz.ntmps52
  go_wp2_with fail
  go_loopw [5, 12] (fun s5 i wr => ∃ (k : Nat) (t : Txt), k ≤ l.length ∧ i = .int .i64 k ∧ s5 = .string ⟨t.toArray⟩ ∧ Hid (Lib.join ((l.map (itF b)).take k) [44, 32] = t) ∧ Hid (Below w.heap.size w wr)) (fun _ i _ => l.length - (intOf i).toNat)
  case atStart => exact ⟨0, [], Nat.zero_le _, rfl, rfl, Lib.hid rfl, Lib.hid (Below.refl _ _)⟩
  case round =>
    obtain ⟨k, t, hk, rfl, rfl, ht, hbel⟩ := hrel
    have Hb := Lib.hid hbel.out
    have htl : t.length ≤ 650000000000 := by rw [← ht.out]; exact Htl.out k
    clear hbel
    by_cases hlt : k < l.length
    · obtain ⟨g, o, ve, rfl, q0, q1, ⟨a4, n4, c4, rfl, hsi⟩⟩ := (show ∃ (g o : Nat) (ve : Value), a = some ⟨g, o, none⟩ ∧ wr.cell? ⟨g, o + k * 2, none⟩ = some (.string ⟨l[k].name.toArray⟩) ∧ wr.cell? ⟨g, o + k * 2 + 1, none⟩ = some ve ∧ StpsIn wr ve l[k].expr by
        obtain ⟨g, o, ve, e, h0, h1, h2⟩ := Hj.out k hlt
        have hg : g < w.heap.size := World.block_lt_of_cell? _ _ h0
        exact ⟨g, o, ve, e, (Hb.out.cell (p := ⟨g, _, none⟩) hg).trans h0, (Hb.out.cell (p := ⟨g, _, none⟩) hg).trans h1, h2.below Hb.out⟩)
      have hst' : StpsIn wr (.slice a4 n4 c4) l[k].expr := ⟨a4, n4, c4, rfl, hsi⟩
      obtain ⟨z1, z2, z3⟩ := Hs.out _ (List.getElem_mem hlt)
      have z4 := Hn.out _ (List.getElem_mem hlt)
      have hE := showE_len z4 z3
      have Hsh := Lib.hid (fun (w2 : World) (hb2 : Below wr.heap.size wr w2) => ShowR_calls w2 _ l[k].expr (hst'.below hb2) z2 z3 z4 (He.out.below (Hb.out.trans (hb2.mono Hb.out.size))))
      obtain ⟨cc, hcc⟩ := showEV_val l[k].expr
      rw [hcc] at Hsh
      have hfl : k < (l.map (itF b)).length := by rw [List.length_map]; exact hlt
      have Hjn := Lib.hid (join_take (l.map (itF b)) k hfl [44, 32])
      rw [ht.out, List.getElem_map] at Hjn
      have Hblk := Lib.hid (heap_alloc_new wr (.cells #[.string ⟨l[k].name.toArray⟩, .slice a4 n4 c4] 95))
      clear z2 z3 z4 hcc
      generalize l[k] = it at *
      by_cases hk0 : k = 0
      · cases b with
        | true =>
          have hneg : ¬ (0 : Int) < k := by omega
          have Ht0 := Lib.hid (show t = [] from ht.out.symm.trans (by rw [hk0]; rfl))
          have Hk0 := Lib.hid hk0
          have hneg2 : decide ((0 : Int) < k) = false := decide_eq_false hneg
          clear hk0
          have s0 : it.name.length + 3 ≤ 9223372036854775807 := by omega
          have r0 : ¬ 9223372036854775807 < it.name.length + 3 := by omega
          have s1 : it.name.length + 3 + (showE it.expr).length ≤ 9223372036854775807 := by omega
          have r1 : ¬ 9223372036854775807 < it.name.length + 3 + (showE it.expr).length := by omega
          have s2 : t.length + (it.name.length + 3 + (showE it.expr).length) ≤ 9223372036854775807 := by omega
          have r2 : ¬ 9223372036854775807 < t.length + (it.name.length + 3 + (showE it.expr).length) := by omega
          go_wp2_with fail
          refine (Hsh.out _ (rAlloc _ _)).mono ?_
          rintro e w2 ⟨rfl, hb2⟩
          obtain ⟨⟨r4, r5⟩, -⟩ := two ((hb2.block wr.heap.size (by simp)).trans Hblk.out)
          have Hb2 := Lib.hid (rStep Hb.out (rStep (rAlloc wr _) hb2))
          clear hb2 q0 q1
          go_wp2_with fail
          go_roundw
          case rel => exact ⟨k + 1, itF true it, by omega, by go_num, congrArg Value.string (catL0 t it.name kX (showE it.expr) Ht0.out), Lib.hid (by rw [Hjn.out, if_pos Hk0.out]), Hb2⟩
          case measure => simp [intOf]; omega
        | false =>
          have hneg : ¬ (0 : Int) < k := by omega
          have Ht0 := Lib.hid (show t = [] from ht.out.symm.trans (by rw [hk0]; rfl))
          have Hk0 := Lib.hid hk0
          have hneg2 : decide ((0 : Int) < k) = false := decide_eq_false hneg
          clear hk0
          have s0 : (showE it.expr).length + 4 ≤ 9223372036854775807 := by omega
          have r0 : ¬ 9223372036854775807 < (showE it.expr).length + 4 := by omega
          have s1 : (showE it.expr).length + 4 + it.name.length ≤ 9223372036854775807 := by omega
          have r1 : ¬ 9223372036854775807 < (showE it.expr).length + 4 + it.name.length := by omega
          have s2 : t.length + ((showE it.expr).length + 4 + it.name.length) ≤ 9223372036854775807 := by omega
          have r2 : ¬ 9223372036854775807 < t.length + ((showE it.expr).length + 4 + it.name.length) := by omega
          go_wp2_with fail
          refine (Hsh.out _ (rAlloc _ _)).mono ?_
          rintro e w2 ⟨rfl, hb2⟩
          obtain ⟨⟨r4, r5⟩, -⟩ := two ((hb2.block wr.heap.size (by simp)).trans Hblk.out)
          have Hb2 := Lib.hid (rStep Hb.out (rStep (rAlloc wr _) hb2))
          clear hb2 q0 q1
          go_wp2_with fail
          go_roundw
          case rel => exact ⟨k + 1, itF false it, by omega, by go_num, congrArg Value.string (catL0 t (showE it.expr) kASX it.name Ht0.out), Lib.hid (by rw [Hjn.out, if_pos Hk0.out]), Hb2⟩
          case measure => simp [intOf]; omega
      · cases b with
        | true =>
          have hpos : (0 : Int) < k := by omega
          have Hk0 := Lib.hid hk0
          have s3 : t.length + 2 ≤ 9223372036854775807 := by omega
          have r3 : ¬ 9223372036854775807 < t.length + 2 := by omega
          have s0 : it.name.length + 3 ≤ 9223372036854775807 := by omega
          have r0 : ¬ 9223372036854775807 < it.name.length + 3 := by omega
          have s1 : it.name.length + 3 + (showE it.expr).length ≤ 9223372036854775807 := by omega
          have r1 : ¬ 9223372036854775807 < it.name.length + 3 + (showE it.expr).length := by omega
          have s2 : t.length + 2 + (it.name.length + 3 + (showE it.expr).length) ≤ 9223372036854775807 := by omega
          have r2 : ¬ 9223372036854775807 < t.length + 2 + (it.name.length + 3 + (showE it.expr).length) := by omega
          go_wp2_with fail
          refine (Hsh.out _ (rAlloc _ _)).mono ?_
          rintro e w2 ⟨rfl, hb2⟩
          obtain ⟨⟨r4, r5⟩, -⟩ := two ((hb2.block wr.heap.size (by simp)).trans Hblk.out)
          have Hb2 := Lib.hid (rStep Hb.out (rStep (rAlloc wr _) hb2))
          clear hb2 q0 q1
          go_wp2_with fail
          go_roundw
          case rel => exact ⟨k + 1, t ++ [44, 32] ++ itF true it, by omega, by go_num, congrArg Value.string (catLk t [44, 32] it.name kX (showE it.expr)), Lib.hid (by rw [Hjn.out, if_neg Hk0.out]), Hb2⟩
          case measure => simp [intOf]; omega
        | false =>
          have hpos : (0 : Int) < k := by omega
          have Hk0 := Lib.hid hk0
          have s3 : t.length + 2 ≤ 9223372036854775807 := by omega
          have r3 : ¬ 9223372036854775807 < t.length + 2 := by omega
          have s0 : (showE it.expr).length + 4 ≤ 9223372036854775807 := by omega
          have r0 : ¬ 9223372036854775807 < (showE it.expr).length + 4 := by omega
          have s1 : (showE it.expr).length + 4 + it.name.length ≤ 9223372036854775807 := by omega
          have r1 : ¬ 9223372036854775807 < (showE it.expr).length + 4 + it.name.length := by omega
          have s2 : t.length + 2 + ((showE it.expr).length + 4 + it.name.length) ≤ 9223372036854775807 := by omega
          have r2 : ¬ 9223372036854775807 < t.length + 2 + ((showE it.expr).length + 4 + it.name.length) := by omega
          go_wp2_with fail
          refine (Hsh.out _ (rAlloc _ _)).mono ?_
          rintro e w2 ⟨rfl, hb2⟩
          obtain ⟨⟨r4, r5⟩, -⟩ := two ((hb2.block wr.heap.size (by simp)).trans Hblk.out)
          have Hb2 := Lib.hid (rStep Hb.out (rStep (rAlloc wr _) hb2))
          clear hb2 q0 q1
          go_wp2_with fail
          go_roundw
          case rel => exact ⟨k + 1, t ++ [44, 32] ++ itF false it, by omega, by go_num, congrArg Value.string (catLk t [44, 32] (showE it.expr) kASX it.name), Lib.hid (by rw [Hjn.out, if_neg Hk0.out]), Hb2⟩
          case measure => simp [intOf]; omega
    · have Ht := Lib.hid (show Lib.join (l.map (itF b)) [44, 32] = t by rw [← ht.out, List.take_of_length_le (by rw [List.length_map]; omega)])
      go_wp2_with fail
      go_ret
      exact ⟨by rw [HT.out, Ht.out]; rfl, Hb.out⟩

end Go.Proofs.YtcjmhmmjfgjcnaaGreatDoor.Rf

/- codicilref10: items. -/
namespace Go.Proofs.YtcjmhmmjfgjcnaaGreatDoor.Rf
open Go.RowKit Go.Proofs.YtcjmhmmjfgjcnaaGreatDoor.Lx Go.Proofs.YtcjmhmmjfgjcnaaGreatDoor.Pa

set_option maxHeartbeats 1000000 in
set_option maxRecDepth 100000 in
theorem ItemsR_calls (w : World) (v : Value) (l : List Itm) (m : Nat) (h : ItmsIn w v l) (hl : l.length ≤ 1048576) (hs : ∀ t ∈ l, t.name.length ≤ 1073741824 ∧ t.expr.length ≤ 1048576 ∧ ∀ y ∈ t.expr, y.text.length ≤ 1048576) :
    Calls Tryz.prog 64 #[v, .int .i64 m] w fun e w' => e = .returned (.bool (decide (m ≤ l.length) && itemsB l)) ∧ Below w.heap.size w w' := by
  obtain ⟨a, n, c, rfl, hn, hc, hj⟩ := h
  subst hn
  have Hj := Lib.hid hj
  have Hs := Lib.hid hs
  clear hj hs
  go_enter Tryz.func64, Tryz.ntmps64
  go_wp2_with fail
  go_loopw [5, 10] (fun s3 i wr => ∃ (k : Nat) (v3 : Value), k ≤ l.length ∧ i = .int .i64 k ∧ s3 = v3 ∧ Hid (StT w wr v3 ((l.take k).map Itm.name)) ∧ Hid ((l.take k).all itemB = true)) (fun _ i _ => l.length - (intOf i).toNat)
  case atStart => exact ⟨0, _, Nat.zero_le _, rfl, rfl, Lib.hid (StT.nil _), Lib.hid rfl⟩
  case round =>
    obtain ⟨k, v3, hk, rfl, rfl, hst, hall⟩ := hrel
    have Hst := Lib.hid hst.out
    have Hall := Lib.hid hall.out
    obtain ⟨a3, c3, rfl⟩ := hst.out.form
    have Hlen := Lib.hid (show ((l.take k).map Itm.name).length = k by simp; omega)
    rw [Hlen.out] at hst Hst ⊢
    clear hst hall
    by_cases hlt : k < l.length
    · obtain ⟨g, o, ve, rfl, q0, q1, ⟨a4, n4, c4, rfl, hsi⟩⟩ := (show ∃ (g o : Nat) (ve : Value), a = some ⟨g, o, none⟩ ∧ wr.cell? ⟨g, o + k * 2, none⟩ = some (.string ⟨l[k].name.toArray⟩) ∧ wr.cell? ⟨g, o + k * 2 + 1, none⟩ = some ve ∧ StpsIn wr ve l[k].expr by
        obtain ⟨g, o, ve, e, h0, h1, h2⟩ := Hj.out k hlt
        have hg : g < w.heap.size := World.block_lt_of_cell? _ _ h0
        have hb := Hst.out.row.bel
        exact ⟨g, o, ve, e, (hb.cell (p := ⟨g, _, none⟩) hg).trans h0, (hb.cell (p := ⟨g, _, none⟩) hg).trans h1, h2.below hb⟩)
      have hst' : StpsIn wr (.slice a4 n4 c4) l[k].expr := ⟨a4, n4, c4, rfl, hsi⟩
      obtain ⟨z1, z2, z3⟩ := Hs.out _ (List.getElem_mem hlt)
      have Hnm := Lib.hid (fun (w2 : World) => NameR_calls ⟨l[k].name.toArray⟩ w2 (by rw [size_mk]; unfold maxLen; omega))
      rw [L_mk] at Hnm
      have Hrt := Lib.hid (fun (w2 : World) (hb2 : Below wr.heap.size wr w2) => RightR_calls w2 _ l[k].expr (hst'.below hb2) z2 z3)
      have Htk := Lib.hid (all_take_snoc itemB l k hlt)
      have Hfl := Lib.hid (itemsB_false l k hlt)
      have Htn := Lib.hid (show (l.take (k + 1)).map Itm.name = (l.take k).map Itm.name ++ [l[k].name] by rw [List.take_succ_eq_append_getElem hlt, List.map_append]; rfl)
      have hgw : g < wr.heap.size := World.block_lt_of_cell? _ _ q0
      clear hst' z1 z2 z3 hsi
      unfold itemB at Htk Hfl
      generalize l[k] = it at *
      cases hnb : nameB it.name with
      | false =>
        have HR := Lib.hid (show itemsB l = false from Hfl.out (by rw [hnb]; rfl))
        rw [hnb] at Hnm
        clear Hfl Htk hnb
        go_wp2_with fail
        refine (Hnm.out _).mono ?_
        rintro e w2 ⟨rfl, hb2⟩
        have Hb2 := Lib.hid (rStep Hst.out.row.bel (rStep (rAlloc _ _) hb2))
        clear hb2
        go_wp2_with fail
        go_ret
        exact ⟨by rw [HR.out, Bool.and_false]; rfl, Hb2.out⟩
      | true =>
        rw [hnb] at Hnm
        have Hblk := Lib.hid (heap_alloc_new wr (.cells #[.string ⟨it.name.toArray⟩, .slice a4 n4 c4] 95))
        cases hrb : rightB it.expr with
        | false =>
          have HR := Lib.hid (show itemsB l = false from Hfl.out (by rw [hrb, Bool.and_false]))
          rw [hrb] at Hrt
          clear Hfl Htk hnb hrb
          go_wp2_with fail
          refine (Hnm.out _).mono ?_
          rintro e w2 ⟨rfl, hb2⟩
          obtain ⟨⟨r0, r1⟩, -⟩ := two ((hb2.block wr.heap.size (by simp)).trans Hblk.out)
          have Hb2 := Lib.hid (rStep (rAlloc wr _) hb2)
          clear hb2
          go_wp2_with fail
          refine (Hrt.out _ Hb2.out).mono ?_
          rintro e w3 ⟨rfl, hb3⟩
          have Hb3 := Lib.hid (rStep Hst.out.row.bel (rStep Hb2.out hb3))
          clear hb3
          go_wp2_with fail
          go_ret
          exact ⟨by rw [HR.out, Bool.and_false]; rfl, Hb3.out⟩
        | true =>
          have Hall2 := Lib.hid (show (l.take (k + 1)).all itemB = true by rw [show (l.take (k + 1)).all itemB = _ from Htk.out, show ((l.take k).all fun x => nameB x.name && rightB x.expr) = true from Hall.out, hnb, hrb]; rfl)
          rw [hrb] at Hrt
          clear Hfl Htk hnb hrb
          go_wp2_with fail
          refine (Hnm.out _).mono ?_
          rintro e w2 ⟨rfl, hb2⟩
          obtain ⟨⟨r0, r1⟩, -⟩ := two ((hb2.block wr.heap.size (by simp)).trans Hblk.out)
          have Hlt2 := Lib.hid (show wr.heap.size < w2.heap.size by have := hb2.size; simp at this; omega)
          have Hblk2 := Lib.hid ((hb2.block wr.heap.size (by simp)).trans Hblk.out)
          have Hb2 := Lib.hid (rStep (rAlloc wr _) hb2)
          clear hb2
          go_wp2_with fail
          refine (Hrt.out _ Hb2.out).mono ?_
          rintro e w3 ⟨rfl, hb3⟩
          obtain ⟨⟨s0, s1⟩, -⟩ := two ((hb3.block wr.heap.size Hlt2.out).trans Hblk2.out)
          have Hst3 := Lib.hid (Hst.out.step (rStep Hb2.out hb3))
          clear hb3 r0 r1
          go_wp2_with (at_builtin; go_must (refine wpList_text rfl _ _ rfl w (.slice a3 k c3) ((l.take k).map Itm.name) rfl w3.heap.size rfl _ it.name rfl Hst3.out rfl (by rw [Hlen.out]; omega) ?_); intro a7 n7 c7 w7 hn7 h7; have Hn7 := Lib.hid hn7.out; have H7 := Lib.hid h7; clear hn7 h7)
          go_roundw
          case rel => exact ⟨k + 1, _, by omega, by go_num, rfl, Lib.hid (by rw [Htn.out]; exact H7.out), Hall2⟩
          case measure => simp [intOf]; omega
    · have hkn : k = l.length := by omega
      subst hkn
      have hkk : l.take l.length = l := List.take_of_length_le (Nat.le_refl _)
      rw [hkk] at Hst Hall
      have Hap := Lib.hid (twiceR_calls wr _ (l.map Itm.name) Hst.out.in (by simp; omega))
      have HR := Lib.hid (show itemsB l = (decide (l.length ≤ 64) && decide ((l.map Itm.name).Nodup)) by
        unfold itemsB apartB; rw [show (l.all fun x => nameB x.name && rightB x.expr) = true from Hall.out]; rfl)
      generalize hbd : decide ((l.map Itm.name).Nodup) = bd at *
      by_cases hm : m ≤ l.length
      · by_cases h64 : l.length ≤ 64
        · have c1 : decide ((m : Int) ≤ l.length) = true := by rw [decide_eq_true_iff]; omega
          have b64 : decide ((l.length : Int) ≤ 64) = true := by rw [decide_eq_true_iff]; omega
          go_wp2_with fail
          refine Hap.out.mono ?_
          rintro e w8 ⟨rfl, rfl⟩
          go_wp2_with fail
          go_ret
          exact ⟨by rw [HR.out, decide_eq_true h64, decide_eq_true hm]; simp, Hst.out.row.bel⟩
        · have c1 : decide ((m : Int) ≤ l.length) = true := by rw [decide_eq_true_iff]; omega
          have b64 : decide ((l.length : Int) ≤ 64) = false := by rw [decide_eq_false_iff_not]; omega
          go_wp2_with fail
          go_ret
          exact ⟨by rw [HR.out, decide_eq_false h64]; simp, Hst.out.row.bel⟩
      · have c1 : decide ((m : Int) ≤ l.length) = false := by rw [decide_eq_false_iff_not]; omega
        go_wp2_with fail
        go_ret
        exact ⟨by rw [decide_eq_false hm]; rfl, Hst.out.row.bel⟩

end Go.Proofs.YtcjmhmmjfgjcnaaGreatDoor.Rf

/- codicilref10: Check, what its walks share. -/
namespace Go.Proofs.YtcjmhmmjfgjcnaaGreatDoor.Rf
open Go.RowKit Go.Proofs.YtcjmhmmjfgjcnaaGreatDoor.Lx Go.Proofs.YtcjmhmmjfgjcnaaGreatDoor.Pa

/-- the statement's block -/
structure BxM (w wx : World) (z : Int) (tb fd : Txt) (vi ve : Value) (hi de : Bool) : Prop where
  blk : wx.heap[w.heap.size]? = some (.cells #[.int .u8 z, .string ⟨tb.toArray⟩, .string ⟨fd.toArray⟩, vi, ve, .bool hi, .bool de] 33)
  bel : Below w.heap.size w wx
theorem BxM.start (w : World) (z : Int) (tb fd : Txt) (vi ve : Value) (hi de : Bool) : BxM w (w.alloc (.cells #[.int .u8 z, .string ⟨tb.toArray⟩, .string ⟨fd.toArray⟩, vi, ve, .bool hi, .bool de] 33)) z tb fd vi ve hi de :=
  ⟨heap_alloc_new _ _, rAlloc _ _⟩
theorem BxM.step {w wx w' : World} {z : Int} {tb fd : Txt} {vi ve : Value} {hi de : Bool} (h : BxM w wx z tb fd vi ve hi de) (hb : Below wx.heap.size wx w') : BxM w w' z tb fd vi ve hi de :=
  ⟨(hb.block _ (rLt h.blk)).trans h.blk, rStep h.bel hb⟩
theorem len_zero {α : Type} (l : List α) (n : Nat) (h : l.length = n) : (((n : Int)) == 0) = l.isEmpty := by
  subst h
  cases l with
  | nil => rfl
  | cons a b => rw [List.isEmpty_cons, beq_eq_false_iff_ne, List.length_cons]; omega
theorem items_some {α : Type} {l : List α} (h : l.isEmpty = false) : 1 ≤ l.length := by cases l with | nil => cases h | cons a b => rw [List.length_cons]; omega
theorem items_none {α : Type} {l : List α} (h : l.isEmpty = true) : ¬ 1 ≤ l.length := by rw [List.isEmpty_iff.1 h, List.length_nil]; omega
theorem ckR_parts {w : World} {kd : Nat} {tb fd : Txt} {its : List Itm} {ex : List Stp} {hi de : Bool} {vi ve : Value} (h : CkArgs w ⟨kd, tb, fd, its, ex, hi, de⟩ vi ve) (m : Nat) (z : Int) (hz : z = m) :
    ∃ ai ni ci ae ne ce, vi = .slice ai ni ci ∧ ve = .slice ae ne ce ∧
      Hid (∀ w2, Below w.heap.size w w2 → Calls Tryz.prog 63 #[.string ⟨tb.toArray⟩] w2 fun e w' => e = .returned (.bool (nameB tb)) ∧ Below w2.heap.size w2 w') ∧
      Hid (∀ w2, Below w.heap.size w w2 → Calls Tryz.prog 63 #[.string ⟨fd.toArray⟩] w2 fun e w' => e = .returned (.bool (nameB fd)) ∧ Below w2.heap.size w2 w') ∧
      Hid (∀ w2, Below w.heap.size w w2 → Calls Tryz.prog 25 #[.slice ae ne ce] w2 fun e w' => e = .returned (.bool (rightB ex)) ∧ Below w2.heap.size w2 w') ∧
      Hid (∀ w2, Below w.heap.size w w2 → Calls Tryz.prog 27 #[.slice ae ne ce] w2 fun e w' => e = .returned (.bool (closedB ex)) ∧ Below w2.heap.size w2 w') ∧
      Hid (∀ w2, Below w.heap.size w w2 → Calls Tryz.prog 64 #[.slice ai ni ci, .int .i64 z] w2 fun e w' => e = .returned (.bool (decide (m ≤ its.length) && itemsB its)) ∧ Below w2.heap.size w2 w') ∧
      Hid (((ni : Int) == 0) = its.isEmpty) ∧ Hid (((ne : Int) == 0) = ex.isEmpty) := by
  subst hz
  have hi' := h.hi
  have hv' := h.hv
  obtain ⟨ai, ni, ci, rfl, hni, -⟩ := hi'
  obtain ⟨ae, ne, ce, rfl, hne, -⟩ := hv'
  refine ⟨ai, ni, ci, ae, ne, ce, rfl, rfl, Lib.hid fun w2 hb => ?_, Lib.hid fun w2 hb => ?_, Lib.hid fun w2 hb => ?_, Lib.hid fun w2 hb => ?_, Lib.hid fun w2 hb => ?_, Lib.hid (len_zero _ _ hni), Lib.hid (len_zero _ _ hne)⟩
  · have := NameR_calls ⟨tb.toArray⟩ w2 (by rw [size_mk]; have := h.ht; unfold maxLen; simp only at this; omega)
    rw [L_mk] at this; exact this
  · have := NameR_calls ⟨fd.toArray⟩ w2 (by rw [size_mk]; have := h.hf; unfold maxLen; simp only at this; omega)
    rw [L_mk] at this; exact this
  · exact RightR_calls w2 _ ex (h.hv.below hb) h.hl (fun y hy => by have := h.hy y hy; omega)
  · exact ClosedR_calls w2 _ ex (h.hv.below hb) h.hl
  · exact ItemsR_calls w2 _ its m (h.hi.below hb) (by have := h.hil; simp only at this; omega) (fun t ht => ⟨(h.his t ht).1, (h.his t ht).2.1, fun y hy => by have := (h.his t ht).2.2 y hy; omega⟩)

end Go.Proofs.YtcjmhmmjfgjcnaaGreatDoor.Rf
