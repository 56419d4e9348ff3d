/- Parts: RdO LxT PdZ PdF RdP. -/
import Derived.Test.YtcjmhmmjfgjcnaaGreatDoorMe10
import Derived.Test.YtcjmhmmjfgjcnaaGreatDoorMe24
import Derived.Test.YtcjmhmmjfgjcnaaGreatDoorMe46
import Derived.Test.YtcjmhmmjfgjcnaaGreatDoorMe50
import Derived.WalkKit
import Derived.ProofKit
import Derived.OpenShut
import Derived.Deep.DeepHandedRow
import Derived.Deep.DeepWitnessRowRef
import Derived.Carry
import Derived.SevenTiedAt
import Derived.Lay
import Derived.Lib.LaidU8T
import Derived.PinnedBridge
import Derived.MakeChecks
import Derived.Shelf.Vars
import Derived.Test.YtcjmhmmjfgjcnaaGreatDoorRows
import Derived.Test.YtcjmhmmjfgjcnaaGreatDoorCards
import Derived.Test.YtcjmhmmjfgjcnaaGreatDoorTie
import Derived.Deep.Slices
import Derived.Deep.Strs

/- ParseWrites: the walk. -/
namespace Go.Proofs.YtcjmhmmjfgjcnaaGreatDoor.Rf
open Go.RowKit Go.Proofs.YtcjmhmmjfgjcnaaGreatDoor.Lx Go.Proofs.YtcjmhmmjfgjcnaaGreatDoor.Pa

structure WrM (w W : World) (st : Stm) (vi ve : Value) (y : Stp) : Prop where
  bel : Below w.heap.size w W
  c1 : W.heap[w.heap.size]? = some (.cells (smC st vi ve) 33)
  c2 : W.heap[w.heap.size + 1]? = some (.cells #[.int .u8 y.kind, .string ⟨y.text.toArray⟩, .int .i64 y.num] 48)
theorem WrM.step {w W W' : World} {st : Stm} {vi ve : Value} {y : Stp} (h : WrM w W st vi ve y) (hb : Below W.heap.size W W') : WrM w W' st vi ve y :=
  ⟨stepB h.bel hb, (hb.block _ (lt_of_heap h.c1)).trans h.c1, (hb.block _ (lt_of_heap h.c2)).trans h.c2⟩
theorem WrM.start (w : World) (st : Stm) (vi ve : Value) (y : Stp) : WrM w ((w.alloc (.cells (smC st vi ve) 33)).alloc (.cells #[.int .u8 y.kind, .string ⟨y.text.toArray⟩, .int .i64 y.num] 48)) st vi ve y :=
  ⟨stepB (alloc_below _ _) (alloc_below _ _), ((alloc_below (w.alloc (.cells (smC st vi ve) 33)) _).block w.heap.size (by simp)).trans (heap_alloc_new _ _), by
    have := heap_alloc_new (w.alloc (.cells (smC st vi ve) 33)) (.cells #[.int .u8 y.kind, .string ⟨y.text.toArray⟩, .int .i64 y.num] 48)
    rw [show (w.alloc (.cells (smC st vi ve) 33)).heap.size = w.heap.size + 1 by simp] at this
    exact this⟩
theorem printV_val (st : Stm) : ∃ (s : ByteArray) (c : Int), printV st = .tuple #[.string s, .int .i64 c] := by
  unfold printV; split <;> exact ⟨_, _, rfl⟩
theorem checkV_val (st : Stm) : ∃ c : Int, checkV st = .int .i64 c := by
  unfold checkV; first | exact ⟨_, rfl⟩ | (split <;> exact ⟨_, rfl⟩)
theorem showEV_val2 (l : List Stp) : ∃ (s : ByteArray) (c : Int), showEV l = .tuple #[.string s, .int .i64 c] := by
  unfold showEV; split <;> exact ⟨_, _, rfl⟩

set_option maxHeartbeats 8000000 in
set_option maxRecDepth 100000 in
theorem ParseWrites_calls (st : Stm) (l : List Stp) (y : Stp) (w : World) (vi ve v : Value) (h : PrArgs w st vi ve) (hv : StpsIn w v l) (hl : l.length ≤ 1048576) (ht : ∀ y ∈ l, y.text.length ≤ 1048575) (hn : ∀ y ∈ l, y.num ≤ 9223372036854775807) (hy : y.text.length ≤ 1048575) :
    Calls Tryz.prog 5 #[st.val vi ve, v, y.val] w fun e w' => e = .returned (.bool true) ∧ Below w.heap.size w w' := by
  have he := h.ck.he
  have hpb : ∀ w2, Below w.heap.size w w2 → PrArgs w2 st vi ve := fun w2 hb => ⟨⟨h.ck.hi.below hb, h.ck.hv.below hb, h.ck.ht, h.ck.hf, h.ck.hl, h.ck.hy, h.ck.hil, h.ck.his, h.ck.he.below hb⟩, h.hn, h.hin⟩
  obtain ⟨pt, pc, hP⟩ := printV_val st
  obtain ⟨cc, hC⟩ := checkV_val st
  obtain ⟨sh, sc, hE⟩ := showEV_val2 l
  obtain ⟨tn, tb, hT⟩ : ∃ (n : Int) (b : Bool), takesV (takes y) = .tuple #[.int .i64 n, .bool b] := ⟨_, _, rfl⟩
  have Hp1 := Lib.hid (fun (w2 : World) (hb : Below w.heap.size w w2) => hP ▸ Print_calls st w2 _ _ (hpb w2 hb))
  have Hp2 := Lib.hid (fun (w2 : World) (hb : Below w.heap.size w w2) => hP ▸ PrintR_calls st w2 _ _ (hpb w2 hb))
  have Hs1 := Lib.hid (fun (w2 : World) (hb : Below w.heap.size w w2) => hE ▸ showE_calls w2 v l (hv.below hb) hl ht hn (he.below hb))
  have Hs2 := Lib.hid (fun (w2 : World) (hb : Below w.heap.size w w2) => hE ▸ ShowR_calls w2 v l (hv.below hb) hl ht hn (he.below hb))
  have Ht1 := Lib.hid (fun (w2 : World) (hb : Below w.heap.size w w2) => hT ▸ Takes_calls y w2 hy (he.below hb))
  have Ht2 := Lib.hid (fun (w2 : World) (_ : Below w.heap.size w w2) => hT ▸ TakesR_calls y w2 (by omega))
  have Hlv := Lib.hid (fun (w2 : World) (hb : Below w.heap.size w w2) => lives_calls w2 (he.below hb))
  have Hc1 := Lib.hid (fun (w2 : World) (hb : Below w.heap.size w w2) => hC ▸ Check_calls st w2 _ _ (hpb w2 hb).ck)
  have Hc2 := Lib.hid (fun (w2 : World) (hb : Below w.heap.size w w2) => hC ▸ CheckR10_calls st w2 _ _ (hpb w2 hb).ck)
  have Hr1 := Lib.hid (fun (w2 : World) (hb : Below w.heap.size w w2) => Right_calls w2 v l (hv.below hb) hl ht (he.below hb))
  have Hr2 := Lib.hid (fun (w2 : World) (hb : Below w.heap.size w w2) => RightR_calls w2 v l (hv.below hb) hl fun y hy => by have := ht y hy; omega)
  have Hd1 := Lib.hid (fun (w2 : World) (hb : Below w.heap.size w w2) => Closed_calls w2 v l (hv.below hb) (by omega))
  have Hd2 := Lib.hid (fun (w2 : World) (hb : Below w.heap.size w w2) => ClosedR_calls w2 v l (hv.below hb) hl)
  obtain ⟨ai, ni, ci, rfl, -⟩ := id h.ck.hi
  obtain ⟨ae, ne, ce, rfl, -⟩ := id h.ck.hv
  obtain ⟨a, n, c, rfl, -⟩ := id hv
  have P0 := Lib.hid (WrM.start w st (.slice ai ni ci) (.slice ae ne ce) y)
  clear h he hpb hv hl ht hn hy hP hC hE hT
  unfold Stm.val at *
  unfold Stp.val at *
  obtain ⟨⟨k0, k1, k2, k3, k4, k5, k6⟩, -⟩ := seven P0.out.c1
  obtain ⟨⟨j0, j1, j2⟩, -⟩ := threeC P0.out.c2
  go_enter Tryz.func5, Tryz.ntmps5
  go_wp2_with fail
  refine (Hp1.out _ P0.out.bel).mono ?_
  rintro e w1 ⟨rfl, hb1⟩
  have P1 := Lib.hid (P0.out.step hb1)
  clear hb1 k0 k1 k2 k3 k4 k5 k6 j0 j1 j2
  obtain ⟨⟨k0, k1, k2, k3, k4, k5, k6⟩, -⟩ := seven P1.out.c1
  obtain ⟨⟨j0, j1, j2⟩, -⟩ := threeC P1.out.c2
  go_wp2_with fail
  refine (Hp2.out _ P1.out.bel).mono ?_
  rintro e w2 ⟨rfl, hb2⟩
  have P2 := Lib.hid (P1.out.step hb2)
  clear hb2 k0 k1 k2 k3 k4 k5 k6 j0 j1 j2
  obtain ⟨⟨k0, k1, k2, k3, k4, k5, k6⟩, -⟩ := seven P2.out.c1
  obtain ⟨⟨j0, j1, j2⟩, -⟩ := threeC P2.out.c2
  go_wp2_with fail
  refine (Hs1.out _ P2.out.bel).mono ?_
  rintro e w3 ⟨rfl, hb3⟩
  have P3 := Lib.hid (P2.out.step hb3)
  clear hb3 k0 k1 k2 k3 k4 k5 k6 j0 j1 j2
  obtain ⟨⟨k0, k1, k2, k3, k4, k5, k6⟩, -⟩ := seven P3.out.c1
  obtain ⟨⟨j0, j1, j2⟩, -⟩ := threeC P3.out.c2
  go_wp2_with fail
  refine (Hs2.out _ P3.out.bel).mono ?_
  rintro e w4 ⟨rfl, hb4⟩
  have P4 := Lib.hid (P3.out.step hb4)
  clear hb4 k0 k1 k2 k3 k4 k5 k6 j0 j1 j2
  obtain ⟨⟨k0, k1, k2, k3, k4, k5, k6⟩, -⟩ := seven P4.out.c1
  obtain ⟨⟨j0, j1, j2⟩, -⟩ := threeC P4.out.c2
  go_wp2_with fail
  refine (Ht1.out _ P4.out.bel).mono ?_
  rintro e w5 ⟨rfl, hb5⟩
  have P5 := Lib.hid (P4.out.step hb5)
  clear hb5 k0 k1 k2 k3 k4 k5 k6 j0 j1 j2
  obtain ⟨⟨k0, k1, k2, k3, k4, k5, k6⟩, -⟩ := seven P5.out.c1
  obtain ⟨⟨j0, j1, j2⟩, -⟩ := threeC P5.out.c2
  go_wp2_with fail
  refine (Ht2.out _ P5.out.bel).mono ?_
  rintro e w6 ⟨rfl, hb6⟩
  have P6 := Lib.hid (P5.out.step hb6)
  clear hb6 k0 k1 k2 k3 k4 k5 k6 j0 j1 j2
  obtain ⟨⟨k0, k1, k2, k3, k4, k5, k6⟩, -⟩ := seven P6.out.c1
  obtain ⟨⟨j0, j1, j2⟩, -⟩ := threeC P6.out.c2
  go_wp2_with fail
  clear j0 j1 j2
  have hS0 : w6.drew.cell? ⟨w.heap.size, 0, none⟩ = some (.int .u8 st.kind) ∧ w6.drew.cell? ⟨w.heap.size, 1, none⟩ = some (.string ⟨st.table.toArray⟩) ∧ w6.drew.cell? ⟨w.heap.size, 2, none⟩ = some (.string ⟨st.field.toArray⟩) ∧ w6.drew.cell? ⟨w.heap.size, 3, none⟩ = some (.slice ai ni ci) ∧ w6.drew.cell? ⟨w.heap.size, 4, none⟩ = some (.slice ae ne ce) ∧ w6.drew.cell? ⟨w.heap.size, 5, none⟩ = some (.bool st.history) ∧ w6.drew.cell? ⟨w.heap.size, 6, none⟩ = some (.bool st.desc) ∧ Below w.heap.size w w6.drew := ⟨k0, k1, k2, k3, k4, k5, k6, P6.out.bel.drew⟩
  go_region_held3 (fun w' => w'.cell? ⟨w.heap.size, 0, none⟩ = some (.int .u8 st.kind) ∧ w'.cell? ⟨w.heap.size, 1, none⟩ = some (.string ⟨st.table.toArray⟩) ∧ w'.cell? ⟨w.heap.size, 2, none⟩ = some (.string ⟨st.field.toArray⟩) ∧ w'.cell? ⟨w.heap.size, 3, none⟩ = some (.slice ai ni ci) ∧ w'.cell? ⟨w.heap.size, 4, none⟩ = some (.slice ae ne ce) ∧ w'.cell? ⟨w.heap.size, 5, none⟩ = some (.bool st.history) ∧ w'.cell? ⟨w.heap.size, 6, none⟩ = some (.bool st.desc) ∧ Below w.heap.size w w')
    (first | exact hS0 | exact hS6)
    (first | (go_at_call 21; refine (Hlv.out _ ?_).mono ?_; (go_split_ands; assumption); rintro e w9 ⟨rfl, hb9⟩; have hS6 : w9.cell? ⟨w.heap.size, 0, none⟩ = some (.int .u8 st.kind) ∧ w9.cell? ⟨w.heap.size, 1, none⟩ = some (.string ⟨st.table.toArray⟩) ∧ w9.cell? ⟨w.heap.size, 2, none⟩ = some (.string ⟨st.field.toArray⟩) ∧ w9.cell? ⟨w.heap.size, 3, none⟩ = some (.slice ai ni ci) ∧ w9.cell? ⟨w.heap.size, 4, none⟩ = some (.slice ae ne ce) ∧ w9.cell? ⟨w.heap.size, 5, none⟩ = some (.bool st.history) ∧ w9.cell? ⟨w.heap.size, 6, none⟩ = some (.bool st.desc) ∧ Below w.heap.size w w9 := (by go_split_ands; exact ⟨keepC (by assumption) hb9, keepC (by assumption) hb9, keepC (by assumption) hb9, keepC (by assumption) hb9, keepC (by assumption) hb9, keepC (by assumption) hb9, keepC (by assumption) hb9, stepB (by assumption) hb9⟩)) | (go_at_call 22; refine (Hc1.out _ ?_).mono ?_; (go_split_ands; assumption); rintro e w9 ⟨rfl, hb9⟩; have hS6 : w9.cell? ⟨w.heap.size, 0, none⟩ = some (.int .u8 st.kind) ∧ w9.cell? ⟨w.heap.size, 1, none⟩ = some (.string ⟨st.table.toArray⟩) ∧ w9.cell? ⟨w.heap.size, 2, none⟩ = some (.string ⟨st.field.toArray⟩) ∧ w9.cell? ⟨w.heap.size, 3, none⟩ = some (.slice ai ni ci) ∧ w9.cell? ⟨w.heap.size, 4, none⟩ = some (.slice ae ne ce) ∧ w9.cell? ⟨w.heap.size, 5, none⟩ = some (.bool st.history) ∧ w9.cell? ⟨w.heap.size, 6, none⟩ = some (.bool st.desc) ∧ Below w.heap.size w w9 := (by go_split_ands; exact ⟨keepC (by assumption) hb9, keepC (by assumption) hb9, keepC (by assumption) hb9, keepC (by assumption) hb9, keepC (by assumption) hb9, keepC (by assumption) hb9, keepC (by assumption) hb9, stepB (by assumption) hb9⟩)) | (go_at_call 23; refine (Hc2.out _ ?_).mono ?_; (go_split_ands; assumption); rintro e w9 ⟨rfl, hb9⟩; have hS6 : w9.cell? ⟨w.heap.size, 0, none⟩ = some (.int .u8 st.kind) ∧ w9.cell? ⟨w.heap.size, 1, none⟩ = some (.string ⟨st.table.toArray⟩) ∧ w9.cell? ⟨w.heap.size, 2, none⟩ = some (.string ⟨st.field.toArray⟩) ∧ w9.cell? ⟨w.heap.size, 3, none⟩ = some (.slice ai ni ci) ∧ w9.cell? ⟨w.heap.size, 4, none⟩ = some (.slice ae ne ce) ∧ w9.cell? ⟨w.heap.size, 5, none⟩ = some (.bool st.history) ∧ w9.cell? ⟨w.heap.size, 6, none⟩ = some (.bool st.desc) ∧ Below w.heap.size w w9 := (by go_split_ands; exact ⟨keepC (by assumption) hb9, keepC (by assumption) hb9, keepC (by assumption) hb9, keepC (by assumption) hb9, keepC (by assumption) hb9, keepC (by assumption) hb9, keepC (by assumption) hb9, stepB (by assumption) hb9⟩)) | (go_at_call 24; refine (Hr1.out _ ?_).mono ?_; (go_split_ands; assumption); rintro e w9 ⟨rfl, hb9⟩; have hS6 : w9.cell? ⟨w.heap.size, 0, none⟩ = some (.int .u8 st.kind) ∧ w9.cell? ⟨w.heap.size, 1, none⟩ = some (.string ⟨st.table.toArray⟩) ∧ w9.cell? ⟨w.heap.size, 2, none⟩ = some (.string ⟨st.field.toArray⟩) ∧ w9.cell? ⟨w.heap.size, 3, none⟩ = some (.slice ai ni ci) ∧ w9.cell? ⟨w.heap.size, 4, none⟩ = some (.slice ae ne ce) ∧ w9.cell? ⟨w.heap.size, 5, none⟩ = some (.bool st.history) ∧ w9.cell? ⟨w.heap.size, 6, none⟩ = some (.bool st.desc) ∧ Below w.heap.size w w9 := (by go_split_ands; exact ⟨keepC (by assumption) hb9, keepC (by assumption) hb9, keepC (by assumption) hb9, keepC (by assumption) hb9, keepC (by assumption) hb9, keepC (by assumption) hb9, keepC (by assumption) hb9, stepB (by assumption) hb9⟩)) | (go_at_call 25; refine (Hr2.out _ ?_).mono ?_; (go_split_ands; assumption); rintro e w9 ⟨rfl, hb9⟩; have hS6 : w9.cell? ⟨w.heap.size, 0, none⟩ = some (.int .u8 st.kind) ∧ w9.cell? ⟨w.heap.size, 1, none⟩ = some (.string ⟨st.table.toArray⟩) ∧ w9.cell? ⟨w.heap.size, 2, none⟩ = some (.string ⟨st.field.toArray⟩) ∧ w9.cell? ⟨w.heap.size, 3, none⟩ = some (.slice ai ni ci) ∧ w9.cell? ⟨w.heap.size, 4, none⟩ = some (.slice ae ne ce) ∧ w9.cell? ⟨w.heap.size, 5, none⟩ = some (.bool st.history) ∧ w9.cell? ⟨w.heap.size, 6, none⟩ = some (.bool st.desc) ∧ Below w.heap.size w w9 := (by go_split_ands; exact ⟨keepC (by assumption) hb9, keepC (by assumption) hb9, keepC (by assumption) hb9, keepC (by assumption) hb9, keepC (by assumption) hb9, keepC (by assumption) hb9, keepC (by assumption) hb9, stepB (by assumption) hb9⟩)) | (go_at_call 26; refine (Hd1.out _ ?_).mono ?_; (go_split_ands; assumption); rintro e w9 ⟨rfl, hb9⟩; have hS6 : w9.cell? ⟨w.heap.size, 0, none⟩ = some (.int .u8 st.kind) ∧ w9.cell? ⟨w.heap.size, 1, none⟩ = some (.string ⟨st.table.toArray⟩) ∧ w9.cell? ⟨w.heap.size, 2, none⟩ = some (.string ⟨st.field.toArray⟩) ∧ w9.cell? ⟨w.heap.size, 3, none⟩ = some (.slice ai ni ci) ∧ w9.cell? ⟨w.heap.size, 4, none⟩ = some (.slice ae ne ce) ∧ w9.cell? ⟨w.heap.size, 5, none⟩ = some (.bool st.history) ∧ w9.cell? ⟨w.heap.size, 6, none⟩ = some (.bool st.desc) ∧ Below w.heap.size w w9 := (by go_split_ands; exact ⟨keepC (by assumption) hb9, keepC (by assumption) hb9, keepC (by assumption) hb9, keepC (by assumption) hb9, keepC (by assumption) hb9, keepC (by assumption) hb9, keepC (by assumption) hb9, stepB (by assumption) hb9⟩)) | (go_at_call 27; refine (Hd2.out _ ?_).mono ?_; (go_split_ands; assumption); rintro e w9 ⟨rfl, hb9⟩; have hS6 : w9.cell? ⟨w.heap.size, 0, none⟩ = some (.int .u8 st.kind) ∧ w9.cell? ⟨w.heap.size, 1, none⟩ = some (.string ⟨st.table.toArray⟩) ∧ w9.cell? ⟨w.heap.size, 2, none⟩ = some (.string ⟨st.field.toArray⟩) ∧ w9.cell? ⟨w.heap.size, 3, none⟩ = some (.slice ai ni ci) ∧ w9.cell? ⟨w.heap.size, 4, none⟩ = some (.slice ae ne ce) ∧ w9.cell? ⟨w.heap.size, 5, none⟩ = some (.bool st.history) ∧ w9.cell? ⟨w.heap.size, 6, none⟩ = some (.bool st.desc) ∧ Below w.heap.size w w9 := (by go_split_ands; exact ⟨keepC (by assumption) hb9, keepC (by assumption) hb9, keepC (by assumption) hb9, keepC (by assumption) hb9, keepC (by assumption) hb9, keepC (by assumption) hb9, keepC (by assumption) hb9, stepB (by assumption) hb9⟩)))
  all_goals
    go_wp2_with fail
    go_ret
    exact ⟨rfl, hS6.2.2.2.2.2.2.2⟩

end Go.Proofs.YtcjmhmmjfgjcnaaGreatDoor.Rf

/- The frame of a law: a call that answers true and turns nothing old meets the row's post. Nothing here speaks of the program. -/
namespace Go.Proofs.YtcjmhmmjfgjcnaaGreatDoor.Lx
open Go.RowKit Go.ChangeShapes

theorem stay_all {H : Type} {enc : TypeId × Value → H} {P : Program} (hl : laidOutB P = true) {W W' : World} (hb : Below W.heap.size W W') :
    ∀ {ts : List TypeId} {vs : List Value} {ds : List (DataW H)} {ps : List MemPlace}, ts.all (fun t => P.readableRec t && decide (t < P.types.size)) = true →
      DataW.TrodAll enc P W 0 (fun _ => true) true ts vs ds ps → (∀ x ∈ ps, x.block < W.heap.size) → DataW.TrodAll enc P W' 0 (fun b => decide (b < W.heap.size)) true ts vs ds ps
  | [], _, _, _, _, h, _ => by
    obtain ⟨rfl, rfl, rfl⟩ := trodAll_nil h
    exact rfl
  | t :: ts, _, _, _, ht, h, hlt => by
    obtain ⟨v, vs, d, ds, p, q, rfl, rfl, rfl, h0, hr⟩ := trodAll_cons h
    simp only [List.all_cons, Bool.and_eq_true, decide_eq_true_eq] at ht
    exact ⟨p, q, Below.trod hl ht.1.1 ht.1.2 h0 hb fun x hx => hlt x (by simp [hx]), stay_all hl hb (by simpa using ht.2) hr fun x hx => hlt x (by simp [hx]), rfl⟩

theorem law_post {H : Type} {enc : TypeId × Value → H} {P : Program} {fn : Func} {s : ChangeSpec} {tb : TypeId} {W W' : World} {args : Array Value} {ds gs : List (DataW H)} {before : List MemPlace}
    (hl : laidOutB P = true) (hts : fn.params.toList.all (fun t => P.readableRec t && decide (t < P.types.size)) = true) (hr : fn.resultTypes = #[tb]) (hb : P.underlying tb = some .bool) (hv : s.vars = [])
    (hW : DataW.Whole enc P fn.params.toList s.vars false W args.toList ds gs before) (hfn : s.fn H (ds ++ gs) = { results := [.lit (.bool true)], args := ds }) (bel : Below W.heap.size W W') :
    s.post enc P fn false true false false W args (.bool true) W' := by
  have hW' := hW
  have hlt := hW.lt
  obtain ⟨p, q, hA, hV, rfl, _, _⟩ := hW
  rw [hv] at hV
  obtain ⟨rfl, rfl⟩ := trodVars_none hV
  refine ⟨ds, [], p ++ [], [], p, [], hW', ?_, ?_, ?_, bel.frame _, fun h => by cases h⟩
  · rw [hfn, hr]; exact trodAll_mk1 (shut_bool hb _)
  · rw [hfn]; exact stay_all hl bel hts hA fun x hx => hlt x (by simpa using hx)
  · rw [hfn, hv]; rfl
theorem law_calls {H : Type} {enc : TypeId × Value → H} {P : Program} {fid : FuncId} {fn : Func} {s : ChangeSpec} {tb : TypeId} {W : World} {args : Array Value} {ds gs : List (DataW H)} {before : List MemPlace}
    (hl : laidOutB P = true) (hts : fn.params.toList.all (fun t => P.readableRec t && decide (t < P.types.size)) = true) (hr : fn.resultTypes = #[tb]) (hb : P.underlying tb = some .bool) (hv : s.vars = [])
    (hW : DataW.Whole enc P fn.params.toList s.vars false W args.toList ds gs before) (hfn : s.fn H (ds ++ gs) = { results := [.lit (.bool true)], args := ds })
    (walk : Calls P fid args W fun e W' => e = .returned (.bool true) ∧ Below W.heap.size W W') :
    Calls P fid args W fun e W' => ∃ v, e = .returned v ∧ s.post enc P fn false true false false W args v W' :=
  walk.mono fun _ _ ⟨he, hbel⟩ => ⟨_, he, law_post hl hts hr hb hv hW hfn hbel⟩

/-- a listed error variable holds an interface value -/
theorem iface_of_reads {P : Program} {W : World} {name : String} {g : Nat} {t : TypeId} {ms : Array (String × TypeId)} {d : DataW Unit} {tn : String}
    (hg : P.globalNamed name = some g) (hty : (P.globals[g]?).map (·.type) = some t) (ht : P.underlying t = some (.interface ms)) (h : Go.Lib.VarReads P W name (.iface tn d)) :
    ∃ ev, W.cell? ⟨g, 0, none⟩ = some ev ∧ (ev = .nilIface ∨ ∃ te pe, ev = .iface te pe) := by
  obtain ⟨g', t', cs, fuel, p, hg', hty', hvar, hd⟩ := h
  obtain rfl := Option.some.inj (hg.symm.trans hg')
  obtain rfl := Option.some.inj (hty.symm.trans hty')
  have hc := World.var?_cell hg hvar 0
  cases fuel with
  | zero => simp [DataW.trod] at hd
  | succ fuel =>
    unfold DataW.trod at hd
    simp only [ht] at hd
    split at hd <;> try (first | (rename_i e1 e2; cases e1; done) | (rename_i e1; cases e1; done))
    all_goals first
      | (simp at hd; done)
      | (rename_i u v hcs; exact ⟨_, by rw [hc, ← Array.getElem?_toList, hcs]; rfl, .inr ⟨_, _, rfl⟩⟩)
      | skip
theorem cell_lt {W : World} {g c : Nat} {v : Value} (h : W.cell? ⟨g, c, none⟩ = some v) : g < W.heap.size := World.block_lt_of_cell? _ _ h

end Go.Proofs.YtcjmhmmjfgjcnaaGreatDoor.Lx

/- What a row's listed variables give the walks; a start for the witness. -/
namespace Go.Proofs.YtcjmhmmjfgjcnaaGreatDoor.Lx
open Go.RowKit Go.ChangeShapes

theorem own : ownKnob Tryz.prog.godebug = none := by kernel_rfl
theorem laidOut : laidOutB Tryz.prog = true := by kernel_rfl
theorem gSyn : Tryz.prog.globalNamed "strconv.ErrSyntax" = some 5 := by kernel_rfl
theorem gRng : Tryz.prog.globalNamed "strconv.ErrRange" = some 6 := by kernel_rfl

/-- the rows' list -/
abbrev laidL := Rows.parseWritesRow.laid

theorem env_of {W : World} (hL : laidMetH Tryz.prog laidL W) (hS : W.ShapedOpen Tryz.prog) : Env W := by
  rw [MakeChecks.laidMetH_plain _ _ _ (by kernel_rfl)] at hL
  have r2 := Lib.laidMet.reads hL (.tail _ (.tail _ (.head _)))
  have r3 := Lib.laidMet.reads hL (.tail _ (.tail _ (.tail _ (.head _))))
  have r4 := Lib.laidMet.reads hL (.tail _ (.tail _ (.tail _ (.tail _ (.head _)))))
  have r5 := Lib.laidMet.reads hL (.tail _ (.tail _ (.tail _ (.tail _ (.tail _ (.head _))))))
  have r6 := Lib.laidMet.reads hL (.tail _ (.tail _ (.tail _ (.tail _ (.tail _ (.tail _ (.head _)))))))
  have syn := iface_of_reads gSyn (t := 127) (by kernel_rfl) Tryz.underlying127 r5
  have rng := iface_of_reads gRng (t := 127) (by kernel_rfl) Tryz.underlying127 r4
  have max : ∃ m, W.cell? ⟨4, 0, none⟩ = some (.int .i64 m) :=
    cell_of_shapedOpen_int (zero := #[.int .i64 0]) (t := 3) hS (of_decide_eq_true (by kernel_rfl)) (by kernel_rfl) rfl (by kernel_rfl) (by kernel_rfl) Tryz.underlying3
  have pow : Lib.TabIs Tryz.prog W "internal/strconv.uint64pow10" .u64 Lib.pow10Tab := by
    obtain ⟨g, t, cs, fuel, p, hg, hty, hvar, hd⟩ := r2
    obtain rfl := Option.some.inj (gPow.symm.trans hg)
    obtain rfl := Option.some.inj ((show (Tryz.prog.globals[3]?).map (·.type) = some 206 by kernel_rfl).symm.trans hty)
    unfold Lib.TabIs
    rw [hvar, ← Lib.cells_of_tab (zs := Lib.pow10Tab) Tryz.underlying206 Tryz.underlying106 (by kernel_rfl) (by kernel_rfl) hd]
  have utf : Lib.Utf8Tabs 0 1 W :=
    utf8Tabs_of_readsT (U8Types.of196 Tryz.laysValid) ⟨by kernel_rfl, by kernel_rfl, by kernel_rfl, by kernel_rfl, by kernel_rfl, by kernel_rfl, by kernel_rfl⟩ (by have := r6; rw [show Rows.laid_unicode_utf8_first = Lib.firstData from Pinned.utf8First_eq] at this; exact this) r3
  have hp := World.var?_cell gPow pow 0
  exact {
    syn := syn, rng := rng, max := max, pow := pow, utf := utf
    ltS := let ⟨_, h, _⟩ := syn; cell_lt h
    ltR := let ⟨_, h, _⟩ := rng; cell_lt h
    ltM := let ⟨_, h⟩ := max; cell_lt h
    ltP := cell_lt (hp.trans (by rfl))
    ltF := cell_lt (utf.1 0 (by decide))
    ltA := cell_lt (utf.2 0 (by decide)).1 }

/-- a start for the witness -/
theorem laid_met (os : Os) (args : Array Value) : laidMetH Tryz.prog laidL ((World.laidAll Tryz.prog os laidL).forCall (fun _ _ => 0) ⟨#[], args, []⟩).memory := by
  rw [MakeChecks.laidMetH_plain _ _ _ (by kernel_rfl)]
  exact laidMet_laidAll _ (by kernel_rfl) (by kernel_rfl)

theorem bulk_le {H : Type} {l : List (DataW H)} (hk : Rows.uptoSmall H l = true) : Rows.uptoBulkAll l ≤ 1048576 := by
  simpa [Rows.uptoSmall] using hk

end Go.Proofs.YtcjmhmmjfgjcnaaGreatDoor.Lx

/- The parse laws' arguments, opened: a list of steps. -/
namespace Go.Proofs.YtcjmhmmjfgjcnaaGreatDoor.Pa
open Go.RowKit Go.ChangeShapes Go.WideShapes Go.Deep Go.Proofs.YtcjmhmmjfgjcnaaGreatDoor.Lx

theorem bulk_mem {H : Type} {d : DataW H} : ∀ {l : List (DataW H)}, d ∈ l → Rows.uptoBulk d ≤ Rows.uptoBulkAll l
  | [], h => by cases h
  | x :: l, h => by
    rcases List.mem_cons.1 h with rfl | h
    · simp [Rows.uptoBulkAll]
    · have := bulk_mem h; simp only [Rows.uptoBulkAll]; omega
theorem bulk_pos {H : Type} (d : DataW H) : 1 ≤ Rows.uptoBulk d := by
  cases d with
  | lit l => cases l <;> simp [Rows.uptoBulk]
  | _ => simp [Rows.uptoBulk]
theorem bulk_len {H : Type} : ∀ (l : List (DataW H)), l.length ≤ Rows.uptoBulkAll l
  | [] => by simp
  | x :: l => by
    have h1 := bulk_len l
    have h2 := bulk_pos x
    simp only [Rows.uptoBulkAll, List.length_cons]; omega

set_option maxRecDepth 100000 in
theorem open_stp {H : Type} {enc : TypeId × Value → H} {W : World} {n : Nat} {cs : List Value} {d : DataW H} {ps : List MemPlace} (h : DataW.trod enc Tryz.prog W 0 (fun _ => true) true n 48 cs = some (d, ps)) :
    ∃ (y : Stp), (y.text.length + 4 ≤ Rows.uptoBulk d ∧ y.num ≤ 9223372036854775807) ∧ cs = [.int .u8 y.kind, .string ⟨y.text.toArray⟩, .int .i64 y.num] := by
  obtain ⟨y0, y1, y2, k, hx, hl, h0, h1, h2⟩ := trod_struct3 Tryz.underlying48 h
  rw [show Tryz.prog.cellsOf 48 = 3 by kernel_rfl] at hl
  obtain ⟨v0, v1, v2, rfl⟩ : ∃ v0 v1 v2, cs = [v0, v1, v2] := by
    match cs, hl with
    | [v0, v1, v2], _ => exact ⟨v0, v1, v2, rfl⟩
  rw [show Tryz.prog.cellsOf 46 = 1 by kernel_rfl] at h0
  rw [show Tryz.prog.cellsOf 9 = 1 by kernel_rfl] at h1
  rw [show Tryz.prog.cellsOf 2 = 1 by kernel_rfl] at h2
  obtain ⟨n0, e0, x0, w0⟩ := DataW.trod_int Tryz.underlying46 h0
  obtain ⟨s, e1, x1, w1⟩ := DataW.trod_string Tryz.underlying9 h1
  obtain ⟨n2, e2, x2, w2⟩ := DataW.trod_int Tryz.underlying2 h2
  have e0' : v0 = .int .u8 n0 := by simpa using e0
  have e1' : v1 = .string s := by simpa using e1
  have e2' : v2 = .int .i64 n2 := by simpa using e2
  simp only [Lit.wf, Bool.and_eq_true, decide_eq_true_eq] at w0 w2
  have k0 : (0 : Int) ≤ n0 := w0.1
  have k2 : n2 ≤ (9223372036854775807 : Int) := w2.2
  simp only [Prod.mk.injEq] at hx
  refine ⟨⟨n0.toNat, s.data.toList, n2⟩, ⟨?_, k2⟩, ?_⟩
  · rw [hx.1, x0, x1, x2]
    simp only [Rows.uptoBulk, Rows.uptoBulkAll]
    omega
  · rw [e0', e1', e2', Int.toNat_of_nonneg k0]

instance : Inhabited Stp := ⟨⟨0, [], 0⟩⟩

set_option maxRecDepth 100000 in
theorem open_steps1' {H : Type} {enc : TypeId × Value → H} {W : World} {fuel : Nat} {v : Value} {d : DataW H} {ps : List MemPlace} (hf : DataW.trod enc Tryz.prog W 0 (fun _ => true) true fuel 22 [v] = some (d, ps)) :
    ∃ (l : List Stp), StpsIn W v l ∧ l.length + 1 ≤ Rows.uptoBulk d ∧ ∀ y ∈ l, y.text.length + 4 ≤ Rows.uptoBulk d ∧ y.num ≤ 9223372036854775807 := by
  rcases open_slice Tryz.underlying22 hf with ⟨hc, hx⟩ | ⟨a, len, cap, mm, n, D, Pl, hc, _, hl, hm, hmm, hx, hall⟩
  · simp only [List.cons.injEq, and_true] at hc
    subst hc
    exact ⟨[], ⟨none, 0, 0, rfl, rfl, Nat.le_refl _, fun i hi => absurd hi (Nat.not_lt_zero _)⟩, bulk_pos d, by simp⟩
  · simp only [List.cons.injEq, and_true] at hc
    subst hc
    simp only [if_true] at hmm
    subst hmm
    simp only [Prod.mk.injEq] at hx
    obtain ⟨rfl, rfl⟩ := hx
    rw [show Tryz.prog.cellsOf 48 = 3 by kernel_rfl] at hall
    have each : ∀ i, i < len → ∃ y : Stp, (∃ g o, a = ⟨g, o, none⟩ ∧ StpCells W g (o + i * 3) y) ∧ y.text.length + 4 ≤ Rows.uptoBulk (D i) ∧ y.num ≤ 9223372036854775807 := fun i hi => by
      obtain ⟨cs', h1, h2⟩ := hall i (by omega)
      obtain ⟨y, hfit, rfl⟩ := open_stp h2
      obtain ⟨cs0, h01, _⟩ := hall 0 (by omega)
      obtain ⟨_, hl0, hcell0⟩ := World.cells?_some h01
      obtain ⟨_, _, hcell⟩ := World.cells?_some h1
      obtain ⟨g, o, spot⟩ := a
      have hspot : spot = none := by
        have h00 := hcell0 0 (by omega)
        rw [List.getElem?_eq_getElem (by omega)] at h00
        simpa [Addr.add] using World.cell?_spot h00
      subst hspot
      have q0 := hcell 0 (by omega)
      have q1 := hcell 1 (by omega)
      have q2 := hcell 2 (by omega)
      rw [add_add, Addr.add_lit] at q0 q1 q2
      exact ⟨y, ⟨g, o, rfl, q0, q1, q2⟩, hfit⟩
    obtain ⟨f, hf2⟩ := choose_lt each
    have hbd : ∀ i, i < len → Rows.uptoBulk (D i) ≤ Rows.uptoBulkAll ((List.range len).map D) := fun i hi => bulk_mem (List.mem_map.2 ⟨i, List.mem_range.2 hi, rfl⟩)
    have hlen := bulk_len ((List.range len).map D)
    rw [List.length_map, List.length_range] at hlen
    refine ⟨(List.range len).map f, ⟨_, len, _, rfl, by simp, hl, fun i hi => ?_⟩, ?_, fun y hy => ?_⟩
    · have hi' : i < len := by simpa using hi
      obtain ⟨⟨g, o, e, hcl⟩, _⟩ := hf2 i hi'
      refine ⟨g, o, by rw [e], ?_⟩
      simpa using hcl
    · simp only [Rows.uptoBulk, List.length_map, List.length_range]; omega
    · obtain ⟨i, hi, rfl⟩ := List.mem_map.1 hy
      have hi' := List.mem_range.1 hi
      have h1 := (hf2 i hi').2
      have h2 := hbd i hi'
      simp only [Rows.uptoBulk]
      exact ⟨by omega, h1.2⟩
set_option maxRecDepth 100000 in
theorem open_steps' {H : Type} {enc : TypeId × Value → H} {W : World} {fuel : Nat} {v : Value} {d : DataW H} {ps : List MemPlace} (hf : DataW.trod enc Tryz.prog W 0 (fun _ => true) true fuel 22 [v] = some (d, ps)) :
    ∃ (l : List Stp), StpsIn W v l ∧ l.length ≤ Rows.uptoBulk d ∧ ∀ y ∈ l, y.text.length + 4 ≤ Rows.uptoBulk d ∧ y.num ≤ 9223372036854775807 := by
  obtain ⟨l, h1, h2, h3⟩ := open_steps1' hf
  exact ⟨l, h1, by omega, h3⟩
set_option maxRecDepth 100000 in
theorem open_steps {H : Type} {enc : TypeId × Value → H} {W : World} {b0 : Nat} {v : Value} {d : DataW H} {ps : List MemPlace} (hv : Value.okWide Tryz.prog W .any b0 22 v)
    (h : DataW.Trod enc Tryz.prog W 0 (fun _ => true) true 22 v d ps) :
    ∃ (l : List Stp), StpsIn W v l ∧ l.length ≤ Rows.uptoBulk d ∧ ∀ y ∈ l, y.text.length + 4 ≤ Rows.uptoBulk d ∧ y.num ≤ 9223372036854775807 := by
  obtain ⟨a0, n0, c0, rfl⟩ := okWide_slice Tryz.underlying22 hv
  obtain ⟨fuel, hf⟩ := h
  exact open_steps' hf
end Go.Proofs.YtcjmhmmjfgjcnaaGreatDoor.Pa

/- A step that came in. -/
namespace Go.Proofs.YtcjmhmmjfgjcnaaGreatDoor.Rf
open Go.RowKit Go.ChangeShapes Go.WideShapes Go.Deep Go.Proofs.YtcjmhmmjfgjcnaaGreatDoor.Lx Go.Proofs.YtcjmhmmjfgjcnaaGreatDoor.Pa

set_option maxRecDepth 100000 in
theorem open_step {H : Type} {enc : TypeId × Value → H} {W : World} {b0 : Nat} {v : Value} {d : DataW H} {ps : List MemPlace} (hv : Value.okWide Tryz.prog W .any b0 48 v)
    (h : DataW.Trod enc Tryz.prog W 0 (fun _ => true) true 48 v d ps) : ∃ (y : Stp), v = y.val ∧ y.text.length + 4 ≤ Rows.uptoBulk d ∧ y.num ≤ 9223372036854775807 := by
  obtain ⟨cs, rfl, hsz⟩ := okWide_struct Tryz.underlying48 hv
  obtain ⟨fuel, hf⟩ := h
  have hf' : DataW.trod enc Tryz.prog W 0 (fun _ => true) true fuel 48 cs.toList = some (d, ps) := hf
  obtain ⟨y, hb, hc⟩ := open_stp hf'
  refine ⟨y, ?_, hb⟩
  have : cs = #[.int .u8 y.kind, .string ⟨y.text.toArray⟩, .int .i64 y.num] := by
    apply Array.ext'
    rw [hc]
  rw [this]
  rfl

end Go.Proofs.YtcjmhmmjfgjcnaaGreatDoor.Rf
