/- Parts: PgF PgG PhA PhB PhC. -/
import Derived.Test.YtcjmhmmjfgjcnaaGreatDoorMh01
import Derived.Test.YtcjmhmmjfgjcnaaGreatDoorMh02
import Derived.Test.YtcjmhmmjfgjcnaaGreatDoorMh03
import Derived.Test.YtcjmhmmjfgjcnaaGreatDoorMh11
import Derived.Test.YtcjmhmmjfgjcnaaGreatDoorMh12
import Derived.Laws.OwnMore
import Derived.Laws.MakeOwn
import Derived.Maps.AppendAt
import Derived.Deep.DeepMust
import Derived.Lib.Builder
import Derived.Lib.Walk
import Derived.WalkKit
import Derived.Laws.Externs

/- sha: End. -/
namespace Go.Proofs.YtcjmhmmjfgjcnaaGreatDoor.Sh
open Go.RowKit Go.Proofs.YtcjmhmmjfgjcnaaGreatDoor.Lx Go.Proofs.YtcjmhmmjfgjcnaaGreatDoor.Rf

section
variable {ops : Array Oper} {rest : List Oper} {o : Oper} {a : Act} {Q : Exit → Act → World → Prop}
theorem wpList_pad {W : World} (hgd : o.guard = none) (l c : Operand) (ho : o.op = .makeSlice 104 l c) (w : World) (m : Nat) (hm : m < 64) (hl : a.eval l = .int .i64 (1 + (m : Int))) (hc : a.eval c = .int .i64 128) (hb : Below w.heap.size w W)
    (h : ∀ W', Hid (ByT w W' (.slice (some ⟨W.heap.size, 0, none⟩) (m + 1) 128) (List.replicate (m + 1) 0)) → wpList Tryz.prog ops Q rest (a.put o.dst (.slice (some ⟨W.heap.size, 0, none⟩) (m + 1) 128)) W') :
    wpList Tryz.prog ops Q (o :: rest) a W := by
  obtain ⟨i0, hi0, hz0, hz1, hz2⟩ := info_parts u8InfoR
  refine wpList_plain hgd fun K hK => ?_
  have hrun := run_makeSlice (P := Tryz.prog) W 104 5 i0 _ Tryz.underlying104 hi0 hz0 .i64 .i64 (1 + (m : Int)) 128 (by omega) (by omega) (by rw [hz1]; decide) (by rw [hz2]; decide) (by decide)
  unfold Oper.wp execOp
  simp only [ho, hl, hc, hrun, Sem.run_bind, Sem.run_pure, Result.andThen_ok]
  rw [show (1 + (m : Int)).toNat = m + 1 by omega]
  refine hK _ _ (h _ (Lib.hid ⟨⟨⟨?_, ?_⟩, rStep hb (rAlloc W _)⟩⟩))
  · simp [bytesR]
  · refine .inr ⟨W.heap.size, 128, _, ?_, hb.size, heap_alloc_new W _, by simp; omega, by unfold maxLen; omega, ?_, ?_⟩
    · simp
    · rw [hz1]; simp [madeCells]
    · rw [hz1]
      show List.take _ (madeCells #[Value.int .u8 0] 128).toList = _
      rw [toList_madeCells_one, List.take_replicate]
      simp [bytesR]
      omega
end

def padF (N m j : Nat) : List UInt8 := 128 :: (List.replicate m (0 : UInt8) ++ (List.range j).map fun i => UInt8.ofNat ((8 * N) >>> (56 - 8 * i)))
theorem padF_len (N m j : Nat) : (padF N m j).length = m + 1 + j := by simp [padF]; omega
theorem padF_more (N m j : Nat) : padF N m (j + 1) = padF N m j ++ [UInt8.ofNat ((8 * N) >>> (56 - 8 * j))] := by
  simp [padF, List.range_succ]
theorem pad_first {w W : World} {g m c : Nat} (h : ByT w W (.slice (some ⟨g, 0, none⟩) (m + 1) c) (List.replicate (m + 1) 0)) (N : Nat) (hg : w.heap.size ≤ g) : ByT w (W.setCell ⟨g, 0, none⟩ (.int .u8 128)) (.slice (some ⟨g, 0, none⟩) (m + 1) c) (padF N m 0) := by
  have h1 := h.row.own
  rw [List.length_replicate] at h1
  refine ⟨⟨?_, h.row.bel.setCell hg _⟩⟩
  rw [padF_len]
  have h2 := (World.ownsRow.stored h1 0 (.int .u8 128)).1
  have e : (bytesR (List.replicate (m + 1) 0)).set 0 (.int .u8 128) = bytesR (padF N m 0) := by
    simp [padF, bytesR, List.replicate_succ]
  rw [← e]
  exact h2

def outF (h : List Nat) (k : Nat) : List UInt8 := (List.range 32).map fun i => if i < k then UInt8.ofNat (h.getD (i / 4) 0 >>> (24 - 8 * (i % 4))) else 0
theorem outF_len (h : List Nat) (k : Nat) : (outF h k).length = 32 := by simp [outF]
theorem outF_all (h : List Nat) : outF h 32 = out h := by
  unfold outF out
  apply List.map_congr_left
  intro i hi
  rw [if_pos (List.mem_range.1 hi)]
theorem outF_set (h : List Nat) (k : Nat) : (outF h k).set k (UInt8.ofNat (h.getD (k / 4) 0 >>> (24 - 8 * (k % 4)))) = outF h (k + 1) := by
  apply List.ext_getElem
  · simp [outF]
  · intro i h1 h2
    simp only [outF, List.length_set, List.length_map, List.length_range] at h1
    rw [List.getElem_set]
    simp only [outF, List.getElem_map, List.getElem_range]
    by_cases e : k = i
    · subst e; simp
    · rw [if_neg e]
      by_cases h3 : i < k
      · rw [if_pos h3, if_pos (by omega)]
      · rw [if_neg h3, if_neg (by omega)]
def ArrB (w : World) (b : Nat) (l : List UInt8) (T : TypeId) : Prop := w.heap[b]? = some (.cells (bytesR l).toArray T (0, 0))
theorem ArrB.get {w : World} {b : Nat} {l : List UInt8} {T : TypeId} (h : ArrB w b l T) {i : Nat} (hi : i < l.length) : w.cell? ⟨b, i, none⟩ = some (.int .u8 l[i].toNat) := by
  unfold ArrB at h
  simp [World.cell?, h, bytesR, hi]
theorem ArrB.frozen {w : World} {b : Nat} {l : List UInt8} {T : TypeId} (h : ArrB w b l T) (i : Nat) : w.frozen? ⟨b, i, none⟩ = false := by
  unfold ArrB at h
  simp [World.frozen?, h]
theorem ArrB.set {w : World} {b : Nat} {l : List UInt8} {T : TypeId} (h : ArrB w b l T) (i : Nat) (v : UInt8) : ArrB (w.setCell ⟨b, i, none⟩ (.int .u8 v.toNat)) b (l.set i v) T := by
  unfold ArrB at h ⊢
  have hset : (bytesR l).set i (.int .u8 v.toNat) = bytesR (l.set i v) := by simp [bytesR, List.map_set]
  simp only [World.setCell, Array.getElem?_modify, h, if_true, Option.map_some, ← hset, List.setIfInBounds_toArray, Option.isSome_none, Bool.false_eq_true, if_false]
theorem ten_set {W : World} {B : Nat} {T : TypeId} {a b c d e f g h i j a' b' c' d' e' f' g' h' i' j' : Value} (hb : W.heap[B]? = some (.cells #[a, b, c, d, e, f, g, h, i, j] T)) :
    ((((((((((W.setCell ⟨B, 0, none⟩ a').setCell ⟨B, 1, none⟩ b').setCell ⟨B, 2, none⟩ c').setCell ⟨B, 3, none⟩ d').setCell ⟨B, 4, none⟩ e').setCell ⟨B, 5, none⟩ f').setCell ⟨B, 6, none⟩ g').setCell ⟨B, 7, none⟩ h').setCell ⟨B, 8, none⟩ i').setCell ⟨B, 9, none⟩ j').heap[B]? =
      some (.cells #[a', b', c', d', e', f', g', h', i', j'] T) := by
  simp [World.setCell, Array.getElem?_modify, hb]
theorem blocks_len : ∀ (n : Nat) (h : List Nat) (s : List UInt8), h.length = 8 → (blocks n h s).1.length = 8
  | 0, _, _, h => h
  | n + 1, h, s, hl => by
    unfold blocks
    split
    · exact blocks_len n _ _ (block_len _ hl)
    · exact hl
theorem blocks_lt : ∀ (n : Nat) (h : List Nat) (s : List UInt8), (∀ a ∈ h, a < M) → ∀ a ∈ (blocks n h s).1, a < M
  | 0, _, _, h => h
  | n + 1, h, s, hl => by
    unfold blocks
    split
    · exact blocks_lt n _ _ block_lt
    · exact hl
structure OutM (w wr : World) (Bo : Nat) (h : List Nat) (x y : Value) (k : Nat) : Prop where
  bel : Below w.heap.size w wr
  sha : Arr wr w.heap.size h [x, y] 135
  out : ArrB wr Bo (outF h k) 170
theorem OutM.next {w wr : World} {Bo : Nat} {h : List Nat} {x y : Value} {k : Nat} (H : OutM w wr Bo h x y k) (hB : w.heap.size < Bo) (b : UInt8) (hb : b = UInt8.ofNat (h.getD (k / 4) 0 >>> (24 - 8 * (k % 4)))) : OutM w (wr.setCell ⟨Bo, k, none⟩ (.int .u8 b.toNat)) Bo h x y (k + 1) := by
  refine ⟨H.bel.setCell (Nat.le_of_lt hB) _, H.sha.other (Below.heap_setCell _ _ _ _ (by simp; omega)), ?_⟩
  rw [← outF_set, ← hb]
  exact H.out.set k b

set_option maxHeartbeats 4000000 in
set_option maxRecDepth 100000 in
theorem End_calls (w : World) (hc : KC w) (x : Sha) (hx : x.h.length = 8) (hlt : ∀ a ∈ x.h, a < M) (hn : x.n < 1152921504606000000) (hr : x.rest.length = x.n % 64) :
    Calls Tryz.prog 79 #[shaV x.h x.n ⟨x.rest.toArray⟩] w fun e w' => e = .returned (.tuple #[.string ⟨(endD x).toArray⟩, .int .i64 0]) ∧ Below w.heap.size w w' := by
  have HM := Lib.hid (fun (w2 : World) (hb : Below w.heap.size w w2) (s : ByteArray) (h : s.size ≤ 128) => more_calls w2 (hc.below hb) x hx hlt s (by omega) (by rw [hr]; omega))
  obtain ⟨h, N, rest⟩ := x
  simp only at hx hlt hn hr
  obtain ⟨a0, a1, a2, a3, a4, a5, a6, a7, rfl⟩ : ∃ a0 a1 a2 a3 a4 a5 a6 a7, h = [a0, a1, a2, a3, a4, a5, a6, a7] := by
    match h, hx with
    | [a0, a1, a2, a3, a4, a5, a6, a7], _ => exact ⟨_, _, _, _, _, _, _, _, rfl⟩
  have Hrt := Lib.hid (fun (w2 : World) => right_calls w2 a0 a1 a2 a3 a4 a5 a6 a7 N ⟨rest.toArray⟩ (by omega) (by rw [size_mk]; omega) (by rw [size_mk]; exact hr.symm))
  have Hblk := Lib.hid (heap_alloc_new w (.cells #[.int .u32 a0, .int .u32 a1, .int .u32 a2, .int .u32 a3, .int .u32 a4, .int .u32 a5, .int .u32 a6, .int .u32 a7, .int .u64 N, .string ⟨rest.toArray⟩] 135))
  have hr64 : rest.length < 64 := by omega
  have Hr := Lib.hid hr
  obtain ⟨m, hm⟩ : ∃ m, m = (119 - rest.length) % 64 := ⟨_, rfl⟩
  have hm64 : m < 64 := by omega
  have z0 : ((119 : Int) - (rest.length : Int)) % 64 = (m : Int) := by omega
  have Hm := Bx.mk hm
  clear hm
  clear hr
  show Calls Tryz.prog 79 #[.agg #[.int .u32 a0, .int .u32 a1, .int .u32 a2, .int .u32 a3, .int .u32 a4, .int .u32 a5, .int .u32 a6, .int .u32 a7, .int .u64 N, .string ⟨rest.toArray⟩]] w _
  go_enter Tryz.func79, Tryz.ntmps79
  go_wp2_with fail
  refine (Hrt.out _).mono ?_
  rintro e w2 ⟨rfl, hb2⟩
  obtain ⟨w1, hw1⟩ : ∃ w1, w1 = w.alloc (.cells #[.int .u32 a0, .int .u32 a1, .int .u32 a2, .int .u32 a3, .int .u32 a4, .int .u32 a5, .int .u32 a6, .int .u32 a7, .int .u64 N, .string ⟨rest.toArray⟩] 135) := ⟨_, rfl⟩
  have Hsz := Bx.mk (show w1.heap.size = w.heap.size + 1 by rw [hw1]; simp)
  rw [← hw1] at hb2 Hblk
  have Hb1 := Bx.mk (show Below w.heap.size w w1 by rw [hw1]; exact alloc_below _ _)
  have HX := Lib.hid (fun (W : World) (hb : Below w1.heap.size w1 W) => ten ((hb.block w.heap.size (by rw [Hsz.out]; omega)).trans Hblk.out))
  clear hw1
  obtain ⟨⟨k0, k1, k2, k3, k4, k5, k6, k7, k8, k9⟩, -⟩ := HX.out w2 hb2
  have Hb2 := Lib.hid hb2
  clear hb2
  go_wp2_with (first | (refine wpList_pad rfl _ _ rfl w1 m hm64 rfl rfl Hb2.out ?_; intro W3 H3; have o3 := H3.out.row.own; rw [List.length_replicate] at o3; have q3 := World.ownsRow.cellAt o3 0 (by omega); have f3 := World.ownsRow.frozenAt o3 0; rw [show bytesR (List.replicate (m + 1) 0) = Value.int .u8 0 :: bytesR (List.replicate m 0) from rfl] at q3; simp only [List.getElem?_cons_zero] at q3; have Hy3 := Lib.hid H3.out; clear o3 H3))
  have Hp0 := Lib.hid (pad_first Hy3.out N Hb2.out.size)
  have hN8 : (8 * (N : Int)) % 18446744073709551616 = 8 * (N : Int) := by omega
  clear Hy3 q3 f3 k0 k1 k2 k3 k4 k5 k6 k7 k8 k9 z0
  go_loopw [4, 5] (fun s4 s5 wr => ∃ (j n c : Nat) (a : Option Addr), j ≤ 8 ∧ s5 = .int .i64 (56 - 8 * (j : Int)) ∧ s4 = .slice a n c ∧ Hid (n = m + 1 + j) ∧ Hid (ByT w1 wr (.slice a n c) (padF N m j))) (fun _ s5 _ => (intOf s5 + 64).toNat)
  case atStart => exact ⟨0, m + 1, 128, _, by omega, rfl, rfl, Lib.hid rfl, Hp0⟩
  case round =>
    obtain ⟨j, n, c, a, hj, rfl, rfl, hnn, P⟩ := hrel
    clear Hp0
    obtain ⟨⟨k0, k1, k2, k3, k4, k5, k6, k7, k8, k9⟩, f0, f1, f2, f3, f4, f5, f6, f7, f8, f9⟩ := HX.out wr P.out.row.bel
    by_cases hj8 : j < 8
    · have hjj : j = 0 ∨ j = 1 ∨ j = 2 ∨ j = 3 ∨ j = 4 ∨ j = 5 ∨ j = 6 ∨ j = 7 := by omega
      have Hnx0 := padF_more N m j
      obtain ⟨b, hb⟩ : ∃ b, b = UInt8.ofNat ((8 * N) >>> (56 - 8 * j)) := ⟨_, rfl⟩
      rw [← hb] at Hnx0
      have Hnx := Lib.hid Hnx0
      have Hbv := Bx.mk hb
      clear Hnx0 hb
      have Hln := Lib.hid (padF_len N m j)
      clear k0 k1 k2 k3 k4 k5 k6 k7 k9 f0 f1 f2 f3 f4 f5 f6 f7 f8 f9
      rcases hjj with rfl | rfl | rfl | rfl | rfl | rfl | rfl | rfl
      all_goals
        go_wp2_with (at_builtin; go_must (refine wpList_byte rfl _ _ rfl w1 (.slice a n c) _ rfl wr.heap.size rfl _ b (by rw [Hbv.out, UInt8.toNat_ofNat', Nat.shiftRight_eq_div_pow]; simp only [Nat.reduceMul, Nat.reduceSub, Nat.reducePow]; omega) P.out rfl (by rw [Hln.out]; omega) ?_); intro a7 n7 c7 w7 hn7 h7; rw [Hln.out] at hn7; have Hn7 := Lib.hid hn7.out; have H7 := Lib.hid h7; clear hn7 h7)
        go_roundw
        case rel => exact ⟨_, n7, c7, a7, Nat.lt_of_lt_of_le (Nat.lt_succ_self _) hj8, by go_num, rfl, Lib.hid (by rw [Hn7.out]), Lib.hid (by rw [Hnx.out]; exact H7.out)⟩
        case measure => simp [intOf]
    · have hj8' : j = 8 := by omega
      subst hj8'
      have hcv := P.out.back
      have Hm2 := Lib.hid (HM.out wr (Hb1.out.trans (P.out.row.bel.mono (by rw [Hsz.out]; omega))) ⟨(padF N m 8).toArray⟩ (by rw [size_mk, padF_len]; omega))
      have hXl : (more ⟨[a0, a1, a2, a3, a4, a5, a6, a7], N, rest⟩ (padF N m 8)).h.length = 8 := blocks_len _ _ _ rfl
      have HD := Bx.mk (show endD ⟨[a0, a1, a2, a3, a4, a5, a6, a7], N, rest⟩ = out (more ⟨[a0, a1, a2, a3, a4, a5, a6, a7], N, rest⟩ (padF N m 8)).h by rw [Hm.out]; rfl)
      rw [L_mk] at Hm2
      generalize more ⟨[a0, a1, a2, a3, a4, a5, a6, a7], N, rest⟩ (padF N m 8) = X at *
      obtain ⟨Xh, Xn, Xr⟩ := X
      obtain ⟨c0, c1, c2, c3, c4, c5, c6, c7, rfl⟩ : ∃ c0 c1 c2 c3 c4 c5 c6 c7, Xh = [c0, c1, c2, c3, c4, c5, c6, c7] := by
        match Xh, hXl with
        | [c0, c1, c2, c3, c4, c5, c6, c7], _ => exact ⟨_, _, _, _, _, _, _, _, rfl⟩
      have Hm3 := Lib.hid (show Calls Tryz.prog 80 #[.agg #[.int .u32 a0, .int .u32 a1, .int .u32 a2, .int .u32 a3, .int .u32 a4, .int .u32 a5, .int .u32 a6, .int .u32 a7, .int .u64 N, .string ⟨rest.toArray⟩], .string ⟨(padF N m 8).toArray⟩] wr
        fun e w' => e = .returned (.agg #[.int .u32 c0, .int .u32 c1, .int .u32 c2, .int .u32 c3, .int .u32 c4, .int .u32 c5, .int .u32 c6, .int .u32 c7, .int .u64 Xn, .string ⟨Xr.toArray⟩]) ∧ Below wr.heap.size wr w' from Hm2.out)
      clear Hm2 hXl
      clear hnn
      go_wp2_with fail
      refine Hm3.out.mono ?_
      rintro e w5 ⟨rfl, hb5⟩
      have Hb5 := Lib.hid (P.out.row.bel.trans (hb5.mono P.out.row.bel.size))
      have hbl5 := (Hb5.out.block w.heap.size (by rw [Hsz.out]; omega)).trans Hblk.out
      have Hset := Lib.hid (@ten_set w5 w.heap.size 135 _ _ _ _ _ _ _ _ _ _ (.int .u32 c0) (.int .u32 c1) (.int .u32 c2) (.int .u32 c3) (.int .u32 c4) (.int .u32 c5) (.int .u32 c6) (.int .u32 c7) (.int .u64 Xn) (.string ⟨Xr.toArray⟩) hbl5)
      clear k0 k1 k2 k3 k4 k5 k6 k7 k8 k9 f0 f1 f2 f3 f4 f5 f6 f7 f8 f9
      obtain ⟨⟨k0, k1, k2, k3, k4, k5, k6, k7, k8, k9⟩, f0, f1, f2, f3, f4, f5, f6, f7, f8, f9⟩ := ten hbl5
      have Hb5w := Lib.hid (Hb1.out.trans (Hb5.out.mono (by rw [Hsz.out]; omega)))
      have hB5 : w.heap.size < w5.heap.size := by have := Hb5.out.size; have := Hsz.out; omega
      clear hb5 hbl5 hcv
      go_wp2_with fail
      clear k0 k1 k2 k3 k4 k5 k6 k7 k8 k9 f0 f1 f2 f3 f4 f5 f6 f7 f8 f9 hN8
      go_loopw [7, 37] (fun s7 i wr => ∃ (k : Nat), k ≤ 32 ∧ i = .int .i64 k ∧ Hid (OutM w wr w5.heap.size [c0, c1, c2, c3, c4, c5, c6, c7] (.int .u64 Xn) (.string ⟨Xr.toArray⟩) k)) (fun _ i _ => 32 - (intOf i).toNat)
      case atStart =>
        refine ⟨0, Nat.zero_le _, rfl, ⟨?_, ?_, ?_⟩⟩
        · refine Below.alloc ?_ (by simp; omega) _
          iterate 10 (refine Below.setCell ?_ (show w.heap.size ≤ _ from Nat.le_refl _) _)
          exact Hb5w.out
        · exact (Below.heap_alloc _ _ _ (by simp; omega)).trans Hset.out
        · refine (show ∀ W : World, W.heap.size = w5.heap.size → ArrB (W.alloc (.cells _ 170)) w5.heap.size _ _ from fun W hW => by rw [← hW]; exact heap_alloc_new W _) _ (by simp)
      case round =>
        obtain ⟨k, hk, rfl, P⟩ := hrel
        by_cases hk32 : k < 32
        · have hout := P.out.out
          have hkl : k < (outF [c0, c1, c2, c3, c4, c5, c6, c7] k).length := by rw [outF_len]; exact hk32
          obtain ⟨z, q⟩ : ∃ z, wr.cell? ⟨w5.heap.size, k, none⟩ = some z := ⟨_, hout.get hkl⟩
          have qf := hout.frozen k
          obtain ⟨d, hd⟩ : ∃ d, d = k / 4 := ⟨_, rfl⟩
          obtain ⟨r, hr⟩ : ∃ r, r = k % 4 := ⟨_, rfl⟩
          have hd8 : d < 8 := by omega
          obtain ⟨v, hv⟩ : ∃ v, [c0, c1, c2, c3, c4, c5, c6, c7][d]? = some v := ⟨_, List.getElem?_eq_getElem hd8⟩
          have qv := P.out.sha.get hv
          have z0 : (k : Int) < 32 := by omega
          have z1 : (k : Int) / 4 = (d : Int) := by omega
          have z3 : (k : Int) % 4 = (r : Int) := by omega
          have z4 : (d : Int) < 8 := by omega
          have hr4 : r = 0 ∨ r = 1 ∨ r = 2 ∨ r = 3 := by omega
          have Hv := Bx.mk (show [c0, c1, c2, c3, c4, c5, c6, c7].getD (k / 4) 0 = v by rw [← hd, List.getD_eq_getElem?_getD, hv]; rfl)
          have Hr := Bx.mk hr
          clear hv hout hkl hr hd
          rcases hr4 with rfl | rfl | rfl | rfl
          all_goals
            go_wp2_with fail
            refine ⟨⟨k + 1, by omega, by simp, ?_⟩, by simp [intOf]; omega⟩
            have e := P.out.next hB5 (UInt8.ofNat ([c0, c1, c2, c3, c4, c5, c6, c7].getD (k / 4) 0 >>> (24 - 8 * (k % 4)))) rfl
            rw [Hv.out, ← Hr.out, UInt8.toNat_ofNat', Nat.shiftRight_eq_div_pow] at e
            simp only [Nat.reduceMul, Nat.reduceSub, Nat.reducePow, Nat.div_one, Nat.sub_zero, Nat.mul_zero] at e
            exact e
        · have hk' : k = 32 := by omega
          subst hk'
          have hat : BytesAt wr w5.heap.size (outF [c0, c1, c2, c3, c4, c5, c6, c7] 32) := fun j hj => ⟨P.out.out.get hj, P.out.out.frozen j⟩
          have hcv := conv_string Tryz.prog 104 9 5 Tryz.underlying104 Tryz.underlying9 Tryz.underlying5 wr w5.heap.size 32 32 _ (outF_len _ _) hat
          rw [outF_all] at hcv
          have Hbel := Lib.hid P.out.bel
          clear hat P
          go_wp2_with fail
          go_ret2
          exact ⟨by rw [HD.out]; rfl, Hbel.out⟩

end Go.Proofs.YtcjmhmmjfgjcnaaGreatDoor.Sh

/- sha: Start, Sum. -/
namespace Go.Proofs.YtcjmhmmjfgjcnaaGreatDoor.Sh
open Go.RowKit Go.Proofs.YtcjmhmmjfgjcnaaGreatDoor.Lx

set_option maxHeartbeats 1000000 in
set_option maxRecDepth 100000 in
theorem Start_calls (w : World) : Calls Tryz.prog 81 #[] w fun e w' => e = .returned (shaV h0 0 ⟨#[]⟩) ∧ Below w.heap.size w w' := by
  go_enter Tryz.func81, Tryz.ntmps81
  go_wp2_with fail
  refine bodyPost_ret (v := .agg #[.int .u32 1779033703, .int .u32 3144134277, .int .u32 1013904242, .int .u32 2773480762, .int .u32 1359893119, .int .u32 2600822924, .int .u32 528734635, .int .u32 1541459225, .int .u64 0, .string ⟨#[]⟩]) (by simp [results, Tryz.results81, go_sem]) rfl ⟨rfl, ?_⟩
  exact alloc_below _ _
theorem h0_lt : ∀ a ∈ h0, a < M := by decide +kernel
theorem more_rest (s : List UInt8) : (more start s).rest.length = (more start s).n % 64 ∧ (more start s).n = s.length := by
  have hb : ∀ (n : Nat) (h : List Nat) (r : List UInt8), r.length < 64 * (n + 1) → (blocks n h r).2.length = r.length % 64 := by
    intro n
    induction n with
    | zero => intro h r hr; unfold blocks; simp only; omega
    | succ n ih =>
      intro h r hr
      unfold blocks
      split
      · rw [ih _ _ (by rw [List.length_drop]; omega), List.length_drop]; omega
      · simp only; omega
  unfold more start
  simp only [List.nil_append, Nat.zero_add]
  exact ⟨hb _ _ _ (by omega), trivial⟩

set_option maxHeartbeats 1000000 in
set_option maxRecDepth 100000 in
theorem Sum_calls (s : ByteArray) (w : World) (hs : s.size ≤ 1099511627776) (hc : KC w) : Calls Tryz.prog 39 #[.string s] w fun e w' => e = .returned (.string ⟨(sum (L s)).toArray⟩) ∧ Below w.heap.size w w' := by
  have Hst := Lib.hid (Start_calls w)
  have Hmo := Lib.hid (fun w2 (hb : Below w.heap.size w w2) => more_calls w2 (hc.below hb) start rfl h0_lt s (by show 0 + s.size < _; omega) (by show 0 + s.size ≤ _; omega))
  have hr := more_rest (L s)
  have Hen := Lib.hid (fun w2 (hb : Below w.heap.size w w2) => End_calls w2 (hc.below hb) (more start (L s)) (blocks_len _ _ _ rfl) (blocks_lt _ _ _ h0_lt) (by rw [hr.2, L_length]; omega) hr.1)
  have HS := Bx.mk (show sum (L s) = endD (more start (L s)) from rfl)
  clear hc hr
  go_enter Tryz.func39, Tryz.ntmps39
  go_wp2_with fail
  refine Hst.out.mono ?_
  rintro e w2 ⟨rfl, hb2⟩
  have Hb2 := Lib.hid hb2
  clear hb2
  go_wp2_with fail
  refine (Hmo.out _ Hb2.out).mono ?_
  rintro e w3 ⟨rfl, hb3⟩
  have Hb3 := Lib.hid (Hb2.out.trans (hb3.mono Hb2.out.size))
  clear hb3
  go_wp2_with fail
  refine (Hen.out _ Hb3.out).mono ?_
  rintro e w4 ⟨rfl, hb4⟩
  have Hb4 := Lib.hid (Hb3.out.trans (hb4.mono Hb3.out.size))
  clear hb4
  go_wp2_with fail
  go_ret
  exact ⟨by rw [HS.out]; rfl, Hb4.out⟩

end Go.Proofs.YtcjmhmmjfgjcnaaGreatDoor.Sh

/- strings.Builder: copyCheck, WriteByte (the dump's copyCheck is another than the shelf's). -/
namespace Go.Proofs.YtcjmhmmjfgjcnaaGreatDoor.Sh
open Go.RowKit Go.Proofs.YtcjmhmmjfgjcnaaGreatDoor.Lx

theorem rowForm {w : World} {base n : Nat} {e : TypeId} {size : Nat} {v : Value} {xs : List Value} (h : w.ownsRow base e size v n xs) : ∃ a c, v = .slice a n c := by
  rcases h.2 with ⟨rfl, rfl⟩ | ⟨g, cap, cur, rfl, _⟩
  · exact ⟨_, _, rfl⟩
  · exact ⟨_, _, rfl⟩
theorem bldSize : ∃ j, Tryz.prog.info? 125 = some j ∧ j.size = 2 := Option.map_eq_some_iff.1 (show (Tryz.prog.info? 125).map (·.size) = some 2 by kernel_rfl)

set_option maxHeartbeats 1000000 in
set_option maxRecDepth 100000 in
theorem copyCheck_used (b : Nat) (w : World) (h0 : w.cell? ⟨b, 0, none⟩ = some (.pointer (some ⟨b, 0, none⟩))) :
    Calls Tryz.prog 122 #[.pointer (some ⟨b, 0, none⟩)] w fun e w' => e = .returned (.tuple #[]) ∧ w' = w := by
  obtain ⟨j, hj, _⟩ := bldSize
  go_enter Tryz.func122, Tryz.ntmps122
  go_wp2_with fail
  rw [Lib.run_neq_ptr_same w _ Tryz.underlying123 hj]
  go_wp2_with fail
  go_end0
  exact ⟨rfl, rfl⟩
set_option maxHeartbeats 1000000 in
set_option maxRecDepth 100000 in
theorem copyCheck_fresh (b : Nat) (w : World) (h0 : w.cell? ⟨b, 0, none⟩ = some (.pointer none)) (hsh : w.shape? b = some (125, 2)) (hfz : w.frozen? ⟨b, 0, none⟩ = false) :
    Calls Tryz.prog 122 #[.pointer (some ⟨b, 0, none⟩)] w fun e w' => e = .returned (.tuple #[]) ∧ w' = w.setCell ⟨b, 0, none⟩ (.pointer (some ⟨b, 0, none⟩)) := by
  obtain ⟨j, hj, hjs⟩ := bldSize
  go_enter Tryz.func122, Tryz.ntmps122
  go_wp2_with fail
  rw [Lib.run_to_unsafe w ⟨b, 0, none⟩ Tryz.underlying123 Tryz.underlying195 hj (by rw [hjs]; decide) hsh (Nat.zero_lt_succ 1)]
  simp only [Result.andThen]
  rw [Oper.upon_value]
  go_wp2_with fail
  rw [run_callFunc_extern Tryz.func146 (by kernel_rfl) (by kernel_rfl) (by kernel_rfl) (e := Extern.AbiNoEscape.same) (by kernel_rfl)]
  rw [Lib.run_noEscape]
  simp only [Result.andThen]
  rw [Oper.upon_value]
  go_wp2_with fail
  rw [Lib.run_from_unsafe w ⟨b, 0, none⟩ Tryz.underlying195 Tryz.underlying123 hj hsh (by kernel_rfl)]
  simp only [Result.andThen]
  rw [Oper.upon_value]
  go_wp2_with fail
  go_end0
  exact ⟨rfl, rfl⟩
theorem copyCheck_calls (B b : Nat) (bs : List Value) (w : World) (h : Lib.IsBuilder 125 5 B b bs w) :
    Calls Tryz.prog 122 #[.pointer (some ⟨b, 0, none⟩)] w fun e w' => e = .returned (.tuple #[]) ∧ Lib.BuilderAt 125 5 B b (.pointer (some ⟨b, 0, none⟩)) bs w' ∧ Below B w w' := by
  rcases h with h | h
  · refine (copyCheck_fresh b w h.cell0 h.shape h.frozen0).mono ?_
    rintro e w' ⟨rfl, rfl⟩
    exact ⟨rfl, h.used _, (Below.refl B w).setCell (p := ⟨b, 0, none⟩) h.1 _⟩
  · refine (copyCheck_used b w h.cell0).mono ?_
    rintro e w' ⟨rfl, rfl⟩
    exact ⟨rfl, h, Below.refl B _⟩

set_option maxHeartbeats 1000000 in
set_option maxRecDepth 100000 in
theorem WriteByte_calls (B b : Nat) (l : List UInt8) (c : UInt8) (w : World) (h : Lib.IsBuilder 125 5 B b (Lib.byteCells l) w) (hB : B ≤ w.heap.size) (hl : l.length ≤ 1000000000) :
    Calls Tryz.prog 77 #[.pointer (some ⟨b, 0, none⟩), .int .u8 c.toNat] w fun e w' => (∃ v, e = .returned v) ∧ Lib.IsBuilder 125 5 B b (Lib.byteCells (l ++ [c])) w' ∧ Below B w w' := by
  have Hcc := Lib.hid (copyCheck_calls B b _ w h)
  have hB' := hB
  clear h
  go_enter Tryz.func77, Tryz.ntmps77
  go_wp2_with fail
  refine Hcc.out.mono ?_
  rintro e w2 ⟨rfl, hb2, hbel2⟩
  obtain ⟨hBb, v, hv, hown, hne⟩ := id hb2
  have q0 := Lib.cell_of_heap hv 1
  have f0 := Lib.frozen_of_heap hv 1
  simp only [List.getElem?_toArray, List.getElem?_cons_succ, List.getElem?_cons_zero] at q0
  have Hv := Lib.hid hv
  have Hown := Lib.hid hown
  have Hne := Lib.hid hne
  have Hbel := Lib.hid hbel2
  have hlen : (Lib.byteCells l).length = l.length := by simp [Lib.byteCells]
  obtain ⟨a1, n1, c1, rfl⟩ : ∃ a1 n1 c1, v = .slice a1 n1 c1 := by
    rcases hown.2 with ⟨rfl, _⟩ | ⟨g, cap, cur, rfl, _⟩
    · exact ⟨_, _, _, rfl⟩
    · exact ⟨_, _, _, rfl⟩
  clear hb2 hv hown hne hbel2
  obtain ⟨i0, hi0, hz0, hz1, hz2⟩ := info_parts (show (Tryz.prog.info? 5).map (fun i => (i.zero, i.size, i.bytes)) = some (some (.int .u8 0), 1, 1) by kernel_rfl)
  have Hi := Lib.hid hi0
  have Hz0 := Lib.hid hz0
  have Hz1 := Lib.hid hz1
  have Hz2 := Lib.hid hz2
  clear hi0 hz0 hz1 hz2
  go_wp2_with (at_builtin; go_must (refine wpList_append_own_at _ rfl _ _ 104 rfl B 5 i0 _ 1 1 Tryz.underlying104 Hi.out Hz0.out Hz1.out Hz2.out rfl (by decide) (.slice a1 n1 c1) (Lib.byteCells l).length (Lib.byteCells l) rfl (Hown.out.alloc _) ⟨w2.heap.size, 0, none⟩ 1 1 [.int .u8 c.toNat] rfl rfl (cell_one_new _ _ _) (by simp [Value.oneCell']) (by rw [hlen]; unfold maxLen; omega) (by rw [hlen]; omega) (by have := Hbel.out.size; simp; omega) ?_); intro v7 w7 hown7 hg7 _ _; obtain ⟨a7, c7, rfl⟩ := rowForm hown7; have hb7 := (hg7.block b (by have := shLt Hv.out; simp; omega) (fun e => Hne.out e.symm)).trans ((Below.heap_alloc w2 _ b (shLt Hv.out)).trans Hv.out); have q7 := Lib.cell_of_heap hb7 1; have f7 := Lib.frozen_of_heap hb7 1; simp only [List.getElem?_toArray, List.getElem?_cons_succ, List.getElem?_cons_zero] at q7; have Hb7 := Lib.hid hb7; have Hown7 := Lib.hid hown7; have Hg7 := Lib.hid hg7; clear hb7 hown7 hg7)
  go_ret
  refine ⟨⟨_, rfl⟩, .inr (Lib.BuilderAt.put hBb Hb7.out ?_ (by decide)), ?_⟩
  · have e : Lib.byteCells (l ++ [c]) = Lib.byteCells l ++ [.int .u8 c.toNat] := by simp [Lib.byteCells]
    rw [e, List.length_append, List.length_singleton]
    have h7 := Hown7.out
    simp only [hlen] at h7 ⊢
    exact h7
  · exact ((Hbel.out.alloc (by have := Hbel.out.size; omega) _).grown Hg7.out (by have := Hbel.out.size; simp; omega) (fun k hk => (World.ownsRow.lt Hown.out k hk).1)).setCell (p := ⟨b, 1, none⟩) hBb _

end Go.Proofs.YtcjmhmmjfgjcnaaGreatDoor.Sh

/- sha: Hex. -/
namespace Go.Proofs.YtcjmhmmjfgjcnaaGreatDoor.Sh
open Go.RowKit Go.Proofs.YtcjmhmmjfgjcnaaGreatDoor.Lx

set_option maxRecDepth 100000 in
theorem idxHex (n : Nat) (hn : n < 16) (W : World) : (Instr.index 9 (.string ⟨#[48, 49, 50, 51, 52, 53, 54, 55, 56, 57, 97, 98, 99, 100, 101, 102]⟩) (.int .u8 (n : Int))).run Tryz.prog W = .ok (.int .u8 ((hexDigit n).toNat : Int)) W := by
  have h : n = 0 ∨ n = 1 ∨ n = 2 ∨ n = 3 ∨ n = 4 ∨ n = 5 ∨ n = 6 ∨ n = 7 ∨ n = 8 ∨ n = 9 ∨ n = 10 ∨ n = 11 ∨ n = 12 ∨ n = 13 ∨ n = 14 ∨ n = 15 := by omega
  clear hn
  rcases h with rfl | rfl | rfl | rfl | rfl | rfl | rfl | rfl | rfl | rfl | rfl | rfl | rfl | rfl | rfl | rfl <;> rfl
theorem idx_hi (b : UInt8) (W : World) : (Instr.index 9 (.string ⟨#[48, 49, 50, 51, 52, 53, 54, 55, 56, 57, 97, 98, 99, 100, 101, 102]⟩) (.int .u8 ((b.toNat : Int) / 16))).run Tryz.prog W = .ok (.int .u8 ((hexDigit (b.toNat / 16)).toNat : Int)) W := by
  rw [show ((b.toNat : Int) / 16) = ((b.toNat / 16 : Nat) : Int) by omega]
  exact idxHex _ (by have := b.toNat_lt; omega) W
theorem and15 (b : UInt8) : bits .and .u8 (b.toNat : Int) 15 = ((b.toNat % 16 : Nat) : Int) := by
  have h : ∀ n : Fin 256, bits .and .u8 (n.val : Int) 15 = ((n.val % 16 : Nat) : Int) := by decide +kernel
  exact h ⟨b.toNat, b.toNat_lt⟩
theorem idx_lo (b : UInt8) (W : World) : (Instr.index 9 (.string ⟨#[48, 49, 50, 51, 52, 53, 54, 55, 56, 57, 97, 98, 99, 100, 101, 102]⟩) (.int .u8 (bits .and .u8 (b.toNat : Int) 15))).run Tryz.prog W = .ok (.int .u8 ((hexDigit (b.toNat % 16)).toNat : Int)) W := by
  rw [and15]
  exact idxHex _ (Nat.mod_lt _ (by decide)) W
theorem hex_take (l : List UInt8) (k : Nat) (h : k < l.length) : hex (l.take (k + 1)) = hex (l.take k) ++ [hexDigit (l[k].toNat / 16)] ++ [hexDigit (l[k].toNat % 16)] := by
  unfold hex
  rw [List.take_succ_eq_append_getElem h, List.flatMap_append]
  simp
theorem hex_len (l : List UInt8) : (hex l).length = 2 * l.length := by
  induction l with
  | nil => rfl
  | cons a l ih => simp only [hex, List.flatMap_cons, List.length_append, List.length_cons, List.length_nil] at ih ⊢; omega

set_option maxHeartbeats 2000000 in
set_option maxRecDepth 100000 in
theorem Hex_calls (s : ByteArray) (w : World) (hs : s.size ≤ 1000000) (h0 : 0 < s.size) :
    Calls Tryz.prog 38 #[.string s] w fun e w' => e = .returned (.string ⟨(hex (L s)).toArray⟩) ∧ Below w.heap.size w w' := by
  go_enter Tryz.func38, Tryz.ntmps38
  go_wp2_with fail
  go_loopw [4, 7] (fun s4 i wr => ∃ (k : Nat), k ≤ s.size ∧ i = .int .i64 k ∧ Hid (Lib.IsBuilder 125 5 w.heap.size w.heap.size (Lib.byteCells (hex ((L s).take k))) wr) ∧ Hid (Below w.heap.size w wr)) (fun _ i _ => s.size - (intOf i).toNat)
  case atStart => exact ⟨0, Nat.zero_le _, rfl, Lib.fresh_isBuilder _ _ _, shNew _ _⟩
  case round =>
    obtain ⟨k, hk, rfl, P, hb⟩ := hrel
    by_cases hlt : k < s.size
    · have hkl : k < (L s).length := by rw [L_length]; exact hlt
      have z0 : (k : Int) < (s.size : Int) := by omega
      have eg : s[k] = (L s)[k] := rfl
      have Ht := Lib.hid (hex_take (L s) k hkl)
      have hlen : (hex ((L s).take k)).length ≤ 2000000 := by rw [hex_len, List.length_take]; omega
      have h1 := idx_hi s[k]
      have h2 := idx_lo s[k]
      rw [← eg] at Ht
      clear eg
      have Hw1 := Lib.hid (WriteByte_calls w.heap.size w.heap.size (hex ((L s).take k)) (hexDigit (s[k].toNat / 16)) wr P.out hb.out.size (by omega))
      have Hlo := Lib.hid (fun (w2 : World) (h : Lib.IsBuilder 125 5 w.heap.size w.heap.size (Lib.byteCells (hex ((L s).take k) ++ [hexDigit (s[k].toNat / 16)])) w2) (hbb : Below w.heap.size w w2) => WriteByte_calls w.heap.size w.heap.size _ (hexDigit (s[k].toNat % 16)) w2 h hbb.size (by rw [List.length_append, List.length_singleton]; omega))
      go_wp2_with fail
      refine Hw1.out.mono ?_
      rintro e w2 ⟨⟨v2, rfl⟩, hi2, hb2⟩
      have Hb2 := Lib.hid (hb.out.trans hb2)
      have Hi2 := Lib.hid hi2
      clear hi2 hb2
      go_wp2_with fail
      refine (Hlo.out _ Hi2.out Hb2.out).mono ?_
      rintro e w3 ⟨⟨v3, rfl⟩, hi3, hb3⟩
      have Hb3 := Lib.hid (Hb2.out.trans hb3)
      have Hi3 := Lib.hid hi3
      clear hi3 hb3
      go_wp2_with fail
      go_roundw
      case rel => exact ⟨k + 1, by omega, by go_num, Lib.hid (by rw [Ht.out]; exact Hi3.out), Hb3⟩
      case measure => simp [intOf]; omega
    · have hkn : k = s.size := by omega
      subst hkn
      have z0 : ¬ (s.size : Int) < (s.size : Int) := by omega
      have P2 := P.out
      rw [List.take_of_length_le (by rw [L_length]; exact Nat.le_refl _)] at P2
      have Hst := Lib.hid (Tryz.Builder_String w.heap.size w.heap.size (hex (L s)) wr P2 (fun e => by have := congrArg List.length e; rw [hex_len, L_length, List.length_nil] at this; omega))
      clear P2
      go_wp2_with fail
      refine Hst.out.mono ?_
      rintro e w2 ⟨rfl, hb2⟩
      have Hb2 := Lib.hid (hb.out.trans hb2)
      clear hb2
      go_wp2_with fail
      go_ret
      exact ⟨rfl, Hb2.out⟩

end Go.Proofs.YtcjmhmmjfgjcnaaGreatDoor.Sh

/- value: Count of the zero value. -/
namespace Go.Proofs.YtcjmhmmjfgjcnaaGreatDoor.Sh
open Go.RowKit Go.Proofs.YtcjmhmmjfgjcnaaGreatDoor.Lx

set_option maxHeartbeats 1000000 in
set_option maxRecDepth 100000 in
theorem Count_zero (w : World) :
    Calls Tryz.prog 40 #[.agg #[.int .u8 0, .bool false, .int .i64 0, .string ⟨#[]⟩, .slice none 0 0, .slice none 0 0]] w fun e w' => e = .returned (.int .i64 1) ∧ Below w.heap.size w w' := by
  go_enter Tryz.func40, Tryz.ntmps40
  go_wp2_with fail
  go_loopw [3, 11] (fun s3 i wr => s3 = .int .i64 1 ∧ i = .int .i64 0 ∧ Hid (wr = w.alloc (.cells #[.int .u8 0, .bool false, .int .i64 0, .string ⟨#[]⟩, .slice none 0 0, .slice none 0 0] 72))) (fun _ _ _ => 0)
  case atStart => exact ⟨rfl, rfl, Lib.hid rfl⟩
  case round =>
    obtain ⟨rfl, rfl, hw⟩ := hrel
    have hw := hw.out
    subst hw
    go_wp2_with fail
    go_loopw [3, 23] (fun s3 i wr => s3 = .int .i64 1 ∧ i = .int .i64 0 ∧ Hid (wr = w.alloc (.cells #[.int .u8 0, .bool false, .int .i64 0, .string ⟨#[]⟩, .slice none 0 0, .slice none 0 0] 72))) (fun _ _ _ => 0)
    case atStart => exact ⟨rfl, rfl, Lib.hid rfl⟩
    case round =>
      obtain ⟨rfl, rfl, hw⟩ := hrel
      have hw := hw.out
      subst hw
      go_wp2_with fail
      go_ret
      exact ⟨rfl, shNew _ _⟩

end Go.Proofs.YtcjmhmmjfgjcnaaGreatDoor.Sh
