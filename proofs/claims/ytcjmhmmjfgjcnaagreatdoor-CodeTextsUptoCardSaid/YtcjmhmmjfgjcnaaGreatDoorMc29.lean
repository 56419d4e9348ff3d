/- Parts: RcG. -/
import Derived.Test.YtcjmhmmjfgjcnaaGreatDoorMc25
import Derived.Test.YtcjmhmmjfgjcnaaGreatDoorMc28

/- codicilref13: Check. -/
namespace Go.Proofs.YtcjmhmmjfgjcnaaGreatDoor.Cd
open Go.RowKit Go.Proofs.YtcjmhmmjfgjcnaaGreatDoor.Lx Go.Proofs.YtcjmhmmjfgjcnaaGreatDoor.Pa Go.Proofs.YtcjmhmmjfgjcnaaGreatDoor.Rf

def valsA (A : HtA) (N : Nat) : List Value := (List.range (N + 1)).map fun j => Value.int .i64 (A j)
theorem valsA_len (A : HtA) (N : Nat) : (valsA A N).length = N + 1 := by unfold valsA; simp
theorem valsA_get (A : HtA) (N j : Nat) (h : j < (valsA A N).length) : (valsA A N)[j] = .int .i64 (A j) := by simp [valsA]
theorem valsA_set (A : HtA) (N i h : Nat) : (valsA A N).set i (.int .i64 h) = valsA (fun j => if j = i then h else A j) N := by
  apply List.ext_getElem
  · simp [valsA]
  · intro j h1 h2
    rw [List.getElem_set]
    by_cases e : i = j
    · rw [if_pos e, valsA_get]
      simp only [e, if_true]
    · rw [if_neg e, valsA_get, valsA_get, if_neg (fun e2 => e e2.symm)]
theorem valsA_zero (N : Nat) : List.replicate (N + 1) (Value.int .i64 0) = valsA (fun _ => 0) N := by
  apply List.ext_getElem
  · simp [valsA]
  · intro j h1 h2
    rw [valsA_get]
    simp
theorem intInfo : (Tryz.prog.info? 3).map (fun i => (i.zero, i.size, i.bytes)) = some (some (.int .i64 0), 1, 8) := by kernel_rfl
theorem make_hts (W : World) (k : Nat) (hk : k ≤ 1000) : (Instr.makeSlice 119 (.int .i64 ((k : Int) + 1)) (.int .i64 ((k : Int) + 1))).run Tryz.prog W = .ok (.slice (some ⟨W.heap.size, 0, none⟩) (k + 1) (k + 1)) (W.alloc (.cells (madeCells #[.int .i64 0] (k + 1)) 3)) := by
  obtain ⟨i0, hi0, hzz0, hz10, hz2⟩ := info_parts intInfo
  have := run_make (P := Tryz.prog) W 119 3 i0 _ Tryz.underlying119 hi0 hzz0 .i64 .i64 ((k + 1 : Nat) : Int) ((k + 1 : Nat) : Int) (by omega) (Int.le_refl _) (by rw [hz2]; omega) (by omega)
  rw [hz10] at this
  simp only [Int.toNat_natCast, Nat.mul_one] at this
  rw [Int.natCast_add] at this
  exact this
structure HtM (w wx : World) (B N : Nat) (A : HtA) : Prop where
  arr : ArrAt wx B 3 (valsA A N)
  bel : Below w.heap.size w wx
  low : w.heap.size ≤ B
theorem HtM.step {w wx w' : World} {B N : Nat} {A : HtA} (h : HtM w wx B N A) (hb : Below wx.heap.size wx w') : HtM w w' B N A := ⟨h.arr.below hb, rStep h.bel hb, h.low⟩
theorem HtM.get {w wx : World} {B N : Nat} {A : HtA} (h : HtM w wx B N A) {j : Nat} (hj : j ≤ N) : wx.cell? ⟨B, j, none⟩ = some (.int .i64 (A j)) ∧ wx.frozen? ⟨B, j, none⟩ = false := by
  have h1 := h.arr.get (j := j) (by rw [valsA_len]; omega)
  rw [valsA_get] at h1
  exact h1
theorem HtM.set {w wx : World} {B N : Nat} {A : HtA} (h : HtM w wx B N A) (i v : Nat) : HtM w (wx.setCell ⟨B, i, none⟩ (.int .i64 v)) B N (fun j => if j = i then v else A j) := ⟨by
  have := h.arr.set i (.int .i64 v)
  rw [valsA_set] at this
  exact this, h.bel.setCell h.low _, h.low⟩
theorem HtM.set' {w wx : World} {B N : Nat} {A : HtA} (h : HtM w wx B N A) (i v : Nat) (z : Int) (hz : z = v) : HtM w (wx.setCell ⟨B, i, none⟩ (.int .i64 z)) B N (fun j => if j = i then v else A j) := by
  subst hz
  exact h.set i v
theorem HtM.first (w : World) (N : Nat) : HtM w (w.alloc (.cells ((madeCells #[.int .i64 0] (N + 1)).setIfInBounds 0 (.int .i64 1)) 3)) w.heap.size N (fun i => if i = 0 then 1 else 0) := ⟨⟨by
  have e : (valsA (fun i => if i = 0 then 1 else 0) N).toArray = (madeCells #[.int .i64 0] (N + 1)).setIfInBounds 0 (.int .i64 1) := by
    have h1 := valsA_set (fun _ => 0) N 0 1
    rw [← h1, ← valsA_zero, ← toList_madeCells_one]
    apply Array.ext'
    simp
  rw [e]
  exact heap_alloc_new _ _⟩, rAlloc _ _, Nat.le_refl _⟩
theorem come_ok {A : HtA} {i h : Nat} (hc : A i = 0 ∨ A i = h + 1) : A.come i h = some (fun j => if j = i then h + 1 else A j) := by
  unfold HtA.come
  rw [if_neg (by omega)]
theorem come_no {A : HtA} {i h : Nat} (h0 : A i ≠ 0) (h1 : A i ≠ h + 1) : A.come i h = none := by
  unfold HtA.come
  rw [if_pos ⟨h0, h1⟩]
theorem oneI_step {N k : Nat} {st : Stp} {to' : Int} (h : oneI N k ⟨1, st, to'⟩ = true) : ∃ kk, takes st = some kk ∧ st.kind < 21 ∧ to' = 0 := by
  unfold oneI at h
  rw [if_pos rfl] at h
  simp only [Bool.and_eq_true, decide_eq_true_eq] at h
  obtain ⟨⟨h1, h2⟩, h3⟩ := h
  cases ht : takes st with
  | none => rw [ht] at h1; cases h1
  | some kk => exact ⟨kk, rfl, h2, h3⟩
theorem oneI_jump {N k op : Nat} {st : Stp} {to' : Int} (h : oneI N k ⟨op, st, to'⟩ = true) (h1 : op ≠ 1) (h3 : op ≠ 3) (h5 : op ≠ 5) : ∃ t : Nat, to' = t ∧ k < t ∧ t ≤ N ∧ (op = 2 ∨ op = 4) := by
  unfold oneI at h
  rw [if_neg h1] at h
  by_cases h2 : op = 2 ∨ op = 4
  · rw [if_pos h2] at h
    simp only [Bool.and_eq_true, decide_eq_true_eq] at h
    exact ⟨to'.toNat, by omega, by omega, by omega, h2⟩
  · rw [if_neg h2, if_neg (by simp only; omega)] at h
    cases h
def checkRV (p : List Ins) : Value := .int .i64 (if checkI p then 0 else 11)
theorem checkRV_no {p : List Ins} (h : runA p.length 0 p (fun i => if i = 0 then 1 else 0) = none) : checkRV p = .int .i64 11 := by
  unfold checkRV
  rw [check_is, h]
  simp
theorem checkRV_len {p : List Ins} (h : ¬ (1 ≤ p.length ∧ p.length ≤ 256)) : checkRV p = .int .i64 11 := by
  unfold checkRV
  rw [check_is, decide_eq_false h, Bool.false_and]
  rfl
theorem checkRV_end {p : List Ins} {A : HtA} (hl : 1 ≤ p.length ∧ p.length ≤ 256) (h : runA p.length 0 p (fun i => if i = 0 then 1 else 0) = some A) : checkRV p = .int .i64 (if A p.length = 2 then 0 else 11) := by
  unfold checkRV
  rw [check_is, h, decide_eq_true hl, Bool.true_and]
  simp
theorem runA_step {N k : Nat} {x : Ins} {r : List Ins} {A : HtA} : runA N k (x :: r) A = (stepA N k x A).bind (runA N (k + 1) r) := rfl
theorem stepA_one {N k : Nat} {x : Ins} {A : HtA} (h : oneI N k x = false) : stepA N k x A = none := by unfold stepA; rw [if_pos (.inl h)]
theorem stepA_zero {N k : Nat} {x : Ins} {A : HtA} (h : A k = 0) : stepA N k x A = none := by unfold stepA; rw [if_pos (.inr h)]
theorem stepA_low {N k h : Nat} {x : Ins} {A : HtA} (ha : A k = h + 1) (h1 : h < needA x) : stepA N k x A = none := by
  unfold stepA
  split
  · rfl
  · rw [ha, Nat.add_sub_cancel, if_pos h1]
theorem stepA_plain {N k h : Nat} {x : Ins} {A : HtA} (ho : oneI N k x = true) (ha : A k = h + 1) (h1 : ¬ h < needA x) (hop : ¬ (x.op = 2 ∨ x.op = 4)) : stepA N k x A = A.come (k + 1) (leftA x h) := by
  unfold stepA
  rw [if_neg (by rw [ho]; simp; omega), ha, Nat.add_sub_cancel, if_neg h1, if_neg hop]
theorem stepA_jump {N k h t : Nat} {x : Ins} {A : HtA} (ho : oneI N k x = true) (ha : A k = h + 1) (h1 : ¬ h < needA x) (hop : x.op = 2 ∨ x.op = 4) (ht : x.to = t) : stepA N k x A = (A.come t h).bind fun A' => A'.come (k + 1) (leftA x h) := by
  unfold stepA
  rw [if_neg (by rw [ho]; simp; omega), ha, Nat.add_sub_cancel, if_neg h1, if_pos hop, ht]
  rfl

set_option maxHeartbeats 8000000 in
set_option maxRecDepth 100000 in
theorem CheckR_calls (w : World) (v : Value) (p : List Ins) (h : InsIn w v p) (hl : p.length ≤ 1000000) (ht : ∀ x ∈ p, x.st.text.length ≤ 1048576) :
    Calls Tryz.prog 33 #[v] w fun e w' => e = .returned (checkRV p) ∧ Below w.heap.size w w' := by
  obtain ⟨a, n, c, rfl, hn, hc, hj⟩ := h
  subst hn
  have Hj := Lib.hid hj
  clear hj
  by_cases hlen : 1 ≤ p.length ∧ p.length ≤ 256
  · have hmk := fun W => make_hts W p.length (by omega)
    obtain ⟨hl1, hl2⟩ := hlen
    have hl1' : ¬ (p.length : Int) < 1 := by omega
    have hl2' : ¬ (256 : Int) < p.length := by omega
    have hm0 : (madeCells #[.int .i64 0] (p.length + 1))[0]? = some (.int .i64 0) := by
      rw [← Array.getElem?_toList, toList_madeCells_one]
      simp
    have Hno := Lib.hid (fun h => checkRV_no (p := p) h)
    have Hend := Lib.hid (fun A h => checkRV_end (p := p) (A := A) ⟨hl1, hl2⟩ h)
    generalize hV : checkRV p = V at *
    go_enter Tryz.func33, Tryz.ntmps33
    go_wp2_with fail
    go_loopw [25] (fun s25 wr => ∃ (k : Nat) (A : HtA), s25 = .int .i64 k ∧ k ≤ p.length ∧ Hid (HtM w wr w.heap.size p.length A) ∧ Hid (∀ j, A j ≤ k + 1) ∧ Hid (runA p.length 0 p (fun i => if i = 0 then 1 else 0) = runA p.length k (p.drop k) A)) (fun s25 _ => p.length - (intOf s25).toNat)
    case atStart =>
      refine ⟨0, fun i => if i = 0 then 1 else 0, rfl, Nat.zero_le _, Lib.hid ?_, Lib.hid (fun j => by simp only; split <;> omega), Lib.hid (by rw [List.drop_zero])⟩
      exact HtM.first w p.length
    case round =>
      obtain ⟨k, A, rfl, hk, hm, hb, hr⟩ := hrel
      have Hm := Lib.hid hm.out
      have Hbd := Lib.hid hb.out
      have Hr := Lib.hid hr.out
      clear hm hb hr
      by_cases hlt : k < p.length
      · obtain ⟨g, o, ha, hcl0⟩ := Hj.out k hlt
        subst ha
        obtain ⟨q0, q1, q2, q3, q4⟩ := hcl0.below Hm.out.bel
        have hrs := Hr.out
        rw [List.drop_eq_getElem_cons hlt, runA_step] at hrs
        have hxt := ht _ (List.getElem_mem hlt)
        generalize p[k] = x at q0 q1 q2 q3 q4 hrs hxt
        clear hcl0
        have HO := Lib.hid (fun W => one_calls x p.length k W hxt)
        unfold Ins.val at HO
        cases ho : oneI p.length k x
        · rw [ho] at HO
          have Hv := Lib.hid (Hno.out (by rw [hrs, stepA_one ho]; rfl))
          clear hrs ho
          go_wp2_with fail
          refine (HO.out _).mono ?_
          rintro e w1 ⟨rfl, hb1⟩
          have Hb1 := Lib.hid (rStep (rStep Hm.out.bel (rAlloc _ _)) hb1)
          clear hb1
          go_wp2_with fail
          go_ret
          exact ⟨by rw [Hv.out]; rfl, Hb1.out⟩
        · rw [ho] at HO
          obtain ⟨op, st, to'⟩ := x
          simp only at q0 q1 q2 q3 q4 HO hxt
          by_cases hz : A k = 0
          · have ez : ((A k : Int) == 0) = true := by rw [hz]; rfl
            have Hv := Lib.hid (Hno.out (by rw [hrs, stepA_zero hz]; rfl))
            clear hrs ho hz
            go_wp2_with fail
            refine (HO.out _).mono ?_
            rintro e w1 ⟨rfl, hb1⟩
            have Hm1 := Lib.hid ((Hm.out.step (rAlloc wr (insO ⟨op, st, to'⟩))).step hb1)
            obtain ⟨⟨k0, k1, k2, k3, k4⟩, -⟩ := fiveB ((hb1.block wr.heap.size (by simp)).trans (heap_alloc_new wr (insO ⟨op, st, to'⟩)))
            have hz1 : wr.heap.size < w1.heap.size := by have := hb1.size; simp at this; omega
            obtain ⟨hck, hfk⟩ := Hm1.out.get (j := k) (by omega)
            obtain ⟨hcn, hfn⟩ := Hm1.out.get (j := k + 1) (by omega)
            clear hb1
            go_wp2_with fail
            go_ret
            exact ⟨by rw [Hv.out]; rfl, Hm1.out.bel⟩
          obtain ⟨h, hA⟩ : ∃ h, A k = h + 1 := ⟨A k - 1, by omega⟩
          have ez : (((h : Int) + 1) == 0) = false := by rw [beq_eq_false_iff_ne]; omega
          have hhk : h ≤ k := by have := Hbd.out k; omega
          by_cases o1 : op = 1
          · subst o1
            obtain ⟨kk, htkk, -, -⟩ := oneI_step ho
            have hneed : needA ⟨1, st, to'⟩ = kk := by unfold needA; rw [if_pos rfl, htkk]; rfl
            have HO := Lib.hid (show ∀ W, Calls Tryz.prog 75 #[.agg #[.int .u8 1, .int .u8 st.kind, .string ⟨st.text.toArray⟩, .int .i64 st.num, .int .i64 to'], .int .i64 k, .int .i64 p.length] W _ from HO.out)
            have hleft : leftA ⟨1, st, to'⟩ h = h - kk + 1 := by unfold leftA; rw [if_pos rfl, hneed]
            have hkk := takes_le htkk
            have HT := Lib.hid (fun W => TakesR_calls st W hxt)
            unfold Stp.val takesV at HT
            rw [htkk] at HT
            by_cases hlow : h < kk
            · have hlow' : (h : Int) < kk := by omega
              have Hv := Lib.hid (Hno.out (by rw [hrs, stepA_low hA (by rw [hneed]; exact hlow)]; rfl))
              clear hrs
              go_wp2_with fail
              refine (HO.out _).mono ?_
              rintro e w1 ⟨rfl, hb1⟩
              have Hm1 := Lib.hid ((Hm.out.step (rAlloc wr (insO ⟨1, st, to'⟩))).step hb1)
              obtain ⟨⟨k0, k1, k2, k3, k4⟩, -⟩ := fiveB ((hb1.block wr.heap.size (by simp)).trans (heap_alloc_new wr (insO ⟨1, st, to'⟩)))
              have H5 := Lib.hid ((hb1.block wr.heap.size (by simp)).trans (heap_alloc_new wr (insO ⟨1, st, to'⟩)))
              have hz1 : wr.heap.size < w1.heap.size := by have := hb1.size; simp at this; omega
              obtain ⟨hck, hfk⟩ := Hm1.out.get (j := k) (by omega)
              obtain ⟨hcn, hfn⟩ := Hm1.out.get (j := k + 1) (by omega)
              clear hb1
              rw [hA] at hck
              go_wp2_with fail
              refine (HT.out _).mono ?_
              rintro e w2 ⟨rfl, hb2⟩
              have Hm2 := Lib.hid (Hm1.out.step hb2)
              have hb2b := hb2.block wr.heap.size hz1
              obtain ⟨⟨j0, j1, j2, j3, j4⟩, -⟩ := fiveB (hb2b.trans H5.out)
              obtain ⟨hck2, hfk2⟩ := Hm2.out.get (j := k) (by omega)
              obtain ⟨hcn2, hfn2⟩ := Hm2.out.get (j := k + 1) (by omega)
              rw [hA] at hck2
              clear hb2 hb2b
              simp only [Option.getD_some, Option.isSome_some]
              go_wp2_with fail
              go_ret
              exact ⟨by rw [Hv.out]; rfl, Hm2.out.bel⟩
            · have hlow' : ¬ (h : Int) < kk := by omega
              have hst : stepA p.length k ⟨1, st, to'⟩ A = A.come (k + 1) (h - kk + 1) := by rw [stepA_plain ho hA (by rw [hneed]; exact hlow) (by simp only; omega), hleft]
              by_cases hcf : A (k + 1) ≠ 0 ∧ A (k + 1) ≠ h - kk + 1 + 1
              · have c0 : ((A (k + 1) : Int) != 0) = true := by rw [bne_iff_ne]; omega
                have c1 : ((A (k + 1) : Int) != ((h : Int) - kk + 1) + 1) = true := by rw [bne_iff_ne]; omega
                have Hv := Lib.hid (Hno.out (by rw [hrs, hst, come_no hcf.1 hcf.2]; rfl))
                clear hrs hst
                go_wp2_with fail
                refine (HO.out _).mono ?_
                rintro e w1 ⟨rfl, hb1⟩
                have Hm1 := Lib.hid ((Hm.out.step (rAlloc wr (insO ⟨1, st, to'⟩))).step hb1)
                obtain ⟨⟨k0, k1, k2, k3, k4⟩, -⟩ := fiveB ((hb1.block wr.heap.size (by simp)).trans (heap_alloc_new wr (insO ⟨1, st, to'⟩)))
                have H5 := Lib.hid ((hb1.block wr.heap.size (by simp)).trans (heap_alloc_new wr (insO ⟨1, st, to'⟩)))
                have hz1 : wr.heap.size < w1.heap.size := by have := hb1.size; simp at this; omega
                obtain ⟨hck, hfk⟩ := Hm1.out.get (j := k) (by omega)
                obtain ⟨hcn, hfn⟩ := Hm1.out.get (j := k + 1) (by omega)
                clear hb1
                rw [hA] at hck
                go_wp2_with fail
                refine (HT.out _).mono ?_
                rintro e w2 ⟨rfl, hb2⟩
                have Hm2 := Lib.hid (Hm1.out.step hb2)
                have hb2b := hb2.block wr.heap.size hz1
                obtain ⟨⟨j0, j1, j2, j3, j4⟩, -⟩ := fiveB (hb2b.trans H5.out)
                obtain ⟨hck2, hfk2⟩ := Hm2.out.get (j := k) (by omega)
                obtain ⟨hcn2, hfn2⟩ := Hm2.out.get (j := k + 1) (by omega)
                rw [hA] at hck2
                clear hb2 hb2b
                simp only [Option.getD_some, Option.isSome_some]
                go_wp2_with fail
                go_ret
                exact ⟨by rw [Hv.out]; rfl, Hm2.out.bel⟩
              · have hco := come_ok (A := A) (i := k + 1) (h := h - kk + 1) (by omega)
                have Hv := Lib.hid (show runA p.length 0 p (fun i => if i = 0 then 1 else 0) = runA p.length (k + 1) (p.drop (k + 1)) (fun j => if j = k + 1 then h - kk + 1 + 1 else A j) from by rw [hrs, hst, hco]; rfl)
                have Hbn := Lib.hid (show ∀ j, (fun j => if j = k + 1 then h - kk + 1 + 1 else A j) j ≤ k + 1 + 1 from fun j => by
                  have := Hbd.out j
                  simp only
                  split <;> omega)
                by_cases hc0 : A (k + 1) = 0
                · have c0 : ((A (k + 1) : Int) != 0) = false := by rw [hc0]; rfl
                  clear hrs hst hco hcf
                  go_wp2_with fail
                  refine (HO.out _).mono ?_
                  rintro e w1 ⟨rfl, hb1⟩
                  have Hm1 := Lib.hid ((Hm.out.step (rAlloc wr (insO ⟨1, st, to'⟩))).step hb1)
                  obtain ⟨⟨k0, k1, k2, k3, k4⟩, -⟩ := fiveB ((hb1.block wr.heap.size (by simp)).trans (heap_alloc_new wr (insO ⟨1, st, to'⟩)))
                  have H5 := Lib.hid ((hb1.block wr.heap.size (by simp)).trans (heap_alloc_new wr (insO ⟨1, st, to'⟩)))
                  have hz1 : wr.heap.size < w1.heap.size := by have := hb1.size; simp at this; omega
                  obtain ⟨hck, hfk⟩ := Hm1.out.get (j := k) (by omega)
                  obtain ⟨hcn, hfn⟩ := Hm1.out.get (j := k + 1) (by omega)
                  clear hb1
                  rw [hA] at hck
                  go_wp2_with fail
                  refine (HT.out _).mono ?_
                  rintro e w2 ⟨rfl, hb2⟩
                  have Hm2 := Lib.hid (Hm1.out.step hb2)
                  have hb2b := hb2.block wr.heap.size hz1
                  obtain ⟨⟨j0, j1, j2, j3, j4⟩, -⟩ := fiveB (hb2b.trans H5.out)
                  obtain ⟨hck2, hfk2⟩ := Hm2.out.get (j := k) (by omega)
                  obtain ⟨hcn2, hfn2⟩ := Hm2.out.get (j := k + 1) (by omega)
                  rw [hA] at hck2
                  clear hb2 hb2b
                  simp only [Option.getD_some, Option.isSome_some]
                  go_wp2_with fail
                  go_roundw
                  case rel => exact ⟨k + 1, _, by go_num, by omega, Lib.hid (Hm2.out.set' (k + 1) (h - kk + 1 + 1) _ (by omega)), Lib.hid (Hbn.out), Hv⟩
                  case measure => simp [intOf]; omega
                · have c0 : ((A (k + 1) : Int) != 0) = true := by rw [bne_iff_ne]; omega
                  have c1 : ((A (k + 1) : Int) != ((h : Int) - kk + 1) + 1) = false := by rw [bne_eq_false_iff_eq]; omega
                  clear hrs hst hco hcf
                  go_wp2_with fail
                  refine (HO.out _).mono ?_
                  rintro e w1 ⟨rfl, hb1⟩
                  have Hm1 := Lib.hid ((Hm.out.step (rAlloc wr (insO ⟨1, st, to'⟩))).step hb1)
                  obtain ⟨⟨k0, k1, k2, k3, k4⟩, -⟩ := fiveB ((hb1.block wr.heap.size (by simp)).trans (heap_alloc_new wr (insO ⟨1, st, to'⟩)))
                  have H5 := Lib.hid ((hb1.block wr.heap.size (by simp)).trans (heap_alloc_new wr (insO ⟨1, st, to'⟩)))
                  have hz1 : wr.heap.size < w1.heap.size := by have := hb1.size; simp at this; omega
                  obtain ⟨hck, hfk⟩ := Hm1.out.get (j := k) (by omega)
                  obtain ⟨hcn, hfn⟩ := Hm1.out.get (j := k + 1) (by omega)
                  clear hb1
                  rw [hA] at hck
                  go_wp2_with fail
                  refine (HT.out _).mono ?_
                  rintro e w2 ⟨rfl, hb2⟩
                  have Hm2 := Lib.hid (Hm1.out.step hb2)
                  have hb2b := hb2.block wr.heap.size hz1
                  obtain ⟨⟨j0, j1, j2, j3, j4⟩, -⟩ := fiveB (hb2b.trans H5.out)
                  obtain ⟨hck2, hfk2⟩ := Hm2.out.get (j := k) (by omega)
                  obtain ⟨hcn2, hfn2⟩ := Hm2.out.get (j := k + 1) (by omega)
                  rw [hA] at hck2
                  clear hb2 hb2b
                  simp only [Option.getD_some, Option.isSome_some]
                  go_wp2_with fail
                  go_roundw
                  case rel => exact ⟨k + 1, _, by go_num, by omega, Lib.hid (Hm2.out.set' (k + 1) (h - kk + 1 + 1) _ (by omega)), Lib.hid (Hbn.out), Hv⟩
                  case measure => simp [intOf]; omega
          by_cases o3 : op = 3
          · subst o3
            have hneed : needA ⟨3, st, to'⟩ = 1 := rfl
            have HO := Lib.hid (show ∀ W, Calls Tryz.prog 75 #[.agg #[.int .u8 3, .int .u8 st.kind, .string ⟨st.text.toArray⟩, .int .i64 st.num, .int .i64 to'], .int .i64 k, .int .i64 p.length] W _ from HO.out)
            have hleft : leftA ⟨3, st, to'⟩ h = h := rfl
            by_cases hlow : h < 1
            · have hlow' : (h : Int) < 1 := by omega
              have Hv := Lib.hid (Hno.out (by rw [hrs, stepA_low hA (by rw [hneed]; exact hlow)]; rfl))
              clear hrs
              go_wp2_with fail
              refine (HO.out _).mono ?_
              rintro e w1 ⟨rfl, hb1⟩
              have Hm1 := Lib.hid ((Hm.out.step (rAlloc wr (insO ⟨3, st, to'⟩))).step hb1)
              obtain ⟨⟨k0, k1, k2, k3, k4⟩, -⟩ := fiveB ((hb1.block wr.heap.size (by simp)).trans (heap_alloc_new wr (insO ⟨3, st, to'⟩)))
              have hz1 : wr.heap.size < w1.heap.size := by have := hb1.size; simp at this; omega
              obtain ⟨hck, hfk⟩ := Hm1.out.get (j := k) (by omega)
              obtain ⟨hcn, hfn⟩ := Hm1.out.get (j := k + 1) (by omega)
              clear hb1
              rw [hA] at hck
              go_wp2_with fail
              go_ret
              exact ⟨by rw [Hv.out]; rfl, Hm1.out.bel⟩
            · have hlow' : ¬ (h : Int) < 1 := by omega
              have hst : stepA p.length k ⟨3, st, to'⟩ A = A.come (k + 1) (h) := by rw [stepA_plain ho hA (by rw [hneed]; exact hlow) (by simp only; omega), hleft]
              by_cases hcf : A (k + 1) ≠ 0 ∧ A (k + 1) ≠ h + 1
              · have c0 : ((A (k + 1) : Int) != 0) = true := by rw [bne_iff_ne]; omega
                have c1 : ((A (k + 1) : Int) != (h : Int) + 1) = true := by rw [bne_iff_ne]; omega
                have Hv := Lib.hid (Hno.out (by rw [hrs, hst, come_no hcf.1 hcf.2]; rfl))
                clear hrs hst
                go_wp2_with fail
                refine (HO.out _).mono ?_
                rintro e w1 ⟨rfl, hb1⟩
                have Hm1 := Lib.hid ((Hm.out.step (rAlloc wr (insO ⟨3, st, to'⟩))).step hb1)
                obtain ⟨⟨k0, k1, k2, k3, k4⟩, -⟩ := fiveB ((hb1.block wr.heap.size (by simp)).trans (heap_alloc_new wr (insO ⟨3, st, to'⟩)))
                have hz1 : wr.heap.size < w1.heap.size := by have := hb1.size; simp at this; omega
                obtain ⟨hck, hfk⟩ := Hm1.out.get (j := k) (by omega)
                obtain ⟨hcn, hfn⟩ := Hm1.out.get (j := k + 1) (by omega)
                clear hb1
                rw [hA] at hck
                go_wp2_with fail
                go_ret
                exact ⟨by rw [Hv.out]; rfl, Hm1.out.bel⟩
              · have hco := come_ok (A := A) (i := k + 1) (h := h) (by omega)
                have Hv := Lib.hid (show runA p.length 0 p (fun i => if i = 0 then 1 else 0) = runA p.length (k + 1) (p.drop (k + 1)) (fun j => if j = k + 1 then h + 1 else A j) from by rw [hrs, hst, hco]; rfl)
                have Hbn := Lib.hid (show ∀ j, (fun j => if j = k + 1 then h + 1 else A j) j ≤ k + 1 + 1 from fun j => by
                  have := Hbd.out j
                  simp only
                  split <;> omega)
                by_cases hc0 : A (k + 1) = 0
                · have c0 : ((A (k + 1) : Int) != 0) = false := by rw [hc0]; rfl
                  clear hrs hst hco hcf
                  go_wp2_with fail
                  refine (HO.out _).mono ?_
                  rintro e w1 ⟨rfl, hb1⟩
                  have Hm1 := Lib.hid ((Hm.out.step (rAlloc wr (insO ⟨3, st, to'⟩))).step hb1)
                  obtain ⟨⟨k0, k1, k2, k3, k4⟩, -⟩ := fiveB ((hb1.block wr.heap.size (by simp)).trans (heap_alloc_new wr (insO ⟨3, st, to'⟩)))
                  have hz1 : wr.heap.size < w1.heap.size := by have := hb1.size; simp at this; omega
                  obtain ⟨hck, hfk⟩ := Hm1.out.get (j := k) (by omega)
                  obtain ⟨hcn, hfn⟩ := Hm1.out.get (j := k + 1) (by omega)
                  clear hb1
                  rw [hA] at hck
                  go_wp2_with fail
                  go_roundw
                  case rel => exact ⟨k + 1, _, by go_num, by omega, Lib.hid (Hm1.out.set' (k + 1) (h + 1) _ (by omega)), Lib.hid (Hbn.out), Hv⟩
                  case measure => simp [intOf]; omega
                · have c0 : ((A (k + 1) : Int) != 0) = true := by rw [bne_iff_ne]; omega
                  have c1 : ((A (k + 1) : Int) != (h : Int) + 1) = false := by rw [bne_eq_false_iff_eq]; omega
                  clear hrs hst hco hcf
                  go_wp2_with fail
                  refine (HO.out _).mono ?_
                  rintro e w1 ⟨rfl, hb1⟩
                  have Hm1 := Lib.hid ((Hm.out.step (rAlloc wr (insO ⟨3, st, to'⟩))).step hb1)
                  obtain ⟨⟨k0, k1, k2, k3, k4⟩, -⟩ := fiveB ((hb1.block wr.heap.size (by simp)).trans (heap_alloc_new wr (insO ⟨3, st, to'⟩)))
                  have hz1 : wr.heap.size < w1.heap.size := by have := hb1.size; simp at this; omega
                  obtain ⟨hck, hfk⟩ := Hm1.out.get (j := k) (by omega)
                  obtain ⟨hcn, hfn⟩ := Hm1.out.get (j := k + 1) (by omega)
                  clear hb1
                  rw [hA] at hck
                  go_wp2_with fail
                  go_roundw
                  case rel => exact ⟨k + 1, _, by go_num, by omega, Lib.hid (Hm1.out.set' (k + 1) (h + 1) _ (by omega)), Lib.hid (Hbn.out), Hv⟩
                  case measure => simp [intOf]; omega
          by_cases o5 : op = 5
          · subst o5
            have hneed : needA ⟨5, st, to'⟩ = 2 := rfl
            have HO := Lib.hid (show ∀ W, Calls Tryz.prog 75 #[.agg #[.int .u8 5, .int .u8 st.kind, .string ⟨st.text.toArray⟩, .int .i64 st.num, .int .i64 to'], .int .i64 k, .int .i64 p.length] W _ from HO.out)
            have hleft : leftA ⟨5, st, to'⟩ h = h - 1 := rfl
            by_cases hlow : h < 2
            · have hlow' : (h : Int) < 2 := by omega
              have Hv := Lib.hid (Hno.out (by rw [hrs, stepA_low hA (by rw [hneed]; exact hlow)]; rfl))
              clear hrs
              go_wp2_with fail
              refine (HO.out _).mono ?_
              rintro e w1 ⟨rfl, hb1⟩
              have Hm1 := Lib.hid ((Hm.out.step (rAlloc wr (insO ⟨5, st, to'⟩))).step hb1)
              obtain ⟨⟨k0, k1, k2, k3, k4⟩, -⟩ := fiveB ((hb1.block wr.heap.size (by simp)).trans (heap_alloc_new wr (insO ⟨5, st, to'⟩)))
              have hz1 : wr.heap.size < w1.heap.size := by have := hb1.size; simp at this; omega
              obtain ⟨hck, hfk⟩ := Hm1.out.get (j := k) (by omega)
              obtain ⟨hcn, hfn⟩ := Hm1.out.get (j := k + 1) (by omega)
              clear hb1
              rw [hA] at hck
              go_wp2_with fail
              go_ret
              exact ⟨by rw [Hv.out]; rfl, Hm1.out.bel⟩
            · have hlow' : ¬ (h : Int) < 2 := by omega
              have hst : stepA p.length k ⟨5, st, to'⟩ A = A.come (k + 1) (h - 1) := by rw [stepA_plain ho hA (by rw [hneed]; exact hlow) (by simp only; omega), hleft]
              by_cases hcf : A (k + 1) ≠ 0 ∧ A (k + 1) ≠ h - 1 + 1
              · have c0 : ((A (k + 1) : Int) != 0) = true := by rw [bne_iff_ne]; omega
                have c1 : ((A (k + 1) : Int) != ((h : Int) - 1) + 1) = true := by rw [bne_iff_ne]; omega
                have Hv := Lib.hid (Hno.out (by rw [hrs, hst, come_no hcf.1 hcf.2]; rfl))
                clear hrs hst
                go_wp2_with fail
                refine (HO.out _).mono ?_
                rintro e w1 ⟨rfl, hb1⟩
                have Hm1 := Lib.hid ((Hm.out.step (rAlloc wr (insO ⟨5, st, to'⟩))).step hb1)
                obtain ⟨⟨k0, k1, k2, k3, k4⟩, -⟩ := fiveB ((hb1.block wr.heap.size (by simp)).trans (heap_alloc_new wr (insO ⟨5, st, to'⟩)))
                have hz1 : wr.heap.size < w1.heap.size := by have := hb1.size; simp at this; omega
                obtain ⟨hck, hfk⟩ := Hm1.out.get (j := k) (by omega)
                obtain ⟨hcn, hfn⟩ := Hm1.out.get (j := k + 1) (by omega)
                clear hb1
                rw [hA] at hck
                go_wp2_with fail
                go_ret
                exact ⟨by rw [Hv.out]; rfl, Hm1.out.bel⟩
              · have hco := come_ok (A := A) (i := k + 1) (h := h - 1) (by omega)
                have Hv := Lib.hid (show runA p.length 0 p (fun i => if i = 0 then 1 else 0) = runA p.length (k + 1) (p.drop (k + 1)) (fun j => if j = k + 1 then h - 1 + 1 else A j) from by rw [hrs, hst, hco]; rfl)
                have Hbn := Lib.hid (show ∀ j, (fun j => if j = k + 1 then h - 1 + 1 else A j) j ≤ k + 1 + 1 from fun j => by
                  have := Hbd.out j
                  simp only
                  split <;> omega)
                by_cases hc0 : A (k + 1) = 0
                · have c0 : ((A (k + 1) : Int) != 0) = false := by rw [hc0]; rfl
                  clear hrs hst hco hcf
                  go_wp2_with fail
                  refine (HO.out _).mono ?_
                  rintro e w1 ⟨rfl, hb1⟩
                  have Hm1 := Lib.hid ((Hm.out.step (rAlloc wr (insO ⟨5, st, to'⟩))).step hb1)
                  obtain ⟨⟨k0, k1, k2, k3, k4⟩, -⟩ := fiveB ((hb1.block wr.heap.size (by simp)).trans (heap_alloc_new wr (insO ⟨5, st, to'⟩)))
                  have hz1 : wr.heap.size < w1.heap.size := by have := hb1.size; simp at this; omega
                  obtain ⟨hck, hfk⟩ := Hm1.out.get (j := k) (by omega)
                  obtain ⟨hcn, hfn⟩ := Hm1.out.get (j := k + 1) (by omega)
                  clear hb1
                  rw [hA] at hck
                  go_wp2_with fail
                  go_roundw
                  case rel => exact ⟨k + 1, _, by go_num, by omega, Lib.hid (Hm1.out.set' (k + 1) (h - 1 + 1) _ (by omega)), Lib.hid (Hbn.out), Hv⟩
                  case measure => simp [intOf]; omega
                · have c0 : ((A (k + 1) : Int) != 0) = true := by rw [bne_iff_ne]; omega
                  have c1 : ((A (k + 1) : Int) != ((h : Int) - 1) + 1) = false := by rw [bne_eq_false_iff_eq]; omega
                  clear hrs hst hco hcf
                  go_wp2_with fail
                  refine (HO.out _).mono ?_
                  rintro e w1 ⟨rfl, hb1⟩
                  have Hm1 := Lib.hid ((Hm.out.step (rAlloc wr (insO ⟨5, st, to'⟩))).step hb1)
                  obtain ⟨⟨k0, k1, k2, k3, k4⟩, -⟩ := fiveB ((hb1.block wr.heap.size (by simp)).trans (heap_alloc_new wr (insO ⟨5, st, to'⟩)))
                  have hz1 : wr.heap.size < w1.heap.size := by have := hb1.size; simp at this; omega
                  obtain ⟨hck, hfk⟩ := Hm1.out.get (j := k) (by omega)
                  obtain ⟨hcn, hfn⟩ := Hm1.out.get (j := k + 1) (by omega)
                  clear hb1
                  rw [hA] at hck
                  go_wp2_with fail
                  go_roundw
                  case rel => exact ⟨k + 1, _, by go_num, by omega, Lib.hid (Hm1.out.set' (k + 1) (h - 1 + 1) _ (by omega)), Lib.hid (Hbn.out), Hv⟩
                  case measure => simp [intOf]; omega
          obtain ⟨t, rfl, hkt, htN, hop24⟩ := oneI_jump ho o1 o3 o5
          rcases hop24 with rfl | rfl
          · have hneed : needA ⟨2, st, t⟩ = 1 := rfl
            have HO := Lib.hid (show ∀ W, Calls Tryz.prog 75 #[.agg #[.int .u8 2, .int .u8 st.kind, .string ⟨st.text.toArray⟩, .int .i64 st.num, .int .i64 t], .int .i64 k, .int .i64 p.length] W _ from HO.out)
            have hleft : leftA ⟨2, st, t⟩ h = h - 1 := rfl
            by_cases hlow : h < 1
            · have hlow' : (h : Int) < 1 := by omega
              have Hv := Lib.hid (Hno.out (by rw [hrs, stepA_low hA (by rw [hneed]; exact hlow)]; rfl))
              clear hrs
              go_wp2_with fail
              refine (HO.out _).mono ?_
              rintro e w1 ⟨rfl, hb1⟩
              have Hm1 := Lib.hid ((Hm.out.step (rAlloc wr (insO ⟨2, st, t⟩))).step hb1)
              obtain ⟨⟨k0, k1, k2, k3, k4⟩, -⟩ := fiveB ((hb1.block wr.heap.size (by simp)).trans (heap_alloc_new wr (insO ⟨2, st, t⟩)))
              have hz1 : wr.heap.size < w1.heap.size := by have := hb1.size; simp at this; omega
              obtain ⟨hck, hfk⟩ := Hm1.out.get (j := k) (by omega)
              obtain ⟨hcn, hfn⟩ := Hm1.out.get (j := k + 1) (by omega)
              clear hb1
              rw [hA] at hck
              obtain ⟨hct, hft⟩ := Hm1.out.get (j := t) htN
              go_wp2_with fail
              go_ret
              exact ⟨by rw [Hv.out]; rfl, Hm1.out.bel⟩
            · have hlow' : ¬ (h : Int) < 1 := by omega
              have hst : stepA p.length k ⟨2, st, t⟩ A = (A.come t h).bind fun A' => A'.come (k + 1) (h - 1) := by rw [stepA_jump (t := t) ho hA (by rw [hneed]; exact hlow) (by simp) rfl, hleft]
              by_cases hcf : A t ≠ 0 ∧ A t ≠ h + 1
              · have c0 : ((A t : Int) != 0) = true := by rw [bne_iff_ne]; omega
                have c1 : ((A t : Int) != (h : Int) + 1) = true := by rw [bne_iff_ne]; omega
                have Hv := Lib.hid (Hno.out (by rw [hrs, hst, come_no hcf.1 hcf.2]; rfl))
                clear hrs hst
                go_wp2_with fail
                refine (HO.out _).mono ?_
                rintro e w1 ⟨rfl, hb1⟩
                have Hm1 := Lib.hid ((Hm.out.step (rAlloc wr (insO ⟨2, st, t⟩))).step hb1)
                obtain ⟨⟨k0, k1, k2, k3, k4⟩, -⟩ := fiveB ((hb1.block wr.heap.size (by simp)).trans (heap_alloc_new wr (insO ⟨2, st, t⟩)))
                have hz1 : wr.heap.size < w1.heap.size := by have := hb1.size; simp at this; omega
                obtain ⟨hck, hfk⟩ := Hm1.out.get (j := k) (by omega)
                obtain ⟨hcn, hfn⟩ := Hm1.out.get (j := k + 1) (by omega)
                clear hb1
                rw [hA] at hck
                obtain ⟨hct, hft⟩ := Hm1.out.get (j := t) htN
                go_wp2_with fail
                go_ret
                exact ⟨by rw [Hv.out]; rfl, Hm1.out.bel⟩
              · have hco := come_ok (A := A) (i := t) (h := h) (by omega)
                rw [hco, Option.bind_some] at hst
                have hcc : (((A t : Int) != 0) = false) ∨ (((A t : Int) != 0) = true ∧ ((A t : Int) != (h : Int) + 1) = false) := by
                  by_cases hc0 : A t = 0
                  · exact .inl (by rw [hc0]; rfl)
                  · exact .inr ⟨by rw [bne_iff_ne]; omega, by rw [bne_eq_false_iff_eq]; omega⟩
                by_cases htk : t = k + 1
                · subst htk
                  have c2 : (((h : Int) + 1) != 0) = true := by rw [bne_iff_ne]; omega
                  have c3 : (((h : Int) + 1) != ((h : Int) - 1) + 1) = true := by rw [bne_iff_ne]; omega
                  have Hv := Lib.hid (Hno.out (by rw [hrs, hst, come_no (by simp) (by simp; omega)]; rfl))
                  rcases hcc with c0 | ⟨c0, c1⟩
                  all_goals
                    clear hrs hst hco hcf
                    go_wp2_with fail
                    refine (HO.out _).mono ?_
                    rintro e w1 ⟨rfl, hb1⟩
                    have Hm1 := Lib.hid ((Hm.out.step (rAlloc wr (insO ⟨2, st, (k + 1 : Nat)⟩))).step hb1)
                    obtain ⟨⟨k0, k1, k2, k3, k4⟩, -⟩ := fiveB ((hb1.block wr.heap.size (by simp)).trans (heap_alloc_new wr (insO ⟨2, st, (k + 1 : Nat)⟩)))
                    have hz1 : wr.heap.size < w1.heap.size := by have := hb1.size; simp at this; omega
                    obtain ⟨hck, hfk⟩ := Hm1.out.get (j := k) (by omega)
                    obtain ⟨hcn, hfn⟩ := Hm1.out.get (j := k + 1) (by omega)
                    clear hb1
                    rw [hA] at hck
                    go_wp2_with fail
                    go_ret
                    exact ⟨by rw [Hv.out]; rfl, Hm1.out.bel.setCell (Nat.le_refl _) _⟩
                · have hA2 : (fun j => if j = t then h + 1 else A j) (k + 1) = A (k + 1) := by simp only; rw [if_neg (fun e => htk e.symm)]
                  by_cases hcf2 : A (k + 1) ≠ 0 ∧ A (k + 1) ≠ h - 1 + 1
                  · have d0 : ((A (k + 1) : Int) != 0) = true := by rw [bne_iff_ne]; omega
                    have d1 : ((A (k + 1) : Int) != ((h : Int) - 1) + 1) = true := by rw [bne_iff_ne]; omega
                    have Hv := Lib.hid (Hno.out (by rw [hrs, hst, come_no (by show (if k + 1 = t then h + 1 else A (k + 1)) ≠ 0; rw [if_neg (fun e => htk e.symm)]; exact hcf2.1) (by rw [if_neg (fun e => htk e.symm)]; exact hcf2.2)]; rfl))
                    rcases hcc with c0 | ⟨c0, c1⟩
                    all_goals
                      clear hrs hst hco hcf hA2
                      go_wp2_with fail
                      refine (HO.out _).mono ?_
                      rintro e w1 ⟨rfl, hb1⟩
                      have Hm1 := Lib.hid ((Hm.out.step (rAlloc wr (insO ⟨2, st, t⟩))).step hb1)
                      obtain ⟨⟨k0, k1, k2, k3, k4⟩, -⟩ := fiveB ((hb1.block wr.heap.size (by simp)).trans (heap_alloc_new wr (insO ⟨2, st, t⟩)))
                      have hz1 : wr.heap.size < w1.heap.size := by have := hb1.size; simp at this; omega
                      obtain ⟨hck, hfk⟩ := Hm1.out.get (j := k) (by omega)
                      obtain ⟨hcn, hfn⟩ := Hm1.out.get (j := k + 1) (by omega)
                      clear hb1
                      rw [hA] at hck
                      obtain ⟨hct, hft⟩ := Hm1.out.get (j := t) htN
                      go_wp2_with fail
                      go_ret
                      exact ⟨by rw [Hv.out]; rfl, Hm1.out.bel.setCell (Nat.le_refl _) _⟩
                  · have Hv := Lib.hid (show runA p.length 0 p (fun i => if i = 0 then 1 else 0) = runA p.length (k + 1) (p.drop (k + 1)) (fun j => if j = k + 1 then h - 1 + 1 else (if j = t then h + 1 else A j)) from by rw [hrs, hst, come_ok (by rw [if_neg (fun e => htk e.symm)]; omega)]; rfl)
                    have Hbn := Lib.hid (show ∀ j, (fun j => if j = k + 1 then h - 1 + 1 else (if j = t then h + 1 else A j)) j ≤ k + 1 + 1 from fun j => by
                      have := Hbd.out j
                      simp only
                      split
                      · omega
                      · split <;> omega)
                    have hdd : (((A (k + 1) : Int) != 0) = false) ∨ (((A (k + 1) : Int) != 0) = true ∧ ((A (k + 1) : Int) != ((h : Int) - 1) + 1) = false) := by
                      by_cases hc0 : A (k + 1) = 0
                      · exact .inl (by rw [hc0]; rfl)
                      · exact .inr ⟨by rw [bne_iff_ne]; omega, by rw [bne_eq_false_iff_eq]; omega⟩
                    rcases hcc with c0 | ⟨c0, c1⟩
                    all_goals rcases hdd with d0 | ⟨d0, d1⟩
                    all_goals
                      clear hrs hst hco hcf hA2 hcf2
                      go_wp2_with fail
                      refine (HO.out _).mono ?_
                      rintro e w1 ⟨rfl, hb1⟩
                      have Hm1 := Lib.hid ((Hm.out.step (rAlloc wr (insO ⟨2, st, t⟩))).step hb1)
                      obtain ⟨⟨k0, k1, k2, k3, k4⟩, -⟩ := fiveB ((hb1.block wr.heap.size (by simp)).trans (heap_alloc_new wr (insO ⟨2, st, t⟩)))
                      have hz1 : wr.heap.size < w1.heap.size := by have := hb1.size; simp at this; omega
                      obtain ⟨hck, hfk⟩ := Hm1.out.get (j := k) (by omega)
                      obtain ⟨hcn, hfn⟩ := Hm1.out.get (j := k + 1) (by omega)
                      clear hb1
                      rw [hA] at hck
                      obtain ⟨hct, hft⟩ := Hm1.out.get (j := t) htN
                      go_wp2_with fail
                      go_roundw
                      case rel => exact ⟨k + 1, _, by go_num, by omega, Lib.hid ((Hm1.out.set' t (h + 1) _ (by omega)).set' (k + 1) (h - 1 + 1) _ (by omega)), Lib.hid (Hbn.out), Hv⟩
                      case measure => simp [intOf]; omega
          · have hneed : needA ⟨4, st, t⟩ = 1 := rfl
            have HO := Lib.hid (show ∀ W, Calls Tryz.prog 75 #[.agg #[.int .u8 4, .int .u8 st.kind, .string ⟨st.text.toArray⟩, .int .i64 st.num, .int .i64 t], .int .i64 k, .int .i64 p.length] W _ from HO.out)
            have hleft : leftA ⟨4, st, t⟩ h = h := rfl
            by_cases hlow : h < 1
            · have hlow' : (h : Int) < 1 := by omega
              have Hv := Lib.hid (Hno.out (by rw [hrs, stepA_low hA (by rw [hneed]; exact hlow)]; rfl))
              clear hrs
              go_wp2_with fail
              refine (HO.out _).mono ?_
              rintro e w1 ⟨rfl, hb1⟩
              have Hm1 := Lib.hid ((Hm.out.step (rAlloc wr (insO ⟨4, st, t⟩))).step hb1)
              obtain ⟨⟨k0, k1, k2, k3, k4⟩, -⟩ := fiveB ((hb1.block wr.heap.size (by simp)).trans (heap_alloc_new wr (insO ⟨4, st, t⟩)))
              have hz1 : wr.heap.size < w1.heap.size := by have := hb1.size; simp at this; omega
              obtain ⟨hck, hfk⟩ := Hm1.out.get (j := k) (by omega)
              obtain ⟨hcn, hfn⟩ := Hm1.out.get (j := k + 1) (by omega)
              clear hb1
              rw [hA] at hck
              obtain ⟨hct, hft⟩ := Hm1.out.get (j := t) htN
              go_wp2_with fail
              go_ret
              exact ⟨by rw [Hv.out]; rfl, Hm1.out.bel⟩
            · have hlow' : ¬ (h : Int) < 1 := by omega
              have hst : stepA p.length k ⟨4, st, t⟩ A = (A.come t h).bind fun A' => A'.come (k + 1) (h) := by rw [stepA_jump (t := t) ho hA (by rw [hneed]; exact hlow) (by simp) rfl, hleft]
              by_cases hcf : A t ≠ 0 ∧ A t ≠ h + 1
              · have c0 : ((A t : Int) != 0) = true := by rw [bne_iff_ne]; omega
                have c1 : ((A t : Int) != (h : Int) + 1) = true := by rw [bne_iff_ne]; omega
                have Hv := Lib.hid (Hno.out (by rw [hrs, hst, come_no hcf.1 hcf.2]; rfl))
                clear hrs hst
                go_wp2_with fail
                refine (HO.out _).mono ?_
                rintro e w1 ⟨rfl, hb1⟩
                have Hm1 := Lib.hid ((Hm.out.step (rAlloc wr (insO ⟨4, st, t⟩))).step hb1)
                obtain ⟨⟨k0, k1, k2, k3, k4⟩, -⟩ := fiveB ((hb1.block wr.heap.size (by simp)).trans (heap_alloc_new wr (insO ⟨4, st, t⟩)))
                have hz1 : wr.heap.size < w1.heap.size := by have := hb1.size; simp at this; omega
                obtain ⟨hck, hfk⟩ := Hm1.out.get (j := k) (by omega)
                obtain ⟨hcn, hfn⟩ := Hm1.out.get (j := k + 1) (by omega)
                clear hb1
                rw [hA] at hck
                obtain ⟨hct, hft⟩ := Hm1.out.get (j := t) htN
                go_wp2_with fail
                go_ret
                exact ⟨by rw [Hv.out]; rfl, Hm1.out.bel⟩
              · have hco := come_ok (A := A) (i := t) (h := h) (by omega)
                rw [hco, Option.bind_some] at hst
                have hcc : (((A t : Int) != 0) = false) ∨ (((A t : Int) != 0) = true ∧ ((A t : Int) != (h : Int) + 1) = false) := by
                  by_cases hc0 : A t = 0
                  · exact .inl (by rw [hc0]; rfl)
                  · exact .inr ⟨by rw [bne_iff_ne]; omega, by rw [bne_eq_false_iff_eq]; omega⟩
                by_cases htk : t = k + 1
                · subst htk
                  have c2 : (((h : Int) + 1) != 0) = true := by rw [bne_iff_ne]; omega
                  have Hv := Lib.hid (show runA p.length 0 p (fun i => if i = 0 then 1 else 0) = runA p.length (k + 1) (p.drop (k + 1)) (fun j => if j = k + 1 then h + 1 else (if j = k + 1 then h + 1 else A j)) from by rw [hrs, hst, come_ok (.inr (by simp))]; rfl)
                  have Hbn := Lib.hid (show ∀ j, (fun j => if j = k + 1 then h + 1 else (if j = k + 1 then h + 1 else A j)) j ≤ k + 1 + 1 from fun j => by
                    have := Hbd.out j
                    simp only
                    split <;> omega)
                  rcases hcc with c0 | ⟨c0, c1⟩
                  all_goals
                    clear hrs hst hco hcf
                    go_wp2_with fail
                    refine (HO.out _).mono ?_
                    rintro e w1 ⟨rfl, hb1⟩
                    have Hm1 := Lib.hid ((Hm.out.step (rAlloc wr (insO ⟨4, st, (k + 1 : Nat)⟩))).step hb1)
                    obtain ⟨⟨k0, k1, k2, k3, k4⟩, -⟩ := fiveB ((hb1.block wr.heap.size (by simp)).trans (heap_alloc_new wr (insO ⟨4, st, (k + 1 : Nat)⟩)))
                    have hz1 : wr.heap.size < w1.heap.size := by have := hb1.size; simp at this; omega
                    obtain ⟨hck, hfk⟩ := Hm1.out.get (j := k) (by omega)
                    obtain ⟨hcn, hfn⟩ := Hm1.out.get (j := k + 1) (by omega)
                    clear hb1
                    rw [hA] at hck
                    go_wp2_with fail
                    go_roundw
                    case rel => exact ⟨k + 1, _, by go_num, by omega, Lib.hid ((Hm1.out.set' (k + 1) (h + 1) _ (by omega)).set' (k + 1) (h + 1) _ (by omega)), Lib.hid (Hbn.out), Hv⟩
                    case measure => simp [intOf]; omega
                · have hA2 : (fun j => if j = t then h + 1 else A j) (k + 1) = A (k + 1) := by simp only; rw [if_neg (fun e => htk e.symm)]
                  by_cases hcf2 : A (k + 1) ≠ 0 ∧ A (k + 1) ≠ h + 1
                  · have d0 : ((A (k + 1) : Int) != 0) = true := by rw [bne_iff_ne]; omega
                    have d1 : ((A (k + 1) : Int) != (h : Int) + 1) = true := by rw [bne_iff_ne]; omega
                    have Hv := Lib.hid (Hno.out (by rw [hrs, hst, come_no (by show (if k + 1 = t then h + 1 else A (k + 1)) ≠ 0; rw [if_neg (fun e => htk e.symm)]; exact hcf2.1) (by rw [if_neg (fun e => htk e.symm)]; exact hcf2.2)]; rfl))
                    rcases hcc with c0 | ⟨c0, c1⟩
                    all_goals
                      clear hrs hst hco hcf hA2
                      go_wp2_with fail
                      refine (HO.out _).mono ?_
                      rintro e w1 ⟨rfl, hb1⟩
                      have Hm1 := Lib.hid ((Hm.out.step (rAlloc wr (insO ⟨4, st, t⟩))).step hb1)
                      obtain ⟨⟨k0, k1, k2, k3, k4⟩, -⟩ := fiveB ((hb1.block wr.heap.size (by simp)).trans (heap_alloc_new wr (insO ⟨4, st, t⟩)))
                      have hz1 : wr.heap.size < w1.heap.size := by have := hb1.size; simp at this; omega
                      obtain ⟨hck, hfk⟩ := Hm1.out.get (j := k) (by omega)
                      obtain ⟨hcn, hfn⟩ := Hm1.out.get (j := k + 1) (by omega)
                      clear hb1
                      rw [hA] at hck
                      obtain ⟨hct, hft⟩ := Hm1.out.get (j := t) htN
                      go_wp2_with fail
                      go_ret
                      exact ⟨by rw [Hv.out]; rfl, Hm1.out.bel.setCell (Nat.le_refl _) _⟩
                  · have Hv := Lib.hid (show runA p.length 0 p (fun i => if i = 0 then 1 else 0) = runA p.length (k + 1) (p.drop (k + 1)) (fun j => if j = k + 1 then h + 1 else (if j = t then h + 1 else A j)) from by rw [hrs, hst, come_ok (by rw [if_neg (fun e => htk e.symm)]; omega)]; rfl)
                    have Hbn := Lib.hid (show ∀ j, (fun j => if j = k + 1 then h + 1 else (if j = t then h + 1 else A j)) j ≤ k + 1 + 1 from fun j => by
                      have := Hbd.out j
                      simp only
                      split
                      · omega
                      · split <;> omega)
                    have hdd : (((A (k + 1) : Int) != 0) = false) ∨ (((A (k + 1) : Int) != 0) = true ∧ ((A (k + 1) : Int) != (h : Int) + 1) = false) := by
                      by_cases hc0 : A (k + 1) = 0
                      · exact .inl (by rw [hc0]; rfl)
                      · exact .inr ⟨by rw [bne_iff_ne]; omega, by rw [bne_eq_false_iff_eq]; omega⟩
                    rcases hcc with c0 | ⟨c0, c1⟩
                    all_goals rcases hdd with d0 | ⟨d0, d1⟩
                    all_goals
                      clear hrs hst hco hcf hA2 hcf2
                      go_wp2_with fail
                      refine (HO.out _).mono ?_
                      rintro e w1 ⟨rfl, hb1⟩
                      have Hm1 := Lib.hid ((Hm.out.step (rAlloc wr (insO ⟨4, st, t⟩))).step hb1)
                      obtain ⟨⟨k0, k1, k2, k3, k4⟩, -⟩ := fiveB ((hb1.block wr.heap.size (by simp)).trans (heap_alloc_new wr (insO ⟨4, st, t⟩)))
                      have hz1 : wr.heap.size < w1.heap.size := by have := hb1.size; simp at this; omega
                      obtain ⟨hck, hfk⟩ := Hm1.out.get (j := k) (by omega)
                      obtain ⟨hcn, hfn⟩ := Hm1.out.get (j := k + 1) (by omega)
                      clear hb1
                      rw [hA] at hck
                      obtain ⟨hct, hft⟩ := Hm1.out.get (j := t) htN
                      go_wp2_with fail
                      go_roundw
                      case rel => exact ⟨k + 1, _, by go_num, by omega, Lib.hid ((Hm1.out.set' t (h + 1) _ (by omega)).set' (k + 1) (h + 1) _ (by omega)), Lib.hid (Hbn.out), Hv⟩
                      case measure => simp [intOf]; omega
      · have hrs := Hr.out
        rw [List.drop_of_length_le (by omega), runA] at hrs
        have Hv := Lib.hid (Hend.out _ hrs)
        obtain ⟨hcN, -⟩ := Hm.out.get (j := p.length) (Nat.le_refl _)
        by_cases h2 : A p.length = 2
        · have e2 : ((A p.length : Int) != 2) = false := by rw [h2]; rfl
          rw [if_pos h2] at Hv
          clear hrs
          go_wp2_with fail
          go_ret
          exact ⟨by rw [Hv.out]; rfl, Hm.out.bel⟩
        · have e2 : ((A p.length : Int) != 2) = true := by rw [bne_iff_ne]; omega
          rw [if_neg h2] at Hv
          clear hrs
          go_wp2_with fail
          go_ret
          exact ⟨by rw [Hv.out]; rfl, Hm.out.bel⟩
  · have Hv := Lib.hid (checkRV_len hlen)
    by_cases h1 : p.length < 1
    · have h1' : (p.length : Int) < 1 := by omega
      go_enter Tryz.func33, Tryz.ntmps33
      go_wp2_with fail
      go_ret
      exact ⟨by rw [Hv.out]; rfl, Below.refl _ _⟩
    · have h1' : ¬ (p.length : Int) < 1 := by omega
      have h2' : (256 : Int) < p.length := by omega
      go_enter Tryz.func33, Tryz.ntmps33
      go_wp2_with fail
      go_ret
      exact ⟨by rw [Hv.out]; rfl, Below.refl _ _⟩

end Go.Proofs.YtcjmhmmjfgjcnaaGreatDoor.Cd
