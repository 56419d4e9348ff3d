/- Parts: QcC QcD. -/
import Derived.Test.YtcjmhmmjfgjcnaaGreatDoorMc03
import Derived.Test.YtcjmhmmjfgjcnaaGreatDoorMc07
import Derived.Test.YtcjmhmmjfgjcnaaGreatDoorMc08
import Derived.Laws.Strings2

/- codicilref13: instr. -/
namespace Go.Proofs.YtcjmhmmjfgjcnaaGreatDoor.Cd
open Go.RowKit Go.Proofs.YtcjmhmmjfgjcnaaGreatDoor.Lx Go.Proofs.YtcjmhmmjfgjcnaaGreatDoor.Pa

def Ins.val (x : Ins) : Value := .agg #[.int .u8 x.op, .int .u8 x.st.kind, .string ⟨x.st.text.toArray⟩, .int .i64 x.st.num, .int .i64 x.to]
def GaveI (w : World) (o : Option (Ins × Nat)) (e : Ending) (w' : World) : Prop := Below w.heap.size w w' ∧
  match o with
  | none => ∃ x : Ins, e = .returned (.tuple #[x.val, .int .i64 0])
  | some r => e = .returned (.tuple #[r.1.val, .int .i64 r.2])

structure InM (w wx : World) (x : Ins) : Prop where
  b0 : wx.heap[w.heap.size]? = some (.cells #[.int .u8 0, .int .u8 0, .string ⟨#[]⟩, .int .i64 0, .int .i64 0] 63)
  b1 : wx.heap[w.heap.size + 1]? = some (.cells #[.int .u8 x.op, .int .u8 x.st.kind, .string ⟨x.st.text.toArray⟩, .int .i64 x.st.num, .int .i64 x.to] 63)
  bel : Below w.heap.size w wx
theorem heap_two0 (w : World) (a b : Obj) : ((w.alloc a).alloc b).heap[w.heap.size]? = some a :=
  ((allocB (w.alloc a) b).block _ (by simp)).trans (heap_alloc_new w a)
theorem heap_two1 (w : World) (a b : Obj) : ((w.alloc a).alloc b).heap[w.heap.size + 1]? = some b := by
  have := heap_alloc_new (w.alloc a) b
  simpa using this
theorem InM.step {w wx w' : World} {x : Ins} (h : InM w wx x) (hb : Below wx.heap.size wx w') : InM w w' x :=
  ⟨(hb.block _ (ltH h.b0)).trans h.b0, (hb.block _ (ltH h.b1)).trans h.b1, stepH h.bel hb⟩

theorem InM.kind {w wx : World} {x : Ins} (h : InM w wx x) (k : Nat) : InM w (wx.setCell ⟨w.heap.size + 1, 1, none⟩ (.int .u8 k)) ⟨x.op, ⟨k, x.st.text, x.st.num⟩, x.to⟩ :=
  ⟨(Below.heap_setCell _ _ _ _ (show w.heap.size ≠ w.heap.size + 1 by omega)).trans h.b0, by simp only [World.setCell, Array.getElem?_modify, if_true, h.b1, Option.map_some]; rfl, h.bel.setCell (Nat.le_succ _) _⟩
theorem InM.num {w wx : World} {x : Ins} (h : InM w wx x) (k : Int) : InM w (wx.setCell ⟨w.heap.size + 1, 3, none⟩ (.int .i64 k)) ⟨x.op, ⟨x.st.kind, x.st.text, k⟩, x.to⟩ :=
  ⟨(Below.heap_setCell _ _ _ _ (show w.heap.size ≠ w.heap.size + 1 by omega)).trans h.b0, by simp only [World.setCell, Array.getElem?_modify, if_true, h.b1, Option.map_some]; rfl, h.bel.setCell (Nat.le_succ _) _⟩

set_option maxHeartbeats 4000000 in
set_option maxRecDepth 100000 in
theorem instr_calls (w : World) (b : UInt8) (r : Txt) (hs : r.length ≤ 100000) :
    Calls Tryz.prog 73 #[.string ⟨(b :: r).toArray⟩] w (GaveI w (instrR (b :: r))) := by
  have hsz : (⟨(b :: r).toArray⟩ : ByteArray).size = r.length + 1 := by rw [size_mk]; rfl
  have h0 : (⟨(b :: r).toArray⟩ : ByteArray)[0]'(by omega) = b := rfl
  have hd1 : (⟨(b :: r).toArray⟩ : ByteArray).extract 1 (r.length + 1) = ⟨r.toArray⟩ := by rw [← hsz, mk_drop]; rfl
  have hb := b.toNat_lt
  by_cases h3 : b.toNat = 3
  · have Hg := Lib.hid (show ∀ e w', Below w.heap.size w w' → e = .returned (.tuple #[(⟨3, stp0, 0⟩ : Ins).val, .int .i64 1]) → GaveI w (instrR (b :: r)) e w' from fun e w' h1 h2 => ⟨h1, by simp only [instrR, h3, true_or, if_true]; exact h2⟩)
    generalize hbv : b.toNat = v at *
    subst h3
    go_enter Tryz.func73, Tryz.ntmps73
    go_wp2_with fail
    refine bodyPost_ret (v := .tuple #[(⟨3, stp0, 0⟩ : Ins).val, .int .i64 1]) (by simp [results, Tryz.results73, go_sem, Ins.val, stp0]) rfl (Hg.out _ _ ?_ rfl)
    exact ((Below.refl _ _).alloc (Nat.le_refl _) _).alloc (by simp) _
  by_cases h5 : b.toNat = 5
  · have Hg := Lib.hid (show ∀ e w', Below w.heap.size w w' → e = .returned (.tuple #[(⟨5, stp0, 0⟩ : Ins).val, .int .i64 1]) → GaveI w (instrR (b :: r)) e w' from fun e w' h1 h2 => ⟨h1, by simp only [instrR, h5, or_true, if_true]; exact h2⟩)
    generalize hbv : b.toNat = v at *
    subst h5
    go_enter Tryz.func73, Tryz.ntmps73
    go_wp2_with fail
    refine bodyPost_ret (v := .tuple #[(⟨5, stp0, 0⟩ : Ins).val, .int .i64 1]) (by simp [results, Tryz.results73, go_sem, Ins.val, stp0]) rfl (Hg.out _ _ ?_ rfl)
    exact ((Below.refl _ _).alloc (Nat.le_refl _) _).alloc (by simp) _
  by_cases h2 : b.toNat = 2
  · have Hr := Lib.hid (fun w2 => ReadNumberR_calls w2 ⟨r.toArray⟩ (by rw [size_mk]; omega))
    rw [L_mk] at Hr
    cases hrn : readN r with
    | none =>
      have Hg := Lib.hid (show ∀ e w', Below w.heap.size w w' → e = .returned (.tuple #[(⟨2, stp0, 0⟩ : Ins).val, .int .i64 0]) → GaveI w (instrR (b :: r)) e w' from fun e w' h1 h2 => ⟨h1, by rw [show instrR (b :: r) = none by rw [instrR, if_neg (by omega), if_pos (by omega), hrn]; rfl]; exact ⟨_, h2⟩⟩)
      rw [hrn] at Hr
      generalize hbv : b.toNat = v at *
      subst h2
      clear hrn
      go_enter Tryz.func73, Tryz.ntmps73
      go_wp2_with fail
      refine (Hr.out _).mono ?_
      rintro e w6 ⟨rfl, hb6⟩
      have Hm := Lib.hid ((show InM w _ (ins0 2) from ⟨heap_two0 _ _ _, heap_two1 _ _ _, ((Below.refl _ _).alloc (Nat.le_refl _) _).alloc (by simp) _⟩).step hb6)
      clear hb6
      obtain ⟨⟨k0, k1, k2, k3, k4⟩, f0, f1, f2, f3, f4⟩ := fiveB Hm.out.b0
      obtain ⟨⟨m0, m1, m2, m3, m4⟩, -⟩ := fiveB Hm.out.b1
      have hlt0 := ltH Hm.out.b0
      have hlt1 := ltH Hm.out.b1
      unfold rnV
      have Hb := Lib.hid Hm.out.bel
      clear Hm
      simp only [ins0, stp0] at m0 m1 m2 m3 m4
      go_wp2_with fail
      refine bodyPost_ret (v := .tuple #[(⟨2, stp0, 0⟩ : Ins).val, .int .i64 0]) (by simp [results, Tryz.results73, go_sem, Ins.val, stp0, k0, k1, k2, k3, k4]) rfl (Hg.out _ _ ?_ rfl)
      exact ((((Hb.out.setCell (Nat.le_refl _) _).setCell (Nat.le_refl _) _).setCell (Nat.le_refl _) _).setCell (Nat.le_refl _) _).setCell (Nat.le_refl _) _
    | some n =>
      have hn64 := (readN_back (n := n.1) (k := n.2) hrn).1
      have hnl := (number_some hrn).2
      rw [hrn] at Hr
      by_cases hbig : 1000 < n.1
      · have Hg := Lib.hid (show ∀ e w', Below w.heap.size w w' → e = .returned (.tuple #[(⟨2, stp0, 0⟩ : Ins).val, .int .i64 0]) → GaveI w (instrR (b :: r)) e w' from fun e w' h1 h2 => ⟨h1, by rw [show instrR (b :: r) = none by rw [instrR, if_neg (by omega), if_pos (by omega), hrn, Option.bind_some, if_pos hbig]]; exact ⟨_, h2⟩⟩)
        generalize hbv : b.toNat = v at *
        subst h2
        clear hrn
        have hbig2 : (1000 : Int) < n.1 := by omega
        go_enter Tryz.func73, Tryz.ntmps73
        go_wp2_with fail
        refine (Hr.out _).mono ?_
        rintro e w6 ⟨rfl, hb6⟩
        have Hm := Lib.hid ((show InM w _ (ins0 2) from ⟨heap_two0 _ _ _, heap_two1 _ _ _, ((Below.refl _ _).alloc (Nat.le_refl _) _).alloc (by simp) _⟩).step hb6)
        clear hb6
        obtain ⟨⟨k0, k1, k2, k3, k4⟩, f0, f1, f2, f3, f4⟩ := fiveB Hm.out.b0
        obtain ⟨⟨m0, m1, m2, m3, m4⟩, -, -, -, -, g4⟩ := fiveB Hm.out.b1
        have hlt0 := ltH Hm.out.b0
        have hlt1 := ltH Hm.out.b1
        unfold rnV
        have Hb := Lib.hid Hm.out.bel
        clear Hm
        simp only [ins0, stp0] at m0 m1 m2 m3 m4
        go_wp2_with fail
        refine bodyPost_ret (v := .tuple #[(⟨2, stp0, 0⟩ : Ins).val, .int .i64 0]) (by simp [results, Tryz.results73, go_sem, Ins.val, stp0, k0, k1, k2, k3, k4]) rfl (Hg.out _ _ ?_ rfl)
        exact ((((Hb.out.setCell (Nat.le_refl _) _).setCell (Nat.le_refl _) _).setCell (Nat.le_refl _) _).setCell (Nat.le_refl _) _).setCell (Nat.le_refl _) _
      · have Hg := Lib.hid (show ∀ e w', Below w.heap.size w w' → e = .returned (.tuple #[(⟨2, stp0, (n.1 : Int)⟩ : Ins).val, .int .i64 (1 + n.2)]) → GaveI w (instrR (b :: r)) e w' from fun e w' h8 h9 => ⟨h8, by rw [show instrR (b :: r) = some (⟨2, stp0, n.1⟩, 1 + n.2) by rw [instrR, if_neg (by omega), if_pos (by omega), hrn, Option.bind_some, if_neg hbig, h2]]; exact h9⟩)
        generalize hbv : b.toNat = v at *
        subst h2
        clear hrn
        have hbig2 : ¬ (1000 : Int) < n.1 := by omega
        go_enter Tryz.func73, Tryz.ntmps73
        go_wp2_with fail
        refine (Hr.out _).mono ?_
        rintro e w6 ⟨rfl, hb6⟩
        have Hm := Lib.hid ((show InM w _ (ins0 2) from ⟨heap_two0 _ _ _, heap_two1 _ _ _, ((Below.refl _ _).alloc (Nat.le_refl _) _).alloc (by simp) _⟩).step hb6)
        clear hb6
        obtain ⟨⟨k0, k1, k2, k3, k4⟩, f0, f1, f2, f3, f4⟩ := fiveB Hm.out.b0
        obtain ⟨⟨m0, m1, m2, m3, m4⟩, -, -, -, -, g4⟩ := fiveB Hm.out.b1
        have hlt0 := ltH Hm.out.b0
        have hlt1 := ltH Hm.out.b1
        unfold rnV
        have Hb := Lib.hid Hm.out.bel
        clear Hm
        simp only [ins0, stp0] at m0 m1 m2 m3 m4
        go_wp2_with fail
        refine bodyPost_ret (v := .tuple #[(⟨2, stp0, (n.1 : Int)⟩ : Ins).val, .int .i64 (1 + n.2)]) (by simp [results, Tryz.results73, go_sem, Ins.val, stp0, k0, k1, k2, k3, k4]) rfl (Hg.out _ _ ?_ rfl)
        exact (((((Hb.out.setCell (Nat.le_succ _) _).setCell (Nat.le_refl _) _).setCell (Nat.le_refl _) _).setCell (Nat.le_refl _) _).setCell (Nat.le_refl _) _).setCell (Nat.le_refl _) _
  by_cases h4 : b.toNat = 4
  · have Hr := Lib.hid (fun w2 => ReadNumberR_calls w2 ⟨r.toArray⟩ (by rw [size_mk]; omega))
    rw [L_mk] at Hr
    cases hrn : readN r with
    | none =>
      have Hg := Lib.hid (show ∀ e w', Below w.heap.size w w' → e = .returned (.tuple #[(⟨4, stp0, 0⟩ : Ins).val, .int .i64 0]) → GaveI w (instrR (b :: r)) e w' from fun e w' h1 h2 => ⟨h1, by rw [show instrR (b :: r) = none by rw [instrR, if_neg (by omega), if_pos (by omega), hrn]; rfl]; exact ⟨_, h2⟩⟩)
      rw [hrn] at Hr
      generalize hbv : b.toNat = v at *
      subst h4
      clear hrn
      go_enter Tryz.func73, Tryz.ntmps73
      go_wp2_with fail
      refine (Hr.out _).mono ?_
      rintro e w6 ⟨rfl, hb6⟩
      have Hm := Lib.hid ((show InM w _ (ins0 4) from ⟨heap_two0 _ _ _, heap_two1 _ _ _, ((Below.refl _ _).alloc (Nat.le_refl _) _).alloc (by simp) _⟩).step hb6)
      clear hb6
      obtain ⟨⟨k0, k1, k2, k3, k4⟩, f0, f1, f2, f3, f4⟩ := fiveB Hm.out.b0
      obtain ⟨⟨m0, m1, m2, m3, m4⟩, -⟩ := fiveB Hm.out.b1
      have hlt0 := ltH Hm.out.b0
      have hlt1 := ltH Hm.out.b1
      unfold rnV
      have Hb := Lib.hid Hm.out.bel
      clear Hm
      simp only [ins0, stp0] at m0 m1 m2 m3 m4
      go_wp2_with fail
      refine bodyPost_ret (v := .tuple #[(⟨4, stp0, 0⟩ : Ins).val, .int .i64 0]) (by simp [results, Tryz.results73, go_sem, Ins.val, stp0, k0, k1, k2, k3, k4]) rfl (Hg.out _ _ ?_ rfl)
      exact ((((Hb.out.setCell (Nat.le_refl _) _).setCell (Nat.le_refl _) _).setCell (Nat.le_refl _) _).setCell (Nat.le_refl _) _).setCell (Nat.le_refl _) _
    | some n =>
      have hn64 := (readN_back (n := n.1) (k := n.2) hrn).1
      have hnl := (number_some hrn).2
      rw [hrn] at Hr
      by_cases hbig : 1000 < n.1
      · have Hg := Lib.hid (show ∀ e w', Below w.heap.size w w' → e = .returned (.tuple #[(⟨4, stp0, 0⟩ : Ins).val, .int .i64 0]) → GaveI w (instrR (b :: r)) e w' from fun e w' h1 h2 => ⟨h1, by rw [show instrR (b :: r) = none by rw [instrR, if_neg (by omega), if_pos (by omega), hrn, Option.bind_some, if_pos hbig]]; exact ⟨_, h2⟩⟩)
        generalize hbv : b.toNat = v at *
        subst h4
        clear hrn
        have hbig2 : (1000 : Int) < n.1 := by omega
        go_enter Tryz.func73, Tryz.ntmps73
        go_wp2_with fail
        refine (Hr.out _).mono ?_
        rintro e w6 ⟨rfl, hb6⟩
        have Hm := Lib.hid ((show InM w _ (ins0 4) from ⟨heap_two0 _ _ _, heap_two1 _ _ _, ((Below.refl _ _).alloc (Nat.le_refl _) _).alloc (by simp) _⟩).step hb6)
        clear hb6
        obtain ⟨⟨k0, k1, k2, k3, k4⟩, f0, f1, f2, f3, f4⟩ := fiveB Hm.out.b0
        obtain ⟨⟨m0, m1, m2, m3, m4⟩, -, -, -, -, g4⟩ := fiveB Hm.out.b1
        have hlt0 := ltH Hm.out.b0
        have hlt1 := ltH Hm.out.b1
        unfold rnV
        have Hb := Lib.hid Hm.out.bel
        clear Hm
        simp only [ins0, stp0] at m0 m1 m2 m3 m4
        go_wp2_with fail
        refine bodyPost_ret (v := .tuple #[(⟨4, stp0, 0⟩ : Ins).val, .int .i64 0]) (by simp [results, Tryz.results73, go_sem, Ins.val, stp0, k0, k1, k2, k3, k4]) rfl (Hg.out _ _ ?_ rfl)
        exact ((((Hb.out.setCell (Nat.le_refl _) _).setCell (Nat.le_refl _) _).setCell (Nat.le_refl _) _).setCell (Nat.le_refl _) _).setCell (Nat.le_refl _) _
      · have Hg := Lib.hid (show ∀ e w', Below w.heap.size w w' → e = .returned (.tuple #[(⟨4, stp0, (n.1 : Int)⟩ : Ins).val, .int .i64 (1 + n.2)]) → GaveI w (instrR (b :: r)) e w' from fun e w' h8 h9 => ⟨h8, by rw [show instrR (b :: r) = some (⟨4, stp0, n.1⟩, 1 + n.2) by rw [instrR, if_neg (by omega), if_pos (by omega), hrn, Option.bind_some, if_neg hbig, h4]]; exact h9⟩)
        generalize hbv : b.toNat = v at *
        subst h4
        clear hrn
        have hbig2 : ¬ (1000 : Int) < n.1 := by omega
        go_enter Tryz.func73, Tryz.ntmps73
        go_wp2_with fail
        refine (Hr.out _).mono ?_
        rintro e w6 ⟨rfl, hb6⟩
        have Hm := Lib.hid ((show InM w _ (ins0 4) from ⟨heap_two0 _ _ _, heap_two1 _ _ _, ((Below.refl _ _).alloc (Nat.le_refl _) _).alloc (by simp) _⟩).step hb6)
        clear hb6
        obtain ⟨⟨k0, k1, k2, k3, k4⟩, f0, f1, f2, f3, f4⟩ := fiveB Hm.out.b0
        obtain ⟨⟨m0, m1, m2, m3, m4⟩, -, -, -, -, g4⟩ := fiveB Hm.out.b1
        have hlt0 := ltH Hm.out.b0
        have hlt1 := ltH Hm.out.b1
        unfold rnV
        have Hb := Lib.hid Hm.out.bel
        clear Hm
        simp only [ins0, stp0] at m0 m1 m2 m3 m4
        go_wp2_with fail
        refine bodyPost_ret (v := .tuple #[(⟨4, stp0, (n.1 : Int)⟩ : Ins).val, .int .i64 (1 + n.2)]) (by simp [results, Tryz.results73, go_sem, Ins.val, stp0, k0, k1, k2, k3, k4]) rfl (Hg.out _ _ ?_ rfl)
        exact (((((Hb.out.setCell (Nat.le_succ _) _).setCell (Nat.le_refl _) _).setCell (Nat.le_refl _) _).setCell (Nat.le_refl _) _).setCell (Nat.le_refl _) _).setCell (Nat.le_refl _) _
  by_cases h1 : b.toNat = 1
  · cases r with
    | nil =>
      have Hg := Lib.hid (show ∀ e w', Below w.heap.size w w' → e = .returned (.tuple #[(⟨1, stp0, 0⟩ : Ins).val, .int .i64 0]) → GaveI w (instrR [b]) e w' from fun e w' h8 h9 => ⟨h8, by rw [show instrR [b] = none by rw [instrR, if_neg (by omega), if_neg (by omega), if_pos h1]; rfl]; exact ⟨_, h9⟩⟩)
      generalize hbv : b.toNat = v at *
      subst h1
      go_enter Tryz.func73, Tryz.ntmps73
      go_wp2_with fail
      refine bodyPost_ret (v := .tuple #[(⟨1, stp0, 0⟩ : Ins).val, .int .i64 0]) (by simp [results, Tryz.results73, go_sem, Ins.val, stp0]) rfl (Hg.out _ _ ?_ rfl)
      exact ((Below.refl _ _).alloc (Nat.le_refl _) _).alloc (by simp) _
    | cons c r2 =>
      have h01 : (⟨(b :: c :: r2).toArray⟩ : ByteArray)[1]'(by rw [hsz]; simp) = c := rfl
      have hd2 : (⟨(b :: c :: r2).toArray⟩ : ByteArray).extract 2 (r2.length + 1 + 1) = ⟨r2.toArray⟩ := by
        have := mk_drop (b :: c :: r2) 2
        rw [hsz] at this
        exact this
      have Hr := Lib.hid (fun w2 => ReadNumberR_calls w2 ⟨r2.toArray⟩ (by rw [size_mk]; rw [List.length_cons] at hs; omega))
      rw [L_mk] at Hr
      have HG := Lib.hid (show instrR (b :: c :: r2) = instrA (c :: r2) by rw [instrR, if_neg (by omega), if_neg (by omega), if_pos h1])
      have hc := c.toNat_lt
      generalize hbv : b.toNat = v at *
      generalize hcv : c.toNat = kc at *
      subst h1
      clear h2 h3 h4 h5
      cases hrn : readN r2 with
      | none =>
        have Hg := Lib.hid (show ∀ e w', Below w.heap.size w w' → e = .returned (.tuple #[(⟨1, ⟨kc, [], 0⟩, 0⟩ : Ins).val, .int .i64 0]) → GaveI w (instrR (b :: c :: r2)) e w' from fun e w' h8 h9 => ⟨h8, by rw [HG.out, show instrA (c :: r2) = none by rw [instrA, hrn]; rfl]; exact ⟨_, h9⟩⟩)
        rw [hrn] at Hr
        clear hrn
        go_enter Tryz.func73, Tryz.ntmps73
        go_wp2_with fail
        refine (Hr.out _).mono ?_
        rintro e w6 ⟨rfl, hb6⟩
        have Hm := Lib.hid ((show InM w _ ⟨1, ⟨kc, [], 0⟩, 0⟩ from ⟨heap_two0 _ _ _, heap_two1 _ _ _, ((Below.refl _ _).alloc (Nat.le_refl _) _).alloc (by simp) _⟩).step hb6)
        clear hb6
        obtain ⟨⟨k0, k1, k2, k3, k4⟩, f0, f1, f2, f3, f4⟩ := fiveB Hm.out.b0
        obtain ⟨⟨m0, m1, m2, m3, m4⟩, -⟩ := fiveB Hm.out.b1
        have hlt0 := ltH Hm.out.b0
        have hlt1 := ltH Hm.out.b1
        unfold rnV
        have Hb := Lib.hid Hm.out.bel
        clear Hm
        simp only [] at m0 m1 m2 m3 m4
        go_wp2_with fail
        refine bodyPost_ret (v := .tuple #[(⟨1, ⟨kc, [], 0⟩, 0⟩ : Ins).val, .int .i64 0]) (by simp [results, Tryz.results73, go_sem, Ins.val, k0, k1, k2, k3, k4]) rfl (Hg.out _ _ ?_ rfl)
        exact ((((Hb.out.setCell (Nat.le_refl _) _).setCell (Nat.le_refl _) _).setCell (Nat.le_refl _) _).setCell (Nat.le_refl _) _).setCell (Nat.le_refl _) _
      | some n =>
        obtain ⟨e9, hnl⟩ := number_some hrn
        have hn64 := (readN_back (n := n.1) (k := n.2) hrn).1
        clear e9
        rw [hrn] at Hr
        rw [List.length_cons] at hs
        have hd3 : (⟨(b :: c :: r2).toArray⟩ : ByteArray).extract (2 + n.2) (r2.length + 1 + 1) = ⟨(r2.drop n.2).toArray⟩ := by
          have := mk_drop (b :: c :: r2) (2 + n.2)
          rw [hsz] at this
          rw [show 2 + n.2 = n.2 + 1 + 1 by omega] at this ⊢
          exact this
        have Hq := Lib.hid (fun w2 => ReadNumberR_calls w2 ⟨(r2.drop n.2).toArray⟩ (by rw [size_mk, List.length_drop]; omega))
        rw [L_mk] at Hq
        have Hw := Lib.hid (show wrap64 (n.1 : Int) = i64 n.1 by unfold wrap64 i64; split <;> omega)
        cases hrm : readN (r2.drop n.2) with
        | none =>
          have Hg := Lib.hid (show ∀ e w', Below w.heap.size w w' → e = .returned (.tuple #[(⟨1, ⟨kc, [], i64 n.1⟩, 0⟩ : Ins).val, .int .i64 0]) → GaveI w (instrR (b :: c :: r2)) e w' from fun e w' h8 h9 => ⟨h8, by rw [HG.out, show instrA (c :: r2) = none by rw [instrA, hrn, Option.bind_some, hrm]; rfl]; exact ⟨_, h9⟩⟩)
          rw [hrm] at Hq
          clear hrm hrn
          go_enter Tryz.func73, Tryz.ntmps73
          go_wp2_with fail
          refine (Hr.out _).mono ?_
          rintro e w6 ⟨rfl, hb6⟩
          have Hm := Lib.hid ((show InM w _ ⟨1, ⟨kc, [], 0⟩, 0⟩ from ⟨heap_two0 _ _ _, heap_two1 _ _ _, ((Below.refl _ _).alloc (Nat.le_refl _) _).alloc (by simp) _⟩).step hb6)
          clear hb6
          obtain ⟨⟨m0, m1, m2, m3, m4⟩, f0, f1, f2, f3, f4⟩ := fiveB Hm.out.b1
          have hlt1 := ltH Hm.out.b1
          unfold rnV
          go_wp2_with fail
          refine (Hq.out _).mono ?_
          rintro e w7 ⟨rfl, hb7⟩
          have Hm2 := Lib.hid ((Hm.out.num (wrap64 n.1)).step hb7)
          rw [Hw.out] at Hm2
          clear hb7 m0 m1 m2 m3 m4 f0 f1 f2 f3 f4
          obtain ⟨⟨k0, k1, k2, k3, k4⟩, f0, f1, f2, f3, f4⟩ := fiveB Hm2.out.b0
          obtain ⟨⟨m0, m1, m2, m3, m4⟩, -⟩ := fiveB Hm2.out.b1
          have hlt0 := ltH Hm2.out.b0
          have hlt2 := ltH Hm2.out.b1
          have Hb := Lib.hid Hm2.out.bel
          clear Hm Hm2
          unfold rnV
          go_wp2_with fail
          refine bodyPost_ret (v := .tuple #[(⟨1, ⟨kc, [], i64 n.1⟩, 0⟩ : Ins).val, .int .i64 0]) (by simp [results, Tryz.results73, go_sem, Ins.val, k0, k1, k2, k3, k4]) rfl (Hg.out _ _ ?_ rfl)
          exact ((((Hb.out.setCell (Nat.le_refl _) _).setCell (Nat.le_refl _) _).setCell (Nat.le_refl _) _).setCell (Nat.le_refl _) _).setCell (Nat.le_refl _) _
        | some m =>
          obtain ⟨-, hml⟩ := number_some hrm
          have hm64 := (readN_back (n := m.1) (k := m.2) hrm).1
          rw [hrm] at Hq
          rw [List.length_drop] at hml
          by_cases hlen : (r2.drop n.2).length - m.2 < m.1
          · have Hg := Lib.hid (show ∀ e w', Below w.heap.size w w' → e = .returned (.tuple #[(⟨1, ⟨kc, [], i64 n.1⟩, 0⟩ : Ins).val, .int .i64 0]) → GaveI w (instrR (b :: c :: r2)) e w' from fun e w' h8 h9 => ⟨h8, by rw [HG.out, show instrA (c :: r2) = none by rw [instrA, hrn, Option.bind_some, hrm, Option.bind_some, if_pos hlen]]; exact ⟨_, h9⟩⟩)
            rw [List.length_drop] at hlen
            have hlen2 : (r2.length : Int) + 1 + 1 - 2 - n.2 - m.2 < m.1 := by omega
            clear hrm hrn
            go_enter Tryz.func73, Tryz.ntmps73
            go_wp2_with fail
            refine (Hr.out _).mono ?_
            rintro e w6 ⟨rfl, hb6⟩
            have Hm := Lib.hid ((show InM w _ ⟨1, ⟨kc, [], 0⟩, 0⟩ from ⟨heap_two0 _ _ _, heap_two1 _ _ _, ((Below.refl _ _).alloc (Nat.le_refl _) _).alloc (by simp) _⟩).step hb6)
            clear hb6
            obtain ⟨⟨m0, m1, m2, m3, m4⟩, f0, f1, f2, f3, f4⟩ := fiveB Hm.out.b1
            have hlt1 := ltH Hm.out.b1
            unfold rnV
            go_wp2_with fail
            refine (Hq.out _).mono ?_
            rintro e w7 ⟨rfl, hb7⟩
            have Hm2 := Lib.hid ((Hm.out.num (wrap64 n.1)).step hb7)
            rw [Hw.out] at Hm2
            clear hb7 m0 m1 m2 m3 m4 f0 f1 f2 f3 f4
            obtain ⟨⟨k0, k1, k2, k3, k4⟩, f0, f1, f2, f3, f4⟩ := fiveB Hm2.out.b0
            obtain ⟨⟨m0, m1, m2, m3, m4⟩, -⟩ := fiveB Hm2.out.b1
            have hlt0 := ltH Hm2.out.b0
            have hlt2 := ltH Hm2.out.b1
            have Hb := Lib.hid Hm2.out.bel
            clear Hm Hm2
            unfold rnV
            go_wp2_with fail
            refine bodyPost_ret (v := .tuple #[(⟨1, ⟨kc, [], i64 n.1⟩, 0⟩ : Ins).val, .int .i64 0]) (by simp [results, Tryz.results73, go_sem, Ins.val, k0, k1, k2, k3, k4]) rfl (Hg.out _ _ ?_ rfl)
            exact ((((Hb.out.setCell (Nat.le_refl _) _).setCell (Nat.le_refl _) _).setCell (Nat.le_refl _) _).setCell (Nat.le_refl _) _).setCell (Nat.le_refl _) _
          · have Hg := Lib.hid (show ∀ e w', Below w.heap.size w w' → e = .returned (.tuple #[(⟨1, ⟨kc, ((r2.drop n.2).drop m.2).take m.1, i64 n.1⟩, 0⟩ : Ins).val, .int .i64 ((2 + n.2 + m.2 + m.1 : Nat) : Int)]) → GaveI w (instrR (b :: c :: r2)) e w' from fun e w' h8 h9 => ⟨h8, by rw [HG.out, show instrA (c :: r2) = some (⟨1, ⟨kc, ((r2.drop n.2).drop m.2).take m.1, i64 n.1⟩, 0⟩, 2 + n.2 + m.2 + m.1) by rw [instrA, hrn, Option.bind_some, hrm, Option.bind_some, if_neg hlen, hcv]]; exact h9⟩)
            rw [List.length_drop] at hlen
            have hlen2 : ¬ (r2.length : Int) + 1 + 1 - 2 - n.2 - m.2 < m.1 := by omega
            have hmr : n.2 + m.2 + m.1 ≤ r2.length := by omega
            have hz1 : (0 : Int) ≤ 2 + n.2 + m.2 := by omega
            have hz2 : (2 + n.2 + m.2 : Int) ≤ 2 + n.2 + m.2 + m.1 := by omega
            have hz3 : (2 + n.2 + m.2 + m.1 : Int) ≤ (⟨(b :: c :: r2).toArray⟩ : ByteArray).size := by rw [hsz, List.length_cons]; omega
            have hz4 : (2 + n.2 + m.2 + m.1 : Int) ≤ (r2.length : Int) + 1 + 1 := by omega
            have hd4 : (⟨(b :: c :: r2).toArray⟩ : ByteArray).extract (2 + n.2 + m.2) (2 + n.2 + m.2 + m.1) = ⟨(((r2.drop n.2).drop m.2).take m.1).toArray⟩ := by
              apply L_inj
              rw [L_extract, L_mk, L_mk, List.drop_drop, show 2 + n.2 + m.2 = (n.2 + m.2) + 1 + 1 by omega, List.drop_succ_cons, List.drop_succ_cons, show n.2 + m.2 + 1 + 1 + m.1 - (n.2 + m.2 + 1 + 1) = m.1 by omega]
            clear hrm hrn
            go_enter Tryz.func73, Tryz.ntmps73
            go_wp2_with fail
            refine (Hr.out _).mono ?_
            rintro e w6 ⟨rfl, hb6⟩
            have Hm := Lib.hid ((show InM w _ ⟨1, ⟨kc, [], 0⟩, 0⟩ from ⟨heap_two0 _ _ _, heap_two1 _ _ _, ((Below.refl _ _).alloc (Nat.le_refl _) _).alloc (by simp) _⟩).step hb6)
            clear hb6
            obtain ⟨⟨m0, m1, m2, m3, m4⟩, f0, f1, f2, f3, f4⟩ := fiveB Hm.out.b1
            have hlt1 := ltH Hm.out.b1
            unfold rnV
            go_wp2_with fail
            refine (Hq.out _).mono ?_
            rintro e w7 ⟨rfl, hb7⟩
            have Hm2 := Lib.hid ((Hm.out.num (wrap64 n.1)).step hb7)
            rw [Hw.out] at Hm2
            clear hb7 m0 m1 m2 m3 m4 f0 f1 f2 f3 f4
            obtain ⟨⟨k0, k1, k2, k3, k4⟩, f0, f1, f2, f3, f4⟩ := fiveB Hm2.out.b0
            obtain ⟨⟨m0, m1, m2, m3, m4⟩, g0, g1, g2, g3, g4⟩ := fiveB Hm2.out.b1
            have hlt0 := ltH Hm2.out.b0
            have hlt2 := ltH Hm2.out.b1
            have Hb := Lib.hid Hm2.out.bel
            clear Hm Hm2
            unfold rnV
            go_wp2_with fail
            refine bodyPost_ret (v := .tuple #[(⟨1, ⟨kc, (r2.drop (n.2 + m.2)).take m.1, i64 n.1⟩, 0⟩ : Ins).val, .int .i64 (2 + n.2 + m.2 + m.1)]) (by simp [results, Tryz.results73, go_sem, Ins.val, k0, k1, k2, k3, k4]) rfl (Hg.out _ _ ?_ ?_)
            · exact (((((Hb.out.setCell (Nat.le_succ _) _).setCell (Nat.le_refl _) _).setCell (Nat.le_refl _) _).setCell (Nat.le_refl _) _).setCell (Nat.le_refl _) _).setCell (Nat.le_refl _) _
            · rw [List.drop_drop]
              push_cast
              rfl
  · have Hg := Lib.hid (show ∀ e w', Below w.heap.size w w' → e = .returned (.tuple #[(⟨b.toNat, stp0, 0⟩ : Ins).val, .int .i64 0]) → GaveI w (instrR (b :: r)) e w' from fun e w' h8 h9 => ⟨h8, by rw [show instrR (b :: r) = none by rw [instrR, if_neg (by omega), if_neg (by omega), if_neg h1]]; exact ⟨_, h9⟩⟩)
    generalize hbv : b.toNat = v at *
    have e1 : ((v : Int) == 1) = false := by rw [beq_eq_false_iff_ne]; omega
    have e2 : ((v : Int) == 2) = false := by rw [beq_eq_false_iff_ne]; omega
    have e3 : ((v : Int) == 3) = false := by rw [beq_eq_false_iff_ne]; omega
    have e4 : ((v : Int) == 4) = false := by rw [beq_eq_false_iff_ne]; omega
    have e5 : ((v : Int) == 5) = false := by rw [beq_eq_false_iff_ne]; omega
    clear h1 h2 h3 h4 h5
    go_enter Tryz.func73, Tryz.ntmps73
    go_wp2_with fail
    refine bodyPost_ret (v := .tuple #[(⟨v, stp0, 0⟩ : Ins).val, .int .i64 0]) (by simp [results, Tryz.results73, go_sem, Ins.val, stp0]) rfl (Hg.out _ _ ?_ rfl)
    exact ((Below.refl _ _).alloc (Nat.le_refl _) _).alloc (by simp) _

end Go.Proofs.YtcjmhmmjfgjcnaaGreatDoor.Cd

/- Whether a program is right, as codicilref13 asks: plain; nothing here speaks of the program. -/
namespace Go.Proofs.YtcjmhmmjfgjcnaaGreatDoor.Cd
open Go.Proofs.YtcjmhmmjfgjcnaaGreatDoor.Lx Go.Proofs.YtcjmhmmjfgjcnaaGreatDoor.Pa

def oneI (N i : Nat) (x : Ins) : Bool :=
  if x.op = 1 then (takes x.st).isSome && decide (x.st.kind < 21) && decide (x.to = 0)
  else if x.op = 2 ∨ x.op = 4 then decide (x.st = stp0) && (decide ((i : Int) < x.to) && decide (x.to ≤ (N : Int)))
  else if x.op = 3 ∨ x.op = 5 then decide (x.st = stp0) && decide (x.to = 0)
  else false
abbrev HtA := Nat → Nat
def HtA.come (A : HtA) (i h : Nat) : Option HtA := if A i ≠ 0 ∧ A i ≠ h + 1 then none else some (fun j => if j = i then h + 1 else A j)
def needA (x : Ins) : Nat := if x.op = 1 then (takes x.st).getD 0 else if x.op = 5 then 2 else 1
def leftA (x : Ins) (h : Nat) : Nat := if x.op = 1 then h - needA x + 1 else if x.op = 2 ∨ x.op = 5 then h - 1 else h
def stepA (N i : Nat) (x : Ins) (A : HtA) : Option HtA :=
  if oneI N i x = false ∨ A i = 0 then none
  else if A i - 1 < needA x then none
  else if x.op = 2 ∨ x.op = 4 then (A.come x.to.toNat (A i - 1)).bind fun A' => A'.come (i + 1) (leftA x (A i - 1))
  else A.come (i + 1) (leftA x (A i - 1))
def runA (N : Nat) : Nat → List Ins → HtA → Option HtA
  | _, [], A => some A
  | i, x :: r, A => (stepA N i x A).bind (runA N (i + 1) r)
def htA (hs : Hts) : HtA := fun j => match hs j with
  | none => 0
  | some h => h + 1
theorem come_is (hs : Hts) (i h : Nat) : (hs.come i h).map htA = (htA hs).come i h := by
  unfold Hts.come HtA.come
  have e : (htA hs i ≠ 0 ∧ htA hs i ≠ h + 1) ↔ ¬ (hs i = none ∨ hs i = some h) := by
    unfold htA
    cases hs i with
    | none => simp
    | some g => simp
  by_cases hc : hs i = none ∨ hs i = some h
  · rw [if_pos hc, if_neg (fun h2 => e.1 h2 hc), Option.map_some]
    congr 1
    funext j
    unfold htA
    by_cases hj : j = i
    · simp [hj]
    · simp [hj]
  · rw [if_neg hc, if_pos (e.2 hc)]
    rfl
theorem step_is (N i : Nat) (x : Ins) (hs : Hts) : (stepK N i x hs).map htA = stepA N i x (htA hs) := by
  unfold stepK stepA
  cases hh : hs i with
  | none => rw [if_pos (.inr (by unfold htA; rw [hh]))]; rfl
  | some h =>
    have hA : htA hs i = h + 1 := by unfold htA; rw [hh]
    rw [hA, Nat.add_sub_cancel]
    simp only
    by_cases h1 : x.op = 1
    · rw [if_pos h1]
      cases ht : takes x.st with
      | none => rw [if_pos (.inl (by unfold oneI; rw [if_pos h1, ht]; rfl))]; rfl
      | some k =>
        have hn : needA x = k := by unfold needA; rw [if_pos h1, ht]; rfl
        have hl : leftA x h = h - k + 1 := by unfold leftA; rw [if_pos h1, hn]
        simp only
        by_cases h2 : x.st.kind < 21 ∧ x.to = 0
        · rw [if_neg (show ¬ (oneI N i x = false ∨ h + 1 = 0) by unfold oneI; rw [if_pos h1, ht]; simp [h2.1, h2.2]), hn, hl]
          by_cases h3 : k ≤ h
          · rw [if_pos ⟨h2.1, h2.2, h3⟩, if_neg (by omega), if_neg (by omega), come_is]
          · rw [if_neg (fun h4 => h3 h4.2.2), if_pos (by omega)]; rfl
        · rw [if_neg (fun h4 => h2 ⟨h4.1, h4.2.1⟩), if_pos]
          · rfl
          · refine .inl ?_
            unfold oneI
            rw [if_pos h1, ht]
            by_cases h5 : x.st.kind < 21
            · simp [h5, show x.to ≠ 0 from fun h6 => h2 ⟨h5, h6⟩]
            · simp [h5]
    · rw [if_neg h1]
      by_cases h2 : x.op = 2 ∨ x.op = 4
      · rw [if_pos h2]
        have hn : needA x = 1 := by unfold needA; rw [if_neg h1, if_neg (by omega)]
        have hl : leftA x h = if x.op = 2 then h - 1 else h := by
          unfold leftA
          rw [if_neg h1]
          by_cases h5 : x.op = 2
          · rw [if_pos (.inl h5), if_pos h5]
          · rw [if_neg (by omega), if_neg h5]
        rw [if_pos h2, hn, hl]
        by_cases hz : x.st = stp0
        · by_cases hto : (i : Int) < x.to ∧ x.to ≤ (N : Int)
          · rw [if_pos hto, if_neg (show ¬ (oneI N i x = false ∨ h + 1 = 0) by unfold oneI; rw [if_neg h1, if_pos h2]; simp [hz, hto.1, hto.2])]
            by_cases h1h : 1 ≤ h
            · rw [if_neg (show ¬ h < 1 by omega), ← come_is]
              cases hs.come x.to.toNat h with
              | none => rfl
              | some g => simp only [Option.bind_some, Option.map_some]; rw [if_pos ⟨hz, h1h⟩, come_is]
            · rw [if_pos (show h < 1 by omega)]
              cases hs.come x.to.toNat h with
              | none => rfl
              | some g => simp only [Option.bind_some]; rw [if_neg (fun h4 => h1h h4.2)]; rfl
          · rw [if_neg hto, if_pos]
            · rfl
            · refine .inl ?_
              unfold oneI
              rw [if_neg h1, if_pos h2]
              by_cases h5 : (i : Int) < x.to
              · simp [hz, show ¬ x.to ≤ (N : Int) from fun h6 => hto ⟨h5, h6⟩]
              · simp [h5]
        · rw [if_pos (show oneI N i x = false ∨ h + 1 = 0 from .inl (by unfold oneI; rw [if_neg h1, if_pos h2]; simp [hz]))]
          by_cases hto : (i : Int) < x.to ∧ x.to ≤ (N : Int)
          · rw [if_pos hto]
            cases hs.come x.to.toNat h with
            | none => rfl
            | some g => simp only [Option.bind_some]; rw [if_neg (fun h4 => hz h4.1)]; rfl
          · rw [if_neg hto]; rfl
      · rw [if_neg h2]
        rw [if_neg h2]
        by_cases h3 : x.op = 3
        · have hn : needA x = 1 := by unfold needA; rw [if_neg h1, if_neg (by omega)]
          have hl : leftA x h = h := by unfold leftA; rw [if_neg h1, if_neg (by omega)]
          rw [if_pos h3, hn, hl]
          by_cases hz : x.st = stp0 ∧ x.to = 0
          · rw [if_neg (show ¬ (oneI N i x = false ∨ h + 1 = 0) by unfold oneI; rw [if_neg h1, if_neg h2, if_pos (.inl h3)]; simp [hz.1, hz.2])]
            by_cases h1h : 1 ≤ h
            · rw [if_pos ⟨hz.1, hz.2, h1h⟩, if_neg (by omega), come_is]
            · rw [if_neg (fun h4 => h1h h4.2.2), if_pos (by omega)]; rfl
          · rw [if_neg (fun h4 => hz ⟨h4.1, h4.2.1⟩), if_pos]
            · rfl
            · refine .inl ?_
              unfold oneI
              rw [if_neg h1, if_neg h2, if_pos (.inl h3)]
              by_cases h5 : x.st = stp0
              · simp [show x.to ≠ 0 from fun h6 => hz ⟨h5, h6⟩]
              · simp [h5]
        · rw [if_neg h3]
          by_cases h4 : x.op = 5
          · have hn : needA x = 2 := by unfold needA; rw [if_neg h1, if_pos h4]
            have hl : leftA x h = h - 1 := by unfold leftA; rw [if_neg h1, if_pos (.inr h4)]
            rw [if_pos h4, hn, hl]
            by_cases hz : x.st = stp0 ∧ x.to = 0
            · rw [if_neg (show ¬ (oneI N i x = false ∨ h + 1 = 0) by unfold oneI; rw [if_neg h1, if_neg h2, if_pos (.inr h4)]; simp [hz.1, hz.2])]
              by_cases h1h : 2 ≤ h
              · rw [if_pos ⟨hz.1, hz.2, h1h⟩, if_neg (by omega), come_is]
              · rw [if_neg (fun h4 => h1h h4.2.2), if_pos (by omega)]; rfl
            · rw [if_neg (fun h4 => hz ⟨h4.1, h4.2.1⟩), if_pos]
              · rfl
              · refine .inl ?_
                unfold oneI
                rw [if_neg h1, if_neg h2, if_pos (.inr h4)]
                by_cases h5 : x.st = stp0
                · simp [show x.to ≠ 0 from fun h6 => hz ⟨h5, h6⟩]
                · simp [h5]
          · rw [if_neg h4, if_pos]
            · rfl
            · refine .inl ?_
              unfold oneI
              rw [if_neg h1, if_neg h2, if_neg (by omega)]
theorem run_is (N : Nat) : ∀ (p : List Ins) (i : Nat) (hs : Hts), (runK N i p hs).map htA = runA N i p (htA hs)
  | [], _, _ => rfl
  | x :: r, i, hs => by
    rw [runK, runA, ← step_is]
    cases stepK N i x hs with
    | none => rfl
    | some g => exact run_is N r (i + 1) g
theorem check_is (p : List Ins) : checkI p = (decide (1 ≤ p.length ∧ p.length ≤ 256) && (match runA p.length 0 p (fun i => if i = 0 then 1 else 0) with
  | none => false
  | some A => decide (A p.length = 2))) := by
  have e : (fun i => if i = 0 then 1 else 0 : HtA) = htA hs0 := by
    funext i
    unfold htA hs0
    by_cases h : i = 0
    · simp [h]
    · simp [h]
  unfold checkI
  rw [e, ← run_is]
  congr 1
  cases runK p.length 0 p hs0 with
  | none => rfl
  | some hs =>
    simp only [Option.map_some]
    congr 1
    unfold htA
    cases hs p.length with
    | none => simp
    | some h => simp
end Go.Proofs.YtcjmhmmjfgjcnaaGreatDoor.Cd
