/- Parts: PcD. -/
import Derived.Test.YtcjmhmmjfgjcnaaGreatDoorMh26
import Derived.Deep.RegionWith

/- parse: shown. -/
namespace Go.Proofs.YtcjmhmmjfgjcnaaGreatDoor.Pa
open Go.RowKit Go.Proofs.YtcjmhmmjfgjcnaaGreatDoor.Lx

theorem textS_val (x : Txt) : ∃ c : Int, showV ⟨4, x, 0, 0⟩ = .tuple #[.string ⟨(textS x).toArray⟩, .int .i64 c] := by
  unfold showV textS
  by_cases h : showOk ⟨4, x, 0, 0⟩ = true
  · rw [if_pos h, if_pos h]; exact ⟨_, rfl⟩
  · rw [if_neg h, if_neg h]; exact ⟨_, rfl⟩
theorem kind_of_takes {y : Stp} {k : Nat} (h : takes y = some k) : 1 ≤ y.kind ∧ y.kind < 23 := by
  unfold takes at h
  repeat' split at h
  all_goals first | (cases h; done) | omega
theorem takes1_of {y : Stp} {k : Nat} (h : takes y = some k) (hk : y.kind = 9 ∨ y.kind = 10 ∨ y.kind = 11) : k = 1 := by
  unfold takes at h
  rw [if_neg (by omega), if_neg (by omega), if_neg (by omega), if_neg (by omega), if_neg (by omega), if_neg (by omega), if_pos hk] at h
  split at h
  · simp only [Option.some.injEq] at h; exact h.symm
  · cases h
theorem takes2_of {y : Stp} {k : Nat} (h : takes y = some k) (hk : 12 ≤ y.kind) : k = 2 := by
  have h2 := (kind_of_takes h).2
  unfold takes at h
  rw [if_neg (by omega), if_neg (by omega), if_neg (by omega), if_neg (by omega), if_neg (by omega), if_neg (by omega), if_neg (by omega), if_pos ⟨hk, h2⟩] at h
  split at h
  · simp only [Option.some.injEq] at h; exact h.symm
  · cases h
theorem num_of_takes {y : Stp} {k : Nat} (h : takes y = some k) (hk : y.kind = 4) : 0 ≤ y.num := by
  unfold takes at h
  rw [if_neg (by omega), if_pos hk] at h
  split at h
  · rename_i hx; exact hx.2
  · cases h
structure ShArgs (w : World) (y : Stp) (k : Nat) (v : Value) (l : List Txt) : Prop where
  ht : takes y = some k
  hl : l.length = k
  hv : TxtsIn w v l
  htx : y.text.length ≤ 1048575
  hn : y.num ≤ 9223372036854775807
  hlen : Lib.lens l ≤ 70368744177664
  he : Env w
theorem cat3L (a b c : List UInt8) : (⟨a.toArray⟩ ++ ⟨b.toArray⟩ ++ ⟨c.toArray⟩ : ByteArray) = ⟨(a ++ b ++ c).toArray⟩ := by rw [cat3, List.append_assoc]
set_option maxHeartbeats 1000000 in
set_option maxRecDepth 100000 in
theorem shown_1 (y : Stp) (k : Nat) (l : List Txt) (v : Value) (w : World) (_h : ShArgs w y k v l) (hc : y.kind = 1) :
    Calls Tryz.prog 53 #[y.val, v] w fun e w' => e = .returned (.string ⟨(shown y l).toArray⟩) ∧ Below w.heap.size w w' := by
  have HS := Lib.hid (show shown y l = kNULL by unfold shown; simp [hc])
  have b1 : ((y.kind : Int) == 1) = true := by rw [beq_iff_eq]; omega
  clear _h hc
  unfold Stp.val
  go_enter Tryz.func53, Tryz.ntmps53
  go_wp2_with fail
  go_ret
  exact ⟨by rw [HS.out]; rfl, alloc_below _ _⟩
set_option maxHeartbeats 1000000 in
set_option maxRecDepth 100000 in
theorem shown_2 (y : Stp) (k : Nat) (l : List Txt) (v : Value) (w : World) (_h : ShArgs w y k v l) (hc : y.kind = 2) :
    Calls Tryz.prog 53 #[y.val, v] w fun e w' => e = .returned (.string ⟨(shown y l).toArray⟩) ∧ Below w.heap.size w w' := by
  have HS := Lib.hid (show shown y l = kTRUE by unfold shown; simp [hc])
  have b1 : ((y.kind : Int) == 1) = false := by rw [beq_eq_false_iff_ne]; omega
  have b2 : ((y.kind : Int) == 2) = true := by rw [beq_iff_eq]; omega
  clear _h hc
  unfold Stp.val
  go_enter Tryz.func53, Tryz.ntmps53
  go_wp2_with fail
  go_ret
  exact ⟨by rw [HS.out]; rfl, alloc_below _ _⟩
set_option maxHeartbeats 1000000 in
set_option maxRecDepth 100000 in
theorem shown_3 (y : Stp) (k : Nat) (l : List Txt) (v : Value) (w : World) (_h : ShArgs w y k v l) (hc : y.kind = 3) :
    Calls Tryz.prog 53 #[y.val, v] w fun e w' => e = .returned (.string ⟨(shown y l).toArray⟩) ∧ Below w.heap.size w w' := by
  have HS := Lib.hid (show shown y l = kFALSE by unfold shown; simp [hc])
  have b1 : ((y.kind : Int) == 1) = false := by rw [beq_eq_false_iff_ne]; omega
  have b2 : ((y.kind : Int) == 2) = false := by rw [beq_eq_false_iff_ne]; omega
  have b3 : ((y.kind : Int) == 3) = true := by rw [beq_iff_eq]; omega
  clear _h hc
  unfold Stp.val
  go_enter Tryz.func53, Tryz.ntmps53
  go_wp2_with fail
  go_ret
  exact ⟨by rw [HS.out]; rfl, alloc_below _ _⟩
set_option maxHeartbeats 1000000 in
set_option maxRecDepth 100000 in
theorem shown_4 (y : Stp) (k : Nat) (l : List Txt) (v : Value) (w : World) (h : ShArgs w y k v l) (hc : y.kind = 4) :
    Calls Tryz.prog 53 #[y.val, v] w fun e w' => e = .returned (.string ⟨(shown y l).toArray⟩) ∧ Below w.heap.size w w' := by
  have HS := Lib.hid (show shown y l = Lib.itoa y.num by unfold shown; simp [hc])
  have h0 := num_of_takes h.ht hc
  have Hf := Lib.hid (fun (w2 : World) (hb : Below w.heap.size w w2) => formatInt_calls y.num w2 (by omega) h.hn (h.he.below hb))
  have b1 : ((y.kind : Int) == 1) = false := by rw [beq_eq_false_iff_ne]; omega
  have b2 : ((y.kind : Int) == 2) = false := by rw [beq_eq_false_iff_ne]; omega
  have b3 : ((y.kind : Int) == 3) = false := by rw [beq_eq_false_iff_ne]; omega
  have b4 : ((y.kind : Int) == 4) = true := by rw [beq_iff_eq]; omega
  clear h hc
  unfold Stp.val
  go_enter Tryz.func53, Tryz.ntmps53
  go_wp2_with fail
  refine (Hf.out _ (alloc_below _ _)).mono ?_
  rintro e w2 ⟨rfl, hb2⟩
  have Hb2 := Lib.hid ((alloc_below w (.cells #[.int .u8 y.kind, .string ⟨y.text.toArray⟩, .int .i64 y.num] 48)).trans (hb2.mono (alloc_below w (.cells #[.int .u8 y.kind, .string ⟨y.text.toArray⟩, .int .i64 y.num] 48)).size))
  clear hb2
  go_wp2_with fail
  go_ret
  exact ⟨by rw [HS.out]; rfl, Hb2.out⟩
set_option maxHeartbeats 1000000 in
set_option maxRecDepth 100000 in
theorem shown_5 (y : Stp) (k : Nat) (l : List Txt) (v : Value) (w : World) (h : ShArgs w y k v l) (hc : y.kind = 5) :
    Calls Tryz.prog 53 #[y.val, v] w fun e w' => e = .returned (.string ⟨(shown y l).toArray⟩) ∧ Below w.heap.size w w' := by
  have HS := Lib.hid (show shown y l = textS y.text by unfold shown; simp [hc])
  obtain ⟨ec, hec⟩ := textS_val y.text
  have Hf := Lib.hid (fun (w2 : World) (hb : Below w.heap.size w w2) => Show_calls ⟨4, y.text, 0, 0⟩ 0 w2 (by have := h.htx; simp only; omega) (by simp) (by simp)
    (by have := dbl_length y.text; have := h.htx; rw [showS_txt _ rfl]; simp only [replaceAll_dbl, List.length_cons, List.length_append, List.length_nil]; omega) (h.he.below hb))
  rw [hec] at Hf
  have b1 : ((y.kind : Int) == 1) = false := by rw [beq_eq_false_iff_ne]; omega
  have b2 : ((y.kind : Int) == 2) = false := by rw [beq_eq_false_iff_ne]; omega
  have b3 : ((y.kind : Int) == 3) = false := by rw [beq_eq_false_iff_ne]; omega
  have b4 : ((y.kind : Int) == 4) = false := by rw [beq_eq_false_iff_ne]; omega
  have b5 : ((y.kind : Int) == 5) = true := by rw [beq_iff_eq]; omega
  clear h hc hec
  unfold Stp.val
  go_enter Tryz.func53, Tryz.ntmps53
  go_wp2_with fail
  refine (Hf.out _ (alloc_below _ _)).mono ?_
  rintro e w2 ⟨rfl, hb2⟩
  have Hb2 := Lib.hid ((alloc_below w (.cells #[.int .u8 y.kind, .string ⟨y.text.toArray⟩, .int .i64 y.num] 48)).trans (hb2.mono (alloc_below w (.cells #[.int .u8 y.kind, .string ⟨y.text.toArray⟩, .int .i64 y.num] 48)).size))
  clear hb2
  go_wp2_with fail
  go_ret
  exact ⟨by rw [HS.out]; rfl, Hb2.out⟩
set_option maxHeartbeats 1000000 in
set_option maxRecDepth 100000 in
theorem shown_6 (y : Stp) (k : Nat) (l : List Txt) (v : Value) (w : World) (_h : ShArgs w y k v l) (hc : y.kind = 6) :
    Calls Tryz.prog 53 #[y.val, v] w fun e w' => e = .returned (.string ⟨(shown y l).toArray⟩) ∧ Below w.heap.size w w' := by
  have HS := Lib.hid (show shown y l = y.text by unfold shown; simp [hc])
  have b1 : ((y.kind : Int) == 1) = false := by rw [beq_eq_false_iff_ne]; omega
  have b2 : ((y.kind : Int) == 2) = false := by rw [beq_eq_false_iff_ne]; omega
  have b3 : ((y.kind : Int) == 3) = false := by rw [beq_eq_false_iff_ne]; omega
  have b4 : ((y.kind : Int) == 4) = false := by rw [beq_eq_false_iff_ne]; omega
  have b5 : ((y.kind : Int) == 5) = false := by rw [beq_eq_false_iff_ne]; omega
  have b6 : ((y.kind : Int) == 6) = true := by rw [beq_iff_eq]; omega
  clear _h hc
  unfold Stp.val
  go_enter Tryz.func53, Tryz.ntmps53
  go_wp2_with fail
  go_ret
  exact ⟨by rw [HS.out]; rfl, alloc_below _ _⟩
set_option maxHeartbeats 1000000 in
set_option maxRecDepth 100000 in
theorem shown_7 (y : Stp) (k : Nat) (l : List Txt) (v : Value) (w : World) (h : ShArgs w y k v l) (hc : y.kind = 7) :
    Calls Tryz.prog 53 #[y.val, v] w fun e w' => e = .returned (.string ⟨(shown y l).toArray⟩) ∧ Below w.heap.size w w' := by
  have HS := Lib.hid (show shown y l = joined y l by unfold shown; simp [hc])
  have Hf := Lib.hid (fun (w2 : World) (hb : Below w.heap.size w w2) => joined_calls y k h.ht (by omega) l h.hl v w2 (h.hv.below hb) h.htx h.hlen (h.he.below hb))
  unfold Stp.val at Hf
  have b1 : ((y.kind : Int) == 1) = false := by rw [beq_eq_false_iff_ne]; omega
  have b2 : ((y.kind : Int) == 2) = false := by rw [beq_eq_false_iff_ne]; omega
  have b3 : ((y.kind : Int) == 3) = false := by rw [beq_eq_false_iff_ne]; omega
  have b4 : ((y.kind : Int) == 4) = false := by rw [beq_eq_false_iff_ne]; omega
  have b5 : ((y.kind : Int) == 5) = false := by rw [beq_eq_false_iff_ne]; omega
  have b6 : ((y.kind : Int) == 6) = false := by rw [beq_eq_false_iff_ne]; omega
  have b7 : ((y.kind : Int) == 7) = true := by rw [beq_iff_eq]; omega
  clear h hc
  unfold Stp.val
  go_enter Tryz.func53, Tryz.ntmps53
  go_wp2_with fail
  refine (Hf.out _ (alloc_below _ _)).mono ?_
  rintro e w2 ⟨rfl, hb2⟩
  have Hb2 := Lib.hid ((alloc_below w (.cells #[.int .u8 y.kind, .string ⟨y.text.toArray⟩, .int .i64 y.num] 48)).trans (hb2.mono (alloc_below w (.cells #[.int .u8 y.kind, .string ⟨y.text.toArray⟩, .int .i64 y.num] 48)).size))
  clear hb2
  go_wp2_with fail
  go_ret
  exact ⟨by rw [HS.out]; rfl, Hb2.out⟩
set_option maxHeartbeats 1000000 in
set_option maxRecDepth 100000 in
theorem shown_8 (y : Stp) (k : Nat) (l : List Txt) (v : Value) (w : World) (h : ShArgs w y k v l) (hc : y.kind = 8) :
    Calls Tryz.prog 53 #[y.val, v] w fun e w' => e = .returned (.string ⟨(shown y l).toArray⟩) ∧ Below w.heap.size w w' := by
  have HS := Lib.hid (show shown y l = joined y l by unfold shown; simp [hc])
  have Hf := Lib.hid (fun (w2 : World) (hb : Below w.heap.size w w2) => joined_calls y k h.ht (by omega) l h.hl v w2 (h.hv.below hb) h.htx h.hlen (h.he.below hb))
  unfold Stp.val at Hf
  have b1 : ((y.kind : Int) == 1) = false := by rw [beq_eq_false_iff_ne]; omega
  have b2 : ((y.kind : Int) == 2) = false := by rw [beq_eq_false_iff_ne]; omega
  have b3 : ((y.kind : Int) == 3) = false := by rw [beq_eq_false_iff_ne]; omega
  have b4 : ((y.kind : Int) == 4) = false := by rw [beq_eq_false_iff_ne]; omega
  have b5 : ((y.kind : Int) == 5) = false := by rw [beq_eq_false_iff_ne]; omega
  have b6 : ((y.kind : Int) == 6) = false := by rw [beq_eq_false_iff_ne]; omega
  have b7 : ((y.kind : Int) == 7) = false := by rw [beq_eq_false_iff_ne]; omega
  have b8 : ((y.kind : Int) == 8) = true := by rw [beq_iff_eq]; omega
  clear h hc
  unfold Stp.val
  go_enter Tryz.func53, Tryz.ntmps53
  go_wp2_with fail
  refine (Hf.out _ (alloc_below _ _)).mono ?_
  rintro e w2 ⟨rfl, hb2⟩
  have Hb2 := Lib.hid ((alloc_below w (.cells #[.int .u8 y.kind, .string ⟨y.text.toArray⟩, .int .i64 y.num] 48)).trans (hb2.mono (alloc_below w (.cells #[.int .u8 y.kind, .string ⟨y.text.toArray⟩, .int .i64 y.num] 48)).size))
  clear hb2
  go_wp2_with fail
  go_ret
  exact ⟨by rw [HS.out]; rfl, Hb2.out⟩
set_option maxHeartbeats 1000000 in
set_option maxRecDepth 100000 in
theorem shown_9 (y : Stp) (k : Nat) (l : List Txt) (v : Value) (w : World) (h : ShArgs w y k v l) (hc : y.kind = 9) :
    Calls Tryz.prog 53 #[y.val, v] w fun e w' => e = .returned (.string ⟨(shown y l).toArray⟩) ∧ Below w.heap.size w w' := by
  have hk1 := takes1_of h.ht (by omega)
  have HS := Lib.hid (show shown y l = [40, 45] ++ l.getD 0 [] ++ [41] by unfold shown; simp [hc])
  obtain ⟨a, n, c, rfl, hn, hcc, hj⟩ := h.hv
  have hl := h.hl
  have hn1 : n = 1 := by omega
  have hl0 : 0 < l.length := by omega
  obtain ⟨g, o, rfl, q0⟩ := hj 0 hl0
  have e0 : l.getD 0 [] = l[0] := by rw [List.getD_eq_getElem?_getD, List.getElem?_eq_getElem hl0]; rfl
  have hsz : l[0].length ≤ 70368744177664 := by have := lens_get l 0; rw [e0] at this; exact Nat.le_trans this h.hlen
  rw [e0] at HS
  generalize l[0] = x at *
  have q1 : (w.alloc (.cells #[.int .u8 y.kind, .string ⟨y.text.toArray⟩, .int .i64 y.num] 48)).cell? ⟨g, o + 0, none⟩ = some (.string ⟨x.toArray⟩) := ((alloc_below w _).cell (p := ⟨g, _, none⟩) (World.block_lt_of_cell? _ _ q0)).trans q0
  rw [Nat.add_zero] at q0 q1
  have b1 : ((y.kind : Int) == 1) = false := by rw [beq_eq_false_iff_ne]; omega
  have b2 : ((y.kind : Int) == 2) = false := by rw [beq_eq_false_iff_ne]; omega
  have b3 : ((y.kind : Int) == 3) = false := by rw [beq_eq_false_iff_ne]; omega
  have b4 : ((y.kind : Int) == 4) = false := by rw [beq_eq_false_iff_ne]; omega
  have b5 : ((y.kind : Int) == 5) = false := by rw [beq_eq_false_iff_ne]; omega
  have b6 : ((y.kind : Int) == 6) = false := by rw [beq_eq_false_iff_ne]; omega
  have b7 : ((y.kind : Int) == 7) = false := by rw [beq_eq_false_iff_ne]; omega
  have b8 : ((y.kind : Int) == 8) = false := by rw [beq_eq_false_iff_ne]; omega
  have b9 : ((y.kind : Int) == 9) = true := by rw [beq_iff_eq]; omega
  clear h hc hj hcc hl hl0 hn e0 hk1
  subst hn1
  unfold Stp.val
  go_enter Tryz.func53, Tryz.ntmps53
  go_wp2_with fail
  go_ret
  exact ⟨by rw [HS.out]; exact congrArg (fun x => Ending.returned (.string x)) (cat3L [40, 45] x [41]), alloc_below _ _⟩
set_option maxHeartbeats 1000000 in
set_option maxRecDepth 100000 in
theorem shown_10 (y : Stp) (k : Nat) (l : List Txt) (v : Value) (w : World) (h : ShArgs w y k v l) (hc : y.kind = 10) :
    Calls Tryz.prog 53 #[y.val, v] w fun e w' => e = .returned (.string ⟨(shown y l).toArray⟩) ∧ Below w.heap.size w w' := by
  have hk1 := takes1_of h.ht (by omega)
  have HS := Lib.hid (show shown y l = kNOTX ++ l.getD 0 [] ++ [41] by unfold shown; simp [hc])
  obtain ⟨a, n, c, rfl, hn, hcc, hj⟩ := h.hv
  have hl := h.hl
  have hn1 : n = 1 := by omega
  have hl0 : 0 < l.length := by omega
  obtain ⟨g, o, rfl, q0⟩ := hj 0 hl0
  have e0 : l.getD 0 [] = l[0] := by rw [List.getD_eq_getElem?_getD, List.getElem?_eq_getElem hl0]; rfl
  have hsz : l[0].length ≤ 70368744177664 := by have := lens_get l 0; rw [e0] at this; exact Nat.le_trans this h.hlen
  rw [e0] at HS
  generalize l[0] = x at *
  have q1 : (w.alloc (.cells #[.int .u8 y.kind, .string ⟨y.text.toArray⟩, .int .i64 y.num] 48)).cell? ⟨g, o + 0, none⟩ = some (.string ⟨x.toArray⟩) := ((alloc_below w _).cell (p := ⟨g, _, none⟩) (World.block_lt_of_cell? _ _ q0)).trans q0
  rw [Nat.add_zero] at q0 q1
  have b1 : ((y.kind : Int) == 1) = false := by rw [beq_eq_false_iff_ne]; omega
  have b2 : ((y.kind : Int) == 2) = false := by rw [beq_eq_false_iff_ne]; omega
  have b3 : ((y.kind : Int) == 3) = false := by rw [beq_eq_false_iff_ne]; omega
  have b4 : ((y.kind : Int) == 4) = false := by rw [beq_eq_false_iff_ne]; omega
  have b5 : ((y.kind : Int) == 5) = false := by rw [beq_eq_false_iff_ne]; omega
  have b6 : ((y.kind : Int) == 6) = false := by rw [beq_eq_false_iff_ne]; omega
  have b7 : ((y.kind : Int) == 7) = false := by rw [beq_eq_false_iff_ne]; omega
  have b8 : ((y.kind : Int) == 8) = false := by rw [beq_eq_false_iff_ne]; omega
  have b9 : ((y.kind : Int) == 9) = false := by rw [beq_eq_false_iff_ne]; omega
  have b10 : ((y.kind : Int) == 10) = true := by rw [beq_iff_eq]; omega
  clear h hc hj hcc hl hl0 hn e0 hk1
  subst hn1
  unfold Stp.val
  go_enter Tryz.func53, Tryz.ntmps53
  go_wp2_with fail
  go_ret
  exact ⟨by rw [HS.out]; exact congrArg (fun x => Ending.returned (.string x)) (cat3L kNOTX x [41]), alloc_below _ _⟩
set_option maxHeartbeats 1000000 in
set_option maxRecDepth 100000 in
theorem shown_11 (y : Stp) (k : Nat) (l : List Txt) (v : Value) (w : World) (h : ShArgs w y k v l) (hc : y.kind = 11) :
    Calls Tryz.prog 53 #[y.val, v] w fun e w' => e = .returned (.string ⟨(shown y l).toArray⟩) ∧ Below w.heap.size w w' := by
  have hk1 := takes1_of h.ht (by omega)
  have HS := Lib.hid (show shown y l = [40] ++ l.getD 0 [] ++ kISNULLX by unfold shown; simp [hc])
  obtain ⟨a, n, c, rfl, hn, hcc, hj⟩ := h.hv
  have hl := h.hl
  have hn1 : n = 1 := by omega
  have hl0 : 0 < l.length := by omega
  obtain ⟨g, o, rfl, q0⟩ := hj 0 hl0
  have e0 : l.getD 0 [] = l[0] := by rw [List.getD_eq_getElem?_getD, List.getElem?_eq_getElem hl0]; rfl
  have hsz : l[0].length ≤ 70368744177664 := by have := lens_get l 0; rw [e0] at this; exact Nat.le_trans this h.hlen
  rw [e0] at HS
  generalize l[0] = x at *
  have q1 : (w.alloc (.cells #[.int .u8 y.kind, .string ⟨y.text.toArray⟩, .int .i64 y.num] 48)).cell? ⟨g, o + 0, none⟩ = some (.string ⟨x.toArray⟩) := ((alloc_below w _).cell (p := ⟨g, _, none⟩) (World.block_lt_of_cell? _ _ q0)).trans q0
  rw [Nat.add_zero] at q0 q1
  have b1 : ((y.kind : Int) == 1) = false := by rw [beq_eq_false_iff_ne]; omega
  have b2 : ((y.kind : Int) == 2) = false := by rw [beq_eq_false_iff_ne]; omega
  have b3 : ((y.kind : Int) == 3) = false := by rw [beq_eq_false_iff_ne]; omega
  have b4 : ((y.kind : Int) == 4) = false := by rw [beq_eq_false_iff_ne]; omega
  have b5 : ((y.kind : Int) == 5) = false := by rw [beq_eq_false_iff_ne]; omega
  have b6 : ((y.kind : Int) == 6) = false := by rw [beq_eq_false_iff_ne]; omega
  have b7 : ((y.kind : Int) == 7) = false := by rw [beq_eq_false_iff_ne]; omega
  have b8 : ((y.kind : Int) == 8) = false := by rw [beq_eq_false_iff_ne]; omega
  have b9 : ((y.kind : Int) == 9) = false := by rw [beq_eq_false_iff_ne]; omega
  have b10 : ((y.kind : Int) == 10) = false := by rw [beq_eq_false_iff_ne]; omega
  have b11 : ((y.kind : Int) == 11) = true := by rw [beq_iff_eq]; omega
  clear h hc hj hcc hl hl0 hn e0 hk1
  subst hn1
  unfold Stp.val
  go_enter Tryz.func53, Tryz.ntmps53
  go_wp2_with fail
  go_ret
  exact ⟨by rw [HS.out]; exact congrArg (fun x => Ending.returned (.string x)) (cat3L [40] x kISNULLX), alloc_below _ _⟩

end Go.Proofs.YtcjmhmmjfgjcnaaGreatDoor.Pa
