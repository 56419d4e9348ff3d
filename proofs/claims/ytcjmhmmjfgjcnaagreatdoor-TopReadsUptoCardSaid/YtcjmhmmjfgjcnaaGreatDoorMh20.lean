/- Parts: PaD. -/
import Derived.Test.YtcjmhmmjfgjcnaaGreatDoorMh19

/- The parser: primaries. -/
namespace Go.Proofs.YtcjmhmmjfgjcnaaGreatDoor.Pa
open Go.RowKit Go.Proofs.YtcjmhmmjfgjcnaaGreatDoor.Lx Go.Maps
variable {x : Px}

theorem parts_calls (d : Nat) (y0 : Stp) (end_ : Txt) (or_ : St → Option St) (hor : Reads x 127 d or_) (n : Nat) (w : World) (lv sv : Value) (s s' : St) (hp : PS x w lv sv s) (ht : y0.text = []) (hn : y0.num = 0)
    (hr : parts or_ n y0 end_ s = some s') :
    Calls Tryz.prog 212 #[.pointer (some ⟨x.B, 0, none⟩), y0.val, .string ⟨end_.toArray⟩, .int .i64 d] w (Did x w sv s') := by
  unfold parts at hr
  cases hx : s.next 5 [end_] with
  | true =>
    rw [hx, if_pos rfl] at hr
    have e : s.drop.put y0 = s' := by simpa using hr
    rw [← e]
    exact parts_none d y0 end_ w lv sv s hp hx
  | false =>
    rw [hx, if_neg (by simp)] at hr
    exact parts_some d y0 end_ or_ hor n w lv sv s s' hp hx ⟨rfl, rfl, by omega, by omega, by simp [hn], by simp⟩ (by simp [ht]) hr

def constD : DataW Unit := (((DataW.map ([] : List (Lit × DataW Unit))).put (.string kNULL) (.lit (.int .u8 1))).put (.string kTRUE) (.lit (.int .u8 2))).put (.string kFALSE) (.lit (.int .u8 3))
def ConstAt (w : World) (b : Nat) : Prop := w.ownsMap Tryz.prog 9 (plainElem (H := Unit) Tryz.prog 46) b 3 constD
theorem ConstAt.same {w w' : World} {b : Nat} (h : ConstAt w b) (e : w'.heap[b]? = w.heap[b]?) : ConstAt w' b := by
  obtain ⟨es, clock, hb, F, hs, hD⟩ := h
  exact ⟨es, clock, e.trans hb, F, hs, hD⟩
theorem const_of {t : Txt} (h : [kNULL, kTRUE, kFALSE].contains t = true) {c : Int} (hat : constD.atKey (.string t) (.lit (.int .u8 0)) = .lit (.int .u8 c)) : c = (constKind t : Nat) := by
  have : t = kNULL ∨ t = kTRUE ∨ t = kFALSE := by simpa using h
  rcases this with rfl | rfl | rfl
  · have e : constD.atKey (.string kNULL) (.lit (.int .u8 0)) = .lit (.int .u8 1) := by rfl
    rw [e] at hat
    simp only [DataW.lit.injEq, Lit.int.injEq, true_and] at hat
    rw [← hat]
    decide
  · have e : constD.atKey (.string kTRUE) (.lit (.int .u8 0)) = .lit (.int .u8 2) := by rfl
    rw [e] at hat
    simp only [DataW.lit.injEq, Lit.int.injEq, true_and] at hat
    rw [← hat]
    decide
  · have e : constD.atKey (.string kFALSE) (.lit (.int .u8 0)) = .lit (.int .u8 3) := by rfl
    rw [e] at hat
    simp only [DataW.lit.injEq, Lit.int.injEq, true_and] at hat
    rw [← hat]
    decide
theorem consts_made (w : World) : ∃ w1 w2 w3 : World,
    (Instr.mapUpdate 234 (.map (some w.heap.size)) (.string ⟨#[78, 85, 76, 76]⟩) (.int .u8 1)).run Tryz.prog (w.alloc (.map #[] 0)) = .ok () w1 ∧
    (Instr.mapUpdate 234 (.map (some w.heap.size)) (.string ⟨#[84, 82, 85, 69]⟩) (.int .u8 2)).run Tryz.prog w1 = .ok () w2 ∧
    (Instr.mapUpdate 234 (.map (some w.heap.size)) (.string ⟨#[70, 65, 76, 83, 69]⟩) (.int .u8 3)).run Tryz.prog w2 = .ok () w3 ∧ Below w.heap.size w w3 ∧ ConstAt w3 w.heap.size := by
  have hb0 : Below w.heap.size w (w.alloc (.map #[] 0)) := alloc_below _ _
  have hk : ∀ s : ByteArray, s.size ≤ 100 → keyOf Tryz.prog 9 (.string s) = some (.string s.data.toList) := fun s hs => Go.WideMaps.keyOf_string_mk Tryz.underlying9 (by unfold maxLen; omega)
  have hv : ∀ c : Int, (Lit.int .u8 c).wf = true → plainElem (H := Unit) Tryz.prog 46 (.int .u8 c) = some (.lit (.int .u8 c), []) := fun c hc => plainElem_int Tryz.underlying46 hc
  obtain ⟨w1, r1, o1, g1⟩ := (World.ownsMap_made w Tryz.prog 9 (plainElem (H := Unit) Tryz.prog 46)).update (t := 234) keyS Tryz.underlying234 (by unfold maxLen; omega) (hk ⟨#[78, 85, 76, 76]⟩ (by decide)) (hv 1 (by decide))
  obtain ⟨w2, r2, o2, g2⟩ := o1.update (t := 234) keyS Tryz.underlying234 (by unfold maxLen; omega) (hk ⟨#[84, 82, 85, 69]⟩ (by decide)) (hv 2 (by decide))
  obtain ⟨w3, r3, o3, g3⟩ := o2.update (t := 234) keyS Tryz.underlying234 (by unfold maxLen; omega) (hk ⟨#[70, 65, 76, 83, 69]⟩ (by decide)) (hv 3 (by decide))
  have b1 := hb0.grown g1 hb0.size (fun j hj => by cases hj; exact Nat.le_refl _)
  have b2 := b1.grown g2 b1.size (fun j hj => by cases hj; exact Nat.le_refl _)
  have b3 := b2.grown g3 b2.size (fun j hj => by cases hj; exact Nat.le_refl _)
  exact ⟨w1, w2, w3, r1, r2, r3, b3, o3⟩

set_option maxHeartbeats 2000000 in
set_option maxRecDepth 100000 in
theorem primary_int (d : Nat) (w : World) (lv sv : Value) (s : St) (hp : PS x w lv sv s) (hx : s.next 3 [] = true)  :
    Calls Tryz.prog 210 #[.pointer (some ⟨x.B, 0, none⟩), .int .i64 d] w (Did x w sv (s.drop.put ⟨4, [], s.head.num⟩)) := by
  obtain ⟨wa, wb, wc, ra, rb, rc, hbel, hown⟩ := consts_made w
  have hmm := @run_makeMap Tryz.prog
  have Hown := Lib.hid hown
  have hz := hown.lt
  have Hp := Lib.hid (Now.refl hp |>.step hbel)
  have Hx := Lib.hid hx
  have Hx2 := Lib.hid (next_take hx)
  clear hx
  clear hp hown hbel
  go_enter Tryz.func210, Tryz.ntmps210
  go_wp2_with fail
  refine (next_calls Hp.out.ps 3 _ [] (StrsAt.nil _) (by decide)).mono ?_
  rw [Hx.out]
  rintro e wd ⟨rfl, rfl⟩
  go_wp2_with fail
  refine (take_calls Hp.out.ps 3 _ [] (StrsAt.nil _) (by decide)).mono ?_
  rw [Hx.out, Hx2.out.1, Hx2.out.2]
  rintro e w1 ⟨rfl, lv1, sv1, h1⟩
  generalize s.head = T at *
  have H1 := Lib.hid ((Hp.out.trans h1).alloc (.cells #[.int .u8 T.kind, .string ⟨T.text.toArray⟩, .int .i64 T.num, .int .i64 T.pos] 41))
  unfold Tok.val
  clear h1
  go_wp2_with fail
  refine (put_calls H1.out.ps ⟨4, [], T.num⟩).mono ?_
  rintro e w2 ⟨rfl, lv2, sv2, h2⟩
  have H2 := Lib.hid (H1.out.trans h2)
  clear h2
  go_wp2_with fail
  go_end0
  exact ⟨rfl, _, _, H2.out⟩

set_option maxHeartbeats 2000000 in
set_option maxRecDepth 100000 in
theorem primary_text (d : Nat) (w : World) (lv sv : Value) (s : St) (hp : PS x w lv sv s) (h0 : s.next 3 [] = false) (hx : s.next 4 [] = true)  :
    Calls Tryz.prog 210 #[.pointer (some ⟨x.B, 0, none⟩), .int .i64 d] w (Did x w sv (s.drop.put ⟨5, s.head.text, 0⟩)) := by
  obtain ⟨wa, wb, wc, ra, rb, rc, hbel, hown⟩ := consts_made w
  have hmm := @run_makeMap Tryz.prog
  have Hown := Lib.hid hown
  have hz := hown.lt
  have Hp := Lib.hid (Now.refl hp |>.step hbel)
  have N0 := Lib.hid h0
  have Hx := Lib.hid hx
  have Hx2 := Lib.hid (next_take hx)
  clear hx
  clear h0
  clear hp hown hbel
  go_enter Tryz.func210, Tryz.ntmps210
  go_wp2_with fail
  refine (next_calls Hp.out.ps 3 _ [] (StrsAt.nil _) (by decide)).mono ?_
  rw [N0.out]
  rintro e wd ⟨rfl, rfl⟩
  go_wp2_with fail
  refine (next_calls Hp.out.ps 4 _ [] (StrsAt.nil _) (by decide)).mono ?_
  rw [Hx.out]
  rintro e wd ⟨rfl, rfl⟩
  go_wp2_with fail
  refine (take_calls Hp.out.ps 4 _ [] (StrsAt.nil _) (by decide)).mono ?_
  rw [Hx.out, Hx2.out.1, Hx2.out.2]
  rintro e w1 ⟨rfl, lv1, sv1, h1⟩
  generalize s.head = T at *
  have H1 := Lib.hid ((Hp.out.trans h1).alloc (.cells #[.int .u8 T.kind, .string ⟨T.text.toArray⟩, .int .i64 T.num, .int .i64 T.pos] 41))
  unfold Tok.val
  clear h1
  go_wp2_with fail
  refine (put_calls H1.out.ps ⟨5, T.text, 0⟩).mono ?_
  rintro e w2 ⟨rfl, lv2, sv2, h2⟩
  have H2 := Lib.hid (H1.out.trans h2)
  clear h2
  go_wp2_with fail
  go_end0
  exact ⟨rfl, _, _, H2.out⟩

set_option maxHeartbeats 2000000 in
set_option maxRecDepth 100000 in
theorem primary_path (n : Nat) (d : Nat) (w : World) (lv sv : Value) (s s' : St) (hp : PS x w lv sv s) (h0 : s.next 3 [] = false) (h1 : s.next 4 [] = false) (hx : s.next 1 [] = true) (hr : path n s = some s')  :
    Calls Tryz.prog 210 #[.pointer (some ⟨x.B, 0, none⟩), .int .i64 d] w (Did x w sv s') := by
  obtain ⟨wa, wb, wc, ra, rb, rc, hbel, hown⟩ := consts_made w
  have hmm := @run_makeMap Tryz.prog
  have Hown := Lib.hid hown
  have hz := hown.lt
  have Hp := Lib.hid (Now.refl hp |>.step hbel)
  have Hr := Lib.hid hr
  clear hr
  have N0 := Lib.hid h0
  have N1 := Lib.hid h1
  have Hx := Lib.hid hx
  have Hx2 := Lib.hid (next_take hx)
  clear hx
  clear h0 h1
  clear hp hown hbel
  go_enter Tryz.func210, Tryz.ntmps210
  go_wp2_with fail
  refine (next_calls Hp.out.ps 3 _ [] (StrsAt.nil _) (by decide)).mono ?_
  rw [N0.out]
  rintro e wd ⟨rfl, rfl⟩
  go_wp2_with fail
  refine (next_calls Hp.out.ps 4 _ [] (StrsAt.nil _) (by decide)).mono ?_
  rw [N1.out]
  rintro e wd ⟨rfl, rfl⟩
  go_wp2_with fail
  refine (next_calls Hp.out.ps 1 _ [] (StrsAt.nil _) (by decide)).mono ?_
  rw [Hx.out]
  rintro e wd ⟨rfl, rfl⟩
  go_wp2_with fail
  refine (path_calls n _ _ _ _ _ Hp.out.ps Hr.out).mono ?_
  rintro e w2 ⟨rfl, lv2, sv2, h2⟩
  have H2 := Lib.hid (Hp.out.trans h2)
  clear h2
  go_wp2_with fail
  go_end0
  exact ⟨rfl, _, _, H2.out⟩

set_option maxHeartbeats 2000000 in
set_option maxRecDepth 100000 in
theorem primary_round_deep (d : Nat) (w : World) (lv sv : Value) (s : St) (hp : PS x w lv sv s) (h0 : s.next 3 [] = false) (h1 : s.next 4 [] = false) (h2 : s.next 1 [] = false) (h3 : s.next 2 [kNULL, kTRUE, kFALSE] = false) (hx : s.next 5 [[40]] = true) (hd : 16 ≤ d) (hd2 : d ≤ 16)  :
    Calls Tryz.prog 210 #[.pointer (some ⟨x.B, 0, none⟩), .int .i64 d] w (Did x w sv s.deep) := by
  obtain ⟨wa, wb, wc, ra, rb, rc, hbel, hown⟩ := consts_made w
  have hmm := @run_makeMap Tryz.prog
  have Hown := Lib.hid hown
  have hz := hown.lt
  have Hp := Lib.hid (Now.refl hp |>.step hbel)
  have N0 := Lib.hid h0
  have N1 := Lib.hid h1
  have N2 := Lib.hid h2
  have N3 := Lib.hid h3
  have Hx := Lib.hid hx
  have Hx2 := Lib.hid (next_take hx)
  clear hx
  clear h0 h1 h2 h3
  clear hp hown hbel
  go_enter Tryz.func210, Tryz.ntmps210
  go_wp2_with fail
  refine (next_calls Hp.out.ps 3 _ [] (StrsAt.nil _) (by decide)).mono ?_
  rw [N0.out]
  rintro e wd ⟨rfl, rfl⟩
  go_wp2_with fail
  refine (next_calls Hp.out.ps 4 _ [] (StrsAt.nil _) (by decide)).mono ?_
  rw [N1.out]
  rintro e wd ⟨rfl, rfl⟩
  go_wp2_with fail
  refine (next_calls Hp.out.ps 1 _ [] (StrsAt.nil _) (by decide)).mono ?_
  rw [N2.out]
  rintro e wd ⟨rfl, rfl⟩
  go_wp2_with fail
  have P3 := Lib.hid (Hp.out.alloc (.cells (strsC [kNULL, kTRUE, kFALSE]).toArray 9))
  refine (next_calls P3.out.ps 2 _ [kNULL, kTRUE, kFALSE] (StrsAt.new' _ [kNULL, kTRUE, kFALSE] 3 _ _ _ _ rfl rfl (by simp)) (by decide)).mono ?_
  rw [N3.out]
  rintro e wd ⟨rfl, rfl⟩
  go_wp2_with fail
  have P4 := Lib.hid (P3.out.alloc (.cells (strsC [[40]]).toArray 9))
  refine (next_calls P4.out.ps 5 _ [[40]] (StrsAt.new' _ [[40]] 1 _ _ _ _ rfl rfl (by simp)) (by decide)).mono ?_
  rw [Hx.out]
  rintro e wd ⟨rfl, rfl⟩
  go_wp2_with fail
  refine (nest_deep P4.out.ps d hd (by omega)).mono ?_
  rintro e w2 ⟨rfl, lv2, sv2, h2⟩
  have H2 := Lib.hid (P4.out.trans h2)
  clear h2
  go_wp2_with fail
  go_end0
  exact ⟨rfl, _, _, H2.out⟩

set_option maxHeartbeats 2000000 in
set_option maxRecDepth 100000 in
theorem primary_square_deep (d : Nat) (w : World) (lv sv : Value) (s : St) (hp : PS x w lv sv s) (h0 : s.next 3 [] = false) (h1 : s.next 4 [] = false) (h2 : s.next 1 [] = false) (h3 : s.next 2 [kNULL, kTRUE, kFALSE] = false) (h4 : s.next 5 [[40]] = false) (hx : s.next 5 [[91]] = true) (hd : 16 ≤ d) (hd2 : d ≤ 16)  :
    Calls Tryz.prog 210 #[.pointer (some ⟨x.B, 0, none⟩), .int .i64 d] w (Did x w sv s.deep) := by
  obtain ⟨wa, wb, wc, ra, rb, rc, hbel, hown⟩ := consts_made w
  have hmm := @run_makeMap Tryz.prog
  have Hown := Lib.hid hown
  have hz := hown.lt
  have Hp := Lib.hid (Now.refl hp |>.step hbel)
  have N0 := Lib.hid h0
  have N1 := Lib.hid h1
  have N2 := Lib.hid h2
  have N3 := Lib.hid h3
  have N4 := Lib.hid h4
  have Hx := Lib.hid hx
  have Hx2 := Lib.hid (next_take hx)
  clear hx
  clear h0 h1 h2 h3 h4
  clear hp hown hbel
  go_enter Tryz.func210, Tryz.ntmps210
  go_wp2_with fail
  refine (next_calls Hp.out.ps 3 _ [] (StrsAt.nil _) (by decide)).mono ?_
  rw [N0.out]
  rintro e wd ⟨rfl, rfl⟩
  go_wp2_with fail
  refine (next_calls Hp.out.ps 4 _ [] (StrsAt.nil _) (by decide)).mono ?_
  rw [N1.out]
  rintro e wd ⟨rfl, rfl⟩
  go_wp2_with fail
  refine (next_calls Hp.out.ps 1 _ [] (StrsAt.nil _) (by decide)).mono ?_
  rw [N2.out]
  rintro e wd ⟨rfl, rfl⟩
  go_wp2_with fail
  have P3 := Lib.hid (Hp.out.alloc (.cells (strsC [kNULL, kTRUE, kFALSE]).toArray 9))
  refine (next_calls P3.out.ps 2 _ [kNULL, kTRUE, kFALSE] (StrsAt.new' _ [kNULL, kTRUE, kFALSE] 3 _ _ _ _ rfl rfl (by simp)) (by decide)).mono ?_
  rw [N3.out]
  rintro e wd ⟨rfl, rfl⟩
  go_wp2_with fail
  have P4 := Lib.hid (P3.out.alloc (.cells (strsC [[40]]).toArray 9))
  refine (next_calls P4.out.ps 5 _ [[40]] (StrsAt.new' _ [[40]] 1 _ _ _ _ rfl rfl (by simp)) (by decide)).mono ?_
  rw [N4.out]
  rintro e wd ⟨rfl, rfl⟩
  go_wp2_with fail
  have P5 := Lib.hid (P4.out.alloc (.cells (strsC [[91]]).toArray 9))
  refine (next_calls P5.out.ps 5 _ [[91]] (StrsAt.new' _ [[91]] 1 _ _ _ _ rfl rfl (by simp)) (by decide)).mono ?_
  rw [Hx.out]
  rintro e wd ⟨rfl, rfl⟩
  go_wp2_with fail
  refine (nest_deep P5.out.ps d hd (by omega)).mono ?_
  rintro e w2 ⟨rfl, lv2, sv2, h2⟩
  have H2 := Lib.hid (P5.out.trans h2)
  clear h2
  go_wp2_with fail
  go_end0
  exact ⟨rfl, _, _, H2.out⟩

set_option maxHeartbeats 2000000 in
set_option maxRecDepth 100000 in
theorem primary_curly_deep (d : Nat) (w : World) (lv sv : Value) (s : St) (hp : PS x w lv sv s) (h0 : s.next 3 [] = false) (h1 : s.next 4 [] = false) (h2 : s.next 1 [] = false) (h3 : s.next 2 [kNULL, kTRUE, kFALSE] = false) (h4 : s.next 5 [[40]] = false) (h5 : s.next 5 [[91]] = false) (hx : s.next 5 [[123]] = true) (hd : 16 ≤ d) (hd2 : d ≤ 16)  :
    Calls Tryz.prog 210 #[.pointer (some ⟨x.B, 0, none⟩), .int .i64 d] w (Did x w sv s.deep) := by
  obtain ⟨wa, wb, wc, ra, rb, rc, hbel, hown⟩ := consts_made w
  have hmm := @run_makeMap Tryz.prog
  have Hown := Lib.hid hown
  have hz := hown.lt
  have Hp := Lib.hid (Now.refl hp |>.step hbel)
  have N0 := Lib.hid h0
  have N1 := Lib.hid h1
  have N2 := Lib.hid h2
  have N3 := Lib.hid h3
  have N4 := Lib.hid h4
  have N5 := Lib.hid h5
  have Hx := Lib.hid hx
  have Hx2 := Lib.hid (next_take hx)
  clear hx
  clear h0 h1 h2 h3 h4 h5
  clear hp hown hbel
  go_enter Tryz.func210, Tryz.ntmps210
  go_wp2_with fail
  refine (next_calls Hp.out.ps 3 _ [] (StrsAt.nil _) (by decide)).mono ?_
  rw [N0.out]
  rintro e wd ⟨rfl, rfl⟩
  go_wp2_with fail
  refine (next_calls Hp.out.ps 4 _ [] (StrsAt.nil _) (by decide)).mono ?_
  rw [N1.out]
  rintro e wd ⟨rfl, rfl⟩
  go_wp2_with fail
  refine (next_calls Hp.out.ps 1 _ [] (StrsAt.nil _) (by decide)).mono ?_
  rw [N2.out]
  rintro e wd ⟨rfl, rfl⟩
  go_wp2_with fail
  have P3 := Lib.hid (Hp.out.alloc (.cells (strsC [kNULL, kTRUE, kFALSE]).toArray 9))
  refine (next_calls P3.out.ps 2 _ [kNULL, kTRUE, kFALSE] (StrsAt.new' _ [kNULL, kTRUE, kFALSE] 3 _ _ _ _ rfl rfl (by simp)) (by decide)).mono ?_
  rw [N3.out]
  rintro e wd ⟨rfl, rfl⟩
  go_wp2_with fail
  have P4 := Lib.hid (P3.out.alloc (.cells (strsC [[40]]).toArray 9))
  refine (next_calls P4.out.ps 5 _ [[40]] (StrsAt.new' _ [[40]] 1 _ _ _ _ rfl rfl (by simp)) (by decide)).mono ?_
  rw [N4.out]
  rintro e wd ⟨rfl, rfl⟩
  go_wp2_with fail
  have P5 := Lib.hid (P4.out.alloc (.cells (strsC [[91]]).toArray 9))
  refine (next_calls P5.out.ps 5 _ [[91]] (StrsAt.new' _ [[91]] 1 _ _ _ _ rfl rfl (by simp)) (by decide)).mono ?_
  rw [N5.out]
  rintro e wd ⟨rfl, rfl⟩
  go_wp2_with fail
  have P6 := Lib.hid (P5.out.alloc (.cells (strsC [[123]]).toArray 9))
  refine (next_calls P6.out.ps 5 _ [[123]] (StrsAt.new' _ [[123]] 1 _ _ _ _ rfl rfl (by simp)) (by decide)).mono ?_
  rw [Hx.out]
  rintro e wd ⟨rfl, rfl⟩
  go_wp2_with fail
  refine (nest_deep P6.out.ps d hd (by omega)).mono ?_
  rintro e w2 ⟨rfl, lv2, sv2, h2⟩
  have H2 := Lib.hid (P6.out.trans h2)
  clear h2
  go_wp2_with fail
  go_end0
  exact ⟨rfl, _, _, H2.out⟩

set_option maxHeartbeats 2000000 in
set_option maxRecDepth 100000 in
theorem primary_round (or_ : Nat → St → Option St) (hor : ReadsAt x 127 or_) (d : Nat) (w : World) (lv sv : Value) (s s1 : St) (hp : PS x w lv sv s) (h0 : s.next 3 [] = false) (h1 : s.next 4 [] = false) (h2 : s.next 1 [] = false) (h3 : s.next 2 [kNULL, kTRUE, kFALSE] = false) (hx : s.next 5 [[40]] = true) (hd : d < 16) (hs1 : or_ (d + 1) s.drop = some s1)  :
    Calls Tryz.prog 210 #[.pointer (some ⟨x.B, 0, none⟩), .int .i64 d] w (Did x w sv (s1.sign [41])) := by
  obtain ⟨wa, wb, wc, ra, rb, rc, hbel, hown⟩ := consts_made w
  have hmm := @run_makeMap Tryz.prog
  have Hown := Lib.hid hown
  have hz := hown.lt
  have Hp := Lib.hid (Now.refl hp |>.step hbel)
  obtain ⟨t, r, hl⟩ : ∃ t r, s.left = t :: r := by
    cases hl : s.left with
    | nil => rw [next_nil hl] at hx; cases hx
    | cons t r => exact ⟨t, r, rfl⟩
  have Hl := Lib.hid hl
  have Hor := Lib.hid (fun w lv sv hp => hor (d + 1) (by omega) w lv sv s.drop s1 hp hs1)
  have hdd : (d : Int) < 16 := by omega
  clear hl hor hs1
  have N0 := Lib.hid h0
  have N1 := Lib.hid h1
  have N2 := Lib.hid h2
  have N3 := Lib.hid h3
  have Hx := Lib.hid hx
  have Hx2 := Lib.hid (next_take hx)
  clear hx
  clear h0 h1 h2 h3
  clear hp hown hbel
  go_enter Tryz.func210, Tryz.ntmps210
  go_wp2_with fail
  refine (next_calls Hp.out.ps 3 _ [] (StrsAt.nil _) (by decide)).mono ?_
  rw [N0.out]
  rintro e wd ⟨rfl, rfl⟩
  go_wp2_with fail
  refine (next_calls Hp.out.ps 4 _ [] (StrsAt.nil _) (by decide)).mono ?_
  rw [N1.out]
  rintro e wd ⟨rfl, rfl⟩
  go_wp2_with fail
  refine (next_calls Hp.out.ps 1 _ [] (StrsAt.nil _) (by decide)).mono ?_
  rw [N2.out]
  rintro e wd ⟨rfl, rfl⟩
  go_wp2_with fail
  have P3 := Lib.hid (Hp.out.alloc (.cells (strsC [kNULL, kTRUE, kFALSE]).toArray 9))
  refine (next_calls P3.out.ps 2 _ [kNULL, kTRUE, kFALSE] (StrsAt.new' _ [kNULL, kTRUE, kFALSE] 3 _ _ _ _ rfl rfl (by simp)) (by decide)).mono ?_
  rw [N3.out]
  rintro e wd ⟨rfl, rfl⟩
  go_wp2_with fail
  have P4 := Lib.hid (P3.out.alloc (.cells (strsC [[40]]).toArray 9))
  refine (next_calls P4.out.ps 5 _ [[40]] (StrsAt.new' _ [[40]] 1 _ _ _ _ rfl rfl (by simp)) (by decide)).mono ?_
  rw [Hx.out]
  rintro e wd ⟨rfl, rfl⟩
  go_wp2_with fail
  refine (nest_yes P4.out.ps d hd Hl.out).mono ?_
  rintro e w2 ⟨rfl, lv2, sv2, h2⟩
  have H2 := Lib.hid (P4.out.trans h2)
  clear h2
  go_wp2_with fail
  refine (Hor.out _ _ _ H2.out.ps).mono ?_
  rintro e w3 ⟨rfl, lv3, sv3, h3⟩
  have H3 := Lib.hid (H2.out.trans h3)
  clear h3
  go_wp2_with fail
  refine (sign_calls H3.out.ps [41]).mono ?_
  rintro e w4 ⟨rfl, lv4, sv4, h4⟩
  have H4 := Lib.hid (H3.out.trans h4)
  clear h4
  go_wp2_with fail
  go_end0
  exact ⟨rfl, _, _, H4.out⟩

set_option maxHeartbeats 2000000 in
set_option maxRecDepth 100000 in
theorem primary_square (or_ : Nat → St → Option St) (hor : ReadsAt x 127 or_) (n : Nat) (d : Nat) (w : World) (lv sv : Value) (s s' : St) (hp : PS x w lv sv s) (h0 : s.next 3 [] = false) (h1 : s.next 4 [] = false) (h2 : s.next 1 [] = false) (h3 : s.next 2 [kNULL, kTRUE, kFALSE] = false) (h4 : s.next 5 [[40]] = false) (hx : s.next 5 [[91]] = true) (hd : d < 16) (hs1 : parts (or_ (d + 1)) n ⟨7, [], 0⟩ [93] s.drop = some s')  :
    Calls Tryz.prog 210 #[.pointer (some ⟨x.B, 0, none⟩), .int .i64 d] w (Did x w sv s') := by
  obtain ⟨wa, wb, wc, ra, rb, rc, hbel, hown⟩ := consts_made w
  have hmm := @run_makeMap Tryz.prog
  have Hown := Lib.hid hown
  have hz := hown.lt
  have Hp := Lib.hid (Now.refl hp |>.step hbel)
  obtain ⟨t, r, hl⟩ : ∃ t r, s.left = t :: r := by
    cases hl : s.left with
    | nil => rw [next_nil hl] at hx; cases hx
    | cons t r => exact ⟨t, r, rfl⟩
  have Hl := Lib.hid hl
  have Hor := Lib.hid (fun w lv sv hp => parts_calls (d + 1) ⟨7, [], 0⟩ [93] (or_ (d + 1)) (hor (d + 1) (by omega)) n w lv sv s.drop s' hp rfl rfl hs1)
  have hdd : (d : Int) < 16 := by omega
  clear hl hor hs1
  have N0 := Lib.hid h0
  have N1 := Lib.hid h1
  have N2 := Lib.hid h2
  have N3 := Lib.hid h3
  have N4 := Lib.hid h4
  have Hx := Lib.hid hx
  have Hx2 := Lib.hid (next_take hx)
  clear hx
  clear h0 h1 h2 h3 h4
  clear hp hown hbel
  go_enter Tryz.func210, Tryz.ntmps210
  go_wp2_with fail
  refine (next_calls Hp.out.ps 3 _ [] (StrsAt.nil _) (by decide)).mono ?_
  rw [N0.out]
  rintro e wd ⟨rfl, rfl⟩
  go_wp2_with fail
  refine (next_calls Hp.out.ps 4 _ [] (StrsAt.nil _) (by decide)).mono ?_
  rw [N1.out]
  rintro e wd ⟨rfl, rfl⟩
  go_wp2_with fail
  refine (next_calls Hp.out.ps 1 _ [] (StrsAt.nil _) (by decide)).mono ?_
  rw [N2.out]
  rintro e wd ⟨rfl, rfl⟩
  go_wp2_with fail
  have P3 := Lib.hid (Hp.out.alloc (.cells (strsC [kNULL, kTRUE, kFALSE]).toArray 9))
  refine (next_calls P3.out.ps 2 _ [kNULL, kTRUE, kFALSE] (StrsAt.new' _ [kNULL, kTRUE, kFALSE] 3 _ _ _ _ rfl rfl (by simp)) (by decide)).mono ?_
  rw [N3.out]
  rintro e wd ⟨rfl, rfl⟩
  go_wp2_with fail
  have P4 := Lib.hid (P3.out.alloc (.cells (strsC [[40]]).toArray 9))
  refine (next_calls P4.out.ps 5 _ [[40]] (StrsAt.new' _ [[40]] 1 _ _ _ _ rfl rfl (by simp)) (by decide)).mono ?_
  rw [N4.out]
  rintro e wd ⟨rfl, rfl⟩
  go_wp2_with fail
  have P5 := Lib.hid (P4.out.alloc (.cells (strsC [[91]]).toArray 9))
  refine (next_calls P5.out.ps 5 _ [[91]] (StrsAt.new' _ [[91]] 1 _ _ _ _ rfl rfl (by simp)) (by decide)).mono ?_
  rw [Hx.out]
  rintro e wd ⟨rfl, rfl⟩
  go_wp2_with fail
  refine (nest_yes P5.out.ps d hd Hl.out).mono ?_
  rintro e w2 ⟨rfl, lv2, sv2, h2⟩
  have H2 := Lib.hid (P5.out.trans h2)
  clear h2
  go_wp2_with fail
  refine (Hor.out _ _ _ H2.out.ps).mono ?_
  rintro e w3 ⟨rfl, lv3, sv3, h3⟩
  have H3 := Lib.hid (H2.out.trans h3)
  clear h3
  go_wp2_with fail
  go_end0
  exact ⟨rfl, _, _, H3.out⟩

set_option maxHeartbeats 2000000 in
set_option maxRecDepth 100000 in
theorem primary_curly (or_ : Nat → St → Option St) (hor : ReadsAt x 127 or_) (n : Nat) (d : Nat) (w : World) (lv sv : Value) (s s' : St) (hp : PS x w lv sv s) (h0 : s.next 3 [] = false) (h1 : s.next 4 [] = false) (h2 : s.next 1 [] = false) (h3 : s.next 2 [kNULL, kTRUE, kFALSE] = false) (h4 : s.next 5 [[40]] = false) (h5 : s.next 5 [[91]] = false) (hx : s.next 5 [[123]] = true) (hd : d < 16) (hs1 : parts (or_ (d + 1)) n ⟨8, [], 0⟩ [125] s.drop = some s')  :
    Calls Tryz.prog 210 #[.pointer (some ⟨x.B, 0, none⟩), .int .i64 d] w (Did x w sv s') := by
  obtain ⟨wa, wb, wc, ra, rb, rc, hbel, hown⟩ := consts_made w
  have hmm := @run_makeMap Tryz.prog
  have Hown := Lib.hid hown
  have hz := hown.lt
  have Hp := Lib.hid (Now.refl hp |>.step hbel)
  obtain ⟨t, r, hl⟩ : ∃ t r, s.left = t :: r := by
    cases hl : s.left with
    | nil => rw [next_nil hl] at hx; cases hx
    | cons t r => exact ⟨t, r, rfl⟩
  have Hl := Lib.hid hl
  have Hor := Lib.hid (fun w lv sv hp => parts_calls (d + 1) ⟨8, [], 0⟩ [125] (or_ (d + 1)) (hor (d + 1) (by omega)) n w lv sv s.drop s' hp rfl rfl hs1)
  have hdd : (d : Int) < 16 := by omega
  clear hl hor hs1
  have N0 := Lib.hid h0
  have N1 := Lib.hid h1
  have N2 := Lib.hid h2
  have N3 := Lib.hid h3
  have N4 := Lib.hid h4
  have N5 := Lib.hid h5
  have Hx := Lib.hid hx
  have Hx2 := Lib.hid (next_take hx)
  clear hx
  clear h0 h1 h2 h3 h4 h5
  clear hp hown hbel
  go_enter Tryz.func210, Tryz.ntmps210
  go_wp2_with fail
  refine (next_calls Hp.out.ps 3 _ [] (StrsAt.nil _) (by decide)).mono ?_
  rw [N0.out]
  rintro e wd ⟨rfl, rfl⟩
  go_wp2_with fail
  refine (next_calls Hp.out.ps 4 _ [] (StrsAt.nil _) (by decide)).mono ?_
  rw [N1.out]
  rintro e wd ⟨rfl, rfl⟩
  go_wp2_with fail
  refine (next_calls Hp.out.ps 1 _ [] (StrsAt.nil _) (by decide)).mono ?_
  rw [N2.out]
  rintro e wd ⟨rfl, rfl⟩
  go_wp2_with fail
  have P3 := Lib.hid (Hp.out.alloc (.cells (strsC [kNULL, kTRUE, kFALSE]).toArray 9))
  refine (next_calls P3.out.ps 2 _ [kNULL, kTRUE, kFALSE] (StrsAt.new' _ [kNULL, kTRUE, kFALSE] 3 _ _ _ _ rfl rfl (by simp)) (by decide)).mono ?_
  rw [N3.out]
  rintro e wd ⟨rfl, rfl⟩
  go_wp2_with fail
  have P4 := Lib.hid (P3.out.alloc (.cells (strsC [[40]]).toArray 9))
  refine (next_calls P4.out.ps 5 _ [[40]] (StrsAt.new' _ [[40]] 1 _ _ _ _ rfl rfl (by simp)) (by decide)).mono ?_
  rw [N4.out]
  rintro e wd ⟨rfl, rfl⟩
  go_wp2_with fail
  have P5 := Lib.hid (P4.out.alloc (.cells (strsC [[91]]).toArray 9))
  refine (next_calls P5.out.ps 5 _ [[91]] (StrsAt.new' _ [[91]] 1 _ _ _ _ rfl rfl (by simp)) (by decide)).mono ?_
  rw [N5.out]
  rintro e wd ⟨rfl, rfl⟩
  go_wp2_with fail
  have P6 := Lib.hid (P5.out.alloc (.cells (strsC [[123]]).toArray 9))
  refine (next_calls P6.out.ps 5 _ [[123]] (StrsAt.new' _ [[123]] 1 _ _ _ _ rfl rfl (by simp)) (by decide)).mono ?_
  rw [Hx.out]
  rintro e wd ⟨rfl, rfl⟩
  go_wp2_with fail
  refine (nest_yes P6.out.ps d hd Hl.out).mono ?_
  rintro e w2 ⟨rfl, lv2, sv2, h2⟩
  have H2 := Lib.hid (P6.out.trans h2)
  clear h2
  go_wp2_with fail
  refine (Hor.out _ _ _ H2.out.ps).mono ?_
  rintro e w3 ⟨rfl, lv3, sv3, h3⟩
  have H3 := Lib.hid (H2.out.trans h3)
  clear h3
  go_wp2_with fail
  go_end0
  exact ⟨rfl, _, _, H3.out⟩

end Go.Proofs.YtcjmhmmjfgjcnaaGreatDoor.Pa
