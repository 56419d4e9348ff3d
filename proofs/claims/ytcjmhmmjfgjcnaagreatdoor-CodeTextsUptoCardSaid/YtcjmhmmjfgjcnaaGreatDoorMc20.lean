/- Parts: LxM LxK PaM. -/
import Derived.Test.YtcjmhmmjfgjcnaaGreatDoorMc02
import Derived.Test.YtcjmhmmjfgjcnaaGreatDoorMc03
import Derived.Test.YtcjmhmmjfgjcnaaGreatDoorMc10
import Derived.Test.YtcjmhmmjfgjcnaaGreatDoorMc18
import Derived.Laws.StructEq
import Derived.Laws.OwnMore

/- Lex at every text; Show. -/
namespace Go.Proofs.YtcjmhmmjfgjcnaaGreatDoor.Lx
open Go.RowKit

theorem long_calls (s : ByteArray) (w : World) (hs : s.size ≤ maxLen) (hl : 16384 < s.size) :
    Calls Tryz.prog 13 #[.string s] w fun e w' => e = .returned (.tuple #[.slice none 0 0, .int .i64 4, .int .i64 0]) ∧ Below w.heap.size w w' := by
  unfold maxLen at hs
  go_enter Tryz.func13, Tryz.ntmps13
  go_wp2_with fail
  exact bodyPost_ret (results_tmp3 rfl _ _ _) rfl ⟨rfl, alloc_below _ _⟩
theorem Lex_calls (s : ByteArray) (w : World) (hs : s.size ≤ maxLen) (he : Env w) :
    Calls Tryz.prog 13 #[.string s] w (LexPost w (lexL (L s))) := by
  by_cases hl : 16384 < s.size
  · have h : lexL (L s) = .err 4 0 := by unfold lexL; rw [L_length, if_pos hl]
    rw [h]
    exact long_calls s w hs hl
  · exact lex_calls s w hs hl he

theorem Lex_err (s : ByteArray) (w : World) (hs : s.size ≤ maxLen) (he : Env w) {c a : Nat} (h : lexL (L s) = .err c a) :
    Calls Tryz.prog 13 #[.string s] w fun e w' => e = .returned (.tuple #[.slice none 0 0, .int .i64 c, .int .i64 a]) ∧ Below w.heap.size w w' := by
  have := Lex_calls s w hs he
  rw [h] at this
  exact this
def ToksAt (w : World) (base : Nat) (v : Value) (l : List Tok) : Prop := w.ownsRow base 41 4 v l.length (toksC l)
theorem Lex_ok (s : ByteArray) (w : World) (hs : s.size ≤ maxLen) (he : Env w) {l : List Tok} (h : lexL (L s) = .ok l) :
    Calls Tryz.prog 13 #[.string s] w fun e w' => ∃ (a : Option Addr) (c : Nat), e = .returned (.tuple #[.slice a l.length c, .int .i64 0, .int .i64 0]) ∧ ToksAt w' w.heap.size (.slice a l.length c) l ∧ Below w.heap.size w w' := by
  have := Lex_calls s w hs he
  rw [h] at this
  refine this.mono ?_
  rintro e w' ⟨⟨v, rfl, hv⟩, hb⟩
  have hv' := hv
  rcases hv.2 with ⟨rfl, h0⟩ | ⟨g, cap, cur, rfl, _⟩
  · refine ⟨none, 0, ?_, ?_, hb⟩
    · rw [h0]
    · rw [h0]; rw [h0] at hv'; unfold ToksAt; rw [h0]; exact hv'
  · exact ⟨_, _, rfl, hv', hb⟩

theorem formatInt_calls (n : Int) (w : World) (h1 : -9223372036854775808 ≤ n) (h2 : n ≤ 9223372036854775807) (he : Env w) :
    Calls Tryz.prog 49 #[.int .i64 n, .int .i64 10] w fun e w' => e = .returned (.string ⟨(Lib.itoa n).toArray⟩) ∧ Below w.heap.size w w' := by
  refine (Tryz.strconv_FormatInt_10 n h1 h2 w he.pow).mono ?_
  rintro e w' ⟨rfl, k, os, rfl⟩
  refine ⟨rfl, rfl, rfl, rfl, ?_, fun i hi => ?_⟩
  · show w.heap.size ≤ (w.heap ++ os).size
    simp
  · show (w.heap ++ os)[i]? = w.heap[i]?
    exact Array.getElem?_append_left hi

theorem replaceAll_calls (s : ByteArray) (w : World) (hs : s.size ≤ 1073741824) (he : Env w) :
    Calls Tryz.prog 50 #[.string s, .string ⟨#[39]⟩, .string ⟨#[39, 39]⟩] w fun e w' => e = .returned (.string ⟨(Lib.replaceAll (L s) [39] [39, 39]).toArray⟩) ∧ Below w.heap.size w w' := by
  obtain ⟨m, hm⟩ := he.max
  have hc := Lib.count_le s.data.toList [39]
  have hsz : s.data.toList.length = s.size := L_length s
  refine Tryz.strings_ReplaceAll s ⟨#[39]⟩ ⟨#[39, 39]⟩ m w (by omega) hm (by decide) ?_
  have h1 : Lib.countB s ⟨#[39]⟩ = Lib.count s.data.toList [39] := rfl
  have h2 : (⟨#[39, 39]⟩ : ByteArray).size = 2 := rfl
  rw [h1, h2]
  omega

theorem replaceAll_calls' (x : List UInt8) (w : World) (hs : x.length ≤ 1073741824) (he : Env w) :
    Calls Tryz.prog 50 #[.string ⟨x.toArray⟩, .string ⟨#[39]⟩, .string ⟨#[39, 39]⟩] w fun e w' => e = .returned (.string ⟨(Lib.replaceAll x [39] [39, 39]).toArray⟩) ∧ Below w.heap.size w w' := by
  have h := replaceAll_calls ⟨x.toArray⟩ w (by rw [size_mk]; exact hs) he
  rw [L_mk] at h
  exact h
theorem cat3 (a b c : List UInt8) : (⟨a.toArray⟩ ++ ⟨b.toArray⟩ ++ ⟨c.toArray⟩ : ByteArray) = ⟨(a ++ (b ++ c)).toArray⟩ := by
  apply L_inj
  rw [L_mk]
  show (_ ++ _ : ByteArray).data.toList = _
  rw [ByteArray.data_append, ByteArray.data_append]
  simp

/-! ### two tokens compared -/
section
variable {P : Program} {d : Nat} {xs ys : Array Value} {f : Field} {fs : List Field} {a b : Value} {r s : Bool} {w : World}
theorem fields_last (hn : (f.name == "_") = false) (ha : (part f.type xs f.offset).run P w = .ok a w) (hb : (part f.type ys f.offset).run P w = .ok b w) (he : (Op.equalIn d f.type a b).run P w = .ok r w) : (Op.eqFields d xs ys [f]).run P w = .ok r w := by
  have hn' : f.name ≠ "_" := by simpa using hn
  simp only [Op.eqFields, if_pos hn', Sem.run_bind, ha, hb, he, Result.andThen_ok]
  cases r <;> simp
theorem fields_cons (hn : (f.name == "_") = false) (ha : (part f.type xs f.offset).run P w = .ok a w) (hb : (part f.type ys f.offset).run P w = .ok b w) (he : (Op.equalIn d f.type a b).run P w = .ok r w) (hr : (Op.eqFields d xs ys fs).run P w = .ok s w) : (Op.eqFields d xs ys (f :: fs)).run P w = .ok (r && s) w := by
  have hn' : f.name ≠ "_" := by simpa using hn
  rw [Op.eqFields]
  simp only [if_pos hn', Sem.run_bind, ha, hb, he, Result.andThen_ok]
  cases r
  · simp
  · simpa using hr
theorem agg_of {t : TypeId} {fs : Array Field} (hu : P.underlying t = some (.struct fs)) (hp : P.stoodInHeld t = false) (h : (Op.eqFields d xs ys fs.toList).run P w = .ok r w) : (Op.equalIn (d + 1) t (.agg xs) (.agg ys)).run P w = .ok r w := by
  have hf : P.fieldsOf t = fs := by simp [Program.fieldsOf, hu]
  rw [run_equalIn_struct (P := P) w d t xs ys (by rw [hf]; exact hu) hp, hf]
  exact h
end
def tokB (x0 y0 : Int) (x1 y1 : ByteArray) (x2 y2 x3 y3 : Int) : Bool := (x0 == y0) && ((x1.toList == y1.toList) && ((x2 == y2) && (x3 == y3)))
theorem tok_equal (d : Nat) (w : World) (x0 y0 : Int) (x1 y1 : ByteArray) (x2 y2 : Int) (x3 y3 : Int) :
    (Op.equalIn (d + 2) 41 (.agg #[.int .u8 x0, .string x1, .int .i64 x2, .int .i64 x3]) (.agg #[.int .u8 y0, .string y1, .int .i64 y2, .int .i64 y3])).run Tryz.prog w = .ok (tokB x0 y0 x1 y1 x2 y2 x3 y3) w := by
  refine agg_of Tryz.underlying41 (by kernel_rfl) ?_
  refine fields_cons (by rfl) (by go_simp; rfl) (by go_simp; rfl) (by go_simp) ?_
  refine fields_cons (by rfl) (by go_simp; rfl) (by go_simp; rfl) (by go_simp) ?_
  refine fields_cons (by rfl) (by go_simp; rfl) (by go_simp; rfl) (by go_simp) ?_
  exact fields_last (by rfl) (by go_simp; rfl) (by go_simp; rfl) (by go_simp)
theorem tokB_eq (x y : Tok) (p q : Nat) : tokB x.kind y.kind ⟨x.text.toArray⟩ ⟨y.text.toArray⟩ x.num y.num p q = decide ({ x with pos := p } = { y with pos := q }) := by
  rw [Bool.eq_iff_iff, decide_eq_true_iff]
  unfold tokB
  simp only [Bool.and_eq_true, beq_iff_eq, ByteArray.toList_eq, Tok.mk.injEq, Int.natCast_inj]

theorem ok_one (x y : Tok) : Lx.ok [x] = Lx.ok [y] ↔ x = y := by simp
theorem one_block {w : World} {l : List Tok} {base : Nat} {a : Option Addr} {c : Nat} {x : Tok} (h : ToksAt w base (.slice a l.length c) l) (hl : l = [x]) :
    ∃ g, a = some ⟨g, 0, none⟩ ∧ (w.cell? ⟨g, 0, none⟩ = some (.int .u8 x.kind) ∧ w.cell? ⟨g, 1, none⟩ = some (.string ⟨x.text.toArray⟩) ∧ w.cell? ⟨g, 2, none⟩ = some (.int .i64 x.num) ∧ w.cell? ⟨g, 3, none⟩ = some (.int .i64 x.pos)) := by
  subst hl
  have hc := World.ownsRow.cells h (g := match a with | some ad => ad.block | none => 0)
  rcases h.2 with ⟨_, h0⟩ | ⟨g, cap, cur, e, _⟩
  · simp at h0
  · simp only [Value.slice.injEq] at e
    obtain ⟨rfl, -, rfl⟩ := e
    have hc := World.ownsRow.cells h (g := g) rfl
    refine ⟨g, rfl, ?_, ?_, ?_, ?_⟩
    · simpa [Addr.add] using hc 0 _ rfl
    · simpa [Addr.add] using hc 1 _ rfl
    · simpa [Addr.add] using hc 2 _ rfl
    · simpa [Addr.add] using hc 3 _ rfl

def showV (t : Tok) : Value := .tuple (if showOk t then #[.string ⟨(showS t).toArray⟩, .int .i64 0] else #[.string ⟨#[]⟩, .int .i64 13])

theorem lexF_ne : ∀ (k a : Nat) (l : List UInt8) {c p : Nat}, lexF k a l = .err c p → ((c : Int) != 0) = true
  | 0, _, _, _, _, h => by simp [lexF] at h
  | k + 1, a, l, c, p, h => by
    rw [lexF_succ] at h
    cases hd : l.drop (runN blankB l) with
    | nil => rw [hd] at h; simp [lexG] at h
    | cons x r =>
      rw [hd] at h
      simp only [lexG] at h
      cases hn : nextR (x :: r) with
      | err e =>
        rw [hn] at h
        simp only [Lx.err.injEq] at h
        rw [← h.1]
        exact nextR_err hn
      | ok t n =>
        rw [hn] at h
        simp only at h
        cases hf : lexF k (a + runN blankB l + n) ((x :: r).drop n) with
        | ok l' => rw [hf] at h; simp [Lx.cons] at h
        | err e p' =>
          have := lexF_ne k _ _ hf
          rw [hf] at h
          simp only [Lx.cons, Lx.err.injEq] at h
          rw [← h.1]
          exact this
theorem lexL_ne {l : List UInt8} {c p : Nat} (h : lexL l = .err c p) : ((c : Int) != 0) = true := by
  unfold lexL at h
  split at h
  · simp only [Lx.err.injEq] at h; rw [← h.1]; rfl
  · exact lexF_ne _ _ _ h

structure ShowSt (w wx : World) (t : Tok) (p : Int) : Prop where
  blk : wx.heap[w.heap.size]? = some (.cells #[.int .u8 t.kind, .string ⟨t.text.toArray⟩, .int .i64 t.num, .int .i64 p] 41)
  bel : Below w.heap.size w wx
theorem ShowSt.start (w : World) (t : Tok) (p : Int) : ShowSt w (w.alloc (.cells #[.int .u8 t.kind, .string ⟨t.text.toArray⟩, .int .i64 t.num, .int .i64 p] 41)) t p := ⟨heap_alloc_new _ _, alloc_below _ _⟩
theorem ShowSt.step {w wx w' : World} {t : Tok} {p : Int} (h : ShowSt w wx t p) (hb : Below wx.heap.size wx w') : ShowSt w w' t p :=
  ⟨(hb.block _ (lt_of_heap h.blk)).trans h.blk, h.bel.trans (hb.mono h.bel.size)⟩
theorem ShowSt.zero {w wx : World} {t : Tok} {p : Int} (h : ShowSt w wx t p) : ShowSt w (wx.setCell ⟨w.heap.size, 3, none⟩ (.int .i64 0)) t 0 := by
  refine ⟨?_, h.bel.setCell (Nat.le_refl _) _⟩
  have hp := h.blk
  simp only [World.setCell, Array.getElem?_modify, if_true, hp, Option.map_some]
  rfl
theorem showS_str (t : Tok) (h3 : t.kind ≠ 3) (h4 : t.kind ≠ 4) : showS t = t.text := by unfold showS; rw [if_neg h3, if_neg h4]
theorem showS_num (t : Tok) (h3 : t.kind = 3) : showS t = Lib.itoa t.num := by unfold showS; rw [if_pos h3]
theorem showS_txt (t : Tok) (h4 : t.kind = 4) : showS t = 39 :: (Lib.replaceAll t.text [39] [39, 39] ++ [39]) := by unfold showS; rw [if_neg (by omega), if_pos h4]

attribute [local go_sem high] tok_equal
set_option maxHeartbeats 2000000 in
set_option maxRecDepth 100000 in
theorem Show_calls (t : Tok) (p : Int) (w : World) (hs : t.text.length ≤ 1073741824) (hn1 : -9223372036854775808 ≤ t.num) (hn2 : t.num ≤ 9223372036854775807) (hl : (showS t).length ≤ 9223372036854775807) (he : Env w) :
    Calls Tryz.prog 14 #[.agg #[.int .u8 t.kind, .string ⟨t.text.toArray⟩, .int .i64 t.num, .int .i64 p]] w fun e w' => e = .returned (showV t) ∧ Below w.heap.size w w' := by
  have Hs := Lib.hid hs
  have Hn1 := Lib.hid hn1
  have Hn2 := Lib.hid hn2
  have He := Lib.hid he
  have Hl := Lib.hid (show (⟨(showS t).toArray⟩ : ByteArray).size ≤ maxLen by rw [size_mk]; unfold maxLen; omega)
  have Hl2 := Lib.hid hl
  clear he hs hn1 hn2 hl
  go_enter Tryz.func14, Tryz.ntmps14
  go_upto_block 0 with fail
  go_cut [4] (fun s4 wx => s4 = .string ⟨(showS t).toArray⟩ ∧ Hid (ShowSt w wx t p))
  case first =>
    by_cases h3 : t.kind = 3
    · have k3 : ((t.kind : Int) == 3) = true := by rw [beq_iff_eq]; omega
      have Hss := Lib.hid (showS_num t h3)
      clear h3
      go_wp2_with fail
      refine (formatInt_calls _ _ Hn1.out Hn2.out (He.out.alloc _)).mono ?_
      rintro e w2 ⟨rfl, hb⟩
      have Hst := Lib.hid ((ShowSt.start w t p).step hb)
      clear hb
      go_wp2_with fail
      go_meet
      exact ⟨by rw [Hss.out], Hst.out⟩
    · have k3 : ((t.kind : Int) == 3) = false := by rw [beq_eq_false_iff_ne]; omega
      by_cases h4 : t.kind = 4
      · have k4 : ((t.kind : Int) == 4) = true := by rw [beq_iff_eq]; omega
        have Hss := Lib.hid (showS_txt t h4)
        have hlen : 1 + (Lib.replaceAll t.text [39] [39, 39]).length + 1 ≤ 9223372036854775807 := by
          have := Hl2.out
          rw [Hss.out] at this
          simp only [List.length_cons, List.length_append, List.length_nil] at this
          omega
        clear h3 h4
        go_wp2_with fail
        refine (replaceAll_calls' _ _ Hs.out (He.out.alloc _)).mono ?_
        rintro e w2 ⟨rfl, hb⟩
        have Hst := Lib.hid ((ShowSt.start w t p).step hb)
        clear hb
        go_wp2_with fail
        go_meet
        exact ⟨by rw [Hss.out]; exact congrArg Value.string (cat3 [39] _ [39]), Hst.out⟩
      · have k4 : ((t.kind : Int) == 4) = false := by rw [beq_eq_false_iff_ne]; omega
        have Hss := Lib.hid (showS_str t h3 h4)
        clear h3 h4
        go_wp2_with fail
        go_meet
        exact ⟨by rw [Hss.out], ShowSt.start w t p⟩
  case rest =>
    obtain ⟨rfl, hst⟩ := hcut
    have hb4 := four hst.out.blk
    obtain ⟨⟨k0, k1, k2, k3⟩, g0, g1, g2, g3⟩ := hb4
    have Hz := Lib.hid hst.out.zero
    cases hx : lexL (showS t) with
    | err c a =>
      have Hx := Lib.hid (show lexL (L ⟨(showS t).toArray⟩) = .err c a by rw [L_mk]; exact hx)
      have hne := lexL_ne hx
      have Hsv := Lib.hid (show showV t = .tuple #[.string ⟨#[]⟩, .int .i64 13] by unfold showV showOk; rw [hx, if_neg (by simp)])
      clear hx
      go_wp2_with fail
      refine (Lex_err _ _ Hl.out (He.out.below Hz.out.bel) Hx.out).mono ?_
      rintro e w2 ⟨rfl, hb⟩
      have Hst2 := Lib.hid (Hz.out.step hb)
      clear hb k0 k1 k2 k3 g0 g1 g2 g3
      go_wp2_with fail
      go_quiet (fail)
      go_wp2_with fail
      rw [Hsv.out]
      go_ret2
      exact ⟨rfl, below_drewN Hst2.out.bel _⟩
    | ok l =>
      have Hx := Lib.hid (show lexL (L ⟨(showS t).toArray⟩) = .ok l by rw [L_mk]; exact hx)
      have Hx2 := Lib.hid hx
      clear hx
      by_cases h1 : l.length = 1
      · obtain ⟨x, rfl⟩ := List.length_eq_one_iff.1 h1
        clear h1
        go_wp2_with fail
        refine (Lex_ok _ _ Hl.out (He.out.below Hz.out.bel) Hx.out).mono ?_
        rintro e w2 ⟨ad, cp, rfl, hta, hb⟩
        have hst2 := Hz.out.step hb
        have Hst2 := Lib.hid hst2
        obtain ⟨⟨k0', k1', k2', k3'⟩, -⟩ := four hst2.blk
        obtain ⟨g, rfl, x0, x1, x2, x3⟩ := one_block hta rfl
        clear hb k0 k1 k2 k3 g0 g1 g2 g3 hta hst2
        have hk : tokB x.kind t.kind ⟨x.text.toArray⟩ ⟨t.text.toArray⟩ x.num t.num x.pos 0 = showOk t := by
          unfold showOk
          rw [Hx2.out]
          refine (tokB_eq x t x.pos 0).trans ?_
          rw [decide_eq_decide]
          exact (ok_one x { t with pos := 0 }).symm
        by_cases ho : showOk t = true
        · have Hsv := Lib.hid (show showV t = .tuple #[.string ⟨(showS t).toArray⟩, .int .i64 0] by unfold showV; rw [if_pos ho])
          rw [ho] at hk
          clear ho
          go_wp2_with fail
          go_quiet (fail)
          go_wp2_with fail
          rw [Hsv.out]
          go_ret2
          exact ⟨rfl, below_drewN Hst2.out.bel _⟩
        · have Hsv := Lib.hid (show showV t = .tuple #[.string ⟨#[]⟩, .int .i64 13] by unfold showV; rw [if_neg ho])
          rw [Bool.not_eq_true] at ho
          rw [ho] at hk
          clear ho
          go_wp2_with fail
          go_quiet (fail)
          go_wp2_with fail
          rw [Hsv.out]
          go_ret2
          exact ⟨rfl, below_drewN Hst2.out.bel _⟩
      · have hne : ((l.length : Int) != 1) = true := by rw [bne_iff_ne]; omega
        have Hsv := Lib.hid (show showV t = .tuple #[.string ⟨#[]⟩, .int .i64 13] by unfold showV showOk; rw [Hx2.out, if_neg (by simp; intro h; rw [h] at h1; exact h1 rfl)])
        go_wp2_with fail
        refine (Lex_ok _ _ Hl.out (He.out.below Hz.out.bel) Hx.out).mono ?_
        rintro e w2 ⟨ad, cp, rfl, hta, hb⟩
        have Hst2 := Lib.hid (Hz.out.step hb)
        clear hb k0 k1 k2 k3 g0 g1 g2 g3 hta
        go_wp2_with fail
        go_quiet (fail)
        go_wp2_with fail
        rw [Hsv.out]
        go_ret2
        exact ⟨rfl, below_drewN Hst2.out.bel _⟩

end Go.Proofs.YtcjmhmmjfgjcnaaGreatDoor.Lx

/- Lists of tokens in memory. -/
namespace Go.Proofs.YtcjmhmmjfgjcnaaGreatDoor.Lx
open Go.RowKit

structure TokCells (w : World) (g i : Nat) (t : Tok) : Prop where
  c0 : w.cell? ⟨g, i * 4, none⟩ = some (.int .u8 t.kind)
  c1 : w.cell? ⟨g, i * 4 + 1, none⟩ = some (.string ⟨t.text.toArray⟩)
  c2 : w.cell? ⟨g, i * 4 + 2, none⟩ = some (.int .i64 t.num)
  c3 : w.cell? ⟨g, i * 4 + 3, none⟩ = some (.int .i64 t.pos)
def ToksIn (w : World) (a : Option Addr) (l : List Tok) : Prop := ∀ i (h : i < l.length), ∃ g, a = some ⟨g, 0, none⟩ ∧ TokCells w g i l[i]

theorem toksC_get : ∀ (l : List Tok) (i : Nat) (h : i < l.length), (toksC l)[4 * i]? = some (.int .u8 l[i].kind) ∧ (toksC l)[4 * i + 1]? = some (.string ⟨l[i].text.toArray⟩) ∧ (toksC l)[4 * i + 2]? = some (.int .i64 l[i].num) ∧ (toksC l)[4 * i + 3]? = some (.int .i64 l[i].pos)
  | [], i, h => absurd h (Nat.not_lt_zero _)
  | t :: l, 0, _ => ⟨rfl, rfl, rfl, rfl⟩
  | t :: l, i + 1, h => by
    have hi := toksC_get l i (by simpa using h)
    have e : toksC (t :: l) = t.cells ++ toksC l := rfl
    have hl : t.cells.length = 4 := rfl
    rw [e]
    refine ⟨?_, ?_, ?_, ?_⟩
    · rw [List.getElem?_append_right (by omega), hl, show 4 * (i + 1) - 4 = 4 * i by omega]; exact hi.1
    · rw [List.getElem?_append_right (by omega), hl, show 4 * (i + 1) + 1 - 4 = 4 * i + 1 by omega]; exact hi.2.1
    · rw [List.getElem?_append_right (by omega), hl, show 4 * (i + 1) + 2 - 4 = 4 * i + 2 by omega]; exact hi.2.2.1
    · rw [List.getElem?_append_right (by omega), hl, show 4 * (i + 1) + 3 - 4 = 4 * i + 3 by omega]; exact hi.2.2.2
theorem ownsRow_toks {w : World} {base n c : Nat} {a : Option Addr} {l : List Tok} (h : w.ownsRow base 41 4 (.slice a n c) n (toksC l)) (hn : n = l.length) : ToksIn w a l := by
  intro i hi
  obtain ⟨g, cap, e, -, -⟩ := World.ownsRow.form h (by omega)
  simp only [Value.slice.injEq] at e
  obtain ⟨rfl, -, rfl⟩ := e
  obtain ⟨h0, h1, h2, h3⟩ := toksC_get l i hi
  refine ⟨g, rfl, ?_, ?_, ?_, ?_⟩
  · rw [World.ownsRow.cellAt h _ (by omega), Nat.mul_comm i 4]; exact h0
  · rw [World.ownsRow.cellAt h _ (by omega), Nat.mul_comm i 4]; exact h1
  · rw [World.ownsRow.cellAt h _ (by omega), Nat.mul_comm i 4]; exact h2
  · rw [World.ownsRow.cellAt h _ (by omega), Nat.mul_comm i 4]; exact h3
theorem ToksIn.below {w w' : World} {a : Option Addr} {l : List Tok} (h : ToksIn w a l) (hb : Below w.heap.size w w') : ToksIn w' a l := by
  intro i hi
  obtain ⟨g, e, hc⟩ := h i hi
  have hg : g < w.heap.size := World.block_lt_of_cell? _ _ hc.c0
  exact ⟨g, e, (hb.cell (p := ⟨g, _, none⟩) hg).trans hc.c0, (hb.cell (p := ⟨g, _, none⟩) hg).trans hc.c1, (hb.cell (p := ⟨g, _, none⟩) hg).trans hc.c2, (hb.cell (p := ⟨g, _, none⟩) hg).trans hc.c3⟩

end Go.Proofs.YtcjmhmmjfgjcnaaGreatDoor.Lx

/- The parser in memory: what its methods keep. -/
namespace Go.Proofs.YtcjmhmmjfgjcnaaGreatDoor.Pa
open Go.RowKit Go.Proofs.YtcjmhmmjfgjcnaaGreatDoor.Lx

def Stp.cells (s : Stp) : List Value := [.int .u8 s.kind, .string ⟨s.text.toArray⟩, .int .i64 s.num]
def Stp.val (s : Stp) : Value := .agg #[.int .u8 s.kind, .string ⟨s.text.toArray⟩, .int .i64 s.num]
def stpsC (l : List Stp) : List Value := l.flatMap Stp.cells
theorem stpsC_snoc (l : List Stp) (t : Stp) : stpsC (l ++ [t]) = stpsC l ++ t.cells := by simp [stpsC]

structure Px where
  W : World
  g : Nat
  B : Nat
  all : List Tok
structure Px.Ok (x : Px) : Prop where
  env : Env x.W
  src : ∀ i (h : i < x.all.length), TokCells x.W x.g i x.all[i]
  low : x.W.heap.size ≤ x.B
  fits : ∀ t ∈ x.all, TokFits t
  few : x.all.length ≤ 16384

def LeftIs (x : Px) (v : Value) (l : List Tok) : Prop := ∃ (k n c : Nat) (a : Option Addr), v = .slice a n c ∧ l.length = n ∧ n ≤ c ∧ (l = [] ∨ (a = some ⟨x.g, k * 4, none⟩ ∧ l = x.all.drop k))

structure PS (x : Px) (w : World) (lv sv : Value) (s : St) : Prop where
  ok : x.Ok
  blk : w.heap[x.B]? = some (.cells #[lv, .int .i64 s.fin, .int .i64 s.why, .int .i64 s.at_, sv] 77)
  bel : Below x.W.heap.size x.W w
  left : LeftIs x lv s.left
  own : w.ownsRow x.W.heap.size 48 3 sv s.steps.length (stpsC s.steps)
  ne : sv.ownBlock ≠ some x.B
  few : s.steps.length ≤ 128

def Keep (x : Px) (w w' : World) (sv : Value) : Prop := w.heap.size ≤ w'.heap.size ∧ ∀ b, b < w.heap.size → b ≠ x.B → sv.ownBlock ≠ some b → w'.heap[b]? = w.heap[b]?
def NewOr (w : World) (sv sv' : Value) : Prop := sv'.ownBlock = sv.ownBlock ∨ ∀ b, sv'.ownBlock = some b → w.heap.size ≤ b
theorem Keep.refl (x : Px) (w : World) (sv : Value) : Keep x w w sv := ⟨Nat.le_refl _, fun _ _ _ _ => rfl⟩
theorem NewOr.refl (w : World) (sv : Value) : NewOr w sv sv := .inl rfl
theorem Keep.trans {x : Px} {w w1 w2 : World} {sv sv1 : Value} (h : Keep x w w1 sv) (hn : NewOr w sv sv1) (h2 : Keep x w1 w2 sv1) : Keep x w w2 sv := by
  refine ⟨Nat.le_trans h.1 h2.1, fun b hb hB hs => ?_⟩
  rw [h2.2 b (Nat.lt_of_lt_of_le hb h.1) hB ?_, h.2 b hb hB hs]
  rcases hn with e | e
  · rw [e]; exact hs
  · intro e2; have := e b e2; omega
theorem NewOr.trans {w w1 : World} {sv sv1 sv2 : Value} (h : NewOr w sv sv1) (hz : w.heap.size ≤ w1.heap.size) (h2 : NewOr w1 sv1 sv2) : NewOr w sv sv2 := by
  rcases h2 with e | e
  · rcases h with e' | e'
    · exact .inl (e.trans e')
    · exact .inr fun b hb => e' b (by rw [← e]; exact hb)
  · exact .inr fun b hb => Nat.le_trans hz (e b hb)
theorem Keep.below {x : Px} {w w' : World} {sv : Value} (hb : Below w.heap.size w w') : Keep x w w' sv := ⟨hb.size, fun b h _ _ => hb.block b h⟩

structure Now (x : Px) (w0 : World) (sv0 : Value) (w : World) (lv sv : Value) (s : St) : Prop where
  ps : PS x w lv sv s
  keep : Keep x w0 w sv0
  new : NewOr w0 sv0 sv
theorem Now.refl {x : Px} {w : World} {lv sv : Value} {s : St} (h : PS x w lv sv s) : Now x w sv w lv sv s := ⟨h, Keep.refl _ _ _, NewOr.refl _ _⟩
theorem Now.trans {x : Px} {w0 w w' : World} {sv0 lv sv lv' sv' : Value} {s s' : St} (h : Now x w0 sv0 w lv sv s) (h2 : Now x w sv w' lv' sv' s') : Now x w0 sv0 w' lv' sv' s' :=
  ⟨h2.ps, h.keep.trans h.new h2.keep, h.new.trans h.keep.1 h2.new⟩

theorem PS.lt {x : Px} {w : World} {lv sv : Value} {s : St} (h : PS x w lv sv s) : x.B < w.heap.size := lt_of_heap h.blk
theorem PS.envw {x : Px} {w : World} {lv sv : Value} {s : St} (h : PS x w lv sv s) : Env w := h.ok.env.below h.bel
theorem PS.step {x : Px} {w w' : World} {lv sv : Value} {s : St} (h : PS x w lv sv s) (hb : Below w.heap.size w w') : PS x w' lv sv s :=
  ⟨h.ok, (hb.block _ h.lt).trans h.blk, h.bel.trans (hb.mono h.bel.size), h.left, own_same h.own fun g _ hg => hb.block g hg, h.ne, h.few⟩
theorem Now.step {x : Px} {w0 w w' : World} {sv0 lv sv : Value} {s : St} (h : Now x w0 sv0 w lv sv s) (hb : Below w.heap.size w w') : Now x w0 sv0 w' lv sv s :=
  h.trans ⟨h.ps.step hb, Keep.below hb, NewOr.refl _ _⟩
theorem Now.alloc {x : Px} {w0 w : World} {sv0 lv sv : Value} {s : St} (h : Now x w0 sv0 w lv sv s) (o : Obj) : Now x w0 sv0 (w.alloc o) lv sv s := h.step (alloc_below _ _)
theorem Now.drew {x : Px} {w0 w : World} {sv0 lv sv : Value} {s : St} (h : Now x w0 sv0 w lv sv s) : Now x w0 sv0 w.drew lv sv s := h.step ((Below.refl _ _).drew)
theorem Now.drewN {x : Px} {w0 w : World} {sv0 lv sv : Value} {s : St} (h : Now x w0 sv0 w lv sv s) (n : Nat) : Now x w0 sv0 (w.drewN n) lv sv s := h.step (below_drewN (Below.refl _ _) n)

theorem five {w : World} {B : Nat} {a b c d e : Value} {T : TypeId} (h : w.heap[B]? = some (.cells #[a, b, c, d, e] T)) :
    (w.cell? ⟨B, 0, none⟩ = some a ∧ w.cell? ⟨B, 1, none⟩ = some b ∧ w.cell? ⟨B, 2, none⟩ = some c ∧ w.cell? ⟨B, 3, none⟩ = some d ∧ w.cell? ⟨B, 4, none⟩ = some e) ∧
    (w.frozen? ⟨B, 0, none⟩ = false ∧ w.frozen? ⟨B, 1, none⟩ = false ∧ w.frozen? ⟨B, 2, none⟩ = false ∧ w.frozen? ⟨B, 3, none⟩ = false ∧ w.frozen? ⟨B, 4, none⟩ = false) := by
  simp [World.cell?, World.frozen?, h]

theorem set_block {w : World} {B i : Nat} {cs : Array Value} {T : TypeId} (h : w.heap[B]? = some (.cells cs T)) (v : Value) (cs' : Array Value) (e : cs.setIfInBounds i v = cs') : (w.setCell ⟨B, i, none⟩ v).heap[B]? = some (.cells cs' T) := by
  simp only [World.setCell, Array.getElem?_modify, if_true, h, Option.map_some, ← e]
  rfl
theorem keep_set {x : Px} {w : World} {sv : Value} (i : Nat) (v : Value) : Keep x w (w.setCell ⟨x.B, i, none⟩ v) sv := ⟨by simp, fun b _ hB _ => Below.heap_setCell _ _ _ _ hB⟩

theorem PS.turn {x : Px} {w w' : World} {lv lv' sv : Value} {s s' : St} (h : PS x w lv sv s) (hb : Below x.W.heap.size w w') (hk : ∀ b, b ≠ x.B → w'.heap[b]? = w.heap[b]?)
    (hblk : w'.heap[x.B]? = some (.cells #[lv', .int .i64 s'.fin, .int .i64 s'.why, .int .i64 s'.at_, sv] 77)) (hl : LeftIs x lv' s'.left) (hs : s'.steps = s.steps) : PS x w' lv' sv s' :=
  ⟨h.ok, hblk, h.bel.trans hb, hl, by rw [hs]; exact own_same h.own fun g hg _ => hk g (fun e => h.ne (by rw [hg, e])), h.ne, by rw [hs]; exact h.few⟩

theorem LeftIs.nil {x : Px} {v : Value} {l : List Tok} (h : LeftIs x v l) (hl : l = []) : ∃ (a : Option Addr) (c : Nat), v = .slice a 0 c := by
  obtain ⟨k, n, c, a, rfl, rfl, -, -⟩ := h
  subst hl
  exact ⟨a, c, rfl⟩
theorem LeftIs.zero (x : Px) : LeftIs x (.slice none 0 0) [] := ⟨0, 0, 0, none, rfl, rfl, Nat.le_refl _, .inl rfl⟩
theorem LeftIs.tail {x : Px} {k n c : Nat} {l : List Tok} {t : Tok} (hl : t :: l = x.all.drop k) (hn : (t :: l).length = n) (hc : n ≤ c) (v : Value) (hv : v = .slice (some ⟨x.g, (k + 1) * 4, none⟩) (n - 1) (c - 1) ∨ (c = 1 ∧ ∃ a c', v = .slice a 0 c')) : LeftIs x v l := by
  have hd : l = x.all.drop (k + 1) := by
    have := congrArg List.tail hl
    simpa using this
  rcases hv with rfl | ⟨rfl, a, c', rfl⟩
  · exact ⟨k + 1, n - 1, c - 1, _, rfl, by simp at hn; omega, by omega, .inr ⟨rfl, hd⟩⟩
  · have : l = [] := List.eq_nil_of_length_eq_zero (by simp at hn; omega)
    subst this
    exact ⟨0, 0, c', a, rfl, rfl, Nat.zero_le _, .inl rfl⟩
theorem PS.head {x : Px} {w : World} {lv sv : Value} {s : St} (h : PS x w lv sv s) {t : Tok} {r : List Tok} (hl : s.left = t :: r) :
    ∃ (k n c : Nat), lv = .slice (some ⟨x.g, k * 4, none⟩) n c ∧ 1 ≤ n ∧ n ≤ c ∧ n ≤ 16384 ∧ (w.cell? ⟨x.g, k * 4, none⟩ = some (.int .u8 t.kind) ∧ w.cell? ⟨x.g, k * 4 + 1, none⟩ = some (.string ⟨t.text.toArray⟩) ∧ w.cell? ⟨x.g, k * 4 + 2, none⟩ = some (.int .i64 t.num) ∧ w.cell? ⟨x.g, k * 4 + 3, none⟩ = some (.int .i64 t.pos)) ∧
      (t :: r = x.all.drop k ∧ (t :: r).length = n) ∧ TokFits t ∧ x.g ≠ x.B ∧ x.g < w.heap.size := by
  obtain ⟨k, n, c, a, rfl, hn, hc, hd⟩ := h.left
  rw [hl] at hn hd
  rcases hd with e | ⟨rfl, e⟩
  · cases e
  · have hk : k < x.all.length := by
      rcases Nat.lt_or_ge k x.all.length with h' | h'
      · exact h'
      · rw [List.drop_of_length_le h'] at e; cases e
    have et : x.all[k] = t := by
      rw [List.drop_eq_getElem_cons hk] at e
      exact (List.cons.inj e).1.symm
    have hs := h.ok.src k hk
    rw [et] at hs
    have hg : x.g < x.W.heap.size := World.block_lt_of_cell? _ _ hs.c0
    have hlow := h.ok.low
    have hlen : n ≤ x.all.length := by rw [← hn, e, List.length_drop]; omega
    have hfew := h.ok.few
    exact ⟨k, n, c, rfl, by rw [← hn]; simp, hc, by omega, ⟨(h.bel.cell (p := ⟨x.g, _, none⟩) hg).trans hs.c0, (h.bel.cell (p := ⟨x.g, _, none⟩) hg).trans hs.c1, (h.bel.cell (p := ⟨x.g, _, none⟩) hg).trans hs.c2, (h.bel.cell (p := ⟨x.g, _, none⟩) hg).trans hs.c3⟩, ⟨e, hn⟩,
      h.ok.fits t (by rw [← et]; exact List.getElem_mem hk), by omega, Nat.lt_of_lt_of_le hg h.bel.size⟩

def StrsAt (w : World) (v : Value) (l : List Txt) : Prop := ∃ (a : Option Addr) (n c : Nat), v = .slice a n c ∧ l.length = n ∧ n ≤ c ∧ ∀ (j : Nat) (h : j < l.length), ∃ g, a = some ⟨g, 0, none⟩ ∧ w.cell? ⟨g, j, none⟩ = some (.string ⟨l[j].toArray⟩)
theorem StrsAt.nil (w : World) : StrsAt w (.slice none 0 0) [] := ⟨none, 0, 0, rfl, rfl, Nat.le_refl _, fun _ h => absurd h (Nat.not_lt_zero _)⟩
theorem StrsAt.below {w w' : World} {v : Value} {l : List Txt} (h : StrsAt w v l) (hb : Below w.heap.size w w') : StrsAt w' v l := by
  obtain ⟨a, n, c, rfl, hn, hc, hj⟩ := h
  refine ⟨a, n, c, rfl, hn, hc, fun j hlt => ?_⟩
  obtain ⟨g, e, hcell⟩ := hj j hlt
  exact ⟨g, e, (hb.cell (p := ⟨g, j, none⟩) (World.block_lt_of_cell? _ _ hcell)).trans hcell⟩

theorem PS.own_lt {x : Px} {w : World} {lv sv : Value} {s : St} (h : PS x w lv sv s) {b : Nat} (hb : w.heap.size ≤ b) : sv.ownBlock ≠ some b := fun e => by
  have := (World.ownsRow.lt h.own b e).2
  omega
theorem kept {x : Px} {w w' : World} {o : Obj} {lv sv lv' sv' : Value} {s s' : St} (h : PS x w lv sv s) (h2 : Now x (w.alloc o) sv w' lv' sv' s') : w'.heap[w.heap.size]? = some o := by
  have hB := h.lt
  rw [h2.keep.2 w.heap.size (by simp) (by omega) (h.own_lt (Nat.le_refl _))]
  exact heap_alloc_new w o
def DidC (x : Px) (w : World) (sv : Value) (s' : St) (e : Ending) (w' : World) : Prop := e = .returned (.tuple #[]) ∧ ∃ lv', Now x w sv w' lv' sv s'
def GaveC (x : Px) (w : World) (sv : Value) (v : Value) (s' : St) (e : Ending) (w' : World) : Prop := e = .returned v ∧ ∃ lv', Now x w sv w' lv' sv s'
def Did (x : Px) (w : World) (sv : Value) (s' : St) (e : Ending) (w' : World) : Prop := e = .returned (.tuple #[]) ∧ ∃ lv' sv', Now x w sv w' lv' sv' s'
def Gave (x : Px) (w : World) (sv : Value) (v : Value) (s' : St) (e : Ending) (w' : World) : Prop := e = .returned v ∧ ∃ lv' sv', Now x w sv w' lv' sv' s'
theorem DidC.did {x : Px} {w : World} {sv : Value} {s' : St} {e : Ending} {w' : World} (h : DidC x w sv s' e w') : Did x w sv s' e w' := ⟨h.1, h.2.choose, sv, h.2.choose_spec⟩
theorem GaveC.gave {x : Px} {w : World} {sv v : Value} {s' : St} {e : Ending} {w' : World} (h : GaveC x w sv v s' e w') : Gave x w sv v s' e w' := ⟨h.1, h.2.choose, sv, h.2.choose_spec⟩

end Go.Proofs.YtcjmhmmjfgjcnaaGreatDoor.Pa
