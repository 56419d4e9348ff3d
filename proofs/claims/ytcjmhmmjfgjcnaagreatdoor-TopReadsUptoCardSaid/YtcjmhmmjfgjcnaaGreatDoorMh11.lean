/- Parts: LxM PgE. -/
import Derived.Test.YtcjmhmmjfgjcnaaGreatDoorMh05
import Derived.Test.YtcjmhmmjfgjcnaaGreatDoorMh09
import Derived.Test.YtcjmhmmjfgjcnaaGreatDoorMh10
import Derived.Laws.StructEq

/- Lex at every text; Show. -/
namespace Go.Proofs.YtcjmhmmjfgjcnaaGreatDoor.Lx
open Go.RowKit

theorem long_calls (s : ByteArray) (w : World) (hs : s.size ≤ maxLen) (hl : 16384 < s.size) :
    Calls Tryz.prog 13 #[.string s] w fun e w' => e = .returned (.tuple #[.slice none 0 0, .int .i64 4, .int .i64 0]) ∧ Below w.heap.size w w' := by
  unfold maxLen at hs
  go_enter Tryz.func13, Tryz.ntmps13
  go_wp2_with fail
  exact bodyPost_ret (results_tmp3 rfl _ _ _) rfl ⟨rfl, alloc_below _ _⟩
theorem Lex_calls (s : ByteArray) (w : World) (hs : s.size ≤ maxLen) (he : Env w) :
    Calls Tryz.prog 13 #[.string s] w (LexPost w (lexL (L s))) := by
  by_cases hl : 16384 < s.size
  · have h : lexL (L s) = .err 4 0 := by unfold lexL; rw [L_length, if_pos hl]
    rw [h]
    exact long_calls s w hs hl
  · exact lex_calls s w hs hl he

theorem Lex_err (s : ByteArray) (w : World) (hs : s.size ≤ maxLen) (he : Env w) {c a : Nat} (h : lexL (L s) = .err c a) :
    Calls Tryz.prog 13 #[.string s] w fun e w' => e = .returned (.tuple #[.slice none 0 0, .int .i64 c, .int .i64 a]) ∧ Below w.heap.size w w' := by
  have := Lex_calls s w hs he
  rw [h] at this
  exact this
def ToksAt (w : World) (base : Nat) (v : Value) (l : List Tok) : Prop := w.ownsRow base 41 4 v l.length (toksC l)
theorem Lex_ok (s : ByteArray) (w : World) (hs : s.size ≤ maxLen) (he : Env w) {l : List Tok} (h : lexL (L s) = .ok l) :
    Calls Tryz.prog 13 #[.string s] w fun e w' => ∃ (a : Option Addr) (c : Nat), e = .returned (.tuple #[.slice a l.length c, .int .i64 0, .int .i64 0]) ∧ ToksAt w' w.heap.size (.slice a l.length c) l ∧ Below w.heap.size w w' := by
  have := Lex_calls s w hs he
  rw [h] at this
  refine this.mono ?_
  rintro e w' ⟨⟨v, rfl, hv⟩, hb⟩
  have hv' := hv
  rcases hv.2 with ⟨rfl, h0⟩ | ⟨g, cap, cur, rfl, _⟩
  · refine ⟨none, 0, ?_, ?_, hb⟩
    · rw [h0]
    · rw [h0]; rw [h0] at hv'; unfold ToksAt; rw [h0]; exact hv'
  · exact ⟨_, _, rfl, hv', hb⟩

theorem formatInt_calls (n : Int) (w : World) (h1 : -9223372036854775808 ≤ n) (h2 : n ≤ 9223372036854775807) (he : Env w) :
    Calls Tryz.prog 49 #[.int .i64 n, .int .i64 10] w fun e w' => e = .returned (.string ⟨(Lib.itoa n).toArray⟩) ∧ Below w.heap.size w w' := by
  refine (Tryz.strconv_FormatInt_10 n h1 h2 w he.pow).mono ?_
  rintro e w' ⟨rfl, k, os, rfl⟩
  refine ⟨rfl, rfl, rfl, rfl, ?_, fun i hi => ?_⟩
  · show w.heap.size ≤ (w.heap ++ os).size
    simp
  · show (w.heap ++ os)[i]? = w.heap[i]?
    exact Array.getElem?_append_left hi

theorem replaceAll_calls (s : ByteArray) (w : World) (hs : s.size ≤ 1073741824) (he : Env w) :
    Calls Tryz.prog 50 #[.string s, .string ⟨#[39]⟩, .string ⟨#[39, 39]⟩] w fun e w' => e = .returned (.string ⟨(Lib.replaceAll (L s) [39] [39, 39]).toArray⟩) ∧ Below w.heap.size w w' := by
  obtain ⟨m, hm⟩ := he.max
  have hc := Lib.count_le s.data.toList [39]
  have hsz : s.data.toList.length = s.size := L_length s
  refine Tryz.strings_ReplaceAll s ⟨#[39]⟩ ⟨#[39, 39]⟩ m w (by omega) hm (by decide) ?_
  have h1 : Lib.countB s ⟨#[39]⟩ = Lib.count s.data.toList [39] := rfl
  have h2 : (⟨#[39, 39]⟩ : ByteArray).size = 2 := rfl
  rw [h1, h2]
  omega

theorem replaceAll_calls' (x : List UInt8) (w : World) (hs : x.length ≤ 1073741824) (he : Env w) :
    Calls Tryz.prog 50 #[.string ⟨x.toArray⟩, .string ⟨#[39]⟩, .string ⟨#[39, 39]⟩] w fun e w' => e = .returned (.string ⟨(Lib.replaceAll x [39] [39, 39]).toArray⟩) ∧ Below w.heap.size w w' := by
  have h := replaceAll_calls ⟨x.toArray⟩ w (by rw [size_mk]; exact hs) he
  rw [L_mk] at h
  exact h
theorem cat3 (a b c : List UInt8) : (⟨a.toArray⟩ ++ ⟨b.toArray⟩ ++ ⟨c.toArray⟩ : ByteArray) = ⟨(a ++ (b ++ c)).toArray⟩ := by
  apply L_inj
  rw [L_mk]
  show (_ ++ _ : ByteArray).data.toList = _
  rw [ByteArray.data_append, ByteArray.data_append]
  simp

/-! ### two tokens compared -/
section
variable {P : Program} {d : Nat} {xs ys : Array Value} {f : Field} {fs : List Field} {a b : Value} {r s : Bool} {w : World}
theorem fields_last (hn : (f.name == "_") = false) (ha : (part f.type xs f.offset).run P w = .ok a w) (hb : (part f.type ys f.offset).run P w = .ok b w) (he : (Op.equalIn d f.type a b).run P w = .ok r w) : (Op.eqFields d xs ys [f]).run P w = .ok r w := by
  have hn' : f.name ≠ "_" := by simpa using hn
  simp only [Op.eqFields, if_pos hn', Sem.run_bind, ha, hb, he, Result.andThen_ok]
  cases r <;> simp
theorem fields_cons (hn : (f.name == "_") = false) (ha : (part f.type xs f.offset).run P w = .ok a w) (hb : (part f.type ys f.offset).run P w = .ok b w) (he : (Op.equalIn d f.type a b).run P w = .ok r w) (hr : (Op.eqFields d xs ys fs).run P w = .ok s w) : (Op.eqFields d xs ys (f :: fs)).run P w = .ok (r && s) w := by
  have hn' : f.name ≠ "_" := by simpa using hn
  rw [Op.eqFields]
  simp only [if_pos hn', Sem.run_bind, ha, hb, he, Result.andThen_ok]
  cases r
  · simp
  · simpa using hr
theorem agg_of {t : TypeId} {fs : Array Field} (hu : P.underlying t = some (.struct fs)) (hp : P.stoodInHeld t = false) (h : (Op.eqFields d xs ys fs.toList).run P w = .ok r w) : (Op.equalIn (d + 1) t (.agg xs) (.agg ys)).run P w = .ok r w := by
  have hf : P.fieldsOf t = fs := by simp [Program.fieldsOf, hu]
  rw [run_equalIn_struct (P := P) w d t xs ys (by rw [hf]; exact hu) hp, hf]
  exact h
end
def tokB (x0 y0 : Int) (x1 y1 : ByteArray) (x2 y2 x3 y3 : Int) : Bool := (x0 == y0) && ((x1.toList == y1.toList) && ((x2 == y2) && (x3 == y3)))
theorem tok_equal (d : Nat) (w : World) (x0 y0 : Int) (x1 y1 : ByteArray) (x2 y2 : Int) (x3 y3 : Int) :
    (Op.equalIn (d + 2) 41 (.agg #[.int .u8 x0, .string x1, .int .i64 x2, .int .i64 x3]) (.agg #[.int .u8 y0, .string y1, .int .i64 y2, .int .i64 y3])).run Tryz.prog w = .ok (tokB x0 y0 x1 y1 x2 y2 x3 y3) w := by
  refine agg_of Tryz.underlying41 (by kernel_rfl) ?_
  refine fields_cons (by rfl) (by go_simp; rfl) (by go_simp; rfl) (by go_simp) ?_
  refine fields_cons (by rfl) (by go_simp; rfl) (by go_simp; rfl) (by go_simp) ?_
  refine fields_cons (by rfl) (by go_simp; rfl) (by go_simp; rfl) (by go_simp) ?_
  exact fields_last (by rfl) (by go_simp; rfl) (by go_simp; rfl) (by go_simp)
theorem tokB_eq (x y : Tok) (p q : Nat) : tokB x.kind y.kind ⟨x.text.toArray⟩ ⟨y.text.toArray⟩ x.num y.num p q = decide ({ x with pos := p } = { y with pos := q }) := by
  rw [Bool.eq_iff_iff, decide_eq_true_iff]
  unfold tokB
  simp only [Bool.and_eq_true, beq_iff_eq, ByteArray.toList_eq, Tok.mk.injEq, Int.natCast_inj]

theorem ok_one (x y : Tok) : Lx.ok [x] = Lx.ok [y] ↔ x = y := by simp
theorem one_block {w : World} {l : List Tok} {base : Nat} {a : Option Addr} {c : Nat} {x : Tok} (h : ToksAt w base (.slice a l.length c) l) (hl : l = [x]) :
    ∃ g, a = some ⟨g, 0, none⟩ ∧ (w.cell? ⟨g, 0, none⟩ = some (.int .u8 x.kind) ∧ w.cell? ⟨g, 1, none⟩ = some (.string ⟨x.text.toArray⟩) ∧ w.cell? ⟨g, 2, none⟩ = some (.int .i64 x.num) ∧ w.cell? ⟨g, 3, none⟩ = some (.int .i64 x.pos)) := by
  subst hl
  have hc := World.ownsRow.cells h (g := match a with | some ad => ad.block | none => 0)
  rcases h.2 with ⟨_, h0⟩ | ⟨g, cap, cur, e, _⟩
  · simp at h0
  · simp only [Value.slice.injEq] at e
    obtain ⟨rfl, -, rfl⟩ := e
    have hc := World.ownsRow.cells h (g := g) rfl
    refine ⟨g, rfl, ?_, ?_, ?_, ?_⟩
    · simpa [Addr.add] using hc 0 _ rfl
    · simpa [Addr.add] using hc 1 _ rfl
    · simpa [Addr.add] using hc 2 _ rfl
    · simpa [Addr.add] using hc 3 _ rfl

def showV (t : Tok) : Value := .tuple (if showOk t then #[.string ⟨(showS t).toArray⟩, .int .i64 0] else #[.string ⟨#[]⟩, .int .i64 13])

theorem lexF_ne : ∀ (k a : Nat) (l : List UInt8) {c p : Nat}, lexF k a l = .err c p → ((c : Int) != 0) = true
  | 0, _, _, _, _, h => by simp [lexF] at h
  | k + 1, a, l, c, p, h => by
    rw [lexF_succ] at h
    cases hd : l.drop (runN blankB l) with
    | nil => rw [hd] at h; simp [lexG] at h
    | cons x r =>
      rw [hd] at h
      simp only [lexG] at h
      cases hn : nextR (x :: r) with
      | err e =>
        rw [hn] at h
        simp only [Lx.err.injEq] at h
        rw [← h.1]
        exact nextR_err hn
      | ok t n =>
        rw [hn] at h
        simp only at h
        cases hf : lexF k (a + runN blankB l + n) ((x :: r).drop n) with
        | ok l' => rw [hf] at h; simp [Lx.cons] at h
        | err e p' =>
          have := lexF_ne k _ _ hf
          rw [hf] at h
          simp only [Lx.cons, Lx.err.injEq] at h
          rw [← h.1]
          exact this
theorem lexL_ne {l : List UInt8} {c p : Nat} (h : lexL l = .err c p) : ((c : Int) != 0) = true := by
  unfold lexL at h
  split at h
  · simp only [Lx.err.injEq] at h; rw [← h.1]; rfl
  · exact lexF_ne _ _ _ h

structure ShowSt (w wx : World) (t : Tok) (p : Int) : Prop where
  blk : wx.heap[w.heap.size]? = some (.cells #[.int .u8 t.kind, .string ⟨t.text.toArray⟩, .int .i64 t.num, .int .i64 p] 41)
  bel : Below w.heap.size w wx
theorem ShowSt.start (w : World) (t : Tok) (p : Int) : ShowSt w (w.alloc (.cells #[.int .u8 t.kind, .string ⟨t.text.toArray⟩, .int .i64 t.num, .int .i64 p] 41)) t p := ⟨heap_alloc_new _ _, alloc_below _ _⟩
theorem ShowSt.step {w wx w' : World} {t : Tok} {p : Int} (h : ShowSt w wx t p) (hb : Below wx.heap.size wx w') : ShowSt w w' t p :=
  ⟨(hb.block _ (lt_of_heap h.blk)).trans h.blk, h.bel.trans (hb.mono h.bel.size)⟩
theorem ShowSt.zero {w wx : World} {t : Tok} {p : Int} (h : ShowSt w wx t p) : ShowSt w (wx.setCell ⟨w.heap.size, 3, none⟩ (.int .i64 0)) t 0 := by
  refine ⟨?_, h.bel.setCell (Nat.le_refl _) _⟩
  have hp := h.blk
  simp only [World.setCell, Array.getElem?_modify, if_true, hp, Option.map_some]
  rfl
theorem showS_str (t : Tok) (h3 : t.kind ≠ 3) (h4 : t.kind ≠ 4) : showS t = t.text := by unfold showS; rw [if_neg h3, if_neg h4]
theorem showS_num (t : Tok) (h3 : t.kind = 3) : showS t = Lib.itoa t.num := by unfold showS; rw [if_pos h3]
theorem showS_txt (t : Tok) (h4 : t.kind = 4) : showS t = 39 :: (Lib.replaceAll t.text [39] [39, 39] ++ [39]) := by unfold showS; rw [if_neg (by omega), if_pos h4]

attribute [local go_sem high] tok_equal
set_option maxHeartbeats 2000000 in
set_option maxRecDepth 100000 in
theorem Show_calls (t : Tok) (p : Int) (w : World) (hs : t.text.length ≤ 1073741824) (hn1 : -9223372036854775808 ≤ t.num) (hn2 : t.num ≤ 9223372036854775807) (hl : (showS t).length ≤ 9223372036854775807) (he : Env w) :
    Calls Tryz.prog 14 #[.agg #[.int .u8 t.kind, .string ⟨t.text.toArray⟩, .int .i64 t.num, .int .i64 p]] w fun e w' => e = .returned (showV t) ∧ Below w.heap.size w w' := by
  have Hs := Lib.hid hs
  have Hn1 := Lib.hid hn1
  have Hn2 := Lib.hid hn2
  have He := Lib.hid he
  have Hl := Lib.hid (show (⟨(showS t).toArray⟩ : ByteArray).size ≤ maxLen by rw [size_mk]; unfold maxLen; omega)
  have Hl2 := Lib.hid hl
  clear he hs hn1 hn2 hl
  go_enter Tryz.func14, Tryz.ntmps14
  go_upto_block 0 with fail
  go_cut [4] (fun s4 wx => s4 = .string ⟨(showS t).toArray⟩ ∧ Hid (ShowSt w wx t p))
  case first =>
    by_cases h3 : t.kind = 3
    · have k3 : ((t.kind : Int) == 3) = true := by rw [beq_iff_eq]; omega
      have Hss := Lib.hid (showS_num t h3)
      clear h3
      go_wp2_with fail
      refine (formatInt_calls _ _ Hn1.out Hn2.out (He.out.alloc _)).mono ?_
      rintro e w2 ⟨rfl, hb⟩
      have Hst := Lib.hid ((ShowSt.start w t p).step hb)
      clear hb
      go_wp2_with fail
      go_meet
      exact ⟨by rw [Hss.out], Hst.out⟩
    · have k3 : ((t.kind : Int) == 3) = false := by rw [beq_eq_false_iff_ne]; omega
      by_cases h4 : t.kind = 4
      · have k4 : ((t.kind : Int) == 4) = true := by rw [beq_iff_eq]; omega
        have Hss := Lib.hid (showS_txt t h4)
        have hlen : 1 + (Lib.replaceAll t.text [39] [39, 39]).length + 1 ≤ 9223372036854775807 := by
          have := Hl2.out
          rw [Hss.out] at this
          simp only [List.length_cons, List.length_append, List.length_nil] at this
          omega
        clear h3 h4
        go_wp2_with fail
        refine (replaceAll_calls' _ _ Hs.out (He.out.alloc _)).mono ?_
        rintro e w2 ⟨rfl, hb⟩
        have Hst := Lib.hid ((ShowSt.start w t p).step hb)
        clear hb
        go_wp2_with fail
        go_meet
        exact ⟨by rw [Hss.out]; exact congrArg Value.string (cat3 [39] _ [39]), Hst.out⟩
      · have k4 : ((t.kind : Int) == 4) = false := by rw [beq_eq_false_iff_ne]; omega
        have Hss := Lib.hid (showS_str t h3 h4)
        clear h3 h4
        go_wp2_with fail
        go_meet
        exact ⟨by rw [Hss.out], ShowSt.start w t p⟩
  case rest =>
    obtain ⟨rfl, hst⟩ := hcut
    have hb4 := four hst.out.blk
    obtain ⟨⟨k0, k1, k2, k3⟩, g0, g1, g2, g3⟩ := hb4
    have Hz := Lib.hid hst.out.zero
    cases hx : lexL (showS t) with
    | err c a =>
      have Hx := Lib.hid (show lexL (L ⟨(showS t).toArray⟩) = .err c a by rw [L_mk]; exact hx)
      have hne := lexL_ne hx
      have Hsv := Lib.hid (show showV t = .tuple #[.string ⟨#[]⟩, .int .i64 13] by unfold showV showOk; rw [hx, if_neg (by simp)])
      clear hx
      go_wp2_with fail
      refine (Lex_err _ _ Hl.out (He.out.below Hz.out.bel) Hx.out).mono ?_
      rintro e w2 ⟨rfl, hb⟩
      have Hst2 := Lib.hid (Hz.out.step hb)
      clear hb k0 k1 k2 k3 g0 g1 g2 g3
      go_wp2_with fail
      go_quiet (fail)
      go_wp2_with fail
      rw [Hsv.out]
      go_ret2
      exact ⟨rfl, below_drewN Hst2.out.bel _⟩
    | ok l =>
      have Hx := Lib.hid (show lexL (L ⟨(showS t).toArray⟩) = .ok l by rw [L_mk]; exact hx)
      have Hx2 := Lib.hid hx
      clear hx
      by_cases h1 : l.length = 1
      · obtain ⟨x, rfl⟩ := List.length_eq_one_iff.1 h1
        clear h1
        go_wp2_with fail
        refine (Lex_ok _ _ Hl.out (He.out.below Hz.out.bel) Hx.out).mono ?_
        rintro e w2 ⟨ad, cp, rfl, hta, hb⟩
        have hst2 := Hz.out.step hb
        have Hst2 := Lib.hid hst2
        obtain ⟨⟨k0', k1', k2', k3'⟩, -⟩ := four hst2.blk
        obtain ⟨g, rfl, x0, x1, x2, x3⟩ := one_block hta rfl
        clear hb k0 k1 k2 k3 g0 g1 g2 g3 hta hst2
        have hk : tokB x.kind t.kind ⟨x.text.toArray⟩ ⟨t.text.toArray⟩ x.num t.num x.pos 0 = showOk t := by
          unfold showOk
          rw [Hx2.out]
          refine (tokB_eq x t x.pos 0).trans ?_
          rw [decide_eq_decide]
          exact (ok_one x { t with pos := 0 }).symm
        by_cases ho : showOk t = true
        · have Hsv := Lib.hid (show showV t = .tuple #[.string ⟨(showS t).toArray⟩, .int .i64 0] by unfold showV; rw [if_pos ho])
          rw [ho] at hk
          clear ho
          go_wp2_with fail
          go_quiet (fail)
          go_wp2_with fail
          rw [Hsv.out]
          go_ret2
          exact ⟨rfl, below_drewN Hst2.out.bel _⟩
        · have Hsv := Lib.hid (show showV t = .tuple #[.string ⟨#[]⟩, .int .i64 13] by unfold showV; rw [if_neg ho])
          rw [Bool.not_eq_true] at ho
          rw [ho] at hk
          clear ho
          go_wp2_with fail
          go_quiet (fail)
          go_wp2_with fail
          rw [Hsv.out]
          go_ret2
          exact ⟨rfl, below_drewN Hst2.out.bel _⟩
      · have hne : ((l.length : Int) != 1) = true := by rw [bne_iff_ne]; omega
        have Hsv := Lib.hid (show showV t = .tuple #[.string ⟨#[]⟩, .int .i64 13] by unfold showV showOk; rw [Hx2.out, if_neg (by simp; intro h; rw [h] at h1; exact h1 rfl)])
        go_wp2_with fail
        refine (Lex_ok _ _ Hl.out (He.out.below Hz.out.bel) Hx.out).mono ?_
        rintro e w2 ⟨ad, cp, rfl, hta, hb⟩
        have Hst2 := Lib.hid (Hz.out.step hb)
        clear hb k0 k1 k2 k3 g0 g1 g2 g3 hta
        go_wp2_with fail
        go_quiet (fail)
        go_wp2_with fail
        rw [Hsv.out]
        go_ret2
        exact ⟨rfl, below_drewN Hst2.out.bel _⟩

end Go.Proofs.YtcjmhmmjfgjcnaaGreatDoor.Lx

/- sha: more. -/
namespace Go.Proofs.YtcjmhmmjfgjcnaaGreatDoor.Sh
open Go.RowKit Go.Proofs.YtcjmhmmjfgjcnaaGreatDoor.Lx

theorem ten {w : World} {B : Nat} {a b c d e f g h i j : Value} {T : TypeId} (hb : w.heap[B]? = some (.cells #[a, b, c, d, e, f, g, h, i, j] T)) :
    (w.cell? ⟨B, 0, none⟩ = some a ∧ w.cell? ⟨B, 1, none⟩ = some b ∧ w.cell? ⟨B, 2, none⟩ = some c ∧ w.cell? ⟨B, 3, none⟩ = some d ∧ w.cell? ⟨B, 4, none⟩ = some e ∧ w.cell? ⟨B, 5, none⟩ = some f ∧ w.cell? ⟨B, 6, none⟩ = some g ∧ w.cell? ⟨B, 7, none⟩ = some h ∧ w.cell? ⟨B, 8, none⟩ = some i ∧ w.cell? ⟨B, 9, none⟩ = some j) ∧
    (w.frozen? ⟨B, 0, none⟩ = false ∧ w.frozen? ⟨B, 1, none⟩ = false ∧ w.frozen? ⟨B, 2, none⟩ = false ∧ w.frozen? ⟨B, 3, none⟩ = false ∧ w.frozen? ⟨B, 4, none⟩ = false ∧ w.frozen? ⟨B, 5, none⟩ = false ∧ w.frozen? ⟨B, 6, none⟩ = false ∧ w.frozen? ⟨B, 7, none⟩ = false ∧ w.frozen? ⟨B, 8, none⟩ = false ∧ w.frozen? ⟨B, 9, none⟩ = false) := by
  simp [World.cell?, World.frozen?, hb]
theorem L_cat (a b : ByteArray) : L (a ++ b) = L a ++ L b := by
  simp [L]
theorem rounds_len : ∀ (l m v : List Nat), v.length = 8 → (rounds l m v).length = 8
  | [], _, v, h => by simpa [rounds] using h
  | _ :: _, [], v, h => by simpa [rounds] using h
  | k :: l, w :: m, v, _ => by rw [rounds]; exact rounds_len l m _ rfl
theorem block_len {h : List Nat} (s : List UInt8) (hl : h.length = 8) : (block h s).length = 8 := by
  unfold block
  rw [addW_len (by rw [rounds_len _ _ _ hl, hl]), hl]
theorem block_lt {h : List Nat} {s : List UInt8} : ∀ a ∈ block h s, a < M := by
  unfold block addW
  intro a ha
  obtain ⟨i, hi, rfl⟩ := List.getElem_of_mem ha
  rw [List.getElem_zipWith]
  exact Nat.mod_lt _ (by decide)
theorem blocks_step {h : List Nat} {r : List UInt8} (hr : 64 ≤ r.length) : blocks (r.length / 64) h r = blocks ((r.drop 64).length / 64) (block h r) (r.drop 64) := by
  obtain ⟨n, hn⟩ : ∃ n, r.length / 64 = n + 1 := ⟨r.length / 64 - 1, by omega⟩
  rw [hn, blocks, if_pos hr, List.length_drop, show (r.length - 64) / 64 = n by omega]
theorem blocks_end {h : List Nat} {r : List UInt8} (hr : r.length < 64) : blocks (r.length / 64) h r = (h, r) := by
  rw [show r.length / 64 = 0 by omega]; rfl
def shaV (h : List Nat) (n : Nat) (r : ByteArray) : Value := .agg (u32s h ++ [Value.int .u64 (n : Int), Value.string r]).toArray
def szOf : Value → Nat
  | .string s => s.size
  | _ => 0
structure MrR (w wr : World) (hh : List Nat) (N : Nat) (r0 : ByteArray) : Prop where
  bel : Below w.heap.size w wr
  arr : Arr wr w.heap.size hh [.int .u64 N, .string r0] 135
  res : wr.heap[w.heap.size + 1]? = some (.cells #[.int .u32 0, .int .u32 0, .int .u32 0, .int .u32 0, .int .u32 0, .int .u32 0, .int .u32 0, .int .u32 0, .int .u64 0, .string ⟨#[]⟩] 135)
  len : hh.length = 8
  lt : ∀ a ∈ hh, a < M
theorem MrR.next {w wr w' : World} {hh : List Nat} {N : Nat} {r0 : ByteArray} {s : List UInt8} (h : MrR w wr hh N r0) (hg : wr.grownBy w' (some w.heap.size)) (ha : Arr w' w.heap.size (block hh s) [.int .u64 N, .string r0] 135) : MrR w w' (block hh s) N r0 :=
  ⟨h.bel.grown hg h.bel.size fun k hk => by simp only [Option.some.injEq] at hk; omega, ha, (hg.block _ (lt_of_heap h.res) (by simp)).trans h.res, block_len s h.len, block_lt⟩

set_option maxHeartbeats 2000000 in
set_option maxRecDepth 100000 in
theorem more_calls (w : World) (hc : KC w) (x : Sha) (hx : x.h.length = 8) (hlt : ∀ a ∈ x.h, a < M) (s : ByteArray) (hn : x.n + s.size < 1152921504606846976) (hr : x.rest.length + s.size ≤ 1099511627776) :
    Calls Tryz.prog 80 #[shaV x.h x.n ⟨x.rest.toArray⟩, .string s] w fun e w' => e = .returned (shaV (more x (L s)).h (more x (L s)).n ⟨(more x (L s)).rest.toArray⟩) ∧ Below w.heap.size w w' := by
  obtain ⟨h, N, rest⟩ := x
  simp only at hx hlt hn hr
  have HF := Bx.mk (show more ⟨h, N, rest⟩ (L s) = ⟨(blocks ((rest ++ L s).length / 64) h (rest ++ L s)).1, N + s.size, (blocks ((rest ++ L s).length / 64) h (rest ++ L s)).2⟩ by
    unfold more
    simp only
    rw [show (L s).length = s.size from L_length s])
  obtain ⟨a0, a1, a2, a3, a4, a5, a6, a7, rfl⟩ : ∃ a0 a1 a2 a3 a4 a5 a6 a7, h = [a0, a1, a2, a3, a4, a5, a6, a7] := by
    match h, hx with
    | [a0, a1, a2, a3, a4, a5, a6, a7], _ => exact ⟨_, _, _, _, _, _, _, _, rfl⟩
  have Hc := Lib.hid hc
  have Hlt := Lib.hid hlt
  have z0 : ((N : Int) + (s.size : Int)) % 18446744073709551616 = ((N : Int) + (s.size : Int)) := by omega
  have z1 : (s.size : Int) % 18446744073709551616 = (s.size : Int) := by omega
  have z2 : rest.length + s.size ≤ 9223372036854775807 := by omega
  have z3 : ¬ 9223372036854775807 < rest.length + s.size := by omega
  obtain ⟨F, hF⟩ : ∃ F, F = blocks ((rest ++ L s).length / 64) [a0, a1, a2, a3, a4, a5, a6, a7] (rest ++ L s) := ⟨_, rfl⟩
  rw [← hF] at HF
  have HF0 := Bx.mk hF
  have hrl : (⟨rest.toArray⟩ ++ s : ByteArray).size ≤ 1099511627776 := by rw [ByteArray.size_append, size_mk]; exact hr
  clear hc hlt hx hF
  show Calls Tryz.prog 80 #[.agg #[.int .u32 a0, .int .u32 a1, .int .u32 a2, .int .u32 a3, .int .u32 a4, .int .u32 a5, .int .u32 a6, .int .u32 a7, .int .u64 N, .string ⟨rest.toArray⟩], .string s] w _
  go_enter Tryz.func80, Tryz.ntmps80
  go_wp2_with fail
  go_loopw [1] (fun s1 wr => ∃ (hh : List Nat) (r : ByteArray), s1 = .string r ∧ r.size ≤ 1099511627776 ∧ Hid (MrR w wr hh (N + s.size) ⟨rest.toArray⟩) ∧ Bx (blocks ((L r).length / 64) hh (L r) = F)) (fun s1 _ => szOf s1)
  case atStart =>
    refine ⟨[a0, a1, a2, a3, a4, a5, a6, a7], _, rfl, hrl, ?_, ⟨?_⟩⟩
    · refine ⟨(alloc_below w _).trans ((alloc_below _ _).mono (by simp)), ?_, ?_, rfl, Hlt.out⟩
      · exact (Below.heap_alloc _ _ _ (by simp)).trans (heap_alloc_new w _)
      · have := heap_alloc_new (w.alloc (.cells #[.int .u32 a0, .int .u32 a1, .int .u32 a2, .int .u32 a3, .int .u32 a4, .int .u32 a5, .int .u32 a6, .int .u32 a7, .int .u64 ((N : Int) + (s.size : Int)), .string ⟨rest.toArray⟩] 135)) (.cells #[.int .u32 0, .int .u32 0, .int .u32 0, .int .u32 0, .int .u32 0, .int .u32 0, .int .u32 0, .int .u32 0, .int .u64 0, .string ⟨#[]⟩] 135)
        simpa using this
    · rw [L_cat, L_mk]; exact HF0.out.symm
  case round =>
    obtain ⟨hh, r, rfl, hrz, P, hB⟩ := hrel
    by_cases h64 : 64 ≤ r.size
    · have c0 : decide ((64 : Int) ≤ (r.size : Int)) = true := by rw [decide_eq_true_iff]; omega
      have c1 : (64 : Int) ≤ (r.size : Int) := by omega
      have Hbk := Lib.hid (block_calls wr (Hc.out.below P.out.bel) w.heap.size hh (.int .u64 ((N + s.size : Nat) : Int)) (.string ⟨rest.toArray⟩) r h64 P.out.arr P.out.len P.out.lt)
      clear z0 z1 z2 z3
      go_wp2_with fail
      refine Hbk.out.mono ?_
      rintro e w5 ⟨rfl, hg5, ha5⟩
      have P5 := Lib.hid (P.out.next hg5 ha5)
      clear hg5 ha5
      go_wp2_with fail
      refine ⟨⟨_, r.extract 64 r.size, rfl, by rw [ByteArray.size_extract]; omega, P5, ⟨?_⟩⟩, ?_⟩
      · have e : L (r.extract 64 r.size) = (L r).drop 64 := by
          rw [L_extract]
          exact List.take_of_length_le (by rw [List.length_drop, L_length]; exact Nat.le_refl _)
        rw [e]
        exact (blocks_step (by rw [L_length]; exact h64)).symm.trans hB.out
      · show (r.extract 64 r.size).size < r.size
        rw [ByteArray.size_extract]
        omega
    · have c0 : decide ((64 : Int) ≤ (r.size : Int)) = false := by rw [decide_eq_false_iff_not]; omega
      have c1 : ¬ (64 : Int) ≤ (r.size : Int) := by omega
      have hrl : (L r).length < 64 := by rw [L_length]; omega
      have hF2 : F = (hh, L r) := by rw [← hB.out, blocks_end hrl]
      subst hF2
      obtain ⟨b0, b1, b2, b3, b4, b5, b6, b7, rfl⟩ : ∃ b0 b1 b2 b3 b4 b5 b6 b7, hh = [b0, b1, b2, b3, b4, b5, b6, b7] := by
        match hh, P.out.len with
        | [b0, b1, b2, b3, b4, b5, b6, b7], _ => exact ⟨_, _, _, _, _, _, _, _, rfl⟩
      clear z0 z1 z2 z3
      obtain ⟨⟨k0, k1, k2, k3, k4, k5, k6, k7, k8, k9⟩, f0, f1, f2, f3, f4, f5, f6, f7, f8, f9⟩ := ten (show wr.heap[w.heap.size]? = some (.cells #[.int .u32 b0, .int .u32 b1, .int .u32 b2, .int .u32 b3, .int .u32 b4, .int .u32 b5, .int .u32 b6, .int .u32 b7, .int .u64 ((N + s.size : Nat) : Int), .string ⟨rest.toArray⟩] 135) from P.out.arr)
      obtain ⟨⟨j0, j1, j2, j3, j4, j5, j6, j7, j8, j9⟩, g0, g1, g2, g3, g4, g5, g6, g7, g8, g9⟩ := ten P.out.res
      have Hbel := Lib.hid P.out.bel
      clear hB HF0 c0 hrz hr hn P
      go_wp2_with fail
      refine bodyPost_ret (v := .agg #[.int .u32 b0, .int .u32 b1, .int .u32 b2, .int .u32 b3, .int .u32 b4, .int .u32 b5, .int .u32 b6, .int .u32 b7, .int .u64 ((N : Int) + (s.size : Int)), .string r]) (by simp [results, Tryz.results80, go_sem, j0, j1, j2, j3, j4, j5, j6, j7, j8, j9]) rfl ⟨?_, ?_⟩
      · rw [HF.out]
        have e : (⟨(L r).toArray⟩ : ByteArray) = r := by simp [L]
        show _ = Ending.returned (shaV [b0, b1, b2, b3, b4, b5, b6, b7] (N + s.size) ⟨(L r).toArray⟩)
        rw [e]
        rfl
      · iterate 11 (refine Below.setCell ?_ (by simp) _)
        exact Hbel.out

end Go.Proofs.YtcjmhmmjfgjcnaaGreatDoor.Sh
