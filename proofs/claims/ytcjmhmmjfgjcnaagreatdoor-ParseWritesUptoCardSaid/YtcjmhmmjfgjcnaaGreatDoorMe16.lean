/- Parts: RaL LxM LxK. -/
import Derived.Test.YtcjmhmmjfgjcnaaGreatDoorMe03
import Derived.Test.YtcjmhmmjfgjcnaaGreatDoorMe07
import Derived.Test.YtcjmhmmjfgjcnaaGreatDoorMe08
import Derived.Test.YtcjmhmmjfgjcnaaGreatDoorMe14
import Derived.Laws.StructEq
import Derived.Laws.OwnMore

/- codicilref10: Cut, twice. -/
namespace Go.Proofs.YtcjmhmmjfgjcnaaGreatDoor.Rf
open Go.RowKit Go.Proofs.YtcjmhmmjfgjcnaaGreatDoor.Lx Go.Proofs.YtcjmhmmjfgjcnaaGreatDoor.Pa

theorem cut_part (s : ByteArray) (a i : Nat) : s.extract a i = ⟨(((L s).drop a).take (i - a)).toArray⟩ := L_inj (by rw [L_extract, L_mk])

set_option maxHeartbeats 1000000 in
set_option maxRecDepth 100000 in
theorem CutR_calls (s : ByteArray) (c : UInt8) (w : World) (hs : s.size ≤ 100000000) :
    Calls Tryz.prog 106 #[.string s, .int .u8 c.toNat] w fun e w' => ∃ v, e = .returned v ∧ StT w w' v (Lib.split (L s) [c]) := by
  go_enter Tryz.func106, Tryz.ntmps106
  go_wp2_with fail
  go_loopw [5, 6, 7] (fun s5 s6 s7 wr => ∃ (a i : Nat) (out : List Txt) (v : Value), s6 = .int .i64 a ∧ s7 = .int .i64 i ∧ s5 = v ∧ Hid (StT w wr v out) ∧ out.length ≤ i ∧ a ≤ i ∧ i ≤ s.size + 1 ∧
      ((i ≤ s.size ∧ Hid (CutTo (L s) c a i out)) ∨ (i = s.size + 1 ∧ Hid (Lib.split (L s) [c] = out)))) (fun _ _ s7 _ => s.size + 1 - (intOf s7).toNat)
  case atStart => exact ⟨0, 0, [], _, rfl, rfl, rfl, Lib.hid (StT.nil w), Nat.le_refl _, Nat.le_refl _, by omega, .inl ⟨Nat.zero_le _, Lib.hid (CutTo.start _ _)⟩⟩
  case round =>
    obtain ⟨a, i, out, v, rfl, rfl, rfl, hst, hol, hai, hi1, hr⟩ := hrel
    have Hst := Lib.hid hst.out
    obtain ⟨av, cv, rfl⟩ := hst.out.form
    clear hst
    rcases hr with ⟨hi, hct⟩ | ⟨rfl, hend⟩
    · have hll : (L s).length = s.size := L_length s
      have Hct := Lib.hid hct.out
      clear hct
      by_cases hlt : i < s.size
      · have hget : (L s)[i]'(by rw [L_length]; exact hlt) = s[i] := rfl
        by_cases hc : s[i] = c
        · have Hn := Lib.hid (Hct.out.part (by rw [hll]; exact hlt) (by rw [hget]; exact hc))
          have hc2 : ((s[i].toNat : Int) == (c.toNat : Int)) = true := by rw [hc]; simp
          have hne : ((i : Int) == (s.size : Int)) = false := by rw [beq_eq_false_iff_ne]; omega
          have hcp := cut_part s a i
          clear hll hget hc
          go_wp2_with (at_builtin; go_must (refine wpList_text rfl _ _ rfl w (.slice av out.length cv) out rfl _ rfl _ (((L s).drop a).take (i - a)) rfl Hst.out rfl (by omega) ?_); intro a7 n7 c7 w7 hn7 h7; have Hn7 := Lib.hid hn7.out; have H7 := Lib.hid h7; clear hn7 h7)
          refine ⟨⟨i + 1, i + 1, out ++ [((L s).drop a).take (i - a)], _, by go_num, by go_num, rfl, H7, by rw [List.length_append, List.length_singleton]; omega, Nat.le_refl _, by omega, .inl ⟨by omega, Hn⟩⟩, by simp [intOf]; omega⟩
        · have Hn := Lib.hid (Hct.out.next (by rw [hll]; exact hlt) (by rw [hget]; exact hc))
          have hc2 : ((s[i].toNat : Int) == (c.toNat : Int)) = false := beq_eq_false_iff_ne.2 fun e => hc (UInt8.toNat_inj.1 (by omega))
          have hne : ((i : Int) == (s.size : Int)) = false := by rw [beq_eq_false_iff_ne]; omega
          clear hll hget hc
          go_wp2_with fail
          go_roundw
          case rel => exact ⟨a, i + 1, out, _, rfl, by go_num, rfl, Hst, by omega, by omega, by omega, .inl ⟨by omega, Hn⟩⟩
          case measure => simp [intOf]; omega
      · obtain rfl : i = s.size := by omega
        have Hn := Lib.hid (show Lib.split (L s) [c] = out ++ [((L s).drop a).take (s.size - a)] from by rw [← hll]; exact CutTo.end_ (by rw [hll]; exact Hct.out))
        have hne : ((s.size : Int) == (s.size : Int)) = true := by simp
        have hcp := cut_part s a s.size
        clear hll
        go_wp2_with (at_builtin; go_must (refine wpList_text rfl _ _ rfl w (.slice av out.length cv) out rfl _ rfl _ (((L s).drop a).take (s.size - a)) rfl Hst.out rfl (by omega) ?_); intro a7 n7 c7 w7 hn7 h7; have Hn7 := Lib.hid hn7.out; have H7 := Lib.hid h7; clear hn7 h7)
        refine ⟨⟨s.size + 1, s.size + 1, out ++ [((L s).drop a).take (s.size - a)], _, by go_num, by go_num, rfl, H7, by rw [List.length_append, List.length_singleton]; omega, Nat.le_refl _, Nat.le_refl _, .inr ⟨rfl, Hn⟩⟩, by simp [intOf]⟩
    · go_wp2_with fail
      go_ret
      exact ⟨_, rfl, by rw [hend.out]; exact Hst.out⟩

/-! ### twice -/
set_option maxHeartbeats 1000000 in
set_option maxRecDepth 100000 in
theorem twiceR_calls (w : World) (v : Value) (l : List Txt) (h : TxsIn w v l) (hl : l.length ≤ 100000000) :
    Calls Tryz.prog 115 #[v] w fun e w' => e = .returned (.bool (!decide l.Nodup)) ∧ w = w' := by
  obtain ⟨a, n, c, rfl, hn, hc, hj⟩ := h
  subst hn
  have Hj := Lib.hid hj
  clear hj
  go_enter Tryz.func115, Tryz.ntmps115
  go_wp2_with fail
  go_loop [9] (fun s9 => ∃ k : Nat, s9 = .int .i64 k ∧ k ≤ l.length ∧ Hid ((l.take k).Nodup)) (fun s9 => l.length - (intOf s9).toNat)
  case atStart => exact ⟨0, rfl, Nat.zero_le _, Lib.hid (by simp)⟩
  case round =>
    obtain ⟨k, rfl, hk, hnd⟩ := hrel
    by_cases hlt : k < l.length
    · obtain ⟨g, o, ha, hcell⟩ := Hj.out k hlt
      subst ha
      generalize hxv : l[k] = x at hcell
      have Hx := Lib.hid hxv
      clear hxv
      go_wp2_with fail
      go_loop [18] (fun s18 => ∃ j : Nat, s18 = .int .i64 j ∧ j ≤ k ∧ Hid (x ∉ l.take j)) (fun s18 => k - (intOf s18).toNat)
      case atStart => exact ⟨0, rfl, Nat.zero_le _, Lib.hid (by simp)⟩
      case round =>
        obtain ⟨j, rfl, hjk, hno⟩ := hrel
        by_cases hlt2 : j < k
        · have hjl : j < l.length := by omega
          obtain ⟨g2, o2, ha2, hcell2⟩ := Hj.out j hjl
          simp only [Option.some.injEq, Addr.mk.injEq, and_true] at ha2
          obtain ⟨rfl, rfl⟩ := ha2
          generalize hyv : l[j] = y at hcell2
          have Hyv := Lib.hid hyv
          clear hyv
          by_cases he : y = x
          · have hR := Lib.hid (show (!decide l.Nodup) = true by
              rw [Bool.not_eq_true', decide_eq_false_iff_not]
              intro hnd2
              have h1 : l[j] = l[k] := by rw [Hyv.out, he, Hx.out]
              exact (List.pairwise_iff_getElem.1 hnd2) j k hjl hlt hlt2 h1)
            subst he
            go_wp2_with fail
            go_ret
            exact ⟨by rw [hR.out]; rfl, rfl⟩
          · have he2 : (y == x) = false := beq_eq_false_iff_ne.2 he
            have Hn := Lib.hid (show x ∉ l.take (j + 1) by
              rw [List.take_succ_eq_append_getElem hjl, Hyv.out]
              intro hm
              rcases List.mem_append.1 hm with hm | hm
              · exact hno.out hm
              · exact he (List.mem_singleton.1 hm).symm)
            go_wp2_with fail
            go_round
            case rel => exact ⟨j + 1, by go_num, by omega, Hn⟩
            case measure => simp [intOf]; omega
        · have hjk2 : j = k := by omega
          subst hjk2
          have Hn := Lib.hid (show (l.take (j + 1)).Nodup by
            rw [List.take_succ_eq_append_getElem hlt, List.nodup_append]
            refine ⟨hnd.out, by simp, fun a ha b hb e => ?_⟩
            rw [List.mem_singleton] at hb
            subst hb
            exact hno.out (by rw [← Hx.out, ← e]; exact ha))
          go_wp2_with fail
          go_round
          case rel => exact ⟨j + 1, by go_num, by omega, Hn⟩
          case measure => simp [intOf]; omega
    · have hR := Lib.hid (show (!decide l.Nodup) = false by
        have := hnd.out
        rw [List.take_of_length_le (by omega)] at this
        rw [decide_eq_true this]; rfl)
      go_wp2_with fail
      go_ret
      exact ⟨by rw [hR.out]; rfl, rfl⟩

end Go.Proofs.YtcjmhmmjfgjcnaaGreatDoor.Rf

/- Lex at every text; Show. -/
namespace Go.Proofs.YtcjmhmmjfgjcnaaGreatDoor.Lx
open Go.RowKit

theorem long_calls (s : ByteArray) (w : World) (hs : s.size ≤ maxLen) (hl : 16384 < s.size) :
    Calls Tryz.prog 13 #[.string s] w fun e w' => e = .returned (.tuple #[.slice none 0 0, .int .i64 4, .int .i64 0]) ∧ Below w.heap.size w w' := by
  unfold maxLen at hs
  go_enter Tryz.func13, Tryz.ntmps13
  go_wp2_with fail
  exact bodyPost_ret (results_tmp3 rfl _ _ _) rfl ⟨rfl, alloc_below _ _⟩
theorem Lex_calls (s : ByteArray) (w : World) (hs : s.size ≤ maxLen) (he : Env w) :
    Calls Tryz.prog 13 #[.string s] w (LexPost w (lexL (L s))) := by
  by_cases hl : 16384 < s.size
  · have h : lexL (L s) = .err 4 0 := by unfold lexL; rw [L_length, if_pos hl]
    rw [h]
    exact long_calls s w hs hl
  · exact lex_calls s w hs hl he

/-- what Lex hands back, case by case -/
theorem Lex_err (s : ByteArray) (w : World) (hs : s.size ≤ maxLen) (he : Env w) {c a : Nat} (h : lexL (L s) = .err c a) :
    Calls Tryz.prog 13 #[.string s] w fun e w' => e = .returned (.tuple #[.slice none 0 0, .int .i64 c, .int .i64 a]) ∧ Below w.heap.size w w' := by
  have := Lex_calls s w hs he
  rw [h] at this
  exact this
/-- a slice of tokens of the call's own -/
def ToksAt (w : World) (base : Nat) (v : Value) (l : List Tok) : Prop := w.ownsRow base 41 4 v l.length (toksC l)
theorem Lex_ok (s : ByteArray) (w : World) (hs : s.size ≤ maxLen) (he : Env w) {l : List Tok} (h : lexL (L s) = .ok l) :
    Calls Tryz.prog 13 #[.string s] w fun e w' => ∃ (a : Option Addr) (c : Nat), e = .returned (.tuple #[.slice a l.length c, .int .i64 0, .int .i64 0]) ∧ ToksAt w' w.heap.size (.slice a l.length c) l ∧ Below w.heap.size w w' := by
  have := Lex_calls s w hs he
  rw [h] at this
  refine this.mono ?_
  rintro e w' ⟨⟨v, rfl, hv⟩, hb⟩
  have hv' := hv
  rcases hv.2 with ⟨rfl, h0⟩ | ⟨g, cap, cur, rfl, _⟩
  · refine ⟨none, 0, ?_, ?_, hb⟩
    · rw [h0]
    · rw [h0]; rw [h0] at hv'; unfold ToksAt; rw [h0]; exact hv'
  · exact ⟨_, _, rfl, hv', hb⟩

theorem formatInt_calls (n : Int) (w : World) (h1 : -9223372036854775808 ≤ n) (h2 : n ≤ 9223372036854775807) (he : Env w) :
    Calls Tryz.prog 49 #[.int .i64 n, .int .i64 10] w fun e w' => e = .returned (.string ⟨(Lib.itoa n).toArray⟩) ∧ Below w.heap.size w w' := by
  refine (Tryz.strconv_FormatInt_10 n h1 h2 w he.pow).mono ?_
  rintro e w' ⟨rfl, k, os, rfl⟩
  refine ⟨rfl, rfl, rfl, rfl, ?_, fun i hi => ?_⟩
  · show w.heap.size ≤ (w.heap ++ os).size
    simp
  · show (w.heap ++ os)[i]? = w.heap[i]?
    exact Array.getElem?_append_left hi

theorem replaceAll_calls (s : ByteArray) (w : World) (hs : s.size ≤ 1073741824) (he : Env w) :
    Calls Tryz.prog 50 #[.string s, .string ⟨#[39]⟩, .string ⟨#[39, 39]⟩] w fun e w' => e = .returned (.string ⟨(Lib.replaceAll (L s) [39] [39, 39]).toArray⟩) ∧ Below w.heap.size w w' := by
  obtain ⟨m, hm⟩ := he.max
  have hc := Lib.count_le s.data.toList [39]
  have hsz : s.data.toList.length = s.size := L_length s
  refine Tryz.strings_ReplaceAll s ⟨#[39]⟩ ⟨#[39, 39]⟩ m w (by omega) hm (by decide) ?_
  have h1 : Lib.countB s ⟨#[39]⟩ = Lib.count s.data.toList [39] := rfl
  have h2 : (⟨#[39, 39]⟩ : ByteArray).size = 2 := rfl
  rw [h1, h2]
  omega

theorem replaceAll_calls' (x : List UInt8) (w : World) (hs : x.length ≤ 1073741824) (he : Env w) :
    Calls Tryz.prog 50 #[.string ⟨x.toArray⟩, .string ⟨#[39]⟩, .string ⟨#[39, 39]⟩] w fun e w' => e = .returned (.string ⟨(Lib.replaceAll x [39] [39, 39]).toArray⟩) ∧ Below w.heap.size w w' := by
  have h := replaceAll_calls ⟨x.toArray⟩ w (by rw [size_mk]; exact hs) he
  rw [L_mk] at h
  exact h
theorem cat3 (a b c : List UInt8) : (⟨a.toArray⟩ ++ ⟨b.toArray⟩ ++ ⟨c.toArray⟩ : ByteArray) = ⟨(a ++ (b ++ c)).toArray⟩ := by
  apply L_inj
  rw [L_mk]
  show (_ ++ _ : ByteArray).data.toList = _
  rw [ByteArray.data_append, ByteArray.data_append]
  simp

/-! ### two tokens compared -/
section
variable {P : Program} {d : Nat} {xs ys : Array Value} {f : Field} {fs : List Field} {a b : Value} {r s : Bool} {w : World}
theorem fields_last (hn : (f.name == "_") = false) (ha : (part f.type xs f.offset).run P w = .ok a w) (hb : (part f.type ys f.offset).run P w = .ok b w) (he : (Op.equalIn d f.type a b).run P w = .ok r w) : (Op.eqFields d xs ys [f]).run P w = .ok r w := by
  have hn' : f.name ≠ "_" := by simpa using hn
  simp only [Op.eqFields, if_pos hn', Sem.run_bind, ha, hb, he, Result.andThen_ok]
  cases r <;> simp
theorem fields_cons (hn : (f.name == "_") = false) (ha : (part f.type xs f.offset).run P w = .ok a w) (hb : (part f.type ys f.offset).run P w = .ok b w) (he : (Op.equalIn d f.type a b).run P w = .ok r w) (hr : (Op.eqFields d xs ys fs).run P w = .ok s w) : (Op.eqFields d xs ys (f :: fs)).run P w = .ok (r && s) w := by
  have hn' : f.name ≠ "_" := by simpa using hn
  rw [Op.eqFields]
  simp only [if_pos hn', Sem.run_bind, ha, hb, he, Result.andThen_ok]
  cases r
  · simp
  · simpa using hr
theorem agg_of {t : TypeId} {fs : Array Field} (hu : P.underlying t = some (.struct fs)) (hp : P.stoodInHeld t = false) (h : (Op.eqFields d xs ys fs.toList).run P w = .ok r w) : (Op.equalIn (d + 1) t (.agg xs) (.agg ys)).run P w = .ok r w := by
  have hf : P.fieldsOf t = fs := by simp [Program.fieldsOf, hu]
  rw [run_equalIn_struct (P := P) w d t xs ys (by rw [hf]; exact hu) hp, hf]
  exact h
end
/-- the comparison as one Bool -/
def tokB (x0 y0 : Int) (x1 y1 : ByteArray) (x2 y2 x3 y3 : Int) : Bool := (x0 == y0) && ((x1.toList == y1.toList) && ((x2 == y2) && (x3 == y3)))
theorem tok_equal (d : Nat) (w : World) (x0 y0 : Int) (x1 y1 : ByteArray) (x2 y2 : Int) (x3 y3 : Int) :
    (Op.equalIn (d + 2) 41 (.agg #[.int .u8 x0, .string x1, .int .i64 x2, .int .i64 x3]) (.agg #[.int .u8 y0, .string y1, .int .i64 y2, .int .i64 y3])).run Tryz.prog w = .ok (tokB x0 y0 x1 y1 x2 y2 x3 y3) w := by
  refine agg_of Tryz.underlying41 (by kernel_rfl) ?_
  refine fields_cons (by rfl) (by go_simp; rfl) (by go_simp; rfl) (by go_simp) ?_
  refine fields_cons (by rfl) (by go_simp; rfl) (by go_simp; rfl) (by go_simp) ?_
  refine fields_cons (by rfl) (by go_simp; rfl) (by go_simp; rfl) (by go_simp) ?_
  exact fields_last (by rfl) (by go_simp; rfl) (by go_simp; rfl) (by go_simp)
theorem tokB_eq (x y : Tok) (p q : Nat) : tokB x.kind y.kind ⟨x.text.toArray⟩ ⟨y.text.toArray⟩ x.num y.num p q = decide ({ x with pos := p } = { y with pos := q }) := by
  rw [Bool.eq_iff_iff, decide_eq_true_iff]
  unfold tokB
  simp only [Bool.and_eq_true, beq_iff_eq, ByteArray.toList_eq, Tok.mk.injEq, Int.natCast_inj]

theorem ok_one (x y : Tok) : Lx.ok [x] = Lx.ok [y] ↔ x = y := by simp
/-- the last part of Show: lex what is shown, and compare -/
theorem one_block {w : World} {l : List Tok} {base : Nat} {a : Option Addr} {c : Nat} {x : Tok} (h : ToksAt w base (.slice a l.length c) l) (hl : l = [x]) :
    ∃ g, a = some ⟨g, 0, none⟩ ∧ (w.cell? ⟨g, 0, none⟩ = some (.int .u8 x.kind) ∧ w.cell? ⟨g, 1, none⟩ = some (.string ⟨x.text.toArray⟩) ∧ w.cell? ⟨g, 2, none⟩ = some (.int .i64 x.num) ∧ w.cell? ⟨g, 3, none⟩ = some (.int .i64 x.pos)) := by
  subst hl
  have hc := World.ownsRow.cells h (g := match a with | some ad => ad.block | none => 0)
  rcases h.2 with ⟨_, h0⟩ | ⟨g, cap, cur, e, _⟩
  · simp at h0
  · simp only [Value.slice.injEq] at e
    obtain ⟨rfl, -, rfl⟩ := e
    have hc := World.ownsRow.cells h (g := g) rfl
    refine ⟨g, rfl, ?_, ?_, ?_, ?_⟩
    · simpa [Addr.add] using hc 0 _ rfl
    · simpa [Addr.add] using hc 1 _ rfl
    · simpa [Addr.add] using hc 2 _ rfl
    · simpa [Addr.add] using hc 3 _ rfl

/-- what Show hands back -/
def showV (t : Tok) : Value := .tuple (if showOk t then #[.string ⟨(showS t).toArray⟩, .int .i64 0] else #[.string ⟨#[]⟩, .int .i64 13])

theorem lexF_ne : ∀ (k a : Nat) (l : List UInt8) {c p : Nat}, lexF k a l = .err c p → ((c : Int) != 0) = true
  | 0, _, _, _, _, h => by simp [lexF] at h
  | k + 1, a, l, c, p, h => by
    rw [lexF_succ] at h
    cases hd : l.drop (runN blankB l) with
    | nil => rw [hd] at h; simp [lexG] at h
    | cons x r =>
      rw [hd] at h
      simp only [lexG] at h
      cases hn : nextR (x :: r) with
      | err e =>
        rw [hn] at h
        simp only [Lx.err.injEq] at h
        rw [← h.1]
        exact nextR_err hn
      | ok t n =>
        rw [hn] at h
        simp only at h
        cases hf : lexF k (a + runN blankB l + n) ((x :: r).drop n) with
        | ok l' => rw [hf] at h; simp [Lx.cons] at h
        | err e p' =>
          have := lexF_ne k _ _ hf
          rw [hf] at h
          simp only [Lx.cons, Lx.err.injEq] at h
          rw [← h.1]
          exact this
theorem lexL_ne {l : List UInt8} {c p : Nat} (h : lexL l = .err c p) : ((c : Int) != 0) = true := by
  unfold lexL at h
  split at h
  · simp only [Lx.err.injEq] at h; rw [← h.1]; rfl
  · exact lexF_ne _ _ _ h

structure ShowSt (w wx : World) (t : Tok) (p : Int) : Prop where
  blk : wx.heap[w.heap.size]? = some (.cells #[.int .u8 t.kind, .string ⟨t.text.toArray⟩, .int .i64 t.num, .int .i64 p] 41)
  bel : Below w.heap.size w wx
theorem ShowSt.start (w : World) (t : Tok) (p : Int) : ShowSt w (w.alloc (.cells #[.int .u8 t.kind, .string ⟨t.text.toArray⟩, .int .i64 t.num, .int .i64 p] 41)) t p := ⟨heap_alloc_new _ _, alloc_below _ _⟩
theorem ShowSt.step {w wx w' : World} {t : Tok} {p : Int} (h : ShowSt w wx t p) (hb : Below wx.heap.size wx w') : ShowSt w w' t p :=
  ⟨(hb.block _ (lt_of_heap h.blk)).trans h.blk, h.bel.trans (hb.mono h.bel.size)⟩
theorem ShowSt.zero {w wx : World} {t : Tok} {p : Int} (h : ShowSt w wx t p) : ShowSt w (wx.setCell ⟨w.heap.size, 3, none⟩ (.int .i64 0)) t 0 := by
  refine ⟨?_, h.bel.setCell (Nat.le_refl _) _⟩
  have hp := h.blk
  simp only [World.setCell, Array.getElem?_modify, if_true, hp, Option.map_some]
  rfl
theorem showS_str (t : Tok) (h3 : t.kind ≠ 3) (h4 : t.kind ≠ 4) : showS t = t.text := by unfold showS; rw [if_neg h3, if_neg h4]
theorem showS_num (t : Tok) (h3 : t.kind = 3) : showS t = Lib.itoa t.num := by unfold showS; rw [if_pos h3]
theorem showS_txt (t : Tok) (h4 : t.kind = 4) : showS t = 39 :: (Lib.replaceAll t.text [39] [39, 39] ++ [39]) := by unfold showS; rw [if_neg (by omega), if_pos h4]

attribute [local go_sem high] tok_equal
set_option maxHeartbeats 2000000 in
set_option maxRecDepth 100000 in
theorem Show_calls (t : Tok) (p : Int) (w : World) (hs : t.text.length ≤ 1073741824) (hn1 : -9223372036854775808 ≤ t.num) (hn2 : t.num ≤ 9223372036854775807) (hl : (showS t).length ≤ 9223372036854775807) (he : Env w) :
    Calls Tryz.prog 14 #[.agg #[.int .u8 t.kind, .string ⟨t.text.toArray⟩, .int .i64 t.num, .int .i64 p]] w fun e w' => e = .returned (showV t) ∧ Below w.heap.size w w' := by
  have Hs := Lib.hid hs
  have Hn1 := Lib.hid hn1
  have Hn2 := Lib.hid hn2
  have He := Lib.hid he
  have Hl := Lib.hid (show (⟨(showS t).toArray⟩ : ByteArray).size ≤ maxLen by rw [size_mk]; unfold maxLen; omega)
  have Hl2 := Lib.hid hl
  clear he hs hn1 hn2 hl
  go_enter Tryz.func14, Tryz.ntmps14
  go_upto_block 0 with fail
  go_cut [4] (fun s4 wx => s4 = .string ⟨(showS t).toArray⟩ ∧ Hid (ShowSt w wx t p))
  case first =>
    by_cases h3 : t.kind = 3
    · have k3 : ((t.kind : Int) == 3) = true := by rw [beq_iff_eq]; omega
      have Hss := Lib.hid (showS_num t h3)
      clear h3
      go_wp2_with fail
      refine (formatInt_calls _ _ Hn1.out Hn2.out (He.out.alloc _)).mono ?_
      rintro e w2 ⟨rfl, hb⟩
      have Hst := Lib.hid ((ShowSt.start w t p).step hb)
      clear hb
      go_wp2_with fail
      go_meet
      exact ⟨by rw [Hss.out], Hst.out⟩
    · have k3 : ((t.kind : Int) == 3) = false := by rw [beq_eq_false_iff_ne]; omega
      by_cases h4 : t.kind = 4
      · have k4 : ((t.kind : Int) == 4) = true := by rw [beq_iff_eq]; omega
        have Hss := Lib.hid (showS_txt t h4)
        have hlen : 1 + (Lib.replaceAll t.text [39] [39, 39]).length + 1 ≤ 9223372036854775807 := by
          have := Hl2.out
          rw [Hss.out] at this
          simp only [List.length_cons, List.length_append, List.length_nil] at this
          omega
        clear h3 h4
        go_wp2_with fail
        refine (replaceAll_calls' _ _ Hs.out (He.out.alloc _)).mono ?_
        rintro e w2 ⟨rfl, hb⟩
        have Hst := Lib.hid ((ShowSt.start w t p).step hb)
        clear hb
        go_wp2_with fail
        go_meet
        exact ⟨by rw [Hss.out]; exact congrArg Value.string (cat3 [39] _ [39]), Hst.out⟩
      · have k4 : ((t.kind : Int) == 4) = false := by rw [beq_eq_false_iff_ne]; omega
        have Hss := Lib.hid (showS_str t h3 h4)
        clear h3 h4
        go_wp2_with fail
        go_meet
        exact ⟨by rw [Hss.out], ShowSt.start w t p⟩
  case rest =>
    obtain ⟨rfl, hst⟩ := hcut
    have hb4 := four hst.out.blk
    obtain ⟨⟨k0, k1, k2, k3⟩, g0, g1, g2, g3⟩ := hb4
    have Hz := Lib.hid hst.out.zero
    cases hx : lexL (showS t) with
    | err c a =>
      have Hx := Lib.hid (show lexL (L ⟨(showS t).toArray⟩) = .err c a by rw [L_mk]; exact hx)
      have hne := lexL_ne hx
      have Hsv := Lib.hid (show showV t = .tuple #[.string ⟨#[]⟩, .int .i64 13] by unfold showV showOk; rw [hx, if_neg (by simp)])
      clear hx
      go_wp2_with fail
      refine (Lex_err _ _ Hl.out (He.out.below Hz.out.bel) Hx.out).mono ?_
      rintro e w2 ⟨rfl, hb⟩
      have Hst2 := Lib.hid (Hz.out.step hb)
      clear hb k0 k1 k2 k3 g0 g1 g2 g3
      go_wp2_with fail
      go_quiet (fail)
      go_wp2_with fail
      rw [Hsv.out]
      go_ret2
      exact ⟨rfl, below_drewN Hst2.out.bel _⟩
    | ok l =>
      have Hx := Lib.hid (show lexL (L ⟨(showS t).toArray⟩) = .ok l by rw [L_mk]; exact hx)
      have Hx2 := Lib.hid hx
      clear hx
      by_cases h1 : l.length = 1
      · obtain ⟨x, rfl⟩ := List.length_eq_one_iff.1 h1
        clear h1
        go_wp2_with fail
        refine (Lex_ok _ _ Hl.out (He.out.below Hz.out.bel) Hx.out).mono ?_
        rintro e w2 ⟨ad, cp, rfl, hta, hb⟩
        have hst2 := Hz.out.step hb
        have Hst2 := Lib.hid hst2
        obtain ⟨⟨k0', k1', k2', k3'⟩, -⟩ := four hst2.blk
        obtain ⟨g, rfl, x0, x1, x2, x3⟩ := one_block hta rfl
        clear hb k0 k1 k2 k3 g0 g1 g2 g3 hta hst2
        have hk : tokB x.kind t.kind ⟨x.text.toArray⟩ ⟨t.text.toArray⟩ x.num t.num x.pos 0 = showOk t := by
          unfold showOk
          rw [Hx2.out]
          refine (tokB_eq x t x.pos 0).trans ?_
          rw [decide_eq_decide]
          exact (ok_one x { t with pos := 0 }).symm
        by_cases ho : showOk t = true
        · have Hsv := Lib.hid (show showV t = .tuple #[.string ⟨(showS t).toArray⟩, .int .i64 0] by unfold showV; rw [if_pos ho])
          rw [ho] at hk
          clear ho
          go_wp2_with fail
          go_quiet (fail)
          go_wp2_with fail
          rw [Hsv.out]
          go_ret2
          exact ⟨rfl, below_drewN Hst2.out.bel _⟩
        · have Hsv := Lib.hid (show showV t = .tuple #[.string ⟨#[]⟩, .int .i64 13] by unfold showV; rw [if_neg ho])
          rw [Bool.not_eq_true] at ho
          rw [ho] at hk
          clear ho
          go_wp2_with fail
          go_quiet (fail)
          go_wp2_with fail
          rw [Hsv.out]
          go_ret2
          exact ⟨rfl, below_drewN Hst2.out.bel _⟩
      · have hne : ((l.length : Int) != 1) = true := by rw [bne_iff_ne]; omega
        have Hsv := Lib.hid (show showV t = .tuple #[.string ⟨#[]⟩, .int .i64 13] by unfold showV showOk; rw [Hx2.out, if_neg (by simp; intro h; rw [h] at h1; exact h1 rfl)])
        go_wp2_with fail
        refine (Lex_ok _ _ Hl.out (He.out.below Hz.out.bel) Hx.out).mono ?_
        rintro e w2 ⟨ad, cp, rfl, hta, hb⟩
        have Hst2 := Lib.hid (Hz.out.step hb)
        clear hb k0 k1 k2 k3 g0 g1 g2 g3 hta
        go_wp2_with fail
        go_quiet (fail)
        go_wp2_with fail
        rw [Hsv.out]
        go_ret2
        exact ⟨rfl, below_drewN Hst2.out.bel _⟩

end Go.Proofs.YtcjmhmmjfgjcnaaGreatDoor.Lx

/- Lists of tokens in memory. -/
namespace Go.Proofs.YtcjmhmmjfgjcnaaGreatDoor.Lx
open Go.RowKit

/-- the four cells of token number i in block g -/
structure TokCells (w : World) (g i : Nat) (t : Tok) : Prop where
  c0 : w.cell? ⟨g, i * 4, none⟩ = some (.int .u8 t.kind)
  c1 : w.cell? ⟨g, i * 4 + 1, none⟩ = some (.string ⟨t.text.toArray⟩)
  c2 : w.cell? ⟨g, i * 4 + 2, none⟩ = some (.int .i64 t.num)
  c3 : w.cell? ⟨g, i * 4 + 3, none⟩ = some (.int .i64 t.pos)
/-- a list of tokens to be read -/
def ToksIn (w : World) (a : Option Addr) (l : List Tok) : Prop := ∀ i (h : i < l.length), ∃ g, a = some ⟨g, 0, none⟩ ∧ TokCells w g i l[i]

theorem toksC_get : ∀ (l : List Tok) (i : Nat) (h : i < l.length), (toksC l)[4 * i]? = some (.int .u8 l[i].kind) ∧ (toksC l)[4 * i + 1]? = some (.string ⟨l[i].text.toArray⟩) ∧ (toksC l)[4 * i + 2]? = some (.int .i64 l[i].num) ∧ (toksC l)[4 * i + 3]? = some (.int .i64 l[i].pos)
  | [], i, h => absurd h (Nat.not_lt_zero _)
  | t :: l, 0, _ => ⟨rfl, rfl, rfl, rfl⟩
  | t :: l, i + 1, h => by
    have hi := toksC_get l i (by simpa using h)
    have e : toksC (t :: l) = t.cells ++ toksC l := rfl
    have hl : t.cells.length = 4 := rfl
    rw [e]
    refine ⟨?_, ?_, ?_, ?_⟩
    · rw [List.getElem?_append_right (by omega), hl, show 4 * (i + 1) - 4 = 4 * i by omega]; exact hi.1
    · rw [List.getElem?_append_right (by omega), hl, show 4 * (i + 1) + 1 - 4 = 4 * i + 1 by omega]; exact hi.2.1
    · rw [List.getElem?_append_right (by omega), hl, show 4 * (i + 1) + 2 - 4 = 4 * i + 2 by omega]; exact hi.2.2.1
    · rw [List.getElem?_append_right (by omega), hl, show 4 * (i + 1) + 3 - 4 = 4 * i + 3 by omega]; exact hi.2.2.2
theorem ownsRow_toks {w : World} {base n c : Nat} {a : Option Addr} {l : List Tok} (h : w.ownsRow base 41 4 (.slice a n c) n (toksC l)) (hn : n = l.length) : ToksIn w a l := by
  intro i hi
  obtain ⟨g, cap, e, -, -⟩ := World.ownsRow.form h (by omega)
  simp only [Value.slice.injEq] at e
  obtain ⟨rfl, -, rfl⟩ := e
  obtain ⟨h0, h1, h2, h3⟩ := toksC_get l i hi
  refine ⟨g, rfl, ?_, ?_, ?_, ?_⟩
  · rw [World.ownsRow.cellAt h _ (by omega), Nat.mul_comm i 4]; exact h0
  · rw [World.ownsRow.cellAt h _ (by omega), Nat.mul_comm i 4]; exact h1
  · rw [World.ownsRow.cellAt h _ (by omega), Nat.mul_comm i 4]; exact h2
  · rw [World.ownsRow.cellAt h _ (by omega), Nat.mul_comm i 4]; exact h3
theorem ToksIn.below {w w' : World} {a : Option Addr} {l : List Tok} (h : ToksIn w a l) (hb : Below w.heap.size w w') : ToksIn w' a l := by
  intro i hi
  obtain ⟨g, e, hc⟩ := h i hi
  have hg : g < w.heap.size := World.block_lt_of_cell? _ _ hc.c0
  exact ⟨g, e, (hb.cell (p := ⟨g, _, none⟩) hg).trans hc.c0, (hb.cell (p := ⟨g, _, none⟩) hg).trans hc.c1, (hb.cell (p := ⟨g, _, none⟩) hg).trans hc.c2, (hb.cell (p := ⟨g, _, none⟩) hg).trans hc.c3⟩

end Go.Proofs.YtcjmhmmjfgjcnaaGreatDoor.Lx
