/- Parts: RaI RaJ RaK RaKa RaKb RaKc RaKz. -/
import Derived.Test.YtcjmhmmjfgjcnaaGreatDoorMe10
import Derived.Test.YtcjmhmmjfgjcnaaGreatDoorMe14
import Derived.Lib.ItoaMem

/- codicilref09: Lex. -/
namespace Go.Proofs.YtcjmhmmjfgjcnaaGreatDoor.Rf
open Go.RowKit Go.Proofs.YtcjmhmmjfgjcnaaGreatDoor.Lx Go.Proofs.YtcjmhmmjfgjcnaaGreatDoor.Pa

theorem next_calls (s : ByteArray) (w : World) (hs : s.size ≤ 100000) (h0 : 0 < s.size) : Calls Tryz.prog 170 #[.string s] w (NextP w (nextR (L s))) := by
  cases hl : letterB s[0]
  · cases hd : digitB s[0]
    · by_cases h39 : s[0] = 39
      · exact next_text_calls s w hs h0 hl hd h39
      · exact next_sign_calls s w hs h0 hl hd h39
    · exact next_num_calls s w hs h0 hl hd
  · exact next_word_calls s w hs h0 hl

theorem cells_one (t : Tok) : ∀ u ∈ Tok.cells t, u.oneCell' = true := by
  intro u hu
  simp only [Tok.cells, List.mem_cons, List.mem_nil_iff, or_false] at hu
  rcases hu with rfl | rfl | rfl | rfl <;> rfl
theorem tokInfoR : (Tryz.prog.info? 41).map (fun i => (i.zero, i.size, i.bytes)) = some (some (.agg #[.int .u8 0, .string ⟨#[]⟩, .int .i64 0, .int .i64 0]), 4, 40) := by kernel_rfl

set_option maxHeartbeats 1000000 in
set_option maxRecDepth 100000 in
theorem LexR_calls (s : ByteArray) (w : World) (_ : s.size ≤ maxLen) :
    Calls Tryz.prog 145 #[.string s] w (LexPost w (lexL (L s))) := by
  by_cases hbig : 16384 < s.size
  · have hR := Lib.hid (show lexL (L s) = .err 4 0 by unfold lexL; rw [if_pos (by rw [L_length]; exact hbig)])
    have hbig2 : (16384 : Int) < s.size := by omega
    go_enter Tryz.func145, Tryz.ntmps145
    go_wp2_with fail
    go_ret3
    rw [hR.out]
    exact ⟨rfl, Below.refl _ _⟩
  · have hbig2 : ¬ (16384 : Int) < s.size := by omega
    have HL := Lib.hid (LexTo.start hbig)
    have HN := Lib.hid (fun (k : Nat) (W : World) (hk : k < s.size) => next_calls (s.extract k s.size) W (by rw [← L_length, L_drop, List.length_drop, L_length]; omega) (by rw [← L_length, L_drop, List.length_drop, L_length]; omega))
    clear hbig
    go_enter Tryz.func145, Tryz.ntmps145
    go_wp2_with fail
    go_loopw [5, 6] (fun s5 s6 wr => ∃ (k : Nat) (toks : List Tok) (v : Value), s6 = .int .i64 k ∧ s5 = v ∧ k ≤ s.size ∧ toks.length ≤ k ∧ Hid (KeptRow w wr 41 4 v toks.length (toksC toks)) ∧ Hid (LexTo s k toks)) (fun _ s6 _ => s.size - (intOf s6).toNat)
    case atStart => exact ⟨0, [], _, rfl, rfl, Nat.zero_le _, Nat.zero_le _, Lib.hid (KeptRow.nil _ _ _), HL⟩
    case round =>
      obtain ⟨k, toks, v, rfl, rfl, hk, htl, hrow, hto⟩ := hrel
      have Hrow := Lib.hid hrow.out
      have Hto := Lib.hid hto.out
      obtain ⟨av, cv, rfl⟩ := rForm hrow.out.own
      clear hrow hto
      by_cases hlt : k < s.size
      · have hcall := HN.out k
        have hdrop : L (s.extract k s.size) = (L s).drop k := L_drop s k
        cases hb : blankB s[k]
        · cases hn : nextR ((L s).drop k) with
          | err c =>
            have Hn := Lib.hid (fun W => by have := hcall W hlt; rw [hdrop, hn] at this; exact this)
            have HR := Lib.hid (Hto.out.bad hlt hb hn)
            have hc0 := nextR_err hn
            clear hcall hdrop hn
            go_wp2_with (first | (go_at_call 169; refine (blankR_calls _ _).mono ?_; rintro e w' ⟨rfl, rfl⟩))
            refine (Hn.out _).mono ?_
            rintro e w1 ⟨⟨kd, g, m, a, rfl⟩, hb1⟩
            have Hb1 := Lib.hid hb1
            clear hb1
            unfold tokV
            go_wp2_with fail
            go_ret3
            rw [HR.out]
            exact ⟨rfl, (rStep Hrow.out.bel Hb1.out).alloc (by have := Hrow.out.bel.size; have := Hb1.out.size; omega) _⟩
          | ok t n =>
            have Hn := Lib.hid (fun W => by have := hcall W hlt; rw [hdrop, hn] at this; exact this)
            have HR := Lib.hid (Hto.out.tok hlt hb hn)
            have hle := next_le s k n hlt hn
            clear hcall hdrop hn
            go_wp2_with (first | (go_at_call 169; refine (blankR_calls _ _).mono ?_; rintro e w' ⟨rfl, rfl⟩))
            refine (Hn.out _).mono ?_
            rintro e w1 ⟨rfl, hb1⟩
            have Hb1 := Lib.hid hb1
            clear hb1
            unfold Tok.val
            go_wp2_with (at_builtin; go_must (refine wpList_more rfl _ _ 41 36 rfl Tryz.underlying36 _ 4 40 tokInfoR rfl (by decide) w (.slice av toks.length cv) toks.length (toksC toks) rfl _ rfl (Tok.cells { t with pos := k }) rfl (cells_one _) (Hrow.out.step (Hb1.out.alloc (Below.size Hb1.out) _)) (by simp) (by unfold maxLen; omega) (by omega) ?_); intro a7 n7 c7 w7 hn7 h7; have Hn7 := Lib.hid hn7.out; have H7 := Lib.hid h7; clear hn7 h7)
            refine ⟨⟨k + n, toks ++ [{ t with pos := k }], _, by rw [Int.natCast_add], rfl, by omega, by rw [List.length_append, List.length_singleton]; omega, Lib.hid ?_, HR⟩, by simp [intOf]; omega⟩
            rw [List.length_append, List.length_singleton, toksC_snoc, ← Hn7.out]
            exact H7.out
        · have HR := Lib.hid (Hto.out.blank hlt hb)
          clear hcall hdrop
          go_wp2_with (first | (go_at_call 169; refine (blankR_calls _ _).mono ?_; rintro e w' ⟨rfl, rfl⟩))
          go_roundw
          case rel => exact ⟨k + 1, toks, _, by go_num, rfl, by omega, by omega, Hrow, HR⟩
          case measure => simp [intOf]; omega
      · have HR := Lib.hid (Hto.out.end_ (by omega))
        go_wp2_with fail
        go_ret3
        rw [HR.out]
        exact ⟨⟨_, rfl, Hrow.out.own⟩, Hrow.out.bel⟩

end Go.Proofs.YtcjmhmmjfgjcnaaGreatDoor.Rf

/- codicilref09: Number, Quoted, Show of a word; codicilref10: Name, number. -/
namespace Go.Proofs.YtcjmhmmjfgjcnaaGreatDoor.Rf
open Go.RowKit Go.Proofs.YtcjmhmmjfgjcnaaGreatDoor.Lx Go.Proofs.YtcjmhmmjfgjcnaaGreatDoor.Pa

/-! ### Number -/
/-- digits that are still to come, ahead of those that stand -/
def NumTo (n : Nat) (m : Nat) (t : Txt) : Prop := if t = [] then m = n else if m = 0 then t = Lib.decDigits n else Lib.decDigits n = Lib.decDigits m ++ t
theorem NumTo.start (n : Nat) : NumTo n n [] := by unfold NumTo; rw [if_pos rfl]
theorem NumTo.step {n m : Nat} {t : Txt} (h : NumTo n m t) (hc : t = [] ∨ 0 < m) : NumTo n (m / 10) (UInt8.ofNat (48 + m % 10) :: t) := by
  unfold NumTo at h ⊢
  rw [if_neg (by simp)]
  have hd : Lib.decDigits m = if m / 10 = 0 then [UInt8.ofNat (48 + m % 10)] else Lib.decDigits (m / 10) ++ [UInt8.ofNat (48 + m % 10)] := by
    rw [Lib.decDigits]
    by_cases h10 : m < 10
    · rw [dif_pos h10, if_pos (by omega), Nat.mod_eq_of_lt h10]
    · rw [dif_neg h10, if_neg (by omega)]
  by_cases ht : t = []
  · rw [if_pos ht] at h
    subst h ht
    by_cases h0 : m / 10 = 0
    · rw [if_pos h0, hd, if_pos h0]
    · rw [if_neg h0, hd, if_neg h0]
  · have hm : m ≠ 0 := by
      rcases hc with hc | hc
      · exact absurd hc ht
      · omega
    rw [if_neg ht, if_neg hm] at h
    by_cases h0 : m / 10 = 0
    · rw [if_pos h0, h, hd, if_pos h0]; rfl
    · rw [if_neg h0, h, hd, if_neg h0, List.append_assoc]; rfl
theorem NumTo.end_ {n : Nat} {t : Txt} (h : NumTo n 0 t) (ht : t ≠ []) : t = Lib.decDigits n := by
  unfold NumTo at h
  rw [if_neg ht, if_pos rfl] at h
  exact h
theorem digit_cut (d : Nat) (h : d < 10) : (⟨#[48, 49, 50, 51, 52, 53, 54, 55, 56, 57]⟩ : ByteArray).extract d (d + 1) = ⟨[UInt8.ofNat (48 + d)].toArray⟩ := by
  have : ∀ d : Fin 10, (⟨#[48, 49, 50, 51, 52, 53, 54, 55, 56, 57]⟩ : ByteArray).extract d.val (d.val + 1) = ⟨[UInt8.ofNat (48 + d.val)].toArray⟩ := by decide +kernel
  exact this ⟨d, h⟩

set_option maxHeartbeats 1000000 in
set_option maxRecDepth 100000 in
theorem NumberI_calls (n : Nat) (hn : n ≤ 9223372036854775807) (w : World) :
    Calls Tryz.prog 104 #[.int .i64 n] w fun e w' => e = .returned (.string ⟨(Lib.itoa n).toArray⟩) ∧ w = w' := by
  rw [Lib.itoa_nonneg]
  go_enter Tryz.func104, Tryz.ntmps104
  go_wp2_with fail
  go_loop [0, 3] (fun s0 s3 => ∃ (m : Nat) (t : Txt), s0 = .int .i64 m ∧ s3 = .string ⟨t.toArray⟩ ∧ m ≤ 9223372036854775807 ∧ Hid (m * 10 ^ t.length ≤ 9223372036854775807) ∧ Hid (NumTo n m t)) (fun s0 s3 => (intOf s0).toNat + (match s3 with | .string b => if b.size = 0 then 1 else 0 | _ => 0))
  case atStart => exact ⟨n, [], rfl, rfl, hn, Lib.hid (by simpa using hn), Lib.hid (NumTo.start n)⟩
  case round =>
    obtain ⟨m, t, rfl, rfl, hm, hl, hr⟩ := hrel
    have hd := digit_cut (m % 10) (Nat.mod_lt _ (by decide))
    have Hnx := Lib.hid (fun hc => hr.out.step hc)
    generalize UInt8.ofNat (48 + m % 10) = dg at hd Hnx
    have Hl := Lib.hid (show (m / 10) * 10 ^ (dg :: t).length ≤ 9223372036854775807 by
      have h1 := hl.out
      rw [List.length_cons, Nat.pow_succ, ← Nat.mul_assoc, Nat.mul_right_comm]
      have h2 : m / 10 * 10 ≤ m := Nat.div_mul_le_self m 10
      exact Nat.le_trans (Nat.mul_le_mul_right _ h2) h1)
    by_cases ht : t = []
    · subst ht
      have HR := Lib.hid (Hnx.out (.inl rfl))
      have Hcat := Lib.hid (show (⟨[dg].toArray⟩ : ByteArray) ++ (⟨([] : Txt).toArray⟩ : ByteArray) = ⟨[dg].toArray⟩ by apply ByteArray.ext; simp)
      clear hr hl Hnx
      go_wp2_with fail
      refine ⟨⟨m / 10, [dg], by rw [Int.natCast_ediv]; rfl, congrArg Value.string Hcat.out, by omega, Hl, HR⟩, ?_⟩
      have e : ((⟨#[dg]⟩ : ByteArray) ++ (⟨#[]⟩ : ByteArray)).size = 1 := by rw [ByteArray.size_append]; rfl
      have e0 : (⟨#[]⟩ : ByteArray).size = 0 := rfl
      simp only [e, e0, intOf, Nat.one_ne_zero, if_false, if_true]
      omega
    · have hne : (t == []) = false := beq_eq_false_iff_ne.2 ht
      by_cases hm0 : 0 < m
      · have HR := Lib.hid (Hnx.out (.inr hm0))
        have Hcat := Lib.hid (show (⟨[dg].toArray⟩ : ByteArray) ++ (⟨t.toArray⟩ : ByteArray) = ⟨(dg :: t).toArray⟩ by apply ByteArray.ext; simp)
        have hlen : t.length ≤ 18 := by
          have h1 := hl.out
          rcases Nat.lt_or_ge 18 t.length with h | h
          · exfalso
            have h2 : 10 ^ 19 ≤ 10 ^ t.length := Nat.pow_le_pow_right (by decide) h
            have h3 : 1 * 10 ^ t.length ≤ m * 10 ^ t.length := Nat.mul_le_mul_right _ hm0
            have h4 : (10 : Nat) ^ 19 = 10000000000000000000 := by decide
            omega
          · exact h
        clear hr hl Hnx
        go_wp2_with fail
        refine ⟨⟨m / 10, dg :: t, by rw [Int.natCast_ediv]; rfl, congrArg Value.string Hcat.out, by omega, Hl, HR⟩, ?_⟩
        have e : ((⟨#[dg]⟩ : ByteArray) ++ (⟨t.toArray⟩ : ByteArray)).size = t.length + 1 := by rw [ByteArray.size_append, size_mk]; show 1 + t.length = _; omega
        have e0 : (⟨t.toArray⟩ : ByteArray).size = t.length := size_mk t
        simp only [e, e0, intOf]
        rw [if_neg (by omega), if_neg (by intro h; exact ht (List.eq_nil_of_length_eq_zero h))]
        omega
      · obtain rfl : m = 0 := by omega
        have HR := Lib.hid (hr.out.end_ ht)
        clear hr hl Hnx
        go_wp2_with fail
        go_ret
        exact ⟨by rw [HR.out]; rfl, rfl⟩

/-! ### Quoted -/
theorem dbl_snoc : ∀ (l : Txt) (c : UInt8), dbl (l ++ [c]) = dbl l ++ (if c = 39 then [39, 39] else [c])
  | [], c => by
    by_cases h : c = 39
    · simp [dbl, h]
    · simp [dbl, h]
  | x :: l, c => by
    rw [List.cons_append, dbl, dbl, dbl_snoc l c]
    by_cases hx : x = 39
    · rw [if_pos hx, if_pos hx]; rfl
    · rw [if_neg hx, if_neg hx]; rfl
theorem take_next (s : ByteArray) (k : Nat) (h : k < s.size) : (L s).take (k + 1) = (L s).take k ++ [s[k]] := by
  rw [List.take_succ_eq_append_getElem (by rw [L_length]; exact h)]
  rfl

set_option maxHeartbeats 2000000 in
set_option maxRecDepth 100000 in
theorem QuotedR_calls (s : ByteArray) (w : World) (hs : s.size ≤ 2000000) :
    Calls Tryz.prog 105 #[.string s] w fun e w' => e = .returned (.string ⟨(39 :: (dbl (L s) ++ [39])).toArray⟩) ∧ Below w.heap.size w w' := by
  go_enter Tryz.func105, Tryz.ntmps105
  go_wp2_with fail
  go_loopw [3, 4] (fun s3 s4 wr => ∃ (k : Nat) (out : Txt) (v : Value), s4 = .int .i64 k ∧ s3 = v ∧ k ≤ s.size ∧ out.length ≤ 2 * k ∧ Hid (ByT w wr v out) ∧ Hid (dbl ((L s).take k) = out)) (fun _ s4 _ => s.size - (intOf s4).toNat)
  case atStart => exact ⟨0, [], _, rfl, rfl, Nat.zero_le _, by simp, Lib.hid (ByT.nil w), Lib.hid rfl⟩
  case round =>
    obtain ⟨k, out, v, rfl, rfl, hk, hol, hst, ho⟩ := hrel
    have Hst := Lib.hid hst.out
    obtain ⟨av, cv, rfl⟩ := hst.out.form
    clear hst
    by_cases hlt : k < s.size
    · have hnx := dbl_snoc ((L s).take k) s[k]
      rw [← take_next s k hlt, ho.out] at hnx
      by_cases h39 : s[k] = 39
      · rw [if_pos h39] at hnx
        have Hnx := Lib.hid hnx
        have h39' : ((s[k].toNat : Int) == 39) = true := by rw [h39]; rfl
        have Hc := Lib.hid h39
        clear ho hnx h39
        go_wp2_with (first | (at_builtin; refine wpList_byte rfl _ _ rfl w (.slice av out.length cv) out rfl _ rfl _ 39 rfl Hst.out rfl (by omega) ?_; intro a7 n7 c7 w7 hn7 h7; have Hn7 := Lib.hid hn7.out; have H7 := Lib.hid h7; clear hn7 h7) | (at_builtin; refine wpList_byte rfl _ _ rfl w (.slice a7 n7 c7) (out ++ [39]) rfl _ rfl _ s[k] rfl H7.out rfl (by rw [List.length_append, List.length_singleton]; omega) ?_; intro a8 n8 c8 w8 hn8 h8; have Hn8 := Lib.hid hn8.out; have H8 := Lib.hid h8; clear hn8 h8))
        refine ⟨⟨k + 1, out ++ [39] ++ [s[k]], _, by go_num, rfl, by omega, by simp only [List.length_append, List.length_singleton]; omega, H8, Lib.hid ?_⟩, by simp [intOf]; omega⟩
        rw [Hnx.out, Hc.out, List.append_assoc]; rfl
      · rw [if_neg h39] at hnx
        have Hnx := Lib.hid hnx
        have h39' : ((s[k].toNat : Int) == 39) = false := beq_eq_false_iff_ne.2 fun e => h39 (UInt8.toNat_inj.1 (by show s[k].toNat = 39; omega))
        clear ho hnx h39
        go_wp2_with (at_builtin; go_must (refine wpList_byte rfl _ _ rfl w (.slice av out.length cv) out rfl _ rfl _ s[k] rfl Hst.out rfl (by omega) ?_); intro a7 n7 c7 w7 hn7 h7; have Hn7 := Lib.hid hn7.out; have H7 := Lib.hid h7; clear hn7 h7)
        refine ⟨⟨k + 1, out ++ [s[k]], _, by go_num, rfl, by omega, by rw [List.length_append, List.length_singleton]; omega, H7, Hnx⟩, by simp [intOf]; omega⟩
    · have HR := Lib.hid (show dbl (L s) = out by rw [← ho.out, List.take_of_length_le (by rw [L_length]; omega)])
      have hback := Hst.out.back
      have Hcat := Lib.hid (show (⟨#[39]⟩ : ByteArray) ++ (⟨out.toArray⟩ : ByteArray) ++ (⟨#[39]⟩ : ByteArray) = ⟨(39 :: (out ++ [39])).toArray⟩ by apply ByteArray.ext; simp)
      clear ho
      go_wp2_with fail
      go_ret
      exact ⟨by rw [HR.out, ← Hcat.out]; rfl, Hst.out.row.bel⟩

end Go.Proofs.YtcjmhmmjfgjcnaaGreatDoor.Rf

/- codicilref09: Show of a word; codicilref10: Name, number. -/
namespace Go.Proofs.YtcjmhmmjfgjcnaaGreatDoor.Rf
open Go.RowKit Go.Proofs.YtcjmhmmjfgjcnaaGreatDoor.Lx Go.Proofs.YtcjmhmmjfgjcnaaGreatDoor.Pa

/-- a row of one token -/
theorem tok_cells {w : World} {base : Nat} {v : Value} {t : Tok} (h : w.ownsRow base 41 4 v 1 (toksC [t])) : ∃ g c, v = .slice (some ⟨g, 0, none⟩) 1 c ∧
    w.cell? ⟨g, 0, none⟩ = some (.int .u8 t.kind) ∧ w.cell? ⟨g, 1, none⟩ = some (.string ⟨t.text.toArray⟩) ∧ w.cell? ⟨g, 2, none⟩ = some (.int .i64 t.num) ∧ w.cell? ⟨g, 3, none⟩ = some (.int .i64 t.pos) ∧ 1 ≤ c ∧ g < w.heap.size := by
  rcases h.2 with ⟨rfl, h0⟩ | ⟨g, cap, cur, e, _, h2, h3, _⟩
  · cases h0
  · subst e
    refine ⟨g, cap, rfl, ?_, ?_, ?_, ?_, h3, rLt h2⟩
    · exact World.ownsRow.cellAt h 0 (by omega)
    · exact World.ownsRow.cellAt h 1 (by omega)
    · exact World.ownsRow.cellAt h 2 (by omega)
    · exact World.ownsRow.cellAt h 3 (by omega)

theorem lexS_codes : ∀ (k a : Nat) (l : Txt) {c p : Nat}, l.length ≤ k → lexS a l = .err c p → ((c : Int) != 0) = true
  | k, a, l, c, p, hk, h => by
    cases hd : l.drop (Lx.runN blankB l) with
    | nil => rw [lexS_blank hd] at h; cases h
    | cons x r =>
      cases hn : nextR (x :: r) with
      | err e =>
        rw [lexS_err hd hn] at h
        simp only [Lx.err.injEq] at h
        rw [← h.1]
        exact nextR_err hn
      | ok t n =>
        rw [lexS_ok hd hn] at h
        have hle := nextR_le hn
        have hdl : (l.drop (Lx.runN blankB l)).length ≤ l.length := by rw [List.length_drop]; omega
        rw [hd] at hdl
        cases hy : lexS (a + Lx.runN blankB l + n) ((x :: r).drop n) with
        | ok y => rw [hy] at h; cases h
        | err e q =>
          rw [hy] at h
          simp only [Lx.cons, Lx.err.injEq] at h
          rw [← h.1]
          match k, hk with
          | 0, hk => simp at hdl; omega
          | k + 1, hk => exact lexS_codes k _ _ (by rw [List.length_drop]; omega) hy
theorem lexL_codes {l : Txt} {c p : Nat} (h : lexL l = .err c p) : ((c : Int) != 0) = true := by
  by_cases hl : 16384 < l.length
  · unfold lexL at h
    rw [if_pos hl] at h
    simp only [Lx.err.injEq] at h
    rw [← h.1]; rfl
  · rw [lexL_small (by omega)] at h
    exact lexS_codes _ _ _ (Nat.le_refl _) h

def showV (s : ByteArray) (b : Bool) : Value := if b then .tuple #[.string s, .int .i64 0] else .tuple #[.string ⟨#[]⟩, .int .i64 13]

end Go.Proofs.YtcjmhmmjfgjcnaaGreatDoor.Rf

/- codicilref09: Show of a word: ways. -/
namespace Go.Proofs.YtcjmhmmjfgjcnaaGreatDoor.Rf
open Go.RowKit Go.Proofs.YtcjmhmmjfgjcnaaGreatDoor.Lx Go.Proofs.YtcjmhmmjfgjcnaaGreatDoor.Pa

set_option maxHeartbeats 2000000 in
set_option maxRecDepth 100000 in
theorem ShowW_err (s : ByteArray) (w : World) (c a : Nat) (Hl : Hid (∀ W, Calls Tryz.prog 145 #[.string s] W (LexPost W (.err c a)))) (hv : ((c : Int) != 0) = true) :
    Calls Tryz.prog 116 #[.agg #[.int .u8 1, .string s, .int .i64 0, .int .i64 0]] w fun e w' => e = .returned (showV s false) ∧ Below w.heap.size w w' := by
  have Hbox := Lib.hid (rAlloc w (.cells #[.int .u8 1, .string s, .int .i64 0, .int .i64 0] 41))
  go_enter Tryz.func116, Tryz.ntmps116
  go_wp2_with fail
  refine (Hl.out _).mono ?_
  rintro e w1 ⟨rfl, hb1⟩
  have Hb1 := Lib.hid (rStep Hbox.out hb1)
  clear hb1
  go_wp2_with fail
  go_region
  go_wp2_with fail
  go_ret2
  exact ⟨rfl, Below.drew Hb1.out⟩

set_option maxHeartbeats 2000000 in
set_option maxRecDepth 100000 in
theorem ShowW_yes (s : ByteArray) (w : World) (Hl : Hid (∀ W, Calls Tryz.prog 145 #[.string s] W (LexPost W (.ok [⟨1, L s, 0, 0⟩])))) :
    Calls Tryz.prog 116 #[.agg #[.int .u8 1, .string s, .int .i64 0, .int .i64 0]] w fun e w' => e = .returned (showV s true) ∧ Below w.heap.size w w' := by
  have Hbox := Lib.hid (rAlloc w (.cells #[.int .u8 1, .string s, .int .i64 0, .int .i64 0] 41))
  have hbx := heap_alloc_new w (.cells #[.int .u8 1, .string s, .int .i64 0, .int .i64 0] 41)
  have hzx : w.heap.size < (w.alloc (.cells #[.int .u8 1, .string s, .int .i64 0, .int .i64 0] 41)).heap.size := by simp
  go_enter Tryz.func116, Tryz.ntmps116
  go_wp2_with fail
  generalize w.alloc (.cells #[.int .u8 1, .string s, .int .i64 0, .int .i64 0] 41) = W at *
  refine (Hl.out _).mono ?_
  rintro e w1 ⟨⟨v, rfl, hown⟩, hb1⟩
  obtain ⟨⟨k0, k1, k2, k3⟩, -⟩ := four ((hb1.block _ hzx).trans hbx)
  have Hb1 := Lib.hid (rStep Hbox.out hb1)
  obtain ⟨g, c, rfl, m0, m1, m2, m3, hc, hg⟩ := tok_cells hown
  simp only at m0 m1 m2 m3
  clear hown hb1 hbx
  rw [mk_L] at m1
  go_wp2_with fail
  go_region
  go_wp2_with fail
  go_ret2
  exact ⟨rfl, Below.drew Hb1.out⟩

end Go.Proofs.YtcjmhmmjfgjcnaaGreatDoor.Rf

/- codicilref09: Show of a word: ways. -/
namespace Go.Proofs.YtcjmhmmjfgjcnaaGreatDoor.Rf
open Go.RowKit Go.Proofs.YtcjmhmmjfgjcnaaGreatDoor.Lx Go.Proofs.YtcjmhmmjfgjcnaaGreatDoor.Pa

set_option maxHeartbeats 2000000 in
set_option maxRecDepth 100000 in
theorem ShowW_pos (s : ByteArray) (w : World) (p : Nat) (ep : ((p : Int) != 0) = true) (Hl : Hid (∀ W, Calls Tryz.prog 145 #[.string s] W (LexPost W (.ok [⟨1, L s, 0, p⟩])))) :
    Calls Tryz.prog 116 #[.agg #[.int .u8 1, .string s, .int .i64 0, .int .i64 0]] w fun e w' => e = .returned (showV s false) ∧ Below w.heap.size w w' := by
  have Hbox := Lib.hid (rAlloc w (.cells #[.int .u8 1, .string s, .int .i64 0, .int .i64 0] 41))
  have hbx := heap_alloc_new w (.cells #[.int .u8 1, .string s, .int .i64 0, .int .i64 0] 41)
  have hzx : w.heap.size < (w.alloc (.cells #[.int .u8 1, .string s, .int .i64 0, .int .i64 0] 41)).heap.size := by simp
  go_enter Tryz.func116, Tryz.ntmps116
  go_wp2_with fail
  generalize w.alloc (.cells #[.int .u8 1, .string s, .int .i64 0, .int .i64 0] 41) = W at *
  refine (Hl.out _).mono ?_
  rintro e w1 ⟨⟨v, rfl, hown⟩, hb1⟩
  obtain ⟨⟨k0, k1, k2, k3⟩, -⟩ := four ((hb1.block _ hzx).trans hbx)
  have Hb1 := Lib.hid (rStep Hbox.out hb1)
  obtain ⟨g, c, rfl, m0, m1, m2, m3, hc, hg⟩ := tok_cells hown
  simp only at m0 m1 m2 m3
  clear hown hb1 hbx
  rw [mk_L] at m1
  go_wp2_with fail
  go_region
  go_wp2_with fail
  go_ret2
  exact ⟨rfl, Below.drew Hb1.out⟩

set_option maxHeartbeats 2000000 in
set_option maxRecDepth 100000 in
theorem ShowW_num (s : ByteArray) (w : World) (n : Int) (p : Nat) (en : (n != 0) = true) (Hl : Hid (∀ W, Calls Tryz.prog 145 #[.string s] W (LexPost W (.ok [⟨1, L s, n, p⟩])))) :
    Calls Tryz.prog 116 #[.agg #[.int .u8 1, .string s, .int .i64 0, .int .i64 0]] w fun e w' => e = .returned (showV s false) ∧ Below w.heap.size w w' := by
  have Hbox := Lib.hid (rAlloc w (.cells #[.int .u8 1, .string s, .int .i64 0, .int .i64 0] 41))
  have hbx := heap_alloc_new w (.cells #[.int .u8 1, .string s, .int .i64 0, .int .i64 0] 41)
  have hzx : w.heap.size < (w.alloc (.cells #[.int .u8 1, .string s, .int .i64 0, .int .i64 0] 41)).heap.size := by simp
  go_enter Tryz.func116, Tryz.ntmps116
  go_wp2_with fail
  generalize w.alloc (.cells #[.int .u8 1, .string s, .int .i64 0, .int .i64 0] 41) = W at *
  refine (Hl.out _).mono ?_
  rintro e w1 ⟨⟨v, rfl, hown⟩, hb1⟩
  obtain ⟨⟨k0, k1, k2, k3⟩, -⟩ := four ((hb1.block _ hzx).trans hbx)
  have Hb1 := Lib.hid (rStep Hbox.out hb1)
  obtain ⟨g, c, rfl, m0, m1, m2, m3, hc, hg⟩ := tok_cells hown
  simp only at m0 m1 m2 m3
  clear hown hb1 hbx
  rw [mk_L] at m1
  go_wp2_with fail
  go_region
  go_wp2_with fail
  go_ret2
  exact ⟨rfl, Below.drew Hb1.out⟩

end Go.Proofs.YtcjmhmmjfgjcnaaGreatDoor.Rf

/- codicilref09: Show of a word: ways. -/
namespace Go.Proofs.YtcjmhmmjfgjcnaaGreatDoor.Rf
open Go.RowKit Go.Proofs.YtcjmhmmjfgjcnaaGreatDoor.Lx Go.Proofs.YtcjmhmmjfgjcnaaGreatDoor.Pa

set_option maxHeartbeats 2000000 in
set_option maxRecDepth 100000 in
theorem ShowW_text (s : ByteArray) (w : World) (x : Txt) (n : Int) (p : Nat) (et : (x == s.toList) = false) (_ : (x != s.toList) = true) (Hl : Hid (∀ W, Calls Tryz.prog 145 #[.string s] W (LexPost W (.ok [⟨1, x, n, p⟩])))) :
    Calls Tryz.prog 116 #[.agg #[.int .u8 1, .string s, .int .i64 0, .int .i64 0]] w fun e w' => e = .returned (showV s false) ∧ Below w.heap.size w w' := by
  have Hbox := Lib.hid (rAlloc w (.cells #[.int .u8 1, .string s, .int .i64 0, .int .i64 0] 41))
  have hbx := heap_alloc_new w (.cells #[.int .u8 1, .string s, .int .i64 0, .int .i64 0] 41)
  have hzx : w.heap.size < (w.alloc (.cells #[.int .u8 1, .string s, .int .i64 0, .int .i64 0] 41)).heap.size := by simp
  go_enter Tryz.func116, Tryz.ntmps116
  go_wp2_with fail
  generalize w.alloc (.cells #[.int .u8 1, .string s, .int .i64 0, .int .i64 0] 41) = W at *
  refine (Hl.out _).mono ?_
  rintro e w1 ⟨⟨v, rfl, hown⟩, hb1⟩
  obtain ⟨⟨k0, k1, k2, k3⟩, -⟩ := four ((hb1.block _ hzx).trans hbx)
  have Hb1 := Lib.hid (rStep Hbox.out hb1)
  obtain ⟨g, c, rfl, m0, m1, m2, m3, hc, hg⟩ := tok_cells hown
  simp only at m0 m1 m2 m3
  clear hown hb1 hbx
  go_wp2_with fail
  go_region
  go_wp2_with fail
  go_ret2
  exact ⟨rfl, Below.drew Hb1.out⟩

set_option maxHeartbeats 2000000 in
set_option maxRecDepth 100000 in
theorem ShowW_kind (s : ByteArray) (w : World) (k : Nat) (x : Txt) (n : Int) (p : Nat) (ek : ((k : Int) != 1) = true) (Hl : Hid (∀ W, Calls Tryz.prog 145 #[.string s] W (LexPost W (.ok [⟨k, x, n, p⟩])))) :
    Calls Tryz.prog 116 #[.agg #[.int .u8 1, .string s, .int .i64 0, .int .i64 0]] w fun e w' => e = .returned (showV s false) ∧ Below w.heap.size w w' := by
  have Hbox := Lib.hid (rAlloc w (.cells #[.int .u8 1, .string s, .int .i64 0, .int .i64 0] 41))
  have hbx := heap_alloc_new w (.cells #[.int .u8 1, .string s, .int .i64 0, .int .i64 0] 41)
  have hzx : w.heap.size < (w.alloc (.cells #[.int .u8 1, .string s, .int .i64 0, .int .i64 0] 41)).heap.size := by simp
  go_enter Tryz.func116, Tryz.ntmps116
  go_wp2_with fail
  generalize w.alloc (.cells #[.int .u8 1, .string s, .int .i64 0, .int .i64 0] 41) = W at *
  refine (Hl.out _).mono ?_
  rintro e w1 ⟨⟨v, rfl, hown⟩, hb1⟩
  obtain ⟨⟨k0, k1, k2, k3⟩, -⟩ := four ((hb1.block _ hzx).trans hbx)
  have Hb1 := Lib.hid (rStep Hbox.out hb1)
  obtain ⟨g, c, rfl, m0, m1, m2, m3, hc, hg⟩ := tok_cells hown
  simp only at m0 m1 m2 m3
  clear hown hb1 hbx
  go_wp2_with fail
  go_region
  go_wp2_with fail
  go_ret2
  exact ⟨rfl, Below.drew Hb1.out⟩

set_option maxHeartbeats 2000000 in
set_option maxRecDepth 100000 in
theorem ShowW_len (s : ByteArray) (w : World) (l : List Tok) (Hl : Hid (∀ W, Calls Tryz.prog 145 #[.string s] W (LexPost W (.ok l)))) (el : ((l.length : Int) != 1) = true) :
    Calls Tryz.prog 116 #[.agg #[.int .u8 1, .string s, .int .i64 0, .int .i64 0]] w fun e w' => e = .returned (showV s false) ∧ Below w.heap.size w w' := by
  have Hbox := Lib.hid (rAlloc w (.cells #[.int .u8 1, .string s, .int .i64 0, .int .i64 0] 41))
  have hbx := heap_alloc_new w (.cells #[.int .u8 1, .string s, .int .i64 0, .int .i64 0] 41)
  have hzx : w.heap.size < (w.alloc (.cells #[.int .u8 1, .string s, .int .i64 0, .int .i64 0] 41)).heap.size := by simp
  go_enter Tryz.func116, Tryz.ntmps116
  go_wp2_with fail
  generalize w.alloc (.cells #[.int .u8 1, .string s, .int .i64 0, .int .i64 0] 41) = W at *
  refine (Hl.out _).mono ?_
  rintro e w1 ⟨⟨v, rfl, hown⟩, hb1⟩
  obtain ⟨⟨k0, k1, k2, k3⟩, -⟩ := four ((hb1.block _ hzx).trans hbx)
  have Hb1 := Lib.hid (rStep Hbox.out hb1)
  obtain ⟨a, c, rfl⟩ := rForm hown
  clear hown hb1 hbx
  go_wp2_with fail
  go_region
  go_wp2_with fail
  go_ret2
  exact ⟨rfl, Below.drew Hb1.out⟩

end Go.Proofs.YtcjmhmmjfgjcnaaGreatDoor.Rf

/- codicilref09: Show of a word. -/
namespace Go.Proofs.YtcjmhmmjfgjcnaaGreatDoor.Rf
open Go.RowKit Go.Proofs.YtcjmhmmjfgjcnaaGreatDoor.Lx Go.Proofs.YtcjmhmmjfgjcnaaGreatDoor.Pa

theorem ShowW_calls (s : ByteArray) (w : World) (hs : s.size ≤ maxLen) (b : Bool) (hb : nameB (L s) = b) :
    Calls Tryz.prog 116 #[.agg #[.int .u8 1, .string s, .int .i64 0, .int .i64 0]] w fun e w' => e = .returned (showV s b) ∧ Below w.heap.size w w' := by
  have Hl := fun W => LexR_calls s W hs
  rw [nameB_lex] at hb
  cases hx : lexL (L s) with
  | err c a =>
    rw [hx] at Hl hb
    have hbf : b = false := by rw [← hb]; rfl
    rw [hbf]
    exact ShowW_err s w c a (Lib.hid Hl) (lexL_codes hx)
  | ok l =>
    rw [hx] at Hl hb
    by_cases h1 : l.length = 1
    · obtain ⟨t, rfl⟩ : ∃ t, l = [t] := by
        match l, h1 with
        | [t], _ => exact ⟨t, rfl⟩
      have no : ∀ P : Prop, (⟨1, L s, 0, 0⟩ = t → P) → ¬ P → b = false := fun P h hp => by
        rw [← hb, decide_eq_false_iff_not]
        intro e
        simp only [Lx.ok.injEq, List.cons.injEq, and_true] at e
        exact hp (h e.symm)
      obtain ⟨kd, tx, nu, po⟩ := t
      by_cases hk : kd = 1
      · by_cases ht : tx = L s
        · by_cases hn : nu = 0
          · by_cases hp : po = 0
            · subst hk ht hn hp
              have hbf : b = true := by rw [← hb]; simp
              rw [hbf]
              exact ShowW_yes s w (Lib.hid Hl)
            · rw [no _ (fun e => (Tok.mk.inj e).2.2.2.symm) hp]
              subst hk ht hn
              exact ShowW_pos s w po (by rw [bne_iff_ne]; omega) (Lib.hid Hl)
          · rw [no _ (fun e => (Tok.mk.inj e).2.2.1.symm) hn]
            subst hk ht
            exact ShowW_num s w nu po (by rw [bne_iff_ne]; exact hn) (Lib.hid Hl)
        · rw [no _ (fun e => (Tok.mk.inj e).2.1.symm) ht]
          subst hk
          exact ShowW_text s w tx nu po (by rw [beq_eq_false_iff_ne, toList_L]; exact ht) (by rw [bne_iff_ne, toList_L]; exact ht) (Lib.hid Hl)
      · rw [no _ (fun e => (Tok.mk.inj e).1.symm) hk]
        exact ShowW_kind s w kd tx nu po (by rw [bne_iff_ne]; omega) (Lib.hid Hl)
    · have hbf : b = false := by
        rw [← hb, decide_eq_false_iff_not]
        intro e
        simp only [Lx.ok.injEq] at e
        rw [e] at h1
        exact h1 rfl
      rw [hbf]
      exact ShowW_len s w l (Lib.hid Hl) (by rw [bne_iff_ne]; omega)

end Go.Proofs.YtcjmhmmjfgjcnaaGreatDoor.Rf
