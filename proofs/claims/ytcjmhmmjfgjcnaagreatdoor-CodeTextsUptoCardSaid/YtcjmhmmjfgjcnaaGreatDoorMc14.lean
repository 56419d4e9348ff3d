/- Parts: RaD RaE RaF. -/
import Derived.Test.YtcjmhmmjfgjcnaaGreatDoorMc11
import Derived.Test.YtcjmhmmjfgjcnaaGreatDoorMc13
import Derived.Deep.RegionWith
import Derived.Deep.RegionHeld3
import Derived.Laws.RangeAny
import Derived.Laws.Strings3
import Derived.Laws.StructEq
import Derived.Lib.SlBytesConst

/- codicilref09: word, number, text, sign; codicilref02.Utf. -/
namespace Go.Proofs.YtcjmhmmjfgjcnaaGreatDoor.Rf
open Go.RowKit Go.Proofs.YtcjmhmmjfgjcnaaGreatDoor.Lx Go.Proofs.YtcjmhmmjfgjcnaaGreatDoor.Pa

def tokV (k : Nat) (t : Txt) (n a : Int) : Value := .agg #[.int .u8 k, .string ⟨t.toArray⟩, .int .i64 n, .int .i64 a]


set_option maxHeartbeats 1000000 in
set_option maxRecDepth 100000 in
theorem wordR_calls (s : ByteArray) (w : World) (hs : s.size ≤ maxLen) :
    Calls Tryz.prog 192 #[.string s] w fun e w' => e = .returned (.tuple (if keywordB (L s) then #[tokV 2 (great (L s)) 0 0, .bool true] else #[tokV 1 (L s) 0 0, .bool (decide (s.size ≤ 64))])) ∧ Below w.heap.size w w' := by
  have Hs := Lib.hid hs
  unfold maxLen at hs
  cases hk : keywordB (L s)
  · rw [if_neg (by simp)]
    go_enter Tryz.func192, Tryz.ntmps192
    go_wp2_with fail
    refine (KeywordR_calls _ _ Hs.out).mono ?_
    rintro e w1 ⟨rfl, hb1⟩
    have hw1 := new_block _ _ hb1
    have Hb1 := Lib.hid (below_new hb1)
    have hz1 : w.heap.size < w1.heap.size := by have := hb1.size; simp at this; omega
    have Hw1 := Lib.hid hw1
    clear hb1 hw1
    obtain ⟨⟨c0, c1, c2, c3⟩, f0, f1, f2, f3⟩ := four Hw1.out
    go_wp2_with fail
    refine bodyPost_ret (v := .tuple #[tokV 1 (L s) 0 0, .bool (decide (s.size ≤ 64))]) (by simp [results, Tryz.results192, go_sem, tokV, c0, c1, c2, c3]; omega) rfl ⟨rfl, below_set4 Hb1.out _ _ _ _ _ _ _ _⟩
  · rw [if_pos rfl]
    go_enter Tryz.func192, Tryz.ntmps192
    go_wp2_with fail
    refine (KeywordR_calls _ _ Hs.out).mono ?_
    rintro e w1 ⟨rfl, hb1⟩
    have hw1 := new_block _ _ hb1
    have Hb1 := Lib.hid (below_new hb1)
    have hz1 : w.heap.size < w1.heap.size := by have := hb1.size; simp at this; omega
    have Hw1 := Lib.hid hw1
    clear hb1 hw1
    go_wp2_with fail
    refine (greatR_calls _ _ Hs.out).mono ?_
    rintro e w2 ⟨rfl, hb2⟩
    have hw2 : w2.heap[w.heap.size]? = _ := (hb2.block _ hz1).trans Hw1.out
    have Hb2 := Lib.hid (Hb1.out.trans (hb2.mono (by omega)))
    have hz2 : w.heap.size < w2.heap.size := Nat.lt_of_lt_of_le hz1 hb2.size
    obtain ⟨⟨c0, c1, c2, c3⟩, f0, f1, f2, f3⟩ := four hw2
    clear hb2 hw2
    go_wp2_with fail
    refine bodyPost_ret (v := .tuple #[tokV 2 (great (L s)) 0 0, .bool true]) (by simp [results, Tryz.results192, go_sem, tokV, c0, c1, c2, c3]) rfl ⟨rfl, below_set4 Hb2.out _ _ _ _ _ _ _ _⟩

theorem wide1 (s : ByteArray) (pos : Nat) (h : pos < s.size) : 1 ≤ (Utf8.decode s pos).2 := by
  by_cases ha : (s[pos]'h).toNat < 128
  · rw [decode_ascii s pos h ha]
    exact Nat.le_refl _
  · exact (decode_high s pos h (by omega)).2
theorem iter_below (w : World) (s : ByteArray) (pos : Nat) : Below w.heap.size w (w.iter s pos) := (Below.refl _ _).alloc (Nat.le_refl _) _

set_option maxHeartbeats 1000000 in
set_option maxRecDepth 100000 in
theorem utfR_calls (s : ByteArray) (w : World) (hs : s.size ≤ 1000000000) :
    Calls Tryz.prog 58 #[.string s] w fun e w' => e = .returned (.bool (Lib.validD (L s))) ∧ Below w.heap.size w w' := by
  go_enter Tryz.func58, Tryz.ntmps58
  go_wp2_with fail
  go_loopw [2] (fun s2 wr => ∃ pos : Nat, s2 = .bool false ∧ wr = w.iter s pos ∧ Hid (Lib.validD (L s) = Lib.validD ((L s).drop pos))) (fun _ wr => s.size - wr.iterPos w.heap.size)
  case atStart => exact ⟨0, rfl, rfl, Lib.hid (by rw [List.drop_zero])⟩
  case round =>
    obtain ⟨pos, rfl, rfl, hv⟩ := hrel
    by_cases hp : pos < s.size
    · have hnx : ∀ ty, (Instr.next (.pointer (some ⟨w.heap.size, 0, none⟩)) true ty).run Tryz.prog (w.iter s pos) = .ok (.tuple #[.bool true, .int .i64 pos, .int .i32 (Utf8.decode s pos).1]) (w.iter s (pos + (Utf8.decode s pos).2)) := fun ty => run_next_any w s pos ty hp
      have hstep := valid_step s pos hp
      have hbad := decode_bad s pos hp
      have hwd := wide1 s pos hp
      generalize Utf8.decode s pos = d at hnx hstep hbad hwd
      obtain ⟨r, wd⟩ := d
      simp only at hnx hstep hbad hwd
      rw [← hv.out] at hstep
      by_cases hr : r = 65533
      · subst hr
        have hbad := hbad rfl
        by_cases hw1 : wd = 1
        · have Hf := Lib.hid (show Lib.validD (L s) = false by rw [hstep, if_pos ⟨rfl, hw1⟩])
          have hno := hbad.1 hw1
          clear hbad hstep
          by_cases h3 : pos + 3 ≤ s.size
          · have hcmp : ((s.extract pos (pos + 3)).toList == [239, 191, 189]) = false := beq_eq_false_iff_ne.2 fun e => hno ⟨h3, e⟩
            clear hno
            go_wp2_with fail
            go_ret
            exact ⟨ret_bool (by rw [Hf.out]), iter_below _ _ _⟩
          · clear hno
            go_wp2_with fail
            go_ret
            exact ⟨ret_bool (by rw [Hf.out]), iter_below _ _ _⟩
        · have Hf := Lib.hid (show Lib.validD (L s) = Lib.validD ((L s).drop (pos + wd)) by rw [hstep, if_neg (fun h => hw1 h.2)])
          have hyes := Classical.not_not.1 (fun h => hw1 (hbad.2 h))
          obtain ⟨h3, he⟩ := hyes
          clear hbad hstep
          have hcmp : ((s.extract pos (pos + 3)).toList == [239, 191, 189]) = true := beq_iff_eq.2 he
          clear he
          go_wp2_with fail
          go_roundw
          case rel => exact ⟨pos + wd, rfl, rfl, Hf⟩
          case measure => simp; omega
      · have Hf := Lib.hid (show Lib.validD (L s) = Lib.validD ((L s).drop (pos + wd)) by rw [hstep, if_neg (fun h => hr h.1)])
        have hr2 : ((r : Int) == 65533) = false := by rw [beq_eq_false_iff_ne]; omega
        clear hbad hstep
        go_wp2_with fail
        go_roundw
        case rel => exact ⟨pos + wd, rfl, rfl, Hf⟩
        case measure => simp; omega
    · have hnx : ∀ ty, (Instr.next (.pointer (some ⟨w.heap.size, 0, none⟩)) true ty).run Tryz.prog (w.iter s pos) = _ := fun ty => run_next_end w s pos ty hp
      have Hf := Lib.hid (show Lib.validD (L s) = true by rw [hv.out, valid_end s pos (by omega)])
      go_wp2_with fail
      go_ret
      exact ⟨ret_bool (by rw [Hf.out]), iter_below _ _ _⟩

def NumP (l : Txt) (w : World) : Option Nat → Ending → World → Prop
  | none, e, w' => e = .returned (.tuple #[tokV 0 [] 0 0, .bool false]) ∧ Below w.heap.size w w'
  | some u, e, w' => e = .returned (.tuple #[tokV 3 [] u 0, .bool (decide (l.length = 1 ∨ l.head? ≠ some 48))]) ∧ Below w.heap.size w w'
set_option maxHeartbeats 1000000 in
set_option maxRecDepth 100000 in
theorem numberR_calls (s : ByteArray) (w : World) (hs : s.size ≤ 100000) (h1 : 1 ≤ s.size) (hd : ∀ c ∈ L s, digitB c = true) :
    Calls Tryz.prog 193 #[.string s] w (NumP (L s) w (numG (L s) 0)) := by
  have Hd := Lib.hid hd
  clear hd
  go_enter Tryz.func193, Tryz.ntmps193
  go_wp2_with fail
  have Hb := Lib.hid (rAlloc w tokObj)
  obtain ⟨⟨c0, c1, c2, c3⟩, f0, f1, f2, f3⟩ := four (heap_alloc_new w tokObj)
  have hz : w.heap.size < (w.alloc tokObj).heap.size := by simp
  generalize w.alloc tokObj = W at *
  go_loop [4, 5] (fun s4 s5 => ∃ (k n : Nat), k ≤ s.size ∧ s5 = .int .i64 k ∧ s4 = .int .u64 n ∧ n ≤ 9223372036854775807 ∧ Hid (numG (L s) 0 = numG ((L s).drop k) n)) (fun _ i => s.size - (intOf i).toNat)
  case atStart => exact ⟨0, 0, Nat.zero_le _, rfl, rfl, by omega, Lib.hid (by rw [List.drop_zero])⟩
  case round =>
    obtain ⟨k, n, hk, rfl, rfl, hn, hR⟩ := hrel
    by_cases hlt : k < s.size
    · have hr := hR.out
      rw [drop_cons' s k hlt, numG] at hr
      obtain ⟨hc1, hc2⟩ := digit_range (Hd.out s[k] (by rw [L, ← L_get s k hlt]; exact List.getElem_mem _))
      have hw8 : IntKind.u8.wrap ((s[k].toNat : Int) - 48) = ((s[k].toNat - 48 : Nat) : Int) := by
        show ((s[k].toNat : Int) - 48) % 256 = _
        omega
      have hd9 : s[k].toNat - 48 ≤ 9 := by omega
      generalize s[k].toNat - 48 = d at hr hw8 hd9
      clear hR
      by_cases hbig : (9223372036854775807 - d) / 10 < n
      · rw [if_pos hbig] at hr
        have Hr := Lib.hid hr
        have hbig2 : (9223372036854775807 - (d : Int)) / 10 < n := by omega
        clear hr
        go_wp2_with fail
        rw [Hr.out]
        exact bodyPost_ret (v := .tuple #[tokV 0 [] 0 0, .bool false]) (by simp [results, Tryz.results193, go_sem, tokV, c0, c1, c2, c3]) rfl ⟨rfl, below_set4 Hb.out _ _ _ _ _ _ _ _⟩
      · rw [if_neg hbig] at hr
        have Hr := Lib.hid hr
        have hbig2 : ¬ (9223372036854775807 - (d : Int)) / 10 < n := by omega
        have hw1 : IntKind.u64.wrap (10 * (n : Int)) = 10 * (n : Int) := by
          show (10 * (n : Int)) % 18446744073709551616 = _
          omega
        have hw2 : IntKind.u64.wrap (10 * (n : Int) + d) = 10 * (n : Int) + d := by
          show (10 * (n : Int) + d) % 18446744073709551616 = _
          omega
        clear hr
        go_wp2_with fail
        go_round
        case rel => exact ⟨k + 1, 10 * n + d, by omega, by go_num, by go_num, by omega, Hr⟩
        case measure => simp [intOf]; omega
    · have hr := hR.out
      rw [List.drop_of_length_le (by rw [L_length]; omega), numG] at hr
      have Hr := Lib.hid hr
      clear hr hR
      have h0 : 0 < s.size := by omega
      have hh : (L s).head? = some s[0] := by
        rw [List.head?_eq_getElem?, List.getElem?_eq_getElem (by rw [L_length]; omega)]; rfl
      have Hh := Lib.hid hh
      clear hh
      have hw : wrap64 (n : Int) = n := by unfold wrap64; omega
      by_cases hone : s.size = 1
      · have h01 : (s.size : Int) = 1 := by omega
        have Hv := Lib.hid (show decide ((L s).length = 1 ∨ (L s).head? ≠ some 48) = true from decide_eq_true (.inl (by rw [L_length]; exact hone)))
        go_wp2_with fail
        go_region
        go_wp2_with fail
        rw [Hr.out]
        exact bodyPost_ret (v := .tuple #[tokV 3 [] n 0, .bool true]) (by simp [results, Tryz.results193, go_sem, tokV, c0, c1, c2, c3]) rfl ⟨by rw [Hv.out], below_set4 (Below.drew Hb.out) _ _ _ _ _ _ _ _⟩
      · have h01 : ((s.size : Int) == 1) = false := by rw [beq_eq_false_iff_ne]; omega
        by_cases hz0 : s[0] = 48
        · have Hv := Lib.hid (show decide ((L s).length = 1 ∨ (L s).head? ≠ some 48) = false from decide_eq_false (by rw [L_length, Hh.out, hz0]; simpa using hone))
          have hz1 : (s[0].toNat : Int) = 48 := by rw [hz0]; rfl
          go_wp2_with fail
          go_region
          go_wp2_with fail
          rw [Hr.out]
          exact bodyPost_ret (v := .tuple #[tokV 3 [] n 0, .bool false]) (by simp [results, Tryz.results193, go_sem, tokV, c0, c1, c2, c3]) rfl ⟨by rw [Hv.out], below_set4 (Below.drew Hb.out) _ _ _ _ _ _ _ _⟩
        · have Hv := Lib.hid (show decide ((L s).length = 1 ∨ (L s).head? ≠ some 48) = true from decide_eq_true (.inr (by rw [Hh.out]; simpa using hz0)))
          have hz1 : ((s[0].toNat : Int) == 48) = false := beq_eq_false_iff_ne.2 fun e => hz0 (UInt8.toNat_inj.1 (by show s[0].toNat = 48; omega))
          go_wp2_with fail
          go_region
          go_wp2_with fail
          rw [Hr.out]
          exact bodyPost_ret (v := .tuple #[tokV 3 [] n 0, .bool true]) (by have hz2 := beq_eq_false_iff_ne.1 hz1; simp [results, Tryz.results193, go_sem, tokV, c0, c1, c2, c3]; exact hz2) rfl ⟨by rw [Hv.out], below_set4 (Below.drew Hb.out) _ _ _ _ _ _ _ _⟩

end Go.Proofs.YtcjmhmmjfgjcnaaGreatDoor.Rf

/- codicilref09: text, sign. -/
namespace Go.Proofs.YtcjmhmmjfgjcnaaGreatDoor.Rf
open Go.RowKit Go.Proofs.YtcjmhmmjfgjcnaaGreatDoor.Lx Go.Proofs.YtcjmhmmjfgjcnaaGreatDoor.Pa

def textV : Option (Txt × Nat) → Value
  | none => .tuple #[.string ⟨#[]⟩, .int .i64 0]
  | some x => .tuple #[.string ⟨x.1.toArray⟩, .int .i64 (x.2 + 1)]

set_option maxHeartbeats 2000000 in
set_option maxRecDepth 100000 in
theorem textR_calls (s : ByteArray) (w : World) (hs : s.size ≤ 100000) (o : Option (Txt × Nat)) (Ho : Hid (textL ((L s).drop 1) = o)) :
    Calls Tryz.prog 194 #[.string s] w fun e w' => e = .returned (textV o) ∧ Below w.heap.size w w' := by
  go_enter Tryz.func194, Tryz.ntmps194
  go_wp2_with fail
  go_loopw [4, 5] (fun s4 s5 wr => ∃ (k : Nat) (out : Txt) (v : Value), s5 = .int .i64 k ∧ s4 = v ∧ k ≤ s.size + 1 ∧ out.length ≤ k ∧ Hid (ByT w wr v out) ∧ Hid (TextTo s k out)) (fun _ s5 _ => s.size + 1 - (intOf s5).toNat)
  case atStart => exact ⟨1, [], _, rfl, rfl, by omega, by simp, Lib.hid (ByT.nil w), Lib.hid (TextTo.start s)⟩
  case round =>
    obtain ⟨k, out, v, rfl, rfl, hk, hol, hst, htt⟩ := hrel
    have Hst := Lib.hid hst.out
    have Ht := Lib.hid htt.out
    obtain ⟨av, cv, rfl⟩ := hst.out.form
    clear hst htt
    by_cases hlt : k < s.size
    · generalize hc : s[k] = c
      have hcn := c.toNat_lt
      by_cases h39 : c = 39
      · subst h39
        by_cases htwo : ∃ h : k + 1 < s.size, s[k + 1] = 39
        · obtain ⟨h1, hd⟩ := htwo
          have Hn := Lib.hid (Ht.out.two h1 hc hd)
          have hd' : (s[k + 1].toNat : Int) = 39 := by rw [hd]; rfl
          have hc' : (s[k].toNat : Int) = 39 := by rw [hc]; rfl
          clear hc hd
          go_wp2_with (at_builtin; go_must (refine wpList_byte rfl _ _ rfl w (.slice av out.length cv) out rfl _ rfl _ 39 rfl Hst.out rfl (by omega) ?_); intro a7 n7 c7 w7 hn7 h7; have Hn7 := Lib.hid hn7.out; have H7 := Lib.hid h7; clear hn7 h7)
          go_roundw
          case rel => exact ⟨k + 2, out ++ [39], _, by go_num, rfl, by omega, by rw [List.length_append, List.length_singleton]; omega, H7, Hn⟩
          case measure => simp [intOf]; omega
        · have Hv := Lib.hid (Ho.out.symm.trans (Ht.out.ends hlt hc fun h e => htwo ⟨h, e⟩))
          have hc' : (s[k].toNat : Int) = 39 := by rw [hc]; rfl
          have hback := Hst.out.back
          by_cases h1 : k + 1 < s.size
          · have hd' : ((s[k + 1].toNat : Int) == 39) = false := beq_eq_false_iff_ne.2 fun e => htwo ⟨h1, UInt8.toNat_inj.1 (by show s[k + 1].toNat = 39; omega)⟩
            clear hc htwo
            go_wp2_with fail
            go_ret2
            exact ⟨by rw [Hv.out]; rfl, Hst.out.row.bel⟩
          · clear hc htwo
            go_wp2_with fail
            go_ret2
            exact ⟨by rw [Hv.out]; rfl, Hst.out.row.bel⟩
      · have Hn := Lib.hid (Ht.out.plain hlt (by rw [hc]; exact h39))
        have hc' : ((s[k].toNat : Int) == 39) = false := beq_eq_false_iff_ne.2 fun e => h39 (by rw [← hc]; exact UInt8.toNat_inj.1 (by show s[k].toNat = 39; omega))
        clear hc h39
        go_wp2_with (at_builtin; go_must (refine wpList_byte rfl _ _ rfl w (.slice av out.length cv) out rfl _ rfl _ s[k] rfl Hst.out rfl (by omega) ?_); intro a7 n7 c7 w7 hn7 h7; have Hn7 := Lib.hid hn7.out; have H7 := Lib.hid h7; clear hn7 h7)
        go_roundw
        case rel => exact ⟨k + 1, out ++ [s[k]], _, by go_num, rfl, by omega, by rw [List.length_append, List.length_singleton]; omega, H7, Hn⟩
        case measure => simp [intOf]; omega
    · have Hv := Lib.hid (Ho.out.symm.trans (Ht.out.none (by omega)))
      go_wp2_with fail
      go_ret2
      exact ⟨by rw [Hv.out]; rfl, Hst.out.row.bel⟩

def signS (l : Txt) : Txt := match signR l with
  | .ok t _ => t.text
  | .err _ => []
theorem sign_pair {c d : UInt8} (r : Txt) (h : [c, d] ∈ pairs) : signS (c :: d :: r) = [c, d] := by unfold signS; rw [sign_two r h]
theorem sign_sing {c : UInt8} {r : Txt} (h : ∀ d r', r = d :: r' → [c, d] ∉ pairs) : signS (c :: r) = if c ∈ singles then [c] else [] := by
  unfold signS; rw [sign_eq h]
  by_cases hc : c ∈ singles
  · rw [if_pos hc, if_pos hc]
  · rw [if_neg hc, if_neg hc]

abbrev singObj : Obj := .cells #[.int .u8 61, .int .u8 60, .int .u8 62, .int .u8 43, .int .u8 45, .int .u8 42, .int .u8 40, .int .u8 41, .int .u8 91, .int .u8 93, .int .u8 123, .int .u8 125, .int .u8 44, .int .u8 58, .int .u8 46] 5 (15, 16)


def SingAt (w : World) (B : Nat) : Prop := ∀ j (h : j < singles.length), w.cell? ⟨B, j, none⟩ = some (.int .u8 singles[j].toNat)
theorem sing_at (w : World) : SingAt (w.alloc singObj) w.heap.size := by
  intro j hj
  have hb := heap_alloc_new w singObj
  simp only [World.cell?, hb]
  match j, hj with
  | 0, _ => rfl
  | 1, _ => rfl
  | 2, _ => rfl
  | 3, _ => rfl
  | 4, _ => rfl
  | 5, _ => rfl
  | 6, _ => rfl
  | 7, _ => rfl
  | 8, _ => rfl
  | 9, _ => rfl
  | 10, _ => rfl
  | 11, _ => rfl
  | 12, _ => rfl
  | 13, _ => rfl
  | 14, _ => rfl
  | n + 15, h => exact absurd h (by simp [singles])
theorem sing_none {c : UInt8} {k : Nat} (hk : 15 ≤ k) (h : ∀ j (h : j < singles.length), j < k → singles[j] ≠ c) : c ∉ singles := by
  intro hm
  obtain ⟨j, hj, e⟩ := List.getElem_of_mem hm
  have : singles.length = 15 := rfl
  exact h j hj (by omega) e

set_option maxHeartbeats 2000000 in
set_option maxRecDepth 100000 in
theorem signR_calls (s : ByteArray) (w : World) (hs : s.size ≤ 100000) (h1 : 1 ≤ s.size) :
    Calls Tryz.prog 195 #[.string s] w fun e w' => e = .returned (.string ⟨(signS (L s)).toArray⟩) ∧ Below w.heap.size w w' := by
  have h0 : 0 < s.size := by omega
  have hd0 : L s = s[0] :: (L s).drop 1 := drop_cons' s 0 h0
  have hx : (s.extract 0 2).toList = (L s).take 2 := by rw [toList_L, L_take]
  by_cases hP : 1 < s.size ∧ (s.extract 0 2).toList ∈ pairs
  · obtain ⟨hlt, hp⟩ := hP
    have hd1 : (L s).drop 1 = s[1] :: (L s).drop 2 := drop_cons' s 1 hlt
    have Hv := Lib.hid (show (⟨(signS (L s)).toArray⟩ : ByteArray) = s.extract 0 2 from L_inj (by
      have hp2 := hp
      rw [hx, hd0, hd1] at hp2
      rw [L_mk, L_take]
      conv => lhs; rw [hd0, hd1]
      rw [hd0, hd1]
      exact sign_pair _ hp2))
    have hlt2 : (1 : Int) < s.size := by omega
    simp only [pairs, List.mem_cons, List.mem_nil_iff, or_false] at hp
    clear hd0 hd1 hx
    rcases hp with hp | hp | hp
    all_goals
      go_enter Tryz.func195, Tryz.ntmps195
      go_wp2_with fail
      all_goals first
        | (go_ret; exact ⟨by rw [Hv.out]; rfl, Below.refl _ _⟩)
        | (exfalso; simp_all; done)
  · have Hs := Lib.hid (show signS (L s) = if s[0] ∈ singles then [s[0]] else [] from by
      rw [hd0]
      refine sign_sing fun d r' e hm => hP ?_
      have hl := congrArg List.length e
      rw [List.length_drop, L_length, List.length_cons] at hl
      refine ⟨by omega, ?_⟩
      rw [hx, hd0, e]
      exact hm)
    have hcase : ¬ (1 : Int) < s.size ∨ ((1 : Int) < s.size ∧ ((s.extract 0 2).toList == [60, 62]) = false ∧ ((s.extract 0 2).toList == [60, 61]) = false ∧ ((s.extract 0 2).toList == [62, 61]) = false) := by
      by_cases hlt : 1 < s.size
      · refine .inr ⟨by omega, ?_, ?_, ?_⟩
        all_goals
          rw [beq_eq_false_iff_ne]
          intro e
          exact hP ⟨hlt, by rw [e]; decide⟩
      · exact .inl (by omega)
    have He1 := Lib.hid (show ∀ c : UInt8, s[0] = c → s.extract 0 1 = ⟨#[c]⟩ from fun c e => L_inj (by
      rw [L_take]
      conv => lhs; rw [hd0, e]
      rfl))
    clear hd0 hx hP
    have kc := fun (w : World) (C : Array Value) (n c : Nat) => Lib.run_convert_bytes_const (P := Tryz.prog) w 104 5 C n c Tryz.underlying104 Tryz.underlying5
    rcases hcase with hc | ⟨hc1, hc2, hc3, hc4⟩
    all_goals
      go_enter Tryz.func195, Tryz.ntmps195
      go_wp2_with fail
      have hW : SingAt (w.alloc singObj) w.heap.size := sing_at w
      have hb : Below w.heap.size w (w.alloc singObj) := rAlloc _ _
      generalize w.alloc singObj = W at hW hb ⊢
      have HK := Lib.hid hW
      have Hb := Lib.hid hb
      clear hW hb
      go_loop [28] (fun i => ∃ k : Nat, k ≤ 15 ∧ i = .int .i64 k ∧ Hid (∀ j (h : j < singles.length), j < k → singles[j] ≠ s[0])) (fun i => 15 - (intOf i).toNat)
      case atStart => exact ⟨0, Nat.zero_le _, rfl, fun j _ h => absurd h (Nat.not_lt_zero _)⟩
      case round =>
        obtain ⟨k, hk, rfl, hno⟩ := hrel
        by_cases hlt : k < 15
        · have hc := HK.out k hlt
          generalize hg : singles[k] = g at hc
          have Hg := Lib.hid hg
          clear hg
          by_cases he : s[0] = g
          · have he2 : ((s[0].toNat : Int) == (g.toNat : Int)) = true := by rw [he]; simp
            have Hv := Lib.hid (show (⟨(signS (L s)).toArray⟩ : ByteArray) = s.extract 0 1 by
              rw [Hs.out, if_pos (by rw [he, ← Hg.out]; exact List.getElem_mem _), He1.out _ rfl])
            go_wp2_with fail
            all_goals first
              | (go_ret; exact ⟨by rw [Hv.out]; rfl, Hb.out⟩)
              | (exfalso; simp_all; done)
          · have he2 : ((s[0].toNat : Int) == (g.toNat : Int)) = false := beq_eq_false_iff_ne.2 fun e => he (UInt8.toNat_inj.1 (by omega))
            go_wp2_with fail
            go_round
            case rel => exact ⟨k + 1, by omega, by go_num, fun j hj hjk => by
              by_cases h : j = k
              · subst h; exact fun e => he (e.symm.trans Hg.out)
              · exact hno.out j hj (by omega)⟩
            case measure => simp [intOf]; omega
        · have Hv := Lib.hid (show signS (L s) = [] by rw [Hs.out, if_neg (sing_none (by omega) hno.out)])
          go_wp2_with fail
          go_ret
          exact ⟨by rw [Hv.out]; rfl, Hb.out⟩

end Go.Proofs.YtcjmhmmjfgjcnaaGreatDoor.Rf

/- codicilref09: next. -/
namespace Go.Proofs.YtcjmhmmjfgjcnaaGreatDoor.Rf
open Go.RowKit Go.Proofs.YtcjmhmmjfgjcnaaGreatDoor.Lx Go.Proofs.YtcjmhmmjfgjcnaaGreatDoor.Pa

def NextP (w : World) : Rd → Ending → World → Prop
  | .ok t n, e, w' => e = .returned (.tuple #[t.val, .int .i64 n, .int .i64 0]) ∧ Below w.heap.size w w'
  | .err c, e, w' => (∃ (kd : Nat) (g : Txt) (n a : Int), e = .returned (.tuple #[tokV kd g n a, .int .i64 0, .int .i64 c])) ∧ Below w.heap.size w w'
theorem NextP.ok {w : World} {r : Rd} {t : Tok} {n : Nat} (h : r = .ok t n) {e : Ending} {w' : World} (h1 : e = .returned (.tuple #[t.val, .int .i64 n, .int .i64 0])) (h2 : Below w.heap.size w w') : NextP w r e w' := by subst h; exact ⟨h1, h2⟩
theorem NextP.err {w : World} {r : Rd} {c : Nat} (h : r = .err c) {e : Ending} {w' : World} (v : Value) (h1 : e = .returned (.tuple #[v, .int .i64 0, .int .i64 c])) (h2 : Below w.heap.size w w') (hv : ∃ (kd : Nat) (g : Txt) (n a : Int), v = tokV kd g n a := by exact ⟨_, _, _, _, rfl⟩) : NextP w r e w' := by
  subst h
  obtain ⟨kd, g, n, a, rfl⟩ := hv
  exact ⟨⟨kd, g, n, a, h1⟩, h2⟩
theorem tok_both {w w1 : World} (hb : Below w.heap.size w w1) (h : w1.heap[w.heap.size]? = some tokObj) (v0 v1 v2 v3 : Value) (o : Obj) :
    let W2 := ((((w1.setCell ⟨w.heap.size, 0, none⟩ v0).setCell ⟨w.heap.size, 1, none⟩ v1).setCell ⟨w.heap.size, 2, none⟩ v2).setCell ⟨w.heap.size, 3, none⟩ v3).alloc o
    (W2.cell? ⟨w.heap.size, 0, none⟩ = some v0 ∧ W2.cell? ⟨w.heap.size, 1, none⟩ = some v1 ∧ W2.cell? ⟨w.heap.size, 2, none⟩ = some v2 ∧ W2.cell? ⟨w.heap.size, 3, none⟩ = some v3) ∧ Below w.heap.size w W2 := by
  intro W2
  have hz := rLt h
  have h4 : ((((w1.setCell ⟨w.heap.size, 0, none⟩ v0).setCell ⟨w.heap.size, 1, none⟩ v1).setCell ⟨w.heap.size, 2, none⟩ v2).setCell ⟨w.heap.size, 3, none⟩ v3).heap[w.heap.size]? = some (.cells #[v0, v1, v2, v3] 41) := by
    simp [World.setCell, Array.getElem?_modify, h]
  have h5 : W2.heap[w.heap.size]? = some (.cells #[v0, v1, v2, v3] 41) := ((rAlloc _ o).block _ (rLt h4)).trans h4
  exact ⟨(four h5).1, ((((hb.setCell (Nat.le_refl _) _).setCell (Nat.le_refl _) _).setCell (Nat.le_refl _) _).setCell (Nat.le_refl _) _).alloc (by simpa using Nat.le_of_lt hz) o⟩

theorem next_letter {s : ByteArray} (h0 : 0 < s.size) (h : letterB s[0] = true) : nextR (L s) = wordR (L s) := by
  have e : L s = s[0] :: (L s).drop 1 := drop_cons' s 0 h0
  rw [e, nextR]
  simp only [h, if_true]
theorem next_digit {s : ByteArray} (h0 : 0 < s.size) (h : letterB s[0] = false) (h2 : digitB s[0] = true) : nextR (L s) = numberR (L s) := by
  have e : L s = s[0] :: (L s).drop 1 := drop_cons' s 0 h0
  rw [e, nextR]
  simp only [h, h2, Bool.false_eq_true, if_false, if_true]
theorem next_text {s : ByteArray} (h0 : 0 < s.size) (h : letterB s[0] = false) (h2 : digitB s[0] = false) (h3 : s[0] = 39) : nextR (L s) = textR (L s) := by
  have e : L s = s[0] :: (L s).drop 1 := drop_cons' s 0 h0
  have h4 : (s[0] == 39) = true := beq_iff_eq.2 h3
  rw [e, nextR]
  simp only [h, h2, h4, quoteB, Bool.false_eq_true, if_false, if_true]
theorem next_sign {s : ByteArray} (h0 : 0 < s.size) (h : letterB s[0] = false) (h2 : digitB s[0] = false) (h3 : s[0] ≠ 39) : nextR (L s) = signR (L s) := by
  have e : L s = s[0] :: (L s).drop 1 := drop_cons' s 0 h0
  have h4 : (s[0] == 39) = false := beq_eq_false_iff_ne.2 h3
  rw [e, nextR]
  simp only [h, h2, h4, quoteB, Bool.false_eq_true, if_false]

set_option maxHeartbeats 4000000 in
set_option maxRecDepth 100000 in
theorem next_word_calls (s : ByteArray) (w : World) (hs : s.size ≤ 100000) (h0 : 0 < s.size) (hl0 : letterB s[0] = true) :
    Calls Tryz.prog 170 #[.string s] w (NextP w (nextR (L s))) := by
  rw [next_letter h0 hl0]
  have hd0 := digit_letter s[0]
  go_enter Tryz.func170, Tryz.ntmps170
  go_wp2_with (first | (go_at_call 190; refine (letterR_calls _ _).mono ?_; rintro e w' ⟨rfl, rfl⟩))
  have Hb := Lib.hid (rAlloc w tokObj)
  have Ht := Lib.hid (heap_alloc_new w tokObj)
  have hz : w.heap.size < (w.alloc tokObj).heap.size := by simp
  generalize w.alloc tokObj = W at *
  go_loop [5] (fun s5 => ∃ k : Nat, s5 = .int .i64 k ∧ RunTo wordB s k) (fun i => s.size - (intOf i).toNat)
  case atStart => exact ⟨0, rfl, Nat.zero_le _, fun _ _ h => absurd h (Nat.not_lt_zero _)⟩
  case round =>
    obtain ⟨k, rfl, hp⟩ := hrel
    have hle := hp.le
    by_cases hlt : k < s.size
    · cases hl : letterB s[k]
      · cases hdg : digitB s[k]
        · have hf := Lib.hid (hp.stop fun _ => by unfold wordB; rw [hl, hdg]; rfl)
          have hsz : (s.extract 0 k).size = k := by rw [← L_length, L_take, List.length_take, L_length]; omega
          have Hw0 := wordR_calls (s.extract 0 k) W (by unfold maxLen; omega)
          rw [L_take, hsz] at Hw0
          by_cases hk : keywordB ((L s).take k) = true
          · rw [if_pos hk] at Hw0
            have Hw := Lib.hid Hw0
            have Hr := Lib.hid (show wordR (L s) = .ok ⟨2, great ((L s).take k), 0, 0⟩ k by unfold wordR; rw [hf.out, if_pos hk])
            clear Hw0 hk hf
            generalize great ((L s).take k) = g at Hw Hr
            go_wp2_with (first | (go_at_call 190; refine (letterR_calls _ _).mono ?_; rintro e w' ⟨rfl, rfl⟩) | (go_at_call 191; refine (digitR_calls _ _).mono ?_; rintro e w' ⟨rfl, rfl⟩))
            refine Hw.out.mono ?_
            rintro e w1 ⟨rfl, hb1⟩
            have ht1 := (hb1.block _ hz).trans Ht.out
            obtain ⟨⟨c0, c1, c2, c3⟩, f0, f1, f2, f3⟩ := four ht1
            have Ht1 := Lib.hid ht1
            have Hb1 := Lib.hid (rStep Hb.out hb1)
            have hz1 : w.heap.size < w1.heap.size := Nat.lt_of_lt_of_le hz hb1.size
            clear hb1 ht1
            unfold tokV
            go_wp2_with fail
            obtain ⟨⟨k0, k1, k2, k3⟩, hbel⟩ := tok_both Hb1.out Ht1.out (.int .u8 2) (.string ⟨g.toArray⟩) (.int .i64 0) (.int .i64 0) (.cells #[.int .u8 2, .string ⟨g.toArray⟩, .int .i64 0, .int .i64 0] 41)
            refine bodyPost_ret (v := .tuple #[tokV 2 g 0 0, .int .i64 k, .int .i64 0]) (by simp [results, Tryz.results170, go_sem, tokV, k0, k1, k2, k3]) rfl (NextP.ok Hr.out rfl ?_)
            exact hbel
          · rw [if_neg hk] at Hw0
            by_cases h64 : k ≤ 64
            · rw [decide_eq_true h64] at Hw0
              have Hw := Lib.hid Hw0
              have Hr := Lib.hid (show wordR (L s) = .ok ⟨1, (L s).take k, 0, 0⟩ k by unfold wordR; rw [hf.out, if_neg hk, if_neg (by omega)])
              clear Hw0 hk hf
              generalize (L s).take k = g at Hw Hr
              go_wp2_with (first | (go_at_call 190; refine (letterR_calls _ _).mono ?_; rintro e w' ⟨rfl, rfl⟩) | (go_at_call 191; refine (digitR_calls _ _).mono ?_; rintro e w' ⟨rfl, rfl⟩))
              refine Hw.out.mono ?_
              rintro e w1 ⟨rfl, hb1⟩
              have ht1 := (hb1.block _ hz).trans Ht.out
              obtain ⟨⟨c0, c1, c2, c3⟩, f0, f1, f2, f3⟩ := four ht1
              have Ht1 := Lib.hid ht1
              have Hb1 := Lib.hid (rStep Hb.out hb1)
              have hz1 : w.heap.size < w1.heap.size := Nat.lt_of_lt_of_le hz hb1.size
              clear hb1 ht1
              unfold tokV
              go_wp2_with fail
              obtain ⟨⟨k0, k1, k2, k3⟩, hbel⟩ := tok_both Hb1.out Ht1.out (.int .u8 1) (.string ⟨g.toArray⟩) (.int .i64 0) (.int .i64 0) (.cells #[.int .u8 1, .string ⟨g.toArray⟩, .int .i64 0, .int .i64 0] 41)
              refine bodyPost_ret (v := .tuple #[tokV 1 g 0 0, .int .i64 k, .int .i64 0]) (by simp [results, Tryz.results170, go_sem, tokV, k0, k1, k2, k3]) rfl (NextP.ok Hr.out rfl ?_)
              exact hbel
            · rw [decide_eq_false h64] at Hw0
              have Hw := Lib.hid Hw0
              have Hr := Lib.hid (show wordR (L s) = .err 13 by unfold wordR; rw [hf.out, if_neg hk, if_pos (by omega)])
              clear Hw0 hk hf
              generalize (L s).take k = g at Hw Hr
              go_wp2_with (first | (go_at_call 190; refine (letterR_calls _ _).mono ?_; rintro e w' ⟨rfl, rfl⟩) | (go_at_call 191; refine (digitR_calls _ _).mono ?_; rintro e w' ⟨rfl, rfl⟩))
              refine Hw.out.mono ?_
              rintro e w1 ⟨rfl, hb1⟩
              have ht1 := (hb1.block _ hz).trans Ht.out
              obtain ⟨⟨c0, c1, c2, c3⟩, f0, f1, f2, f3⟩ := four ht1
              have Ht1 := Lib.hid ht1
              have Hb1 := Lib.hid (rStep Hb.out hb1)
              have hz1 : w.heap.size < w1.heap.size := Nat.lt_of_lt_of_le hz hb1.size
              clear hb1 ht1
              unfold tokV
              go_wp2_with fail
              obtain ⟨⟨k0, k1, k2, k3⟩, hbel⟩ := tok_both Hb1.out Ht1.out (.int .u8 1) (.string ⟨g.toArray⟩) (.int .i64 0) (.int .i64 0) (.cells #[.int .u8 1, .string ⟨g.toArray⟩, .int .i64 0, .int .i64 0] 41)
              refine bodyPost_ret (v := .tuple #[tokV 1 g 0 0, .int .i64 0, .int .i64 13]) (by simp [results, Tryz.results170, go_sem, tokV, k0, k1, k2, k3]) rfl (NextP.err Hr.out _ rfl ?_)
              exact hbel
        · have hn := hp.step hlt (by unfold wordB; rw [hl, hdg]; rfl)
          go_wp2_with (first | (go_at_call 190; refine (letterR_calls _ _).mono ?_; rintro e w' ⟨rfl, rfl⟩) | (go_at_call 191; refine (digitR_calls _ _).mono ?_; rintro e w' ⟨rfl, rfl⟩))
          go_round
          case rel => exact ⟨k + 1, by go_num, hn⟩
          case measure => simp [intOf]; omega
      · have hn := hp.step hlt (by unfold wordB; rw [hl]; rfl)
        go_wp2_with (first | (go_at_call 190; refine (letterR_calls _ _).mono ?_; rintro e w' ⟨rfl, rfl⟩) | (go_at_call 191; refine (digitR_calls _ _).mono ?_; rintro e w' ⟨rfl, rfl⟩))
        go_round
        case rel => exact ⟨k + 1, by go_num, hn⟩
        case measure => simp [intOf]; omega
    · have hf := Lib.hid (hp.stop fun h => absurd h hlt)
      have hsz : (s.extract 0 k).size = k := by rw [← L_length, L_take, List.length_take, L_length]; omega
      have Hw0 := wordR_calls (s.extract 0 k) W (by unfold maxLen; omega)
      rw [L_take, hsz] at Hw0
      by_cases hk : keywordB ((L s).take k) = true
      · rw [if_pos hk] at Hw0
        have Hw := Lib.hid Hw0
        have Hr := Lib.hid (show wordR (L s) = .ok ⟨2, great ((L s).take k), 0, 0⟩ k by unfold wordR; rw [hf.out, if_pos hk])
        clear Hw0 hk hf
        generalize great ((L s).take k) = g at Hw Hr
        go_wp2_with (first | (go_at_call 190; refine (letterR_calls _ _).mono ?_; rintro e w' ⟨rfl, rfl⟩) | (go_at_call 191; refine (digitR_calls _ _).mono ?_; rintro e w' ⟨rfl, rfl⟩))
        refine Hw.out.mono ?_
        rintro e w1 ⟨rfl, hb1⟩
        have ht1 := (hb1.block _ hz).trans Ht.out
        obtain ⟨⟨c0, c1, c2, c3⟩, f0, f1, f2, f3⟩ := four ht1
        have Ht1 := Lib.hid ht1
        have Hb1 := Lib.hid (rStep Hb.out hb1)
        have hz1 : w.heap.size < w1.heap.size := Nat.lt_of_lt_of_le hz hb1.size
        clear hb1 ht1
        unfold tokV
        go_wp2_with fail
        obtain ⟨⟨k0, k1, k2, k3⟩, hbel⟩ := tok_both Hb1.out Ht1.out (.int .u8 2) (.string ⟨g.toArray⟩) (.int .i64 0) (.int .i64 0) (.cells #[.int .u8 2, .string ⟨g.toArray⟩, .int .i64 0, .int .i64 0] 41)
        refine bodyPost_ret (v := .tuple #[tokV 2 g 0 0, .int .i64 k, .int .i64 0]) (by simp [results, Tryz.results170, go_sem, tokV, k0, k1, k2, k3]) rfl (NextP.ok Hr.out rfl ?_)
        exact hbel
      · rw [if_neg hk] at Hw0
        by_cases h64 : k ≤ 64
        · rw [decide_eq_true h64] at Hw0
          have Hw := Lib.hid Hw0
          have Hr := Lib.hid (show wordR (L s) = .ok ⟨1, (L s).take k, 0, 0⟩ k by unfold wordR; rw [hf.out, if_neg hk, if_neg (by omega)])
          clear Hw0 hk hf
          generalize (L s).take k = g at Hw Hr
          go_wp2_with (first | (go_at_call 190; refine (letterR_calls _ _).mono ?_; rintro e w' ⟨rfl, rfl⟩) | (go_at_call 191; refine (digitR_calls _ _).mono ?_; rintro e w' ⟨rfl, rfl⟩))
          refine Hw.out.mono ?_
          rintro e w1 ⟨rfl, hb1⟩
          have ht1 := (hb1.block _ hz).trans Ht.out
          obtain ⟨⟨c0, c1, c2, c3⟩, f0, f1, f2, f3⟩ := four ht1
          have Ht1 := Lib.hid ht1
          have Hb1 := Lib.hid (rStep Hb.out hb1)
          have hz1 : w.heap.size < w1.heap.size := Nat.lt_of_lt_of_le hz hb1.size
          clear hb1 ht1
          unfold tokV
          go_wp2_with fail
          obtain ⟨⟨k0, k1, k2, k3⟩, hbel⟩ := tok_both Hb1.out Ht1.out (.int .u8 1) (.string ⟨g.toArray⟩) (.int .i64 0) (.int .i64 0) (.cells #[.int .u8 1, .string ⟨g.toArray⟩, .int .i64 0, .int .i64 0] 41)
          refine bodyPost_ret (v := .tuple #[tokV 1 g 0 0, .int .i64 k, .int .i64 0]) (by simp [results, Tryz.results170, go_sem, tokV, k0, k1, k2, k3]) rfl (NextP.ok Hr.out rfl ?_)
          exact hbel
        · rw [decide_eq_false h64] at Hw0
          have Hw := Lib.hid Hw0
          have Hr := Lib.hid (show wordR (L s) = .err 13 by unfold wordR; rw [hf.out, if_neg hk, if_pos (by omega)])
          clear Hw0 hk hf
          generalize (L s).take k = g at Hw Hr
          go_wp2_with (first | (go_at_call 190; refine (letterR_calls _ _).mono ?_; rintro e w' ⟨rfl, rfl⟩) | (go_at_call 191; refine (digitR_calls _ _).mono ?_; rintro e w' ⟨rfl, rfl⟩))
          refine Hw.out.mono ?_
          rintro e w1 ⟨rfl, hb1⟩
          have ht1 := (hb1.block _ hz).trans Ht.out
          obtain ⟨⟨c0, c1, c2, c3⟩, f0, f1, f2, f3⟩ := four ht1
          have Ht1 := Lib.hid ht1
          have Hb1 := Lib.hid (rStep Hb.out hb1)
          have hz1 : w.heap.size < w1.heap.size := Nat.lt_of_lt_of_le hz hb1.size
          clear hb1 ht1
          unfold tokV
          go_wp2_with fail
          obtain ⟨⟨k0, k1, k2, k3⟩, hbel⟩ := tok_both Hb1.out Ht1.out (.int .u8 1) (.string ⟨g.toArray⟩) (.int .i64 0) (.int .i64 0) (.cells #[.int .u8 1, .string ⟨g.toArray⟩, .int .i64 0, .int .i64 0] 41)
          refine bodyPost_ret (v := .tuple #[tokV 1 g 0 0, .int .i64 0, .int .i64 13]) (by simp [results, Tryz.results170, go_sem, tokV, k0, k1, k2, k3]) rfl (NextP.err Hr.out _ rfl ?_)
          exact hbel

end Go.Proofs.YtcjmhmmjfgjcnaaGreatDoor.Rf
