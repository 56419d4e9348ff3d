/- The reader of numbers. -/
import Derived.Test.YtebmbghlhicjlaaDoorLxC
import Derived.Test.YtebmbghlhicjlaaDoorLxE
namespace Go.Proofs.YtebmbghlhicjlaaDoor.Lx
open Go.RowKit

/-- strconv.ParseUint of a decimal numeral, in two contracts -/
theorem parse_ok (s : ByteArray) (w : World) (hs : s.size ≤ 281474976710656) (u : Nat) (hp : Lib.parseUintB 64 (L s) = .ok u) :
    Calls Tryd.prog 45 #[.string s, .int .i64 10, .int .i64 64] w fun e w' => e = .returned (.tuple #[.int .u64 u, .nilIface]) ∧ Below w.heap.size w w' := by
  refine (Tryd.strconv_ParseUint_10_at64_ok s (by omega) u hp w).mono ?_
  rintro e w' ⟨rfl, hw⟩
  refine ⟨rfl, ?_⟩
  rcases hw with rfl | rfl
  · exact Below.refl _ _
  · exact ⟨rfl, rfl, rfl, by rw [Lib.bytesWorld_size]; omega, fun i hi => Lib.bytesWorld_at_old w _ s i hi⟩
theorem parse_bad (s : ByteArray) (w : World) (hs : s.size ≤ 281474976710656) (he : Env w) (hp : ∀ u, Lib.parseUintB 64 (L s) ≠ .ok u) :
    Calls Tryd.prog 45 #[.string s, .int .i64 10, .int .i64 64] w fun e w' => (∃ (u : Int) (N : Nat), e = .returned (.tuple #[.int .u64 u, .iface 101 (.pointer (some ⟨N, 0, none⟩))])) ∧ Below w.heap.size w w' := by
  cases hq : Lib.parseUintB 64 (L s) with
  | ok u => exact absurd hq (hp u)
  | range =>
    obtain ⟨ev, h1, h2⟩ := he.rng
    refine (Tryd.strconv_ParseUint_10_at64_range s hs hq ev w h1 h2).mono ?_
    rintro e w' ⟨N, rfl, _, _, hb⟩
    exact ⟨⟨_, N, rfl⟩, hb⟩
  | _ =>
    obtain ⟨ev, h1, h2⟩ := he.syn
    refine (Any.strconv_ParseUint_10_at64_syntax Tryd.laysPu14 s hs hq ev w h1 h2).mono ?_
    rintro e w' ⟨N, rfl, _, _, hb⟩
    exact ⟨⟨_, N, rfl⟩, hb⟩

theorem endsB_lt (s : ByteArray) (n : Nat) (h : n < s.size) : endsB (L s) n = !letterB s[n] := by
  unfold endsB
  rw [List.drop_eq_getElem_cons (by rw [L_length]; exact h)]
  rfl
theorem endsB_ge (s : ByteArray) (n : Nat) (h : ¬ n < s.size) : endsB (L s) n = true := by
  unfold endsB
  rw [List.drop_of_length_le (by rw [L_length]; omega)]

set_option maxHeartbeats 1000000 in
set_option maxRecDepth 100000 in
theorem number_calls (s : ByteArray) (w : World) (hs : s.size ≤ maxLen) (hs2 : s.size ≤ 281474976710656) (he : Env w) :
    Calls Tryd.prog 27 #[.string s] w fun e w' => e = .returned (numberR (L s)).val ∧ Below w.heap.size w w' := by
  have hle := runN_le digitB (L s)
  rw [L_length] at hle
  have Hs := Lib.hid hs
  have Hs2 := Lib.hid (show (s.extract 0 (runN digitB (L s))).size ≤ 281474976710656 by
    rw [← L_length, L_take, List.length_take, L_length]; omega)
  unfold maxLen at hs
  clear hs2
  have He := Lib.hid (he.alloc (.cells #[.int .u8 0, .string ⟨#[]⟩, .int .i64 0, .int .i64 0] 26))
  clear he
  unfold numberR
  rw [← L_take]
  cases hp : Lib.parseUintB 64 (L (s.extract 0 (runN digitB (L s)))) with
  | ok u =>
    have Hp := Lib.hid hp
    clear hp
    dsimp only
    by_cases hu : 9223372036854775807 < u
    · have hu' : (9223372036854775807 : Int) < (u : Int) := by omega
      rw [if_pos hu]
      clear hu
      go_enter Tryd.func27, Tryd.ntmps27
      go_wp2_with fail
      refine (runN_digit _ _ Hs.out).mono ?_
      rintro e w1 ⟨rfl, rfl⟩
      go_wp2_with fail
      refine (parse_ok _ _ Hs2.out u Hp.out).mono ?_
      rintro e w1 ⟨rfl, hb1⟩
      have hw1 := new_block _ _ hb1
      have Hb1 := Lib.hid (below_new hb1)
      obtain ⟨⟨c0, c1, c2, c3⟩, f0, f1, f2, f3⟩ := four hw1
      clear hb1 hw1
      go_wp2_with (first | (go_at_call 24; refine (letter_calls _ _).mono ?_; rintro e w' ⟨rfl, rfl⟩))
      refine bodyPost_ret (v := (Rd.err 13).val) (by simp [results, Tryd.results27, go_sem, Rd.val, tok0, Tok.val, c0, c1, c2, c3]) rfl ⟨rfl, below_set4 Hb1.out _ _ _ _ _ _ _ _⟩
    · have hu' : (u : Int) ≤ (9223372036854775807 : Int) := by omega
      have hu0 : (0 : Int) ≤ (u : Int) := by omega
      rw [if_neg hu]
      clear hu
      by_cases h1 : 1 < runN digitB (L s)
      · have hz : 0 < s.size := by omega
        have hh : (L s).head? = some s[0] := by
          rw [List.head?_eq_getElem?, List.getElem?_eq_getElem (by rw [L_length]; exact hz)]
          rfl
        by_cases h48 : s[0] = 48
        · rw [if_pos ⟨h1, by rw [hh, h48]⟩]
          have h48' : ((s[0].toNat : Int) == 48) = true := by rw [h48]; rfl
          clear h48 hh
          go_enter Tryd.func27, Tryd.ntmps27
          go_wp2_with fail
          refine (runN_digit _ _ Hs.out).mono ?_
          rintro e w1 ⟨rfl, rfl⟩
          go_wp2_with fail
          refine (parse_ok _ _ Hs2.out u Hp.out).mono ?_
          rintro e w1 ⟨rfl, hb1⟩
          have hw1 := new_block _ _ hb1
          have Hb1 := Lib.hid (below_new hb1)
          obtain ⟨⟨c0, c1, c2, c3⟩, f0, f1, f2, f3⟩ := four hw1
          clear hb1 hw1
          go_wp2_with (first | (go_at_call 24; refine (letter_calls _ _).mono ?_; rintro e w' ⟨rfl, rfl⟩))
          refine bodyPost_ret (v := (Rd.err 13).val) (by simp [results, Tryd.results27, go_sem, Rd.val, tok0, Tok.val, c0, c1, c2, c3]) rfl ⟨rfl, below_set4 Hb1.out _ _ _ _ _ _ _ _⟩
        · rw [if_neg (by rw [hh]; simp [h48])]
          have h48' : ((s[0].toNat : Int) == 48) = false := by
            rw [beq_eq_false_iff_ne]; intro h; exact h48 (by rw [← UInt8.toNat_inj]; show s[0].toNat = 48; omega)
          clear h48 hh
          by_cases hn : runN digitB (L s) < s.size
          · have he : endsB (L s) (runN digitB (L s)) = !letterB s[runN digitB (L s)] := endsB_lt s _ hn
            rw [he]
            cases hl : letterB s[runN digitB (L s)]
            · simp only [Bool.not_false, if_true]
              go_enter Tryd.func27, Tryd.ntmps27
              go_wp2_with fail
              refine (runN_digit _ _ Hs.out).mono ?_
              rintro e w1 ⟨rfl, rfl⟩
              go_wp2_with fail
              refine (parse_ok _ _ Hs2.out u Hp.out).mono ?_
              rintro e w1 ⟨rfl, hb1⟩
              have hw1 := new_block _ _ hb1
              have Hb1 := Lib.hid (below_new hb1)
              obtain ⟨⟨c0, c1, c2, c3⟩, f0, f1, f2, f3⟩ := four hw1
              clear hb1 hw1
              go_wp2_with (first | (go_at_call 24; refine (letter_calls _ _).mono ?_; rintro e w' ⟨rfl, rfl⟩))
              refine bodyPost_ret (v := (Rd.ok ⟨3, [], u, 0⟩ (runN digitB (L s))).val) (by simp [results, Tryd.results27, go_sem, Rd.val, Tok.val, c0, c1, c2, c3]) rfl ⟨rfl, below_set4 Hb1.out _ _ _ _ _ _ _ _⟩
            · simp only [Bool.not_true, Bool.false_eq_true, if_false]
              go_enter Tryd.func27, Tryd.ntmps27
              go_wp2_with fail
              refine (runN_digit _ _ Hs.out).mono ?_
              rintro e w1 ⟨rfl, rfl⟩
              go_wp2_with fail
              refine (parse_ok _ _ Hs2.out u Hp.out).mono ?_
              rintro e w1 ⟨rfl, hb1⟩
              have hw1 := new_block _ _ hb1
              have Hb1 := Lib.hid (below_new hb1)
              obtain ⟨⟨c0, c1, c2, c3⟩, f0, f1, f2, f3⟩ := four hw1
              clear hb1 hw1
              go_wp2_with (first | (go_at_call 24; refine (letter_calls _ _).mono ?_; rintro e w' ⟨rfl, rfl⟩))
              refine bodyPost_ret (v := (Rd.err 13).val) (by simp [results, Tryd.results27, go_sem, Rd.val, tok0, Tok.val, c0, c1, c2, c3]) rfl ⟨rfl, below_set4 Hb1.out _ _ _ _ _ _ _ _⟩
          · rw [endsB_ge s _ hn, if_pos rfl]
            go_enter Tryd.func27, Tryd.ntmps27
            go_wp2_with fail
            refine (runN_digit _ _ Hs.out).mono ?_
            rintro e w1 ⟨rfl, rfl⟩
            go_wp2_with fail
            refine (parse_ok _ _ Hs2.out u Hp.out).mono ?_
            rintro e w1 ⟨rfl, hb1⟩
            have hw1 := new_block _ _ hb1
            have Hb1 := Lib.hid (below_new hb1)
            obtain ⟨⟨c0, c1, c2, c3⟩, f0, f1, f2, f3⟩ := four hw1
            clear hb1 hw1
            go_wp2_with (first | (go_at_call 24; refine (letter_calls _ _).mono ?_; rintro e w' ⟨rfl, rfl⟩))
            refine bodyPost_ret (v := (Rd.ok ⟨3, [], u, 0⟩ (runN digitB (L s))).val) (by simp [results, Tryd.results27, go_sem, Rd.val, Tok.val, c0, c1, c2, c3]) rfl ⟨rfl, below_set4 Hb1.out _ _ _ _ _ _ _ _⟩
      · rw [if_neg (fun h => h1 h.1)]
        by_cases hn : runN digitB (L s) < s.size
        · have he : endsB (L s) (runN digitB (L s)) = !letterB s[runN digitB (L s)] := endsB_lt s _ hn
          rw [he]
          cases hl : letterB s[runN digitB (L s)]
          · simp only [Bool.not_false, if_true]
            go_enter Tryd.func27, Tryd.ntmps27
            go_wp2_with fail
            refine (runN_digit _ _ Hs.out).mono ?_
            rintro e w1 ⟨rfl, rfl⟩
            go_wp2_with fail
            refine (parse_ok _ _ Hs2.out u Hp.out).mono ?_
            rintro e w1 ⟨rfl, hb1⟩
            have hw1 := new_block _ _ hb1
            have Hb1 := Lib.hid (below_new hb1)
            obtain ⟨⟨c0, c1, c2, c3⟩, f0, f1, f2, f3⟩ := four hw1
            clear hb1 hw1
            go_wp2_with (first | (go_at_call 24; refine (letter_calls _ _).mono ?_; rintro e w' ⟨rfl, rfl⟩))
            refine bodyPost_ret (v := (Rd.ok ⟨3, [], u, 0⟩ (runN digitB (L s))).val) (by simp [results, Tryd.results27, go_sem, Rd.val, Tok.val, c0, c1, c2, c3]) rfl ⟨rfl, below_set4 Hb1.out _ _ _ _ _ _ _ _⟩
          · simp only [Bool.not_true, Bool.false_eq_true, if_false]
            go_enter Tryd.func27, Tryd.ntmps27
            go_wp2_with fail
            refine (runN_digit _ _ Hs.out).mono ?_
            rintro e w1 ⟨rfl, rfl⟩
            go_wp2_with fail
            refine (parse_ok _ _ Hs2.out u Hp.out).mono ?_
            rintro e w1 ⟨rfl, hb1⟩
            have hw1 := new_block _ _ hb1
            have Hb1 := Lib.hid (below_new hb1)
            obtain ⟨⟨c0, c1, c2, c3⟩, f0, f1, f2, f3⟩ := four hw1
            clear hb1 hw1
            go_wp2_with (first | (go_at_call 24; refine (letter_calls _ _).mono ?_; rintro e w' ⟨rfl, rfl⟩))
            refine bodyPost_ret (v := (Rd.err 13).val) (by simp [results, Tryd.results27, go_sem, Rd.val, tok0, Tok.val, c0, c1, c2, c3]) rfl ⟨rfl, below_set4 Hb1.out _ _ _ _ _ _ _ _⟩
        · rw [endsB_ge s _ hn, if_pos rfl]
          go_enter Tryd.func27, Tryd.ntmps27
          go_wp2_with fail
          refine (runN_digit _ _ Hs.out).mono ?_
          rintro e w1 ⟨rfl, rfl⟩
          go_wp2_with fail
          refine (parse_ok _ _ Hs2.out u Hp.out).mono ?_
          rintro e w1 ⟨rfl, hb1⟩
          have hw1 := new_block _ _ hb1
          have Hb1 := Lib.hid (below_new hb1)
          obtain ⟨⟨c0, c1, c2, c3⟩, f0, f1, f2, f3⟩ := four hw1
          clear hb1 hw1
          go_wp2_with (first | (go_at_call 24; refine (letter_calls _ _).mono ?_; rintro e w' ⟨rfl, rfl⟩))
          refine bodyPost_ret (v := (Rd.ok ⟨3, [], u, 0⟩ (runN digitB (L s))).val) (by simp [results, Tryd.results27, go_sem, Rd.val, Tok.val, c0, c1, c2, c3]) rfl ⟨rfl, below_set4 Hb1.out _ _ _ _ _ _ _ _⟩
  | range =>
    have Hp := Lib.hid hp
    clear hp
    dsimp only
    go_enter Tryd.func27, Tryd.ntmps27
    go_wp2_with fail
    refine (runN_digit _ _ Hs.out).mono ?_
    rintro e w1 ⟨rfl, rfl⟩
    go_wp2_with fail
    refine (parse_bad _ _ Hs2.out He.out (fun u => by rw [Hp.out]; simp)).mono ?_
    rintro e w1 ⟨⟨u, N, rfl⟩, hb1⟩
    have hw1 := new_block _ _ hb1
    have Hb1 := Lib.hid (below_new hb1)
    obtain ⟨⟨c0, c1, c2, c3⟩, f0, f1, f2, f3⟩ := four hw1
    clear hb1 hw1
    go_wp2_with (first | (go_at_call 24; refine (letter_calls _ _).mono ?_; rintro e w' ⟨rfl, rfl⟩))
    refine bodyPost_ret (v := (Rd.err 13).val) (by simp [results, Tryd.results27, go_sem, Rd.val, tok0, Tok.val, c0, c1, c2, c3]) rfl ⟨rfl, below_set4 Hb1.out _ _ _ _ _ _ _ _⟩
  | _ =>
    have Hp := Lib.hid hp
    clear hp
    dsimp only
    go_enter Tryd.func27, Tryd.ntmps27
    go_wp2_with fail
    refine (runN_digit _ _ Hs.out).mono ?_
    rintro e w1 ⟨rfl, rfl⟩
    go_wp2_with fail
    refine (parse_bad _ _ Hs2.out He.out (fun u => by rw [Hp.out]; simp)).mono ?_
    rintro e w1 ⟨⟨u, N, rfl⟩, hb1⟩
    have hw1 := new_block _ _ hb1
    have Hb1 := Lib.hid (below_new hb1)
    obtain ⟨⟨c0, c1, c2, c3⟩, f0, f1, f2, f3⟩ := four hw1
    clear hb1 hw1
    go_wp2_with (first | (go_at_call 24; refine (letter_calls _ _).mono ?_; rintro e w' ⟨rfl, rfl⟩))
    refine bodyPost_ret (v := (Rd.err 13).val) (by simp [results, Tryd.results27, go_sem, Rd.val, tok0, Tok.val, c0, c1, c2, c3]) rfl ⟨rfl, below_set4 Hb1.out _ _ _ _ _ _ _ _⟩

end Go.Proofs.YtebmbghlhicjlaaDoor.Lx
