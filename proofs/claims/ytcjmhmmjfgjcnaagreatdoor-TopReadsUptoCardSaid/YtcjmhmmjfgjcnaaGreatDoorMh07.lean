/- Parts: LxD LxH LxQ. -/
import Derived.Test.YtcjmhmmjfgjcnaaGreatDoorMh01
import Derived.Test.YtcjmhmmjfgjcnaaGreatDoorMh03
import Derived.Test.YtcjmhmmjfgjcnaaGreatDoorMh05
import Derived.Test.YtcjmhmmjfgjcnaaGreatDoorMh06
import Derived.Deep.QuietTactic
import Derived.BigQuiet
import Derived.BigRegion
import Derived.StillTailTactics

/- The reader of numbers. -/
namespace Go.Proofs.YtcjmhmmjfgjcnaaGreatDoor.Lx
open Go.RowKit

theorem parse_ok (s : ByteArray) (w : World) (hs : s.size ≤ 281474976710656) (u : Nat) (hp : Lib.parseUintB 64 (L s) = .ok u) :
    Calls Tryz.prog 131 #[.string s, .int .i64 10, .int .i64 64] w fun e w' => e = .returned (.tuple #[.int .u64 u, .nilIface]) ∧ Below w.heap.size w w' := by
  refine (Tryz.strconv_ParseUint_10_at64_ok s (by omega) u hp w).mono ?_
  rintro e w' ⟨rfl, hw⟩
  refine ⟨rfl, ?_⟩
  rcases hw with rfl | rfl
  · exact Below.refl _ _
  · exact ⟨rfl, rfl, rfl, by rw [Lib.bytesWorld_size]; omega, fun i hi => Lib.bytesWorld_at_old w _ s i hi⟩
theorem parse_bad (s : ByteArray) (w : World) (hs : s.size ≤ 281474976710656) (he : Env w) (hp : ∀ u, Lib.parseUintB 64 (L s) ≠ .ok u) :
    Calls Tryz.prog 131 #[.string s, .int .i64 10, .int .i64 64] w fun e w' => (∃ (u : Int) (N : Nat), e = .returned (.tuple #[.int .u64 u, .iface 217 (.pointer (some ⟨N, 0, none⟩))])) ∧ Below w.heap.size w w' := by
  cases hq : Lib.parseUintB 64 (L s) with
  | ok u => exact absurd hq (hp u)
  | range =>
    obtain ⟨ev, h1, h2⟩ := he.rng
    refine (Tryz.strconv_ParseUint_10_at64_range s hs hq ev w h1 h2).mono ?_
    rintro e w' ⟨N, rfl, _, _, hb⟩
    exact ⟨⟨_, N, rfl⟩, hb⟩
  | _ =>
    obtain ⟨ev, h1, h2⟩ := he.syn
    refine (Any.strconv_ParseUint_10_at64_syntax Tryz.laysPu14 s hs hq ev w h1 h2).mono ?_
    rintro e w' ⟨N, rfl, _, _, hb⟩
    exact ⟨⟨_, N, rfl⟩, hb⟩

theorem endsB_lt (s : ByteArray) (n : Nat) (h : n < s.size) : endsB (L s) n = !letterB s[n] := by
  unfold endsB
  rw [List.drop_eq_getElem_cons (by rw [L_length]; exact h)]
  rfl
theorem endsB_ge (s : ByteArray) (n : Nat) (h : ¬ n < s.size) : endsB (L s) n = true := by
  unfold endsB
  rw [List.drop_of_length_le (by rw [L_length]; omega)]

set_option maxHeartbeats 1000000 in
set_option maxRecDepth 100000 in
theorem number_calls (s : ByteArray) (w : World) (hs : s.size ≤ maxLen) (hs2 : s.size ≤ 281474976710656) (he : Env w) :
    Calls Tryz.prog 93 #[.string s] w fun e w' => e = .returned (numberR (L s)).val ∧ Below w.heap.size w w' := by
  have hle := runN_le digitB (L s)
  rw [L_length] at hle
  have Hs := Lib.hid hs
  have Hs2 := Lib.hid (show (s.extract 0 (runN digitB (L s))).size ≤ 281474976710656 by
    rw [← L_length, L_take, List.length_take, L_length]; omega)
  unfold maxLen at hs
  clear hs2
  have He := Lib.hid (he.alloc (.cells #[.int .u8 0, .string ⟨#[]⟩, .int .i64 0, .int .i64 0] 41))
  clear he
  unfold numberR
  rw [← L_take]
  cases hp : Lib.parseUintB 64 (L (s.extract 0 (runN digitB (L s)))) with
  | ok u =>
    have Hp := Lib.hid hp
    clear hp
    dsimp only
    by_cases hu : 9223372036854775807 < u
    · have hu' : (9223372036854775807 : Int) < (u : Int) := by omega
      rw [if_pos hu]
      clear hu
      go_enter Tryz.func93, Tryz.ntmps93
      go_wp2_with fail
      refine (runN_digit _ _ Hs.out).mono ?_
      rintro e w1 ⟨rfl, rfl⟩
      go_wp2_with fail
      refine (parse_ok _ _ Hs2.out u Hp.out).mono ?_
      rintro e w1 ⟨rfl, hb1⟩
      have hw1 := new_block _ _ hb1
      have Hb1 := Lib.hid (below_new hb1)
      obtain ⟨⟨c0, c1, c2, c3⟩, f0, f1, f2, f3⟩ := four hw1
      clear hb1 hw1
      go_wp2_with (first | (go_at_call 90; refine (letter_calls _ _).mono ?_; rintro e w' ⟨rfl, rfl⟩))
      refine bodyPost_ret (v := (Rd.err 13).val) (by simp [results, Tryz.results93, go_sem, Rd.val, tok0, Tok.val, c0, c1, c2, c3]) rfl ⟨rfl, below_set4 Hb1.out _ _ _ _ _ _ _ _⟩
    · have hu' : (u : Int) ≤ (9223372036854775807 : Int) := by omega
      have hu0 : (0 : Int) ≤ (u : Int) := by omega
      rw [if_neg hu]
      clear hu
      by_cases h1 : 1 < runN digitB (L s)
      · have hz : 0 < s.size := by omega
        have hh : (L s).head? = some s[0] := by
          rw [List.head?_eq_getElem?, List.getElem?_eq_getElem (by rw [L_length]; exact hz)]
          rfl
        by_cases h48 : s[0] = 48
        · rw [if_pos ⟨h1, by rw [hh, h48]⟩]
          have h48' : ((s[0].toNat : Int) == 48) = true := by rw [h48]; rfl
          clear h48 hh
          go_enter Tryz.func93, Tryz.ntmps93
          go_wp2_with fail
          refine (runN_digit _ _ Hs.out).mono ?_
          rintro e w1 ⟨rfl, rfl⟩
          go_wp2_with fail
          refine (parse_ok _ _ Hs2.out u Hp.out).mono ?_
          rintro e w1 ⟨rfl, hb1⟩
          have hw1 := new_block _ _ hb1
          have Hb1 := Lib.hid (below_new hb1)
          obtain ⟨⟨c0, c1, c2, c3⟩, f0, f1, f2, f3⟩ := four hw1
          clear hb1 hw1
          go_wp2_with (first | (go_at_call 90; refine (letter_calls _ _).mono ?_; rintro e w' ⟨rfl, rfl⟩))
          refine bodyPost_ret (v := (Rd.err 13).val) (by simp [results, Tryz.results93, go_sem, Rd.val, tok0, Tok.val, c0, c1, c2, c3]) rfl ⟨rfl, below_set4 Hb1.out _ _ _ _ _ _ _ _⟩
        · rw [if_neg (by rw [hh]; simp [h48])]
          have h48' : ((s[0].toNat : Int) == 48) = false := by
            rw [beq_eq_false_iff_ne]; intro h; exact h48 (by rw [← UInt8.toNat_inj]; show s[0].toNat = 48; omega)
          clear h48 hh
          by_cases hn : runN digitB (L s) < s.size
          · have he : endsB (L s) (runN digitB (L s)) = !letterB s[runN digitB (L s)] := endsB_lt s _ hn
            rw [he]
            cases hl : letterB s[runN digitB (L s)]
            · simp only [Bool.not_false, if_true]
              go_enter Tryz.func93, Tryz.ntmps93
              go_wp2_with fail
              refine (runN_digit _ _ Hs.out).mono ?_
              rintro e w1 ⟨rfl, rfl⟩
              go_wp2_with fail
              refine (parse_ok _ _ Hs2.out u Hp.out).mono ?_
              rintro e w1 ⟨rfl, hb1⟩
              have hw1 := new_block _ _ hb1
              have Hb1 := Lib.hid (below_new hb1)
              obtain ⟨⟨c0, c1, c2, c3⟩, f0, f1, f2, f3⟩ := four hw1
              clear hb1 hw1
              go_wp2_with (first | (go_at_call 90; refine (letter_calls _ _).mono ?_; rintro e w' ⟨rfl, rfl⟩))
              refine bodyPost_ret (v := (Rd.ok ⟨3, [], u, 0⟩ (runN digitB (L s))).val) (by simp [results, Tryz.results93, go_sem, Rd.val, Tok.val, c0, c1, c2, c3]) rfl ⟨rfl, below_set4 Hb1.out _ _ _ _ _ _ _ _⟩
            · simp only [Bool.not_true, Bool.false_eq_true, if_false]
              go_enter Tryz.func93, Tryz.ntmps93
              go_wp2_with fail
              refine (runN_digit _ _ Hs.out).mono ?_
              rintro e w1 ⟨rfl, rfl⟩
              go_wp2_with fail
              refine (parse_ok _ _ Hs2.out u Hp.out).mono ?_
              rintro e w1 ⟨rfl, hb1⟩
              have hw1 := new_block _ _ hb1
              have Hb1 := Lib.hid (below_new hb1)
              obtain ⟨⟨c0, c1, c2, c3⟩, f0, f1, f2, f3⟩ := four hw1
              clear hb1 hw1
              go_wp2_with (first | (go_at_call 90; refine (letter_calls _ _).mono ?_; rintro e w' ⟨rfl, rfl⟩))
              refine bodyPost_ret (v := (Rd.err 13).val) (by simp [results, Tryz.results93, go_sem, Rd.val, tok0, Tok.val, c0, c1, c2, c3]) rfl ⟨rfl, below_set4 Hb1.out _ _ _ _ _ _ _ _⟩
          · rw [endsB_ge s _ hn, if_pos rfl]
            go_enter Tryz.func93, Tryz.ntmps93
            go_wp2_with fail
            refine (runN_digit _ _ Hs.out).mono ?_
            rintro e w1 ⟨rfl, rfl⟩
            go_wp2_with fail
            refine (parse_ok _ _ Hs2.out u Hp.out).mono ?_
            rintro e w1 ⟨rfl, hb1⟩
            have hw1 := new_block _ _ hb1
            have Hb1 := Lib.hid (below_new hb1)
            obtain ⟨⟨c0, c1, c2, c3⟩, f0, f1, f2, f3⟩ := four hw1
            clear hb1 hw1
            go_wp2_with (first | (go_at_call 90; refine (letter_calls _ _).mono ?_; rintro e w' ⟨rfl, rfl⟩))
            refine bodyPost_ret (v := (Rd.ok ⟨3, [], u, 0⟩ (runN digitB (L s))).val) (by simp [results, Tryz.results93, go_sem, Rd.val, Tok.val, c0, c1, c2, c3]) rfl ⟨rfl, below_set4 Hb1.out _ _ _ _ _ _ _ _⟩
      · rw [if_neg (fun h => h1 h.1)]
        by_cases hn : runN digitB (L s) < s.size
        · have he : endsB (L s) (runN digitB (L s)) = !letterB s[runN digitB (L s)] := endsB_lt s _ hn
          rw [he]
          cases hl : letterB s[runN digitB (L s)]
          · simp only [Bool.not_false, if_true]
            go_enter Tryz.func93, Tryz.ntmps93
            go_wp2_with fail
            refine (runN_digit _ _ Hs.out).mono ?_
            rintro e w1 ⟨rfl, rfl⟩
            go_wp2_with fail
            refine (parse_ok _ _ Hs2.out u Hp.out).mono ?_
            rintro e w1 ⟨rfl, hb1⟩
            have hw1 := new_block _ _ hb1
            have Hb1 := Lib.hid (below_new hb1)
            obtain ⟨⟨c0, c1, c2, c3⟩, f0, f1, f2, f3⟩ := four hw1
            clear hb1 hw1
            go_wp2_with (first | (go_at_call 90; refine (letter_calls _ _).mono ?_; rintro e w' ⟨rfl, rfl⟩))
            refine bodyPost_ret (v := (Rd.ok ⟨3, [], u, 0⟩ (runN digitB (L s))).val) (by simp [results, Tryz.results93, go_sem, Rd.val, Tok.val, c0, c1, c2, c3]) rfl ⟨rfl, below_set4 Hb1.out _ _ _ _ _ _ _ _⟩
          · simp only [Bool.not_true, Bool.false_eq_true, if_false]
            go_enter Tryz.func93, Tryz.ntmps93
            go_wp2_with fail
            refine (runN_digit _ _ Hs.out).mono ?_
            rintro e w1 ⟨rfl, rfl⟩
            go_wp2_with fail
            refine (parse_ok _ _ Hs2.out u Hp.out).mono ?_
            rintro e w1 ⟨rfl, hb1⟩
            have hw1 := new_block _ _ hb1
            have Hb1 := Lib.hid (below_new hb1)
            obtain ⟨⟨c0, c1, c2, c3⟩, f0, f1, f2, f3⟩ := four hw1
            clear hb1 hw1
            go_wp2_with (first | (go_at_call 90; refine (letter_calls _ _).mono ?_; rintro e w' ⟨rfl, rfl⟩))
            refine bodyPost_ret (v := (Rd.err 13).val) (by simp [results, Tryz.results93, go_sem, Rd.val, tok0, Tok.val, c0, c1, c2, c3]) rfl ⟨rfl, below_set4 Hb1.out _ _ _ _ _ _ _ _⟩
        · rw [endsB_ge s _ hn, if_pos rfl]
          go_enter Tryz.func93, Tryz.ntmps93
          go_wp2_with fail
          refine (runN_digit _ _ Hs.out).mono ?_
          rintro e w1 ⟨rfl, rfl⟩
          go_wp2_with fail
          refine (parse_ok _ _ Hs2.out u Hp.out).mono ?_
          rintro e w1 ⟨rfl, hb1⟩
          have hw1 := new_block _ _ hb1
          have Hb1 := Lib.hid (below_new hb1)
          obtain ⟨⟨c0, c1, c2, c3⟩, f0, f1, f2, f3⟩ := four hw1
          clear hb1 hw1
          go_wp2_with (first | (go_at_call 90; refine (letter_calls _ _).mono ?_; rintro e w' ⟨rfl, rfl⟩))
          refine bodyPost_ret (v := (Rd.ok ⟨3, [], u, 0⟩ (runN digitB (L s))).val) (by simp [results, Tryz.results93, go_sem, Rd.val, Tok.val, c0, c1, c2, c3]) rfl ⟨rfl, below_set4 Hb1.out _ _ _ _ _ _ _ _⟩
  | range =>
    have Hp := Lib.hid hp
    clear hp
    dsimp only
    go_enter Tryz.func93, Tryz.ntmps93
    go_wp2_with fail
    refine (runN_digit _ _ Hs.out).mono ?_
    rintro e w1 ⟨rfl, rfl⟩
    go_wp2_with fail
    refine (parse_bad _ _ Hs2.out He.out (fun u => by rw [Hp.out]; simp)).mono ?_
    rintro e w1 ⟨⟨u, N, rfl⟩, hb1⟩
    have hw1 := new_block _ _ hb1
    have Hb1 := Lib.hid (below_new hb1)
    obtain ⟨⟨c0, c1, c2, c3⟩, f0, f1, f2, f3⟩ := four hw1
    clear hb1 hw1
    go_wp2_with (first | (go_at_call 90; refine (letter_calls _ _).mono ?_; rintro e w' ⟨rfl, rfl⟩))
    refine bodyPost_ret (v := (Rd.err 13).val) (by simp [results, Tryz.results93, go_sem, Rd.val, tok0, Tok.val, c0, c1, c2, c3]) rfl ⟨rfl, below_set4 Hb1.out _ _ _ _ _ _ _ _⟩
  | _ =>
    have Hp := Lib.hid hp
    clear hp
    dsimp only
    go_enter Tryz.func93, Tryz.ntmps93
    go_wp2_with fail
    refine (runN_digit _ _ Hs.out).mono ?_
    rintro e w1 ⟨rfl, rfl⟩
    go_wp2_with fail
    refine (parse_bad _ _ Hs2.out He.out (fun u => by rw [Hp.out]; simp)).mono ?_
    rintro e w1 ⟨⟨u, N, rfl⟩, hb1⟩
    have hw1 := new_block _ _ hb1
    have Hb1 := Lib.hid (below_new hb1)
    obtain ⟨⟨c0, c1, c2, c3⟩, f0, f1, f2, f3⟩ := four hw1
    clear hb1 hw1
    go_wp2_with (first | (go_at_call 90; refine (letter_calls _ _).mono ?_; rintro e w' ⟨rfl, rfl⟩))
    refine bodyPost_ret (v := (Rd.err 13).val) (by simp [results, Tryz.results93, go_sem, Rd.val, tok0, Tok.val, c0, c1, c2, c3]) rfl ⟨rfl, below_set4 Hb1.out _ _ _ _ _ _ _ _⟩

end Go.Proofs.YtcjmhmmjfgjcnaaGreatDoor.Lx

/- The forms of tokens, and which one begins with a byte. -/
namespace Go.Proofs.YtcjmhmmjfgjcnaaGreatDoor.Lx
open Go.RowKit

theorem quiet_of_eq {P : Program} {f : FuncId} {args : Array Value} {w : World} {n : Nat} {v : Value}
    (h : Calls P f args (w.drewN n) fun e w' => e = .returned v ∧ w.drewN n = w') : Calls P f args (w.drewN n) fun e w'' => e = .returned v ∧ ∃ m, w'' = w.drewN m :=
  h.mono fun _ _ ⟨he, hm⟩ => ⟨he, n, hm.symm⟩

abbrev fnv (f : Nat) : Value := .func (.func f) #[] #[]
structure FormsAt (w : World) (B : Nat) : Prop where
  c0 : w.cell? ⟨B, 0, none⟩ = some (fnv 90)
  c1 : w.cell? ⟨B, 1, none⟩ = some (fnv 91)
  c2 : w.cell? ⟨B, 2, none⟩ = some (fnv 92)
  c3 : w.cell? ⟨B, 3, none⟩ = some (fnv 93)
  c4 : w.cell? ⟨B, 4, none⟩ = some (fnv 94)
  c5 : w.cell? ⟨B, 5, none⟩ = some (fnv 95)
  c6 : w.cell? ⟨B, 6, none⟩ = some (fnv 96)
  c7 : w.cell? ⟨B, 7, none⟩ = some (fnv 97)
theorem FormsAt.below {w w' : World} {B : Nat} (h : FormsAt w B) (hb : Below w.heap.size w w') (hB : B < w.heap.size) : FormsAt w' B :=
  ⟨(hb.cell (p := ⟨B, 0, none⟩) hB).trans h.c0, (hb.cell (p := ⟨B, 1, none⟩) hB).trans h.c1, (hb.cell (p := ⟨B, 2, none⟩) hB).trans h.c2, (hb.cell (p := ⟨B, 3, none⟩) hB).trans h.c3, (hb.cell (p := ⟨B, 4, none⟩) hB).trans h.c4, (hb.cell (p := ⟨B, 5, none⟩) hB).trans h.c5, (hb.cell (p := ⟨B, 6, none⟩) hB).trans h.c6, (hb.cell (p := ⟨B, 7, none⟩) hB).trans h.c7⟩

theorem forms_calls (w : World) : Calls Tryz.prog 44 #[] w fun e w' => e = .returned (.slice (some ⟨w.heap.size, 0, none⟩) 4 4) ∧ Below w.heap.size w w' ∧ w.heap.size < w'.heap.size ∧ FormsAt w' w.heap.size := by
  go_enter Tryz.func44, Tryz.ntmps44
  go_wp2
  go_ret
  refine ⟨rfl, (Below.refl _ _).alloc (Nat.le_refl _) _, by simp, ?_⟩
  constructor <;> (rw [World.cell?_alloc_new]; rfl)

theorem begins_letter (rd : Value) (s : ByteArray) (k : Nat) (hk : k < s.size) (ps pa : Addr) (w : World) (hs0 : w.cell? ps = some (.string s)) (ha0 : w.cell? pa = some (.int .i64 k)) :
    Calls Tryz.prog 48 #[.agg #[fnv 90, rd], .pointer (some ps), .pointer (some pa)] w fun e w' => e = .returned (.bool (letterB s[k])) ∧ Below w.heap.size w w' := by
  have hs := (World.cell?_alloc_lt w (.cells #[fnv 90, rd] 88) ps (World.block_lt_of_cell? w ps hs0)).trans hs0
  have ha := (World.cell?_alloc_lt w (.cells #[fnv 90, rd] 88) pa (World.block_lt_of_cell? w pa ha0)).trans ha0
  clear hs0 ha0
  go_enter Tryz.func48, Tryz.ntmps48
  go_wp2
  go_quiet ((go_at_call 90; exact quiet_of_eq (letter_calls _ _)))
  go_wp2
  go_ret
  exact ⟨rfl, below_drewN ((Below.refl _ _).alloc (Nat.le_refl _) _) _⟩

theorem begins_digit (rd : Value) (s : ByteArray) (k : Nat) (hk : k < s.size) (ps pa : Addr) (w : World) (hs0 : w.cell? ps = some (.string s)) (ha0 : w.cell? pa = some (.int .i64 k)) :
    Calls Tryz.prog 48 #[.agg #[fnv 92, rd], .pointer (some ps), .pointer (some pa)] w fun e w' => e = .returned (.bool (digitB s[k])) ∧ Below w.heap.size w w' := by
  have hs := (World.cell?_alloc_lt w (.cells #[fnv 92, rd] 88) ps (World.block_lt_of_cell? w ps hs0)).trans hs0
  have ha := (World.cell?_alloc_lt w (.cells #[fnv 92, rd] 88) pa (World.block_lt_of_cell? w pa ha0)).trans ha0
  clear hs0 ha0
  go_enter Tryz.func48, Tryz.ntmps48
  go_wp2
  go_quiet ((go_at_call 92; exact quiet_of_eq (digit_calls _ _)))
  go_wp2
  go_ret
  exact ⟨rfl, below_drewN ((Below.refl _ _).alloc (Nat.le_refl _) _) _⟩

theorem begins_quote (rd : Value) (s : ByteArray) (k : Nat) (hk : k < s.size) (ps pa : Addr) (w : World) (hs0 : w.cell? ps = some (.string s)) (ha0 : w.cell? pa = some (.int .i64 k)) :
    Calls Tryz.prog 48 #[.agg #[fnv 94, rd], .pointer (some ps), .pointer (some pa)] w fun e w' => e = .returned (.bool (quoteB s[k])) ∧ Below w.heap.size w w' := by
  have hs := (World.cell?_alloc_lt w (.cells #[fnv 94, rd] 88) ps (World.block_lt_of_cell? w ps hs0)).trans hs0
  have ha := (World.cell?_alloc_lt w (.cells #[fnv 94, rd] 88) pa (World.block_lt_of_cell? w pa ha0)).trans ha0
  clear hs0 ha0
  go_enter Tryz.func48, Tryz.ntmps48
  go_wp2
  go_quiet ((go_at_call 94; exact quiet_of_eq (quote_calls _ _)))
  go_wp2
  go_ret
  exact ⟨rfl, below_drewN ((Below.refl _ _).alloc (Nat.le_refl _) _) _⟩

theorem begins_any (rd : Value) (s : ByteArray) (k : Nat) (hk : k < s.size) (ps pa : Addr) (w : World) (hs0 : w.cell? ps = some (.string s)) (ha0 : w.cell? pa = some (.int .i64 k)) :
    Calls Tryz.prog 48 #[.agg #[fnv 96, rd], .pointer (some ps), .pointer (some pa)] w fun e w' => e = .returned (.bool true) ∧ Below w.heap.size w w' := by
  have hs := (World.cell?_alloc_lt w (.cells #[fnv 96, rd] 88) ps (World.block_lt_of_cell? w ps hs0)).trans hs0
  have ha := (World.cell?_alloc_lt w (.cells #[fnv 96, rd] 88) pa (World.block_lt_of_cell? w pa ha0)).trans ha0
  clear hs0 ha0
  go_enter Tryz.func48, Tryz.ntmps48
  go_wp2
  go_quiet ((go_at_call 96; exact quiet_of_eq (any_calls _ _)))
  go_wp2
  go_ret
  exact ⟨rfl, below_drewN ((Below.refl _ _).alloc (Nat.le_refl _) _) _⟩


def beginsB : Nat → UInt8 → Bool
  | 0, c => letterB c
  | 1, c => digitB c
  | 2, c => quoteB c
  | _, _ => true
def formIdx (c : UInt8) : Nat := if letterB c then 0 else if digitB c then 1 else if quoteB c then 2 else 3
structure Idx (k : Nat) (c : UInt8) : Prop where
  le : k ≤ 3
  no : ∀ j, j < k → beginsB j c = false
theorem Idx.hit {k : Nat} {c : UInt8} (h : Idx k c) (hb : beginsB k c = true) : formIdx c = k := by
  have hle := h.le
  have h0 := h.no 0
  have h1 := h.no 1
  have h2 := h.no 2
  simp only [beginsB] at h0 h1 h2
  unfold formIdx
  match k, hle with
  | 0, _ => simp only [beginsB] at hb; simp [hb]
  | 1, _ => simp only [beginsB] at hb; simp [hb, h0]
  | 2, _ => simp only [beginsB] at hb; simp [hb, h0, h1]
  | 3, _ => simp [h0, h1, h2]
theorem Idx.miss {k : Nat} {c : UInt8} (h : Idx k c) (hb : beginsB k c = false) : Idx (k + 1) c := by
  refine ⟨?_, fun j hj => ?_⟩
  · have := h.le
    rcases Nat.lt_or_ge k 3 with h' | h'
    · omega
    · obtain rfl : k = 3 := by omega
      simp [beginsB] at hb
  · by_cases e : j = k
    · subst e; exact hb
    · exact h.no j (by omega)

structure IdxSt (s : ByteArray) (at_ : Nat) (B : Nat) (ps pa : Addr) (w wr : World) : Prop where
  bel : Below w.heap.size w wr
  frm : FormsAt wr B
  big : B < w.heap.size
  str : wr.cell? ps = some (.string s)
  pos : wr.cell? pa = some (.int .i64 at_)
theorem IdxSt.next {s : ByteArray} {at_ B : Nat} {ps pa : Addr} {w wr w' : World} (h : IdxSt s at_ B ps pa w wr) (hb : Below wr.heap.size wr w') : IdxSt s at_ B ps pa w w' :=
  ⟨h.bel.trans (hb.mono h.bel.size), h.frm.below hb (Nat.lt_of_lt_of_le h.big h.bel.size), h.big, (hb.cell (World.block_lt_of_cell? _ _ h.str)).trans h.str, (hb.cell (World.block_lt_of_cell? _ _ h.pos)).trans h.pos⟩

set_option maxHeartbeats 1000000 in
set_option maxRecDepth 100000 in
theorem indexFunc_calls (s : ByteArray) (k : Nat) (hk : k < s.size) (B : Nat) (ps pa : Addr) (w : World) (h : IdxSt s k B ps pa w w) :
    Calls Tryz.prog 47 #[.slice (some ⟨B, 0, none⟩) 4 4, .func (.func 48) #[] #[.pointer (some ps), .pointer (some pa)]] w
      fun e w' => e = .returned (.int .i64 (formIdx s[k])) ∧ Below w.heap.size w w' := by
  have H0 := Lib.hid h
  clear h
  go_enter Tryz.func47, Tryz.ntmps47
  go_wp2
  go_loopw [8] (fun v wr => ∃ j : Nat, v = .int .i64 j ∧ Hid (Idx j s[k]) ∧ Hid (IdxSt s k B ps pa w wr)) (fun v _ => 4 - (intOf v).toNat)
  case atStart => exact ⟨0, rfl, ⟨by omega, fun j h => absurd h (Nat.not_lt_zero _)⟩, H0.out⟩
  case round =>
    obtain ⟨j, rfl, hi, hst⟩ := hrel
    have hle := hi.out.le
    rcases (show j = 0 ∨ j = 1 ∨ j = 2 ∨ j = 3 by omega) with rfl | rfl | rfl | rfl
    · have hc := hst.out.frm.c0
      have hd := hst.out.frm.c1
      cases hp : letterB s[k]
      · go_wp2_with fail
        refine (begins_letter _ s k hk ps pa _ hst.out.str hst.out.pos).mono ?_
        rintro e w1 ⟨rfl, hb1⟩
        have Hb1 := Lib.hid hb1
        have Hm := Lib.hid (hi.out.miss hp)
        clear hb1
        go_wp2_with fail
        go_roundw
        case rel => exact ⟨0 + 1, rfl, Hm.out, hst.out.next Hb1.out⟩
        case measure => simp [intOf]
      · go_wp2_with fail
        refine (begins_letter _ s k hk ps pa _ hst.out.str hst.out.pos).mono ?_
        rintro e w1 ⟨rfl, hb1⟩
        have Hb1 := Lib.hid hb1
        have Hh := Lib.hid (hi.out.hit hp)
        clear hb1
        go_wp2_with fail
        go_ret
        exact ⟨ret_int (by rw [Hh.out]; rfl), hst.out.bel.trans (Hb1.out.mono hst.out.bel.size)⟩
    · have hc := hst.out.frm.c2
      have hd := hst.out.frm.c3
      cases hp : digitB s[k]
      · go_wp2_with fail
        refine (begins_digit _ s k hk ps pa _ hst.out.str hst.out.pos).mono ?_
        rintro e w1 ⟨rfl, hb1⟩
        have Hb1 := Lib.hid hb1
        have Hm := Lib.hid (hi.out.miss hp)
        clear hb1
        go_wp2_with fail
        go_roundw
        case rel => exact ⟨1 + 1, rfl, Hm.out, hst.out.next Hb1.out⟩
        case measure => simp [intOf]
      · go_wp2_with fail
        refine (begins_digit _ s k hk ps pa _ hst.out.str hst.out.pos).mono ?_
        rintro e w1 ⟨rfl, hb1⟩
        have Hb1 := Lib.hid hb1
        have Hh := Lib.hid (hi.out.hit hp)
        clear hb1
        go_wp2_with fail
        go_ret
        exact ⟨ret_int (by rw [Hh.out]; rfl), hst.out.bel.trans (Hb1.out.mono hst.out.bel.size)⟩
    · have hc := hst.out.frm.c4
      have hd := hst.out.frm.c5
      cases hp : quoteB s[k]
      · go_wp2_with fail
        refine (begins_quote _ s k hk ps pa _ hst.out.str hst.out.pos).mono ?_
        rintro e w1 ⟨rfl, hb1⟩
        have Hb1 := Lib.hid hb1
        have Hm := Lib.hid (hi.out.miss hp)
        clear hb1
        go_wp2_with fail
        go_roundw
        case rel => exact ⟨2 + 1, rfl, Hm.out, hst.out.next Hb1.out⟩
        case measure => simp [intOf]
      · go_wp2_with fail
        refine (begins_quote _ s k hk ps pa _ hst.out.str hst.out.pos).mono ?_
        rintro e w1 ⟨rfl, hb1⟩
        have Hb1 := Lib.hid hb1
        have Hh := Lib.hid (hi.out.hit hp)
        clear hb1
        go_wp2_with fail
        go_ret
        exact ⟨ret_int (by rw [Hh.out]; rfl), hst.out.bel.trans (Hb1.out.mono hst.out.bel.size)⟩
    · have hc := hst.out.frm.c6
      have hd := hst.out.frm.c7
      · go_wp2_with fail
        refine (begins_any _ s k hk ps pa _ hst.out.str hst.out.pos).mono ?_
        rintro e w1 ⟨rfl, hb1⟩
        have Hb1 := Lib.hid hb1
        have Hh := Lib.hid (hi.out.hit rfl)
        clear hb1
        go_wp2_with fail
        go_ret
        exact ⟨ret_int (by rw [Hh.out]; rfl), hst.out.bel.trans (Hb1.out.mono hst.out.bel.size)⟩
end Go.Proofs.YtcjmhmmjfgjcnaaGreatDoor.Lx

/- The lexer over lists of bytes: what one token takes. Plain. -/
namespace Go.Proofs.YtcjmhmmjfgjcnaaGreatDoor.Lx

theorem runN_cons (p : UInt8 → Bool) (c : UInt8) (l : List UInt8) (h : p c = true) : runN p (c :: l) = runN p l + 1 := by
  simp [runN, h]
theorem runN_zero (p : UInt8 → Bool) (c : UInt8) (l : List UInt8) (h : p c = false) : runN p (c :: l) = 0 := by
  simp [runN, h]

theorem textL_le : ∀ (l : List UInt8) {x : List UInt8} {n : Nat}, textL l = some (x, n) → 1 ≤ n ∧ n ≤ l.length
  | [], _, _, h => by simp [textL] at h
  | [c], x, n, h => by
    by_cases hc : c = 39
    · simp only [textL, hc, if_true, Option.some.injEq, Prod.mk.injEq] at h
      simp; omega
    · simp [textL, hc] at h
  | c :: d :: r, x, n, h => by
    by_cases hc : c = 39
    · by_cases hd : d = 39
      · simp only [textL, hc, hd, if_true, Option.map_eq_some_iff] at h
        obtain ⟨⟨y, m⟩, h1, h2⟩ := h
        have := textL_le r h1
        simp only [Prod.mk.injEq] at h2
        simp; omega
      · simp only [textL, hc, hd, if_true, if_false, Option.some.injEq, Prod.mk.injEq] at h
        simp; omega
    · rw [textL.eq_def] at h
      simp only [hc, if_false, Option.map_eq_some_iff] at h
      obtain ⟨⟨y, m⟩, h1, h2⟩ := h
      have := textL_le (d :: r) h1
      simp only [Prod.mk.injEq] at h2
      simp only [List.length_cons] at this ⊢
      omega

theorem signs_pos : ∀ t ∈ signs, 1 ≤ t.length := by decide
theorem prefix_le {l p : List UInt8} (h : Lib.hasPrefix l p = true) : p.length ≤ l.length := by
  unfold Lib.hasPrefix at h
  rw [List.isPrefixOf_iff_prefix] at h
  exact h.length_le

theorem nextR_le {c : UInt8} {r : List UInt8} {t : Tok} {n : Nat} (h : nextR (c :: r) = .ok t n) : 1 ≤ n ∧ n ≤ (c :: r).length := by
  unfold nextR at h
  simp only at h
  by_cases h1 : letterB c = true
  · rw [if_pos h1] at h
    have hw : wordB c = true := by simp [wordB, h1]
    have hle := runN_le wordB (c :: r)
    have h1 := runN_cons wordB c r hw
    unfold wordR at h
    split at h
    · simp only [Rd.ok.injEq] at h; omega
    · split at h
      · cases h
      · simp only [Rd.ok.injEq] at h; omega
  · rw [if_neg h1] at h
    by_cases h2 : digitB c = true
    · rw [if_pos h2] at h
      have hle := runN_le digitB (c :: r)
      have h1 := runN_cons digitB c r h2
      unfold numberR at h
      split at h
      · split at h
        · cases h
        · split at h
          · cases h
          · split at h
            · simp only [Rd.ok.injEq] at h; omega
            · cases h
      · cases h
    · rw [if_neg h2] at h
      by_cases h3 : quoteB c = true
      · rw [if_pos h3] at h
        unfold textR at h
        split at h
        · cases h
        · rename_i x m hx
          have := textL_le _ hx
          simp only [List.drop_succ_cons, List.drop_zero] at this
          split at h
          · cases h
          · split at h
            · simp only [Rd.ok.injEq] at h
              simp only [List.length_cons]; omega
            · cases h
      · rw [if_neg h3] at h
        unfold signR at h
        split at h
        · rename_i x hx
          have hp := prefix_le (List.find?_some hx)
          have hm := signs_pos _ (List.mem_of_find?_eq_some hx)
          simp only [Rd.ok.injEq] at h
          omega
        · cases h

end Go.Proofs.YtcjmhmmjfgjcnaaGreatDoor.Lx
