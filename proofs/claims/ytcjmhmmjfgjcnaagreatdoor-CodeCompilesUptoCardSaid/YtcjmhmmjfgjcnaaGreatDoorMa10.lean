/- Parts: RaF RaG. -/
import Derived.Test.YtcjmhmmjfgjcnaaGreatDoorMa09

/- codicilref09: next. -/
namespace Go.Proofs.YtcjmhmmjfgjcnaaGreatDoor.Rf
open Go.RowKit Go.Proofs.YtcjmhmmjfgjcnaaGreatDoor.Lx Go.Proofs.YtcjmhmmjfgjcnaaGreatDoor.Pa

def NextP (w : World) : Rd → Ending → World → Prop
  | .ok t n, e, w' => e = .returned (.tuple #[t.val, .int .i64 n, .int .i64 0]) ∧ Below w.heap.size w w'
  | .err c, e, w' => (∃ (kd : Nat) (g : Txt) (n a : Int), e = .returned (.tuple #[tokV kd g n a, .int .i64 0, .int .i64 c])) ∧ Below w.heap.size w w'
theorem NextP.ok {w : World} {r : Rd} {t : Tok} {n : Nat} (h : r = .ok t n) {e : Ending} {w' : World} (h1 : e = .returned (.tuple #[t.val, .int .i64 n, .int .i64 0])) (h2 : Below w.heap.size w w') : NextP w r e w' := by subst h; exact ⟨h1, h2⟩
theorem NextP.err {w : World} {r : Rd} {c : Nat} (h : r = .err c) {e : Ending} {w' : World} (v : Value) (h1 : e = .returned (.tuple #[v, .int .i64 0, .int .i64 c])) (h2 : Below w.heap.size w w') (hv : ∃ (kd : Nat) (g : Txt) (n a : Int), v = tokV kd g n a := by exact ⟨_, _, _, _, rfl⟩) : NextP w r e w' := by
  subst h
  obtain ⟨kd, g, n, a, rfl⟩ := hv
  exact ⟨⟨kd, g, n, a, h1⟩, h2⟩
/-- a token stored where the result lies, then laid in a variable -/
theorem tok_both {w w1 : World} (hb : Below w.heap.size w w1) (h : w1.heap[w.heap.size]? = some tokObj) (v0 v1 v2 v3 : Value) (o : Obj) :
    let W2 := ((((w1.setCell ⟨w.heap.size, 0, none⟩ v0).setCell ⟨w.heap.size, 1, none⟩ v1).setCell ⟨w.heap.size, 2, none⟩ v2).setCell ⟨w.heap.size, 3, none⟩ v3).alloc o
    (W2.cell? ⟨w.heap.size, 0, none⟩ = some v0 ∧ W2.cell? ⟨w.heap.size, 1, none⟩ = some v1 ∧ W2.cell? ⟨w.heap.size, 2, none⟩ = some v2 ∧ W2.cell? ⟨w.heap.size, 3, none⟩ = some v3) ∧ Below w.heap.size w W2 := by
  intro W2
  have hz := rLt h
  have h4 : ((((w1.setCell ⟨w.heap.size, 0, none⟩ v0).setCell ⟨w.heap.size, 1, none⟩ v1).setCell ⟨w.heap.size, 2, none⟩ v2).setCell ⟨w.heap.size, 3, none⟩ v3).heap[w.heap.size]? = some (.cells #[v0, v1, v2, v3] 41) := by
    simp [World.setCell, Array.getElem?_modify, h]
  have h5 : W2.heap[w.heap.size]? = some (.cells #[v0, v1, v2, v3] 41) := ((rAlloc _ o).block _ (rLt h4)).trans h4
  exact ⟨(four h5).1, ((((hb.setCell (Nat.le_refl _) _).setCell (Nat.le_refl _) _).setCell (Nat.le_refl _) _).setCell (Nat.le_refl _) _).alloc (by simpa using Nat.le_of_lt hz) o⟩

theorem next_letter {s : ByteArray} (h0 : 0 < s.size) (h : letterB s[0] = true) : nextR (L s) = wordR (L s) := by
  have e : L s = s[0] :: (L s).drop 1 := drop_cons' s 0 h0
  rw [e, nextR]
  simp only [h, if_true]
theorem next_digit {s : ByteArray} (h0 : 0 < s.size) (h : letterB s[0] = false) (h2 : digitB s[0] = true) : nextR (L s) = numberR (L s) := by
  have e : L s = s[0] :: (L s).drop 1 := drop_cons' s 0 h0
  rw [e, nextR]
  simp only [h, h2, Bool.false_eq_true, if_false, if_true]
theorem next_text {s : ByteArray} (h0 : 0 < s.size) (h : letterB s[0] = false) (h2 : digitB s[0] = false) (h3 : s[0] = 39) : nextR (L s) = textR (L s) := by
  have e : L s = s[0] :: (L s).drop 1 := drop_cons' s 0 h0
  have h4 : (s[0] == 39) = true := beq_iff_eq.2 h3
  rw [e, nextR]
  simp only [h, h2, h4, quoteB, Bool.false_eq_true, if_false, if_true]
theorem next_sign {s : ByteArray} (h0 : 0 < s.size) (h : letterB s[0] = false) (h2 : digitB s[0] = false) (h3 : s[0] ≠ 39) : nextR (L s) = signR (L s) := by
  have e : L s = s[0] :: (L s).drop 1 := drop_cons' s 0 h0
  have h4 : (s[0] == 39) = false := beq_eq_false_iff_ne.2 h3
  rw [e, nextR]
  simp only [h, h2, h4, quoteB, Bool.false_eq_true, if_false]

set_option maxHeartbeats 4000000 in
set_option maxRecDepth 100000 in
theorem next_word_calls (s : ByteArray) (w : World) (hs : s.size ≤ 100000) (h0 : 0 < s.size) (hl0 : letterB s[0] = true) :
    Calls Tryz.prog 170 #[.string s] w (NextP w (nextR (L s))) := by
  rw [next_letter h0 hl0]
  have hd0 := digit_letter s[0]
  go_enter Tryz.func170, Tryz.ntmps170
  go_wp2_with (first | (go_at_call 190; refine (letterR_calls _ _).mono ?_; rintro e w' ⟨rfl, rfl⟩))
  have Hb := Lib.hid (rAlloc w tokObj)
  have Ht := Lib.hid (heap_alloc_new w tokObj)
  have hz : w.heap.size < (w.alloc tokObj).heap.size := by simp
  generalize w.alloc tokObj = W at *
  go_loop [5] (fun s5 => ∃ k : Nat, s5 = .int .i64 k ∧ RunTo wordB s k) (fun i => s.size - (intOf i).toNat)
  case atStart => exact ⟨0, rfl, Nat.zero_le _, fun _ _ h => absurd h (Nat.not_lt_zero _)⟩
  case round =>
    obtain ⟨k, rfl, hp⟩ := hrel
    have hle := hp.le
    by_cases hlt : k < s.size
    · cases hl : letterB s[k]
      · cases hdg : digitB s[k]
        · have hf := Lib.hid (hp.stop fun _ => by unfold wordB; rw [hl, hdg]; rfl)
          have hsz : (s.extract 0 k).size = k := by rw [← L_length, L_take, List.length_take, L_length]; omega
          have Hw0 := wordR_calls (s.extract 0 k) W (by unfold maxLen; omega)
          rw [L_take, hsz] at Hw0
          by_cases hk : keywordB ((L s).take k) = true
          · rw [if_pos hk] at Hw0
            have Hw := Lib.hid Hw0
            have Hr := Lib.hid (show wordR (L s) = .ok ⟨2, great ((L s).take k), 0, 0⟩ k by unfold wordR; rw [hf.out, if_pos hk])
            clear Hw0 hk hf
            generalize great ((L s).take k) = g at Hw Hr
            go_wp2_with (first | (go_at_call 190; refine (letterR_calls _ _).mono ?_; rintro e w' ⟨rfl, rfl⟩) | (go_at_call 191; refine (digitR_calls _ _).mono ?_; rintro e w' ⟨rfl, rfl⟩))
            refine Hw.out.mono ?_
            rintro e w1 ⟨rfl, hb1⟩
            have ht1 := (hb1.block _ hz).trans Ht.out
            obtain ⟨⟨c0, c1, c2, c3⟩, f0, f1, f2, f3⟩ := four ht1
            have Ht1 := Lib.hid ht1
            have Hb1 := Lib.hid (rStep Hb.out hb1)
            have hz1 : w.heap.size < w1.heap.size := Nat.lt_of_lt_of_le hz hb1.size
            clear hb1 ht1
            unfold tokV
            go_wp2_with fail
            obtain ⟨⟨k0, k1, k2, k3⟩, hbel⟩ := tok_both Hb1.out Ht1.out (.int .u8 2) (.string ⟨g.toArray⟩) (.int .i64 0) (.int .i64 0) (.cells #[.int .u8 2, .string ⟨g.toArray⟩, .int .i64 0, .int .i64 0] 41)
            refine bodyPost_ret (v := .tuple #[tokV 2 g 0 0, .int .i64 k, .int .i64 0]) (by simp [results, Tryz.results170, go_sem, tokV, k0, k1, k2, k3]) rfl (NextP.ok Hr.out rfl ?_)
            exact hbel
          · rw [if_neg hk] at Hw0
            by_cases h64 : k ≤ 64
            · rw [decide_eq_true h64] at Hw0
              have Hw := Lib.hid Hw0
              have Hr := Lib.hid (show wordR (L s) = .ok ⟨1, (L s).take k, 0, 0⟩ k by unfold wordR; rw [hf.out, if_neg hk, if_neg (by omega)])
              clear Hw0 hk hf
              generalize (L s).take k = g at Hw Hr
              go_wp2_with (first | (go_at_call 190; refine (letterR_calls _ _).mono ?_; rintro e w' ⟨rfl, rfl⟩) | (go_at_call 191; refine (digitR_calls _ _).mono ?_; rintro e w' ⟨rfl, rfl⟩))
              refine Hw.out.mono ?_
              rintro e w1 ⟨rfl, hb1⟩
              have ht1 := (hb1.block _ hz).trans Ht.out
              obtain ⟨⟨c0, c1, c2, c3⟩, f0, f1, f2, f3⟩ := four ht1
              have Ht1 := Lib.hid ht1
              have Hb1 := Lib.hid (rStep Hb.out hb1)
              have hz1 : w.heap.size < w1.heap.size := Nat.lt_of_lt_of_le hz hb1.size
              clear hb1 ht1
              unfold tokV
              go_wp2_with fail
              obtain ⟨⟨k0, k1, k2, k3⟩, hbel⟩ := tok_both Hb1.out Ht1.out (.int .u8 1) (.string ⟨g.toArray⟩) (.int .i64 0) (.int .i64 0) (.cells #[.int .u8 1, .string ⟨g.toArray⟩, .int .i64 0, .int .i64 0] 41)
              refine bodyPost_ret (v := .tuple #[tokV 1 g 0 0, .int .i64 k, .int .i64 0]) (by simp [results, Tryz.results170, go_sem, tokV, k0, k1, k2, k3]) rfl (NextP.ok Hr.out rfl ?_)
              exact hbel
            · rw [decide_eq_false h64] at Hw0
              have Hw := Lib.hid Hw0
              have Hr := Lib.hid (show wordR (L s) = .err 13 by unfold wordR; rw [hf.out, if_neg hk, if_pos (by omega)])
              clear Hw0 hk hf
              generalize (L s).take k = g at Hw Hr
              go_wp2_with (first | (go_at_call 190; refine (letterR_calls _ _).mono ?_; rintro e w' ⟨rfl, rfl⟩) | (go_at_call 191; refine (digitR_calls _ _).mono ?_; rintro e w' ⟨rfl, rfl⟩))
              refine Hw.out.mono ?_
              rintro e w1 ⟨rfl, hb1⟩
              have ht1 := (hb1.block _ hz).trans Ht.out
              obtain ⟨⟨c0, c1, c2, c3⟩, f0, f1, f2, f3⟩ := four ht1
              have Ht1 := Lib.hid ht1
              have Hb1 := Lib.hid (rStep Hb.out hb1)
              have hz1 : w.heap.size < w1.heap.size := Nat.lt_of_lt_of_le hz hb1.size
              clear hb1 ht1
              unfold tokV
              go_wp2_with fail
              obtain ⟨⟨k0, k1, k2, k3⟩, hbel⟩ := tok_both Hb1.out Ht1.out (.int .u8 1) (.string ⟨g.toArray⟩) (.int .i64 0) (.int .i64 0) (.cells #[.int .u8 1, .string ⟨g.toArray⟩, .int .i64 0, .int .i64 0] 41)
              refine bodyPost_ret (v := .tuple #[tokV 1 g 0 0, .int .i64 0, .int .i64 13]) (by simp [results, Tryz.results170, go_sem, tokV, k0, k1, k2, k3]) rfl (NextP.err Hr.out _ rfl ?_)
              exact hbel
        · have hn := hp.step hlt (by unfold wordB; rw [hl, hdg]; rfl)
          go_wp2_with (first | (go_at_call 190; refine (letterR_calls _ _).mono ?_; rintro e w' ⟨rfl, rfl⟩) | (go_at_call 191; refine (digitR_calls _ _).mono ?_; rintro e w' ⟨rfl, rfl⟩))
          go_round
          case rel => exact ⟨k + 1, by go_num, hn⟩
          case measure => simp [intOf]; omega
      · have hn := hp.step hlt (by unfold wordB; rw [hl]; rfl)
        go_wp2_with (first | (go_at_call 190; refine (letterR_calls _ _).mono ?_; rintro e w' ⟨rfl, rfl⟩) | (go_at_call 191; refine (digitR_calls _ _).mono ?_; rintro e w' ⟨rfl, rfl⟩))
        go_round
        case rel => exact ⟨k + 1, by go_num, hn⟩
        case measure => simp [intOf]; omega
    · have hf := Lib.hid (hp.stop fun h => absurd h hlt)
      have hsz : (s.extract 0 k).size = k := by rw [← L_length, L_take, List.length_take, L_length]; omega
      have Hw0 := wordR_calls (s.extract 0 k) W (by unfold maxLen; omega)
      rw [L_take, hsz] at Hw0
      by_cases hk : keywordB ((L s).take k) = true
      · rw [if_pos hk] at Hw0
        have Hw := Lib.hid Hw0
        have Hr := Lib.hid (show wordR (L s) = .ok ⟨2, great ((L s).take k), 0, 0⟩ k by unfold wordR; rw [hf.out, if_pos hk])
        clear Hw0 hk hf
        generalize great ((L s).take k) = g at Hw Hr
        go_wp2_with (first | (go_at_call 190; refine (letterR_calls _ _).mono ?_; rintro e w' ⟨rfl, rfl⟩) | (go_at_call 191; refine (digitR_calls _ _).mono ?_; rintro e w' ⟨rfl, rfl⟩))
        refine Hw.out.mono ?_
        rintro e w1 ⟨rfl, hb1⟩
        have ht1 := (hb1.block _ hz).trans Ht.out
        obtain ⟨⟨c0, c1, c2, c3⟩, f0, f1, f2, f3⟩ := four ht1
        have Ht1 := Lib.hid ht1
        have Hb1 := Lib.hid (rStep Hb.out hb1)
        have hz1 : w.heap.size < w1.heap.size := Nat.lt_of_lt_of_le hz hb1.size
        clear hb1 ht1
        unfold tokV
        go_wp2_with fail
        obtain ⟨⟨k0, k1, k2, k3⟩, hbel⟩ := tok_both Hb1.out Ht1.out (.int .u8 2) (.string ⟨g.toArray⟩) (.int .i64 0) (.int .i64 0) (.cells #[.int .u8 2, .string ⟨g.toArray⟩, .int .i64 0, .int .i64 0] 41)
        refine bodyPost_ret (v := .tuple #[tokV 2 g 0 0, .int .i64 k, .int .i64 0]) (by simp [results, Tryz.results170, go_sem, tokV, k0, k1, k2, k3]) rfl (NextP.ok Hr.out rfl ?_)
        exact hbel
      · rw [if_neg hk] at Hw0
        by_cases h64 : k ≤ 64
        · rw [decide_eq_true h64] at Hw0
          have Hw := Lib.hid Hw0
          have Hr := Lib.hid (show wordR (L s) = .ok ⟨1, (L s).take k, 0, 0⟩ k by unfold wordR; rw [hf.out, if_neg hk, if_neg (by omega)])
          clear Hw0 hk hf
          generalize (L s).take k = g at Hw Hr
          go_wp2_with (first | (go_at_call 190; refine (letterR_calls _ _).mono ?_; rintro e w' ⟨rfl, rfl⟩) | (go_at_call 191; refine (digitR_calls _ _).mono ?_; rintro e w' ⟨rfl, rfl⟩))
          refine Hw.out.mono ?_
          rintro e w1 ⟨rfl, hb1⟩
          have ht1 := (hb1.block _ hz).trans Ht.out
          obtain ⟨⟨c0, c1, c2, c3⟩, f0, f1, f2, f3⟩ := four ht1
          have Ht1 := Lib.hid ht1
          have Hb1 := Lib.hid (rStep Hb.out hb1)
          have hz1 : w.heap.size < w1.heap.size := Nat.lt_of_lt_of_le hz hb1.size
          clear hb1 ht1
          unfold tokV
          go_wp2_with fail
          obtain ⟨⟨k0, k1, k2, k3⟩, hbel⟩ := tok_both Hb1.out Ht1.out (.int .u8 1) (.string ⟨g.toArray⟩) (.int .i64 0) (.int .i64 0) (.cells #[.int .u8 1, .string ⟨g.toArray⟩, .int .i64 0, .int .i64 0] 41)
          refine bodyPost_ret (v := .tuple #[tokV 1 g 0 0, .int .i64 k, .int .i64 0]) (by simp [results, Tryz.results170, go_sem, tokV, k0, k1, k2, k3]) rfl (NextP.ok Hr.out rfl ?_)
          exact hbel
        · rw [decide_eq_false h64] at Hw0
          have Hw := Lib.hid Hw0
          have Hr := Lib.hid (show wordR (L s) = .err 13 by unfold wordR; rw [hf.out, if_neg hk, if_pos (by omega)])
          clear Hw0 hk hf
          generalize (L s).take k = g at Hw Hr
          go_wp2_with (first | (go_at_call 190; refine (letterR_calls _ _).mono ?_; rintro e w' ⟨rfl, rfl⟩) | (go_at_call 191; refine (digitR_calls _ _).mono ?_; rintro e w' ⟨rfl, rfl⟩))
          refine Hw.out.mono ?_
          rintro e w1 ⟨rfl, hb1⟩
          have ht1 := (hb1.block _ hz).trans Ht.out
          obtain ⟨⟨c0, c1, c2, c3⟩, f0, f1, f2, f3⟩ := four ht1
          have Ht1 := Lib.hid ht1
          have Hb1 := Lib.hid (rStep Hb.out hb1)
          have hz1 : w.heap.size < w1.heap.size := Nat.lt_of_lt_of_le hz hb1.size
          clear hb1 ht1
          unfold tokV
          go_wp2_with fail
          obtain ⟨⟨k0, k1, k2, k3⟩, hbel⟩ := tok_both Hb1.out Ht1.out (.int .u8 1) (.string ⟨g.toArray⟩) (.int .i64 0) (.int .i64 0) (.cells #[.int .u8 1, .string ⟨g.toArray⟩, .int .i64 0, .int .i64 0] 41)
          refine bodyPost_ret (v := .tuple #[tokV 1 g 0 0, .int .i64 0, .int .i64 13]) (by simp [results, Tryz.results170, go_sem, tokV, k0, k1, k2, k3]) rfl (NextP.err Hr.out _ rfl ?_)
          exact hbel

end Go.Proofs.YtcjmhmmjfgjcnaaGreatDoor.Rf

/- codicilref09: next at digits. -/
namespace Go.Proofs.YtcjmhmmjfgjcnaaGreatDoor.Rf
open Go.RowKit Go.Proofs.YtcjmhmmjfgjcnaaGreatDoor.Lx Go.Proofs.YtcjmhmmjfgjcnaaGreatDoor.Pa

theorem run_pos {s : ByteArray} (h0 : 0 < s.size) (hd : digitB s[0] = true) : 1 ≤ Lx.runN digitB (L s) := by
  have e : L s = s[0] :: (L s).drop 1 := drop_cons' s 0 h0
  rw [e, runN_cons digitB _ _ hd]
  omega
theorem head_digit {s : ByteArray} (h0 : 0 < s.size) {k : Nat} (hk : 1 ≤ k) : ((L s).take k).head? = (L s).head? := by
  have e : L s = s[0] :: (L s).drop 1 := drop_cons' s 0 h0
  obtain ⟨k, rfl⟩ : ∃ j, k = j + 1 := ⟨k - 1, by omega⟩
  rw [e]
  rfl
theorem ends_at {s : ByteArray} {k : Nat} (h : k < s.size) : endsB (L s) k = !letterB s[k] := by
  unfold endsB
  rw [drop_cons' s k h]
theorem ends_end {s : ByteArray} {k : Nat} (h : ¬ k < s.size) : endsB (L s) k = true := by
  unfold endsB
  rw [List.drop_of_length_le (by rw [L_length]; omega)]

/-- what number hands back, of the digits at the head -/
theorem number_of (s : ByteArray) (hs : s.size ≤ 100000) (h0 : 0 < s.size) (hd0 : digitB s[0] = true) (k : Nat) (hk : Lx.runN digitB (L s) = k) (W : World) :
    (∃ _ : Unit, numberR (L s) = .err 13 ∧ Calls Tryz.prog 193 #[.string (s.extract 0 k)] W fun e w' => e = .returned (.tuple #[tokV 0 [] 0 0, .bool false]) ∧ Below W.heap.size W w') ∨
    (∃ u : Nat, u ≤ 9223372036854775807 ∧ ((numberR (L s) = .err 13 ∧ Calls Tryz.prog 193 #[.string (s.extract 0 k)] W fun e w' => e = .returned (.tuple #[tokV 3 [] u 0, .bool false]) ∧ Below W.heap.size W w') ∨
      (numberR (L s) = (if endsB (L s) k then .ok ⟨3, [], u, 0⟩ k else .err 13) ∧ Calls Tryz.prog 193 #[.string (s.extract 0 k)] W fun e w' => e = .returned (.tuple #[tokV 3 [] u 0, .bool true]) ∧ Below W.heap.size W w'))) := by
  have hk1 := run_pos h0 hd0
  rw [hk] at hk1
  have hle := Lx.runN_le digitB (L s)
  rw [hk, L_length] at hle
  have hsz : (s.extract 0 k).size = k := by rw [← L_length, L_take, List.length_take, L_length]; omega
  have hall := runN_take_all digitB (L s)
  rw [hk] at hall
  have hlen : ((L s).take k).length = k := by rw [List.length_take, L_length]; omega
  have hc := numberR_calls (s.extract 0 k) W (by omega) (by omega) (by rw [L_take]; exact hall)
  rw [L_take] at hc
  have hR := numberR_eq (L s) (by rw [hk]; intro e; rw [e] at hlen; simp at hlen; omega)
  rw [hk] at hR
  cases hg : numG ((L s).take k) 0 with
  | none =>
    rw [hg] at hc hR
    exact .inl ⟨(), hR, hc⟩
  | some u =>
    rw [hg] at hc hR
    simp only at hR
    have hu := (numG_some _ 0 u hall (by omega) hg).2
    refine .inr ⟨u, hu, ?_⟩
    have hc2 : Calls Tryz.prog 193 #[.string (s.extract 0 k)] W fun e w' => e = .returned (.tuple #[tokV 3 [] u 0, .bool (decide (((L s).take k).length = 1 ∨ ((L s).take k).head? ≠ some 48))]) ∧ Below W.heap.size W w' := hc
    rw [hlen, head_digit h0 hk1] at hc2
    by_cases hb : 1 < k ∧ (L s).head? = some 48
    · rw [if_pos hb] at hR
      rw [decide_eq_false (by rintro (h | h); (· omega); exact h hb.2)] at hc2
      exact .inl ⟨hR, hc2⟩
    · rw [if_neg hb] at hR
      rw [decide_eq_true (by
        by_cases h1 : k = 1
        · exact .inl h1
        · exact .inr fun h => hb ⟨by omega, h⟩)] at hc2
      exact .inr ⟨hR, hc2⟩

set_option maxHeartbeats 4000000 in
set_option maxRecDepth 100000 in
theorem next_num_calls (s : ByteArray) (w : World) (hs : s.size ≤ 100000) (h0 : 0 < s.size) (hl0 : letterB s[0] = false) (hd0 : digitB s[0] = true) :
    Calls Tryz.prog 170 #[.string s] w (NextP w (nextR (L s))) := by
  rw [next_digit h0 hl0 hd0]
  have HN := Lib.hid (fun k hk => number_of s hs h0 hd0 k hk)
  go_enter Tryz.func170, Tryz.ntmps170
  go_wp2_with (first | (go_at_call 190; refine (letterR_calls _ _).mono ?_; rintro e w' ⟨rfl, rfl⟩) | (go_at_call 191; refine (digitR_calls _ _).mono ?_; rintro e w' ⟨rfl, rfl⟩))
  have Hb := Lib.hid (rAlloc w tokObj)
  have Ht := Lib.hid (heap_alloc_new w tokObj)
  have hz : w.heap.size < (w.alloc tokObj).heap.size := by simp
  generalize w.alloc tokObj = W at *
  go_loop [5] (fun s5 => ∃ k : Nat, s5 = .int .i64 k ∧ RunTo digitB s k) (fun i => s.size - (intOf i).toNat)
  case atStart => exact ⟨0, rfl, Nat.zero_le _, fun _ _ h => absurd h (Nat.not_lt_zero _)⟩
  case round =>
    obtain ⟨k, rfl, hp⟩ := hrel
    have hle := hp.le
    by_cases hlt : k < s.size
    · cases hdg : digitB s[k]
      · have hf := hp.stop fun _ => hdg
        have hE := ends_at hlt
        have HN2 := HN.out k hf W
        clear hf
        rcases HN2 with ⟨-, hr, hc⟩ | ⟨u, hu, ⟨hr, hc⟩ | ⟨hr, hc⟩⟩
        · have Hr := Lib.hid hr
          have Hw := Lib.hid hc
          clear hr hc hE
          go_wp2_with (first | (go_at_call 190; refine (letterR_calls _ _).mono ?_; rintro e w' ⟨rfl, rfl⟩) | (go_at_call 191; refine (digitR_calls _ _).mono ?_; rintro e w' ⟨rfl, rfl⟩))
          refine Hw.out.mono ?_
          rintro e w1 ⟨rfl, hb1⟩
          have ht1 := (hb1.block _ hz).trans Ht.out
          obtain ⟨⟨c0, c1, c2, c3⟩, f0, f1, f2, f3⟩ := four ht1
          have Ht1 := Lib.hid ht1
          have Hb1 := Lib.hid (rStep Hb.out hb1)
          have hz1 : w.heap.size < w1.heap.size := Nat.lt_of_lt_of_le hz hb1.size
          clear hb1 ht1
          unfold tokV
          go_wp2_with (first | (go_at_call 190; refine (letterR_calls _ _).mono ?_; rintro e w' ⟨rfl, rfl⟩) | (go_at_call 191; refine (digitR_calls _ _).mono ?_; rintro e w' ⟨rfl, rfl⟩))
          obtain ⟨⟨k0, k1, k2, k3⟩, hbel⟩ := tok_both Hb1.out Ht1.out (.int .u8 0) (.string ⟨#[]⟩) (.int .i64 0) (.int .i64 0) (.cells #[.int .u8 0, .string ⟨#[]⟩, .int .i64 0, .int .i64 0] 41)
          refine bodyPost_ret (v := .tuple #[tokV 0 [] 0 0, .int .i64 0, .int .i64 13]) (by simp [results, Tryz.results170, go_sem, tokV, k0, k1, k2, k3]) rfl (NextP.err Hr.out _ rfl ?_)
          exact hbel
        · have Hr := Lib.hid hr
          have Hw := Lib.hid hc
          clear hr hc hE
          go_wp2_with (first | (go_at_call 190; refine (letterR_calls _ _).mono ?_; rintro e w' ⟨rfl, rfl⟩) | (go_at_call 191; refine (digitR_calls _ _).mono ?_; rintro e w' ⟨rfl, rfl⟩))
          refine Hw.out.mono ?_
          rintro e w1 ⟨rfl, hb1⟩
          have ht1 := (hb1.block _ hz).trans Ht.out
          obtain ⟨⟨c0, c1, c2, c3⟩, f0, f1, f2, f3⟩ := four ht1
          have Ht1 := Lib.hid ht1
          have Hb1 := Lib.hid (rStep Hb.out hb1)
          have hz1 : w.heap.size < w1.heap.size := Nat.lt_of_lt_of_le hz hb1.size
          clear hb1 ht1
          unfold tokV
          go_wp2_with (first | (go_at_call 190; refine (letterR_calls _ _).mono ?_; rintro e w' ⟨rfl, rfl⟩) | (go_at_call 191; refine (digitR_calls _ _).mono ?_; rintro e w' ⟨rfl, rfl⟩))
          obtain ⟨⟨k0, k1, k2, k3⟩, hbel⟩ := tok_both Hb1.out Ht1.out (.int .u8 3) (.string ⟨#[]⟩) (.int .i64 u) (.int .i64 0) (.cells #[.int .u8 3, .string ⟨#[]⟩, .int .i64 u, .int .i64 0] 41)
          refine bodyPost_ret (v := .tuple #[tokV 3 [] u 0, .int .i64 0, .int .i64 13]) (by simp [results, Tryz.results170, go_sem, tokV, k0, k1, k2, k3]) rfl (NextP.err Hr.out _ rfl ?_)
          exact hbel
        · cases hlk : letterB s[k]
          · rw [hE, hlk] at hr
            have Hr := Lib.hid (show numberR (L s) = .ok ⟨3, [], u, 0⟩ k from hr)
            have Hw := Lib.hid hc
            clear hr hc hE
            go_wp2_with (first | (go_at_call 190; refine (letterR_calls _ _).mono ?_; rintro e w' ⟨rfl, rfl⟩) | (go_at_call 191; refine (digitR_calls _ _).mono ?_; rintro e w' ⟨rfl, rfl⟩))
            refine Hw.out.mono ?_
            rintro e w1 ⟨rfl, hb1⟩
            have ht1 := (hb1.block _ hz).trans Ht.out
            obtain ⟨⟨c0, c1, c2, c3⟩, f0, f1, f2, f3⟩ := four ht1
            have Ht1 := Lib.hid ht1
            have Hb1 := Lib.hid (rStep Hb.out hb1)
            have hz1 : w.heap.size < w1.heap.size := Nat.lt_of_lt_of_le hz hb1.size
            clear hb1 ht1
            unfold tokV
            go_wp2_with (first | (go_at_call 190; refine (letterR_calls _ _).mono ?_; rintro e w' ⟨rfl, rfl⟩) | (go_at_call 191; refine (digitR_calls _ _).mono ?_; rintro e w' ⟨rfl, rfl⟩))
            obtain ⟨⟨k0, k1, k2, k3⟩, hbel⟩ := tok_both Hb1.out Ht1.out (.int .u8 3) (.string ⟨#[]⟩) (.int .i64 u) (.int .i64 0) (.cells #[.int .u8 3, .string ⟨#[]⟩, .int .i64 u, .int .i64 0] 41)
            refine bodyPost_ret (v := .tuple #[tokV 3 [] u 0, .int .i64 k, .int .i64 0]) (by simp [results, Tryz.results170, go_sem, tokV, k0, k1, k2, k3]) rfl (NextP.ok Hr.out rfl ?_)
            exact hbel
          · rw [hE, hlk] at hr
            have Hr := Lib.hid (show numberR (L s) = .err 13 from hr)
            have Hw := Lib.hid hc
            clear hr hc hE
            go_wp2_with (first | (go_at_call 190; refine (letterR_calls _ _).mono ?_; rintro e w' ⟨rfl, rfl⟩) | (go_at_call 191; refine (digitR_calls _ _).mono ?_; rintro e w' ⟨rfl, rfl⟩))
            refine Hw.out.mono ?_
            rintro e w1 ⟨rfl, hb1⟩
            have ht1 := (hb1.block _ hz).trans Ht.out
            obtain ⟨⟨c0, c1, c2, c3⟩, f0, f1, f2, f3⟩ := four ht1
            have Ht1 := Lib.hid ht1
            have Hb1 := Lib.hid (rStep Hb.out hb1)
            have hz1 : w.heap.size < w1.heap.size := Nat.lt_of_lt_of_le hz hb1.size
            clear hb1 ht1
            unfold tokV
            go_wp2_with (first | (go_at_call 190; refine (letterR_calls _ _).mono ?_; rintro e w' ⟨rfl, rfl⟩) | (go_at_call 191; refine (digitR_calls _ _).mono ?_; rintro e w' ⟨rfl, rfl⟩))
            obtain ⟨⟨k0, k1, k2, k3⟩, hbel⟩ := tok_both Hb1.out Ht1.out (.int .u8 3) (.string ⟨#[]⟩) (.int .i64 u) (.int .i64 0) (.cells #[.int .u8 3, .string ⟨#[]⟩, .int .i64 u, .int .i64 0] 41)
            refine bodyPost_ret (v := .tuple #[tokV 3 [] u 0, .int .i64 0, .int .i64 13]) (by simp [results, Tryz.results170, go_sem, tokV, k0, k1, k2, k3]) rfl (NextP.err Hr.out _ rfl ?_)
            exact hbel
      · have hn := hp.step hlt hdg
        go_wp2_with (first | (go_at_call 190; refine (letterR_calls _ _).mono ?_; rintro e w' ⟨rfl, rfl⟩) | (go_at_call 191; refine (digitR_calls _ _).mono ?_; rintro e w' ⟨rfl, rfl⟩))
        go_round
        case rel => exact ⟨k + 1, by go_num, hn⟩
        case measure => simp [intOf]; omega
    · have hf := hp.stop fun h => absurd h hlt
      have hE := ends_end hlt
      have HN2 := HN.out k hf W
      clear hf
      rcases HN2 with ⟨-, hr, hc⟩ | ⟨u, hu, ⟨hr, hc⟩ | ⟨hr, hc⟩⟩
      · have Hr := Lib.hid hr
        have Hw := Lib.hid hc
        clear hr hc hE
        go_wp2_with (first | (go_at_call 190; refine (letterR_calls _ _).mono ?_; rintro e w' ⟨rfl, rfl⟩) | (go_at_call 191; refine (digitR_calls _ _).mono ?_; rintro e w' ⟨rfl, rfl⟩))
        refine Hw.out.mono ?_
        rintro e w1 ⟨rfl, hb1⟩
        have ht1 := (hb1.block _ hz).trans Ht.out
        obtain ⟨⟨c0, c1, c2, c3⟩, f0, f1, f2, f3⟩ := four ht1
        have Ht1 := Lib.hid ht1
        have Hb1 := Lib.hid (rStep Hb.out hb1)
        have hz1 : w.heap.size < w1.heap.size := Nat.lt_of_lt_of_le hz hb1.size
        clear hb1 ht1
        unfold tokV
        go_wp2_with (first | (go_at_call 190; refine (letterR_calls _ _).mono ?_; rintro e w' ⟨rfl, rfl⟩) | (go_at_call 191; refine (digitR_calls _ _).mono ?_; rintro e w' ⟨rfl, rfl⟩))
        obtain ⟨⟨k0, k1, k2, k3⟩, hbel⟩ := tok_both Hb1.out Ht1.out (.int .u8 0) (.string ⟨#[]⟩) (.int .i64 0) (.int .i64 0) (.cells #[.int .u8 0, .string ⟨#[]⟩, .int .i64 0, .int .i64 0] 41)
        refine bodyPost_ret (v := .tuple #[tokV 0 [] 0 0, .int .i64 0, .int .i64 13]) (by simp [results, Tryz.results170, go_sem, tokV, k0, k1, k2, k3]) rfl (NextP.err Hr.out _ rfl ?_)
        exact hbel
      · have Hr := Lib.hid hr
        have Hw := Lib.hid hc
        clear hr hc hE
        go_wp2_with (first | (go_at_call 190; refine (letterR_calls _ _).mono ?_; rintro e w' ⟨rfl, rfl⟩) | (go_at_call 191; refine (digitR_calls _ _).mono ?_; rintro e w' ⟨rfl, rfl⟩))
        refine Hw.out.mono ?_
        rintro e w1 ⟨rfl, hb1⟩
        have ht1 := (hb1.block _ hz).trans Ht.out
        obtain ⟨⟨c0, c1, c2, c3⟩, f0, f1, f2, f3⟩ := four ht1
        have Ht1 := Lib.hid ht1
        have Hb1 := Lib.hid (rStep Hb.out hb1)
        have hz1 : w.heap.size < w1.heap.size := Nat.lt_of_lt_of_le hz hb1.size
        clear hb1 ht1
        unfold tokV
        go_wp2_with (first | (go_at_call 190; refine (letterR_calls _ _).mono ?_; rintro e w' ⟨rfl, rfl⟩) | (go_at_call 191; refine (digitR_calls _ _).mono ?_; rintro e w' ⟨rfl, rfl⟩))
        obtain ⟨⟨k0, k1, k2, k3⟩, hbel⟩ := tok_both Hb1.out Ht1.out (.int .u8 3) (.string ⟨#[]⟩) (.int .i64 u) (.int .i64 0) (.cells #[.int .u8 3, .string ⟨#[]⟩, .int .i64 u, .int .i64 0] 41)
        refine bodyPost_ret (v := .tuple #[tokV 3 [] u 0, .int .i64 0, .int .i64 13]) (by simp [results, Tryz.results170, go_sem, tokV, k0, k1, k2, k3]) rfl (NextP.err Hr.out _ rfl ?_)
        exact hbel
      · rw [hE] at hr
        have Hr := Lib.hid (show numberR (L s) = .ok ⟨3, [], u, 0⟩ k from hr)
        have Hw := Lib.hid hc
        clear hr hc hE
        go_wp2_with (first | (go_at_call 190; refine (letterR_calls _ _).mono ?_; rintro e w' ⟨rfl, rfl⟩) | (go_at_call 191; refine (digitR_calls _ _).mono ?_; rintro e w' ⟨rfl, rfl⟩))
        refine Hw.out.mono ?_
        rintro e w1 ⟨rfl, hb1⟩
        have ht1 := (hb1.block _ hz).trans Ht.out
        obtain ⟨⟨c0, c1, c2, c3⟩, f0, f1, f2, f3⟩ := four ht1
        have Ht1 := Lib.hid ht1
        have Hb1 := Lib.hid (rStep Hb.out hb1)
        have hz1 : w.heap.size < w1.heap.size := Nat.lt_of_lt_of_le hz hb1.size
        clear hb1 ht1
        unfold tokV
        go_wp2_with (first | (go_at_call 190; refine (letterR_calls _ _).mono ?_; rintro e w' ⟨rfl, rfl⟩) | (go_at_call 191; refine (digitR_calls _ _).mono ?_; rintro e w' ⟨rfl, rfl⟩))
        obtain ⟨⟨k0, k1, k2, k3⟩, hbel⟩ := tok_both Hb1.out Ht1.out (.int .u8 3) (.string ⟨#[]⟩) (.int .i64 u) (.int .i64 0) (.cells #[.int .u8 3, .string ⟨#[]⟩, .int .i64 u, .int .i64 0] 41)
        refine bodyPost_ret (v := .tuple #[tokV 3 [] u 0, .int .i64 k, .int .i64 0]) (by simp [results, Tryz.results170, go_sem, tokV, k0, k1, k2, k3]) rfl (NextP.ok Hr.out rfl ?_)
        exact hbel

end Go.Proofs.YtcjmhmmjfgjcnaaGreatDoor.Rf
