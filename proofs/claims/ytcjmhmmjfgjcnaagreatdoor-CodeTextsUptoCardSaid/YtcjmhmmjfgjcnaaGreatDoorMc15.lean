/- Parts: RaG RaH LxE. -/
import Derived.Test.YtcjmhmmjfgjcnaaGreatDoorMc01
import Derived.Test.YtcjmhmmjfgjcnaaGreatDoorMc12
import Derived.Test.YtcjmhmmjfgjcnaaGreatDoorMc14
import Derived.WalkSmall

/- codicilref09: next at digits. -/
namespace Go.Proofs.YtcjmhmmjfgjcnaaGreatDoor.Rf
open Go.RowKit Go.Proofs.YtcjmhmmjfgjcnaaGreatDoor.Lx Go.Proofs.YtcjmhmmjfgjcnaaGreatDoor.Pa

theorem run_pos {s : ByteArray} (h0 : 0 < s.size) (hd : digitB s[0] = true) : 1 ≤ Lx.runN digitB (L s) := by
  have e : L s = s[0] :: (L s).drop 1 := drop_cons' s 0 h0
  rw [e, runN_cons digitB _ _ hd]
  omega
theorem head_digit {s : ByteArray} (h0 : 0 < s.size) {k : Nat} (hk : 1 ≤ k) : ((L s).take k).head? = (L s).head? := by
  have e : L s = s[0] :: (L s).drop 1 := drop_cons' s 0 h0
  obtain ⟨k, rfl⟩ : ∃ j, k = j + 1 := ⟨k - 1, by omega⟩
  rw [e]
  rfl
theorem ends_at {s : ByteArray} {k : Nat} (h : k < s.size) : endsB (L s) k = !letterB s[k] := by
  unfold endsB
  rw [drop_cons' s k h]
theorem ends_end {s : ByteArray} {k : Nat} (h : ¬ k < s.size) : endsB (L s) k = true := by
  unfold endsB
  rw [List.drop_of_length_le (by rw [L_length]; omega)]

theorem number_of (s : ByteArray) (hs : s.size ≤ 100000) (h0 : 0 < s.size) (hd0 : digitB s[0] = true) (k : Nat) (hk : Lx.runN digitB (L s) = k) (W : World) :
    (∃ _ : Unit, numberR (L s) = .err 13 ∧ Calls Tryz.prog 193 #[.string (s.extract 0 k)] W fun e w' => e = .returned (.tuple #[tokV 0 [] 0 0, .bool false]) ∧ Below W.heap.size W w') ∨
    (∃ u : Nat, u ≤ 9223372036854775807 ∧ ((numberR (L s) = .err 13 ∧ Calls Tryz.prog 193 #[.string (s.extract 0 k)] W fun e w' => e = .returned (.tuple #[tokV 3 [] u 0, .bool false]) ∧ Below W.heap.size W w') ∨
      (numberR (L s) = (if endsB (L s) k then .ok ⟨3, [], u, 0⟩ k else .err 13) ∧ Calls Tryz.prog 193 #[.string (s.extract 0 k)] W fun e w' => e = .returned (.tuple #[tokV 3 [] u 0, .bool true]) ∧ Below W.heap.size W w'))) := by
  have hk1 := run_pos h0 hd0
  rw [hk] at hk1
  have hle := Lx.runN_le digitB (L s)
  rw [hk, L_length] at hle
  have hsz : (s.extract 0 k).size = k := by rw [← L_length, L_take, List.length_take, L_length]; omega
  have hall := runN_take_all digitB (L s)
  rw [hk] at hall
  have hlen : ((L s).take k).length = k := by rw [List.length_take, L_length]; omega
  have hc := numberR_calls (s.extract 0 k) W (by omega) (by omega) (by rw [L_take]; exact hall)
  rw [L_take] at hc
  have hR := numberR_eq (L s) (by rw [hk]; intro e; rw [e] at hlen; simp at hlen; omega)
  rw [hk] at hR
  cases hg : numG ((L s).take k) 0 with
  | none =>
    rw [hg] at hc hR
    exact .inl ⟨(), hR, hc⟩
  | some u =>
    rw [hg] at hc hR
    simp only at hR
    have hu := (numG_some _ 0 u hall (by omega) hg).2
    refine .inr ⟨u, hu, ?_⟩
    have hc2 : Calls Tryz.prog 193 #[.string (s.extract 0 k)] W fun e w' => e = .returned (.tuple #[tokV 3 [] u 0, .bool (decide (((L s).take k).length = 1 ∨ ((L s).take k).head? ≠ some 48))]) ∧ Below W.heap.size W w' := hc
    rw [hlen, head_digit h0 hk1] at hc2
    by_cases hb : 1 < k ∧ (L s).head? = some 48
    · rw [if_pos hb] at hR
      rw [decide_eq_false (by rintro (h | h); (· omega); exact h hb.2)] at hc2
      exact .inl ⟨hR, hc2⟩
    · rw [if_neg hb] at hR
      rw [decide_eq_true (by
        by_cases h1 : k = 1
        · exact .inl h1
        · exact .inr fun h => hb ⟨by omega, h⟩)] at hc2
      exact .inr ⟨hR, hc2⟩

set_option maxHeartbeats 4000000 in
set_option maxRecDepth 100000 in
theorem next_num_calls (s : ByteArray) (w : World) (hs : s.size ≤ 100000) (h0 : 0 < s.size) (hl0 : letterB s[0] = false) (hd0 : digitB s[0] = true) :
    Calls Tryz.prog 170 #[.string s] w (NextP w (nextR (L s))) := by
  rw [next_digit h0 hl0 hd0]
  have HN := Lib.hid (fun k hk => number_of s hs h0 hd0 k hk)
  go_enter Tryz.func170, Tryz.ntmps170
  go_wp2_with (first | (go_at_call 190; refine (letterR_calls _ _).mono ?_; rintro e w' ⟨rfl, rfl⟩) | (go_at_call 191; refine (digitR_calls _ _).mono ?_; rintro e w' ⟨rfl, rfl⟩))
  have Hb := Lib.hid (rAlloc w tokObj)
  have Ht := Lib.hid (heap_alloc_new w tokObj)
  have hz : w.heap.size < (w.alloc tokObj).heap.size := by simp
  generalize w.alloc tokObj = W at *
  go_loop [5] (fun s5 => ∃ k : Nat, s5 = .int .i64 k ∧ RunTo digitB s k) (fun i => s.size - (intOf i).toNat)
  case atStart => exact ⟨0, rfl, Nat.zero_le _, fun _ _ h => absurd h (Nat.not_lt_zero _)⟩
  case round =>
    obtain ⟨k, rfl, hp⟩ := hrel
    have hle := hp.le
    by_cases hlt : k < s.size
    · cases hdg : digitB s[k]
      · have hf := hp.stop fun _ => hdg
        have hE := ends_at hlt
        have HN2 := HN.out k hf W
        clear hf
        rcases HN2 with ⟨-, hr, hc⟩ | ⟨u, hu, ⟨hr, hc⟩ | ⟨hr, hc⟩⟩
        · have Hr := Lib.hid hr
          have Hw := Lib.hid hc
          clear hr hc hE
          go_wp2_with (first | (go_at_call 190; refine (letterR_calls _ _).mono ?_; rintro e w' ⟨rfl, rfl⟩) | (go_at_call 191; refine (digitR_calls _ _).mono ?_; rintro e w' ⟨rfl, rfl⟩))
          refine Hw.out.mono ?_
          rintro e w1 ⟨rfl, hb1⟩
          have ht1 := (hb1.block _ hz).trans Ht.out
          obtain ⟨⟨c0, c1, c2, c3⟩, f0, f1, f2, f3⟩ := four ht1
          have Ht1 := Lib.hid ht1
          have Hb1 := Lib.hid (rStep Hb.out hb1)
          have hz1 : w.heap.size < w1.heap.size := Nat.lt_of_lt_of_le hz hb1.size
          clear hb1 ht1
          unfold tokV
          go_wp2_with (first | (go_at_call 190; refine (letterR_calls _ _).mono ?_; rintro e w' ⟨rfl, rfl⟩) | (go_at_call 191; refine (digitR_calls _ _).mono ?_; rintro e w' ⟨rfl, rfl⟩))
          obtain ⟨⟨k0, k1, k2, k3⟩, hbel⟩ := tok_both Hb1.out Ht1.out (.int .u8 0) (.string ⟨#[]⟩) (.int .i64 0) (.int .i64 0) (.cells #[.int .u8 0, .string ⟨#[]⟩, .int .i64 0, .int .i64 0] 41)
          refine bodyPost_ret (v := .tuple #[tokV 0 [] 0 0, .int .i64 0, .int .i64 13]) (by simp [results, Tryz.results170, go_sem, tokV, k0, k1, k2, k3]) rfl (NextP.err Hr.out _ rfl ?_)
          exact hbel
        · have Hr := Lib.hid hr
          have Hw := Lib.hid hc
          clear hr hc hE
          go_wp2_with (first | (go_at_call 190; refine (letterR_calls _ _).mono ?_; rintro e w' ⟨rfl, rfl⟩) | (go_at_call 191; refine (digitR_calls _ _).mono ?_; rintro e w' ⟨rfl, rfl⟩))
          refine Hw.out.mono ?_
          rintro e w1 ⟨rfl, hb1⟩
          have ht1 := (hb1.block _ hz).trans Ht.out
          obtain ⟨⟨c0, c1, c2, c3⟩, f0, f1, f2, f3⟩ := four ht1
          have Ht1 := Lib.hid ht1
          have Hb1 := Lib.hid (rStep Hb.out hb1)
          have hz1 : w.heap.size < w1.heap.size := Nat.lt_of_lt_of_le hz hb1.size
          clear hb1 ht1
          unfold tokV
          go_wp2_with (first | (go_at_call 190; refine (letterR_calls _ _).mono ?_; rintro e w' ⟨rfl, rfl⟩) | (go_at_call 191; refine (digitR_calls _ _).mono ?_; rintro e w' ⟨rfl, rfl⟩))
          obtain ⟨⟨k0, k1, k2, k3⟩, hbel⟩ := tok_both Hb1.out Ht1.out (.int .u8 3) (.string ⟨#[]⟩) (.int .i64 u) (.int .i64 0) (.cells #[.int .u8 3, .string ⟨#[]⟩, .int .i64 u, .int .i64 0] 41)
          refine bodyPost_ret (v := .tuple #[tokV 3 [] u 0, .int .i64 0, .int .i64 13]) (by simp [results, Tryz.results170, go_sem, tokV, k0, k1, k2, k3]) rfl (NextP.err Hr.out _ rfl ?_)
          exact hbel
        · cases hlk : letterB s[k]
          · rw [hE, hlk] at hr
            have Hr := Lib.hid (show numberR (L s) = .ok ⟨3, [], u, 0⟩ k from hr)
            have Hw := Lib.hid hc
            clear hr hc hE
            go_wp2_with (first | (go_at_call 190; refine (letterR_calls _ _).mono ?_; rintro e w' ⟨rfl, rfl⟩) | (go_at_call 191; refine (digitR_calls _ _).mono ?_; rintro e w' ⟨rfl, rfl⟩))
            refine Hw.out.mono ?_
            rintro e w1 ⟨rfl, hb1⟩
            have ht1 := (hb1.block _ hz).trans Ht.out
            obtain ⟨⟨c0, c1, c2, c3⟩, f0, f1, f2, f3⟩ := four ht1
            have Ht1 := Lib.hid ht1
            have Hb1 := Lib.hid (rStep Hb.out hb1)
            have hz1 : w.heap.size < w1.heap.size := Nat.lt_of_lt_of_le hz hb1.size
            clear hb1 ht1
            unfold tokV
            go_wp2_with (first | (go_at_call 190; refine (letterR_calls _ _).mono ?_; rintro e w' ⟨rfl, rfl⟩) | (go_at_call 191; refine (digitR_calls _ _).mono ?_; rintro e w' ⟨rfl, rfl⟩))
            obtain ⟨⟨k0, k1, k2, k3⟩, hbel⟩ := tok_both Hb1.out Ht1.out (.int .u8 3) (.string ⟨#[]⟩) (.int .i64 u) (.int .i64 0) (.cells #[.int .u8 3, .string ⟨#[]⟩, .int .i64 u, .int .i64 0] 41)
            refine bodyPost_ret (v := .tuple #[tokV 3 [] u 0, .int .i64 k, .int .i64 0]) (by simp [results, Tryz.results170, go_sem, tokV, k0, k1, k2, k3]) rfl (NextP.ok Hr.out rfl ?_)
            exact hbel
          · rw [hE, hlk] at hr
            have Hr := Lib.hid (show numberR (L s) = .err 13 from hr)
            have Hw := Lib.hid hc
            clear hr hc hE
            go_wp2_with (first | (go_at_call 190; refine (letterR_calls _ _).mono ?_; rintro e w' ⟨rfl, rfl⟩) | (go_at_call 191; refine (digitR_calls _ _).mono ?_; rintro e w' ⟨rfl, rfl⟩))
            refine Hw.out.mono ?_
            rintro e w1 ⟨rfl, hb1⟩
            have ht1 := (hb1.block _ hz).trans Ht.out
            obtain ⟨⟨c0, c1, c2, c3⟩, f0, f1, f2, f3⟩ := four ht1
            have Ht1 := Lib.hid ht1
            have Hb1 := Lib.hid (rStep Hb.out hb1)
            have hz1 : w.heap.size < w1.heap.size := Nat.lt_of_lt_of_le hz hb1.size
            clear hb1 ht1
            unfold tokV
            go_wp2_with (first | (go_at_call 190; refine (letterR_calls _ _).mono ?_; rintro e w' ⟨rfl, rfl⟩) | (go_at_call 191; refine (digitR_calls _ _).mono ?_; rintro e w' ⟨rfl, rfl⟩))
            obtain ⟨⟨k0, k1, k2, k3⟩, hbel⟩ := tok_both Hb1.out Ht1.out (.int .u8 3) (.string ⟨#[]⟩) (.int .i64 u) (.int .i64 0) (.cells #[.int .u8 3, .string ⟨#[]⟩, .int .i64 u, .int .i64 0] 41)
            refine bodyPost_ret (v := .tuple #[tokV 3 [] u 0, .int .i64 0, .int .i64 13]) (by simp [results, Tryz.results170, go_sem, tokV, k0, k1, k2, k3]) rfl (NextP.err Hr.out _ rfl ?_)
            exact hbel
      · have hn := hp.step hlt hdg
        go_wp2_with (first | (go_at_call 190; refine (letterR_calls _ _).mono ?_; rintro e w' ⟨rfl, rfl⟩) | (go_at_call 191; refine (digitR_calls _ _).mono ?_; rintro e w' ⟨rfl, rfl⟩))
        go_round
        case rel => exact ⟨k + 1, by go_num, hn⟩
        case measure => simp [intOf]; omega
    · have hf := hp.stop fun h => absurd h hlt
      have hE := ends_end hlt
      have HN2 := HN.out k hf W
      clear hf
      rcases HN2 with ⟨-, hr, hc⟩ | ⟨u, hu, ⟨hr, hc⟩ | ⟨hr, hc⟩⟩
      · have Hr := Lib.hid hr
        have Hw := Lib.hid hc
        clear hr hc hE
        go_wp2_with (first | (go_at_call 190; refine (letterR_calls _ _).mono ?_; rintro e w' ⟨rfl, rfl⟩) | (go_at_call 191; refine (digitR_calls _ _).mono ?_; rintro e w' ⟨rfl, rfl⟩))
        refine Hw.out.mono ?_
        rintro e w1 ⟨rfl, hb1⟩
        have ht1 := (hb1.block _ hz).trans Ht.out
        obtain ⟨⟨c0, c1, c2, c3⟩, f0, f1, f2, f3⟩ := four ht1
        have Ht1 := Lib.hid ht1
        have Hb1 := Lib.hid (rStep Hb.out hb1)
        have hz1 : w.heap.size < w1.heap.size := Nat.lt_of_lt_of_le hz hb1.size
        clear hb1 ht1
        unfold tokV
        go_wp2_with (first | (go_at_call 190; refine (letterR_calls _ _).mono ?_; rintro e w' ⟨rfl, rfl⟩) | (go_at_call 191; refine (digitR_calls _ _).mono ?_; rintro e w' ⟨rfl, rfl⟩))
        obtain ⟨⟨k0, k1, k2, k3⟩, hbel⟩ := tok_both Hb1.out Ht1.out (.int .u8 0) (.string ⟨#[]⟩) (.int .i64 0) (.int .i64 0) (.cells #[.int .u8 0, .string ⟨#[]⟩, .int .i64 0, .int .i64 0] 41)
        refine bodyPost_ret (v := .tuple #[tokV 0 [] 0 0, .int .i64 0, .int .i64 13]) (by simp [results, Tryz.results170, go_sem, tokV, k0, k1, k2, k3]) rfl (NextP.err Hr.out _ rfl ?_)
        exact hbel
      · have Hr := Lib.hid hr
        have Hw := Lib.hid hc
        clear hr hc hE
        go_wp2_with (first | (go_at_call 190; refine (letterR_calls _ _).mono ?_; rintro e w' ⟨rfl, rfl⟩) | (go_at_call 191; refine (digitR_calls _ _).mono ?_; rintro e w' ⟨rfl, rfl⟩))
        refine Hw.out.mono ?_
        rintro e w1 ⟨rfl, hb1⟩
        have ht1 := (hb1.block _ hz).trans Ht.out
        obtain ⟨⟨c0, c1, c2, c3⟩, f0, f1, f2, f3⟩ := four ht1
        have Ht1 := Lib.hid ht1
        have Hb1 := Lib.hid (rStep Hb.out hb1)
        have hz1 : w.heap.size < w1.heap.size := Nat.lt_of_lt_of_le hz hb1.size
        clear hb1 ht1
        unfold tokV
        go_wp2_with (first | (go_at_call 190; refine (letterR_calls _ _).mono ?_; rintro e w' ⟨rfl, rfl⟩) | (go_at_call 191; refine (digitR_calls _ _).mono ?_; rintro e w' ⟨rfl, rfl⟩))
        obtain ⟨⟨k0, k1, k2, k3⟩, hbel⟩ := tok_both Hb1.out Ht1.out (.int .u8 3) (.string ⟨#[]⟩) (.int .i64 u) (.int .i64 0) (.cells #[.int .u8 3, .string ⟨#[]⟩, .int .i64 u, .int .i64 0] 41)
        refine bodyPost_ret (v := .tuple #[tokV 3 [] u 0, .int .i64 0, .int .i64 13]) (by simp [results, Tryz.results170, go_sem, tokV, k0, k1, k2, k3]) rfl (NextP.err Hr.out _ rfl ?_)
        exact hbel
      · rw [hE] at hr
        have Hr := Lib.hid (show numberR (L s) = .ok ⟨3, [], u, 0⟩ k from hr)
        have Hw := Lib.hid hc
        clear hr hc hE
        go_wp2_with (first | (go_at_call 190; refine (letterR_calls _ _).mono ?_; rintro e w' ⟨rfl, rfl⟩) | (go_at_call 191; refine (digitR_calls _ _).mono ?_; rintro e w' ⟨rfl, rfl⟩))
        refine Hw.out.mono ?_
        rintro e w1 ⟨rfl, hb1⟩
        have ht1 := (hb1.block _ hz).trans Ht.out
        obtain ⟨⟨c0, c1, c2, c3⟩, f0, f1, f2, f3⟩ := four ht1
        have Ht1 := Lib.hid ht1
        have Hb1 := Lib.hid (rStep Hb.out hb1)
        have hz1 : w.heap.size < w1.heap.size := Nat.lt_of_lt_of_le hz hb1.size
        clear hb1 ht1
        unfold tokV
        go_wp2_with (first | (go_at_call 190; refine (letterR_calls _ _).mono ?_; rintro e w' ⟨rfl, rfl⟩) | (go_at_call 191; refine (digitR_calls _ _).mono ?_; rintro e w' ⟨rfl, rfl⟩))
        obtain ⟨⟨k0, k1, k2, k3⟩, hbel⟩ := tok_both Hb1.out Ht1.out (.int .u8 3) (.string ⟨#[]⟩) (.int .i64 u) (.int .i64 0) (.cells #[.int .u8 3, .string ⟨#[]⟩, .int .i64 u, .int .i64 0] 41)
        refine bodyPost_ret (v := .tuple #[tokV 3 [] u 0, .int .i64 k, .int .i64 0]) (by simp [results, Tryz.results170, go_sem, tokV, k0, k1, k2, k3]) rfl (NextP.ok Hr.out rfl ?_)
        exact hbel

end Go.Proofs.YtcjmhmmjfgjcnaaGreatDoor.Rf

/- codicilref09: next at texts and signs. -/
namespace Go.Proofs.YtcjmhmmjfgjcnaaGreatDoor.Rf
open Go.RowKit Go.Proofs.YtcjmhmmjfgjcnaaGreatDoor.Lx Go.Proofs.YtcjmhmmjfgjcnaaGreatDoor.Pa

theorem textL_short : ∀ (l : Txt) {x : Txt} {n : Nat}, textL l = some (x, n) → x.length ≤ l.length
  | [], _, _, h => by simp [textL] at h
  | [c], x, n, h => by
    by_cases hc : c = 39
    · simp only [textL, hc, if_true, Option.some.injEq, Prod.mk.injEq] at h
      rw [← h.1]; simp
    · simp [textL, hc] at h
  | c :: d :: r, x, n, h => by
    by_cases hc : c = 39
    · by_cases hd : d = 39
      · simp only [textL, hc, hd, if_true, Option.map_eq_some_iff] at h
        obtain ⟨⟨y, m⟩, h1, h2⟩ := h
        have := textL_short r h1
        simp only [Prod.mk.injEq] at h2
        rw [← h2.1]
        simp only [List.length_cons]; omega
      · simp only [textL, hc, hd, if_true, if_false, Option.some.injEq, Prod.mk.injEq] at h
        rw [← h.1]; simp
    · rw [textL.eq_def] at h
      simp only [hc, if_false, Option.map_eq_some_iff] at h
      obtain ⟨⟨y, m⟩, h1, h2⟩ := h
      have := textL_short (d :: r) h1
      simp only [Prod.mk.injEq] at h2
      rw [← h2.1]
      simp only [List.length_cons] at this ⊢; omega

set_option maxHeartbeats 1000000 in
set_option maxRecDepth 100000 in
theorem next_text_calls (s : ByteArray) (w : World) (hs : s.size ≤ 100000) (h0 : 0 < s.size) (hl0 : letterB s[0] = false) (hd0 : digitB s[0] = false) (h39 : s[0] = 39) :
    Calls Tryz.prog 170 #[.string s] w (NextP w (nextR (L s))) := by
  rw [next_text h0 hl0 hd0 h39]
  have h39' : ((s[0].toNat : Int) == 39) = true := by rw [h39]; rfl
  clear h39
  have hT := fun W => textR_calls s W hs _ (Lib.hid rfl)
  have hR : textR (L s) = match textL ((L s).drop 1) with
    | none => .err 13
    | some (c, n) => if 1024 < c.length then .err 4 else if Lib.validD c then .ok ⟨4, c, 0, 0⟩ (n + 1) else .err 9 := rfl
  cases hx : textL ((L s).drop 1) with
  | none =>
    rw [hx] at hR hT
    have Hr := Lib.hid (show textR (L s) = .err 13 from hR)
    have Hw := Lib.hid hT
    clear hT hR hx
    go_enter Tryz.func170, Tryz.ntmps170
    go_wp2_with (first | (go_at_call 190; refine (letterR_calls _ _).mono ?_; rintro e w' ⟨rfl, rfl⟩) | (go_at_call 191; refine (digitR_calls _ _).mono ?_; rintro e w' ⟨rfl, rfl⟩))
    have Hb := Lib.hid (rAlloc w tokObj)
    have Ht := Lib.hid (heap_alloc_new w tokObj)
    have hz : w.heap.size < (w.alloc tokObj).heap.size := by simp
    generalize w.alloc tokObj = W at *
    refine (Hw.out _).mono ?_
    rintro e w1 ⟨rfl, hb1⟩
    have ht1 := (hb1.block _ hz).trans Ht.out
    obtain ⟨⟨c0, c1, c2, c3⟩, f0, f1, f2, f3⟩ := four ht1
    have Ht1 := Lib.hid ht1
    have Hb1 := Lib.hid (rStep Hb.out hb1)
    have hz1 : w.heap.size < w1.heap.size := Nat.lt_of_lt_of_le hz hb1.size
    clear hb1 ht1
    unfold textV
    go_wp2_with fail
    refine bodyPost_ret (v := .tuple #[tokV 0 [] 0 0, .int .i64 0, .int .i64 13]) (by simp [results, Tryz.results170, go_sem, tokV, c0, c1, c2, c3]) rfl (NextP.err Hr.out _ rfl ?_)
    exact below_set4 Hb1.out _ _ _ _ _ _ _ _
  | some x =>
    obtain ⟨c, n⟩ := x
    have hle := textL_le _ hx
    rw [List.length_drop, L_length] at hle
    rw [hx] at hR hT
    simp only at hR hT
    have hcl : c.length ≤ s.size := by
      have h := textL_short _ hx
      rw [List.length_drop, L_length] at h
      omega
    by_cases h4 : 1024 < c.length
    · rw [if_pos h4] at hR
      have h4' : (1024 : Int) < c.length := by omega
      have Hr := Lib.hid (show textR (L s) = .err 4 from hR)
      have Hw := Lib.hid hT
      clear hT hR hx
      go_enter Tryz.func170, Tryz.ntmps170
      go_wp2_with (first | (go_at_call 190; refine (letterR_calls _ _).mono ?_; rintro e w' ⟨rfl, rfl⟩) | (go_at_call 191; refine (digitR_calls _ _).mono ?_; rintro e w' ⟨rfl, rfl⟩))
      have Hb := Lib.hid (rAlloc w tokObj)
      have Ht := Lib.hid (heap_alloc_new w tokObj)
      have hz : w.heap.size < (w.alloc tokObj).heap.size := by simp
      generalize w.alloc tokObj = W at *
      refine (Hw.out _).mono ?_
      rintro e w1 ⟨rfl, hb1⟩
      have ht1 := (hb1.block _ hz).trans Ht.out
      obtain ⟨⟨c0, c1, c2, c3⟩, f0, f1, f2, f3⟩ := four ht1
      have Ht1 := Lib.hid ht1
      have Hb1 := Lib.hid (rStep Hb.out hb1)
      have hz1 : w.heap.size < w1.heap.size := Nat.lt_of_lt_of_le hz hb1.size
      clear hb1 ht1
      unfold textV
      go_wp2_with fail
      refine bodyPost_ret (v := .tuple #[tokV 0 [] 0 0, .int .i64 0, .int .i64 4]) (by simp [results, Tryz.results170, go_sem, tokV, c0, c1, c2, c3]) rfl (NextP.err Hr.out _ rfl ?_)
      exact below_set4 Hb1.out _ _ _ _ _ _ _ _
    · rw [if_neg h4] at hR
      have h4' : ¬ (1024 : Int) < c.length := by omega
      have hU0 := fun W => utfR_calls ⟨c.toArray⟩ W (by rw [size_mk]; omega)
      rw [L_mk] at hU0
      cases hv : Lib.validD c
      · rw [hv] at hR hU0
        have HU := Lib.hid hU0
        clear hU0
        have Hr := Lib.hid (show textR (L s) = .err 9 from hR)
        have Hw := Lib.hid hT
        clear hT hR hx
        go_enter Tryz.func170, Tryz.ntmps170
        go_wp2_with (first | (go_at_call 190; refine (letterR_calls _ _).mono ?_; rintro e w' ⟨rfl, rfl⟩) | (go_at_call 191; refine (digitR_calls _ _).mono ?_; rintro e w' ⟨rfl, rfl⟩))
        have Hb := Lib.hid (rAlloc w tokObj)
        have Ht := Lib.hid (heap_alloc_new w tokObj)
        have hz : w.heap.size < (w.alloc tokObj).heap.size := by simp
        generalize w.alloc tokObj = W at *
        refine (Hw.out _).mono ?_
        rintro e w1 ⟨rfl, hb1⟩
        have ht1 := (hb1.block _ hz).trans Ht.out
        obtain ⟨⟨c0, c1, c2, c3⟩, f0, f1, f2, f3⟩ := four ht1
        have Ht1 := Lib.hid ht1
        have Hb1 := Lib.hid (rStep Hb.out hb1)
        have hz1 : w.heap.size < w1.heap.size := Nat.lt_of_lt_of_le hz hb1.size
        clear hb1 ht1
        unfold textV
        go_wp2_with fail
        refine (HU.out _).mono ?_
        rintro e w2 ⟨rfl, hb2⟩
        have ht2 := (hb2.block _ hz1).trans Ht1.out
        clear c0 c1 c2 c3 f0 f1 f2 f3
        obtain ⟨⟨c0, c1, c2, c3⟩, f0, f1, f2, f3⟩ := four ht2
        have Hb2 := Lib.hid (rStep Hb1.out hb2)
        have hz2 : w.heap.size < w2.heap.size := Nat.lt_of_lt_of_le hz1 hb2.size
        clear hb2 ht2
        go_wp2_with fail
        refine bodyPost_ret (v := .tuple #[tokV 0 [] 0 0, .int .i64 0, .int .i64 9]) (by simp [results, Tryz.results170, go_sem, tokV, c0, c1, c2, c3]) rfl (NextP.err Hr.out _ rfl ?_)
        exact below_set4 Hb2.out _ _ _ _ _ _ _ _
      · rw [hv] at hR hU0
        have HU := Lib.hid hU0
        clear hU0
        have Hr := Lib.hid (show textR (L s) = .ok ⟨4, c, 0, 0⟩ (n + 1) from hR)
        have Hw := Lib.hid hT
        clear hT hR hx
        go_enter Tryz.func170, Tryz.ntmps170
        go_wp2_with (first | (go_at_call 190; refine (letterR_calls _ _).mono ?_; rintro e w' ⟨rfl, rfl⟩) | (go_at_call 191; refine (digitR_calls _ _).mono ?_; rintro e w' ⟨rfl, rfl⟩))
        have Hb := Lib.hid (rAlloc w tokObj)
        have Ht := Lib.hid (heap_alloc_new w tokObj)
        have hz : w.heap.size < (w.alloc tokObj).heap.size := by simp
        generalize w.alloc tokObj = W at *
        refine (Hw.out _).mono ?_
        rintro e w1 ⟨rfl, hb1⟩
        have ht1 := (hb1.block _ hz).trans Ht.out
        obtain ⟨⟨c0, c1, c2, c3⟩, f0, f1, f2, f3⟩ := four ht1
        have Ht1 := Lib.hid ht1
        have Hb1 := Lib.hid (rStep Hb.out hb1)
        have hz1 : w.heap.size < w1.heap.size := Nat.lt_of_lt_of_le hz hb1.size
        clear hb1 ht1
        unfold textV
        go_wp2_with fail
        refine (HU.out _).mono ?_
        rintro e w2 ⟨rfl, hb2⟩
        have ht2 := (hb2.block _ hz1).trans Ht1.out
        clear c0 c1 c2 c3 f0 f1 f2 f3
        obtain ⟨⟨c0, c1, c2, c3⟩, f0, f1, f2, f3⟩ := four ht2
        have Hb2 := Lib.hid (rStep Hb1.out hb2)
        have hz2 : w.heap.size < w2.heap.size := Nat.lt_of_lt_of_le hz1 hb2.size
        clear hb2 ht2
        go_wp2_with fail
        refine bodyPost_ret (v := .tuple #[tokV 4 c 0 0, .int .i64 ((n + 1 : Nat) : Int), .int .i64 0]) (by simp [results, Tryz.results170, go_sem, tokV, c0, c1, c2, c3]) rfl (NextP.ok Hr.out rfl ?_)
        exact below_set4 Hb2.out _ _ _ _ _ _ _ _

theorem sign_none_or (l : Txt) : (signR l = .err 13 ∧ signS l = []) ∨ ∃ x, x ≠ [] ∧ x.length ≤ 2 ∧ signR l = .ok ⟨5, x, 0, 0⟩ x.length ∧ signS l = x := by
  unfold signS
  unfold signR
  cases h : signs.find? fun t => Lib.hasPrefix l t with
  | none => exact .inl ⟨rfl, rfl⟩
  | some t =>
    have hm := List.mem_of_find?_eq_some h
    have h1 : ∀ t ∈ signs, t ≠ [] ∧ t.length ≤ 2 := by decide
    exact .inr ⟨t, (h1 t hm).1, (h1 t hm).2, rfl, rfl⟩
set_option maxHeartbeats 1000000 in
set_option maxRecDepth 100000 in
theorem next_sign_calls (s : ByteArray) (w : World) (hs : s.size ≤ 100000) (h0 : 0 < s.size) (hl0 : letterB s[0] = false) (hd0 : digitB s[0] = false) (h39 : s[0] ≠ 39) :
    Calls Tryz.prog 170 #[.string s] w (NextP w (nextR (L s))) := by
  rw [next_sign h0 hl0 hd0 h39]
  have h39' : ((s[0].toNat : Int) == 39) = false := beq_eq_false_iff_ne.2 fun e => h39 (UInt8.toNat_inj.1 (by show s[0].toNat = 39; omega))
  clear h39
  have hT := fun W => signR_calls s W hs (by omega)
  rcases sign_none_or (L s) with ⟨hR, hx⟩ | ⟨x, hne, hl2, hR, hx⟩
  · rw [hx] at hT
    clear hx
    have Hr := Lib.hid (show signR (L s) = .err 13 from hR)
    have Hw := Lib.hid hT
    clear hT hR
    go_enter Tryz.func170, Tryz.ntmps170
    go_wp2_with (first | (go_at_call 190; refine (letterR_calls _ _).mono ?_; rintro e w' ⟨rfl, rfl⟩) | (go_at_call 191; refine (digitR_calls _ _).mono ?_; rintro e w' ⟨rfl, rfl⟩))
    have Hb := Lib.hid (rAlloc w tokObj)
    have Ht := Lib.hid (heap_alloc_new w tokObj)
    have hz : w.heap.size < (w.alloc tokObj).heap.size := by simp
    generalize w.alloc tokObj = W at *
    refine (Hw.out _).mono ?_
    rintro e w1 ⟨rfl, hb1⟩
    have ht1 := (hb1.block _ hz).trans Ht.out
    obtain ⟨⟨c0, c1, c2, c3⟩, f0, f1, f2, f3⟩ := four ht1
    have Ht1 := Lib.hid ht1
    have Hb1 := Lib.hid (rStep Hb.out hb1)
    have hz1 : w.heap.size < w1.heap.size := Nat.lt_of_lt_of_le hz hb1.size
    clear hb1 ht1
    go_wp2_with fail
    refine bodyPost_ret (v := .tuple #[tokV 0 [] 0 0, .int .i64 0, .int .i64 13]) (by simp [results, Tryz.results170, go_sem, tokV, c0, c1, c2, c3]) rfl (NextP.err Hr.out _ rfl ?_)
    exact below_set4 Hb1.out _ _ _ _ _ _ _ _
  · rw [hx] at hT
    clear hx
    have hne' : (x == []) = false := beq_eq_false_iff_ne.2 hne
    have Hr := Lib.hid (show signR (L s) = .ok ⟨5, x, 0, 0⟩ x.length from hR)
    have Hw := Lib.hid hT
    clear hT hR
    go_enter Tryz.func170, Tryz.ntmps170
    go_wp2_with (first | (go_at_call 190; refine (letterR_calls _ _).mono ?_; rintro e w' ⟨rfl, rfl⟩) | (go_at_call 191; refine (digitR_calls _ _).mono ?_; rintro e w' ⟨rfl, rfl⟩))
    have Hb := Lib.hid (rAlloc w tokObj)
    have Ht := Lib.hid (heap_alloc_new w tokObj)
    have hz : w.heap.size < (w.alloc tokObj).heap.size := by simp
    generalize w.alloc tokObj = W at *
    refine (Hw.out _).mono ?_
    rintro e w1 ⟨rfl, hb1⟩
    have ht1 := (hb1.block _ hz).trans Ht.out
    obtain ⟨⟨c0, c1, c2, c3⟩, f0, f1, f2, f3⟩ := four ht1
    have Ht1 := Lib.hid ht1
    have Hb1 := Lib.hid (rStep Hb.out hb1)
    have hz1 : w.heap.size < w1.heap.size := Nat.lt_of_lt_of_le hz hb1.size
    clear hb1 ht1
    go_wp2_with fail
    refine bodyPost_ret (v := .tuple #[tokV 5 x 0 0, .int .i64 x.length, .int .i64 0]) (by simp [results, Tryz.results170, go_sem, tokV, c0, c1, c2, c3]) rfl (NextP.ok Hr.out rfl ?_)
    exact below_set4 Hb1.out _ _ _ _ _ _ _ _

end Go.Proofs.YtcjmhmmjfgjcnaaGreatDoor.Rf

/- What the walks ask of a world's package-level variables, and that it lasts. -/
namespace Go.Proofs.YtcjmhmmjfgjcnaaGreatDoor.Lx
open Go.RowKit

structure Env (w : World) : Prop where
  syn : ∃ ev, w.cell? ⟨5, 0, none⟩ = some ev ∧ (ev = .nilIface ∨ ∃ te pe, ev = .iface te pe)
  rng : ∃ ev, w.cell? ⟨6, 0, none⟩ = some ev ∧ (ev = .nilIface ∨ ∃ te pe, ev = .iface te pe)
  max : ∃ m, w.cell? ⟨4, 0, none⟩ = some (.int .i64 m)
  pow : Lib.TabIs Tryz.prog w "internal/strconv.uint64pow10" .u64 Lib.pow10Tab
  utf : Lib.Utf8Tabs 0 1 w
  ltS : 5 < w.heap.size
  ltR : 6 < w.heap.size
  ltM : 4 < w.heap.size
  ltP : 3 < w.heap.size
  ltF : 0 < w.heap.size
  ltA : 1 < w.heap.size

theorem gPow : Tryz.prog.globalNamed "internal/strconv.uint64pow10" = some 3 := by kernel_rfl

theorem Env.below {w w' : World} (h : Env w) (hb : Below w.heap.size w w') : Env w' where
  syn := let ⟨ev, h1, h2⟩ := h.syn; ⟨ev, (hb.cell (p := ⟨_, 0, none⟩) h.ltS).trans h1, h2⟩
  rng := let ⟨ev, h1, h2⟩ := h.rng; ⟨ev, (hb.cell (p := ⟨_, 0, none⟩) h.ltR).trans h1, h2⟩
  max := let ⟨m, h1⟩ := h.max; ⟨m, (hb.cell (p := ⟨_, 0, none⟩) h.ltM).trans h1⟩
  pow := var?_below hb gPow h.ltP h.pow
  utf := ⟨fun c hc => (hb.cell (p := ⟨_, c, none⟩) h.ltF).trans (h.utf.1 c hc), fun i hi => ⟨(hb.cell (p := ⟨_, 2 * i, none⟩) h.ltA).trans (h.utf.2 i hi).1, (hb.cell (p := ⟨_, 2 * i + 1, none⟩) h.ltA).trans (h.utf.2 i hi).2⟩⟩
  ltS := Nat.lt_of_lt_of_le h.ltS hb.size
  ltR := Nat.lt_of_lt_of_le h.ltR hb.size
  ltM := Nat.lt_of_lt_of_le h.ltM hb.size
  ltP := Nat.lt_of_lt_of_le h.ltP hb.size
  ltF := Nat.lt_of_lt_of_le h.ltF hb.size
  ltA := Nat.lt_of_lt_of_le h.ltA hb.size
theorem Env.alloc {w : World} (h : Env w) (o : Obj) : Env (w.alloc o) := h.below ((Below.refl _ _).alloc (Nat.le_refl _) o)

end Go.Proofs.YtcjmhmmjfgjcnaaGreatDoor.Lx
