/- The small functions of lex: kinds of bytes, runs of them, great letters. -/
import Derived.Test.YtebmbghlhicjlaaDoorProg
import Derived.Test.YtebmbghlhicjlaaDoorLxS
import Derived.Outline
import Derived.WalkSpells
import Derived.WalkLawsBesides
namespace Go.Proofs.YtebmbghlhicjlaaDoor.Lx
open Go.RowKit

theorem digit_calls (c : UInt8) (w : World) : Calls Tryd.prog 26 #[.int .u8 c.toNat] w fun e w' => e = .returned (.bool (digitB c)) ∧ w = w' := by
  go_enter Tryd.func26, Tryd.ntmps26
  go_wp2
  all_goals go_ret
  all_goals refine ⟨ret_bool ?_, rfl⟩
  all_goals (rename_i h; revert h; revert c; refine all_u8 ?_; decide +kernel)

theorem blank_calls (c : UInt8) (w : World) : Calls Tryd.prog 16 #[.int .u8 c.toNat] w fun e w' => e = .returned (.bool (blankB c)) ∧ w = w' := by
  have H : ∀ b : Bool, ((c.toNat : Int) == 32 || (c.toNat : Int) == 9 || (c.toNat : Int) == 10 || (c.toNat : Int) == 13) = b → blankB c = b := by
    intro b; revert b; revert c; refine all_u8 ?_; decide +kernel
  go_enter Tryd.func16, Tryd.ntmps16
  go_wp2
  all_goals go_ret
  all_goals refine ⟨ret_bool ?_, rfl⟩
  all_goals (symm; apply H; simp [*])

theorem letter_calls (c : UInt8) (w : World) : Calls Tryd.prog 24 #[.int .u8 c.toNat] w fun e w' => e = .returned (.bool (letterB c)) ∧ w = w' := by
  go_enter Tryd.func24, Tryd.ntmps24
  go_wp2
  all_goals go_ret
  all_goals refine ⟨ret_bool ?_, rfl⟩
  · rename_i h1 h2; revert h1 h2; revert c; refine all_u8 ?_; decide +kernel
  · rename_i h1 h2; revert h1 h2; revert c; refine all_u8 ?_; decide +kernel
  · rename_i h1; revert h1; revert c; refine all_u8 ?_; decide +kernel

theorem wordB_calls (c : UInt8) (w : World) : Calls Tryd.prog 44 #[.int .u8 c.toNat] w fun e w' => e = .returned (.bool (wordB c)) ∧ w = w' := by
  unfold wordB
  cases h : letterB c
  all_goals
    go_enter Tryd.func44, Tryd.ntmps44
    go_wp2_with (first | (go_at_call 24; refine (letter_calls _ _).mono ?_; rintro e w' ⟨rfl, rfl⟩) | (go_at_call 26; refine (digit_calls _ _).mono ?_; rintro e w' ⟨rfl, rfl⟩))
    go_ret
    exact ⟨ret_bool (by simp), rfl⟩

theorem quote_calls (c : UInt8) (w : World) : Calls Tryd.prog 28 #[.int .u8 c.toNat] w fun e w' => e = .returned (.bool (quoteB c)) ∧ w = w' := by
  have H : ((c.toNat : Int) == 39) = quoteB c := by
    revert c; refine all_u8 ?_; decide +kernel
  go_enter Tryd.func28, Tryd.ntmps28
  go_wp2
  all_goals go_ret
  all_goals exact ⟨ret_bool (by simp), rfl⟩

theorem any_calls (c : UInt8) (w : World) : Calls Tryd.prog 30 #[.int .u8 c.toNat] w fun e w' => e = .returned (.bool true) ∧ w = w' := by
  go_enter Tryd.func30, Tryd.ntmps30
  go_wp2
  go_ret
  exact ⟨rfl, rfl⟩

structure RunTo (p : UInt8 → Bool) (s : ByteArray) (k : Nat) : Prop where
  le : k ≤ s.size
  all : ∀ j (h : j < s.size), j < k → p s[j] = true
theorem RunTo.stop {p : UInt8 → Bool} {s : ByteArray} {k : Nat} (h : RunTo p s k) (h2 : ∀ h : k < s.size, p s[k] = false) : runN p (L s) = k :=
  runN_stop (by rw [L_length]; exact h.le) (fun j hj hk => by have := h.all j (by rw [← L_length]; exact hj) hk; exact this) (fun hk => h2 (by rw [← L_length]; exact hk))
theorem RunTo.step {p : UInt8 → Bool} {s : ByteArray} {k : Nat} (h : RunTo p s k) (hk : k < s.size) (hp : p s[k] = true) : RunTo p s (k + 1) :=
  ⟨hk, fun j hj hjk => by
    by_cases e : j = k
    · subst e; exact hp
    · exact h.all j hj (by omega)⟩

theorem runN_digit (s : ByteArray) (w : World) (hs : s.size ≤ maxLen) :
    Calls Tryd.prog 15 #[.string s, .func (.func 26) #[] #[]] w fun e w' => e = .returned (.int .i64 (runN digitB (L s))) ∧ w = w' := by
  unfold maxLen at hs
  go_enter Tryd.func15, Tryd.ntmps15
  go_wp2
  go_loop [5] (fun n => ∃ k : Nat, n = .int .i64 k ∧ RunTo digitB s k) (fun n => s.size - (intOf n).toNat)
  case atStart => exact ⟨0, rfl, Nat.zero_le _, fun _ _ h => absurd h (Nat.not_lt_zero _)⟩
  case round =>
    obtain ⟨k, rfl, hp⟩ := hrel
    have hle := hp.le
    by_cases hlt : k < s.size
    · cases hd : digitB s[k]
      · have hf := Lib.hid (hp.stop fun _ => hd)
        go_wp2_with (first | (go_at_call 26; refine (digit_calls _ _).mono ?_; rintro e w' ⟨rfl, rfl⟩))
        go_ret
        exact ⟨ret_int (by rw [hf.out]), rfl⟩
      · have hn := hp.step hlt hd
        go_wp2_with (first | (go_at_call 26; refine (digit_calls _ _).mono ?_; rintro e w' ⟨rfl, rfl⟩))
        go_round
        case rel => exact ⟨k + 1, by go_num, hn⟩
        case measure => simp [intOf]; omega
    · have hf := Lib.hid (hp.stop fun h => absurd h hlt)
      go_wp2
      go_ret
      exact ⟨ret_int (by rw [hf.out]), rfl⟩

theorem runN_word (s : ByteArray) (w : World) (hs : s.size ≤ maxLen) :
    Calls Tryd.prog 15 #[.string s, .func (.func 44) #[] #[]] w fun e w' => e = .returned (.int .i64 (runN wordB (L s))) ∧ w = w' := by
  unfold maxLen at hs
  go_enter Tryd.func15, Tryd.ntmps15
  go_wp2
  go_loop [5] (fun n => ∃ k : Nat, n = .int .i64 k ∧ RunTo wordB s k) (fun n => s.size - (intOf n).toNat)
  case atStart => exact ⟨0, rfl, Nat.zero_le _, fun _ _ h => absurd h (Nat.not_lt_zero _)⟩
  case round =>
    obtain ⟨k, rfl, hp⟩ := hrel
    have hle := hp.le
    by_cases hlt : k < s.size
    · cases hd : wordB s[k]
      · have hf := Lib.hid (hp.stop fun _ => hd)
        go_wp2_with (first | (go_at_call 44; refine (wordB_calls _ _).mono ?_; rintro e w' ⟨rfl, rfl⟩))
        go_ret
        exact ⟨ret_int (by rw [hf.out]), rfl⟩
      · have hn := hp.step hlt hd
        go_wp2_with (first | (go_at_call 44; refine (wordB_calls _ _).mono ?_; rintro e w' ⟨rfl, rfl⟩))
        go_round
        case rel => exact ⟨k + 1, by go_num, hn⟩
        case measure => simp [intOf]; omega
    · have hf := Lib.hid (hp.stop fun h => absurd h hlt)
      go_wp2
      go_ret
      exact ⟨ret_int (by rw [hf.out]), rfl⟩

theorem runN_blank (s : ByteArray) (w : World) (hs : s.size ≤ maxLen) :
    Calls Tryd.prog 15 #[.string s, .func (.func 16) #[] #[]] w fun e w' => e = .returned (.int .i64 (runN blankB (L s))) ∧ w = w' := by
  unfold maxLen at hs
  go_enter Tryd.func15, Tryd.ntmps15
  go_wp2
  go_loop [5] (fun n => ∃ k : Nat, n = .int .i64 k ∧ RunTo blankB s k) (fun n => s.size - (intOf n).toNat)
  case atStart => exact ⟨0, rfl, Nat.zero_le _, fun _ _ h => absurd h (Nat.not_lt_zero _)⟩
  case round =>
    obtain ⟨k, rfl, hp⟩ := hrel
    have hle := hp.le
    by_cases hlt : k < s.size
    · cases hd : blankB s[k]
      · have hf := Lib.hid (hp.stop fun _ => hd)
        go_wp2_with (first | (go_at_call 16; refine (blank_calls _ _).mono ?_; rintro e w' ⟨rfl, rfl⟩))
        go_ret
        exact ⟨ret_int (by rw [hf.out]), rfl⟩
      · have hn := hp.step hlt hd
        go_wp2_with (first | (go_at_call 16; refine (blank_calls _ _).mono ?_; rintro e w' ⟨rfl, rfl⟩))
        go_round
        case rel => exact ⟨k + 1, by go_num, hn⟩
        case measure => simp [intOf]; omega
    · have hf := Lib.hid (hp.stop fun h => absurd h hlt)
      go_wp2
      go_ret
      exact ⟨ret_int (by rw [hf.out]), rfl⟩

end Go.Proofs.YtebmbghlhicjlaaDoor.Lx
