/- Parts: PgD LxA LxB LxL LxC LxF. -/
import Derived.Test.YtcjmhmmjfgjcnaaGreatDoorMh01
import Derived.Test.YtcjmhmmjfgjcnaaGreatDoorMh02
import Derived.Test.YtcjmhmmjfgjcnaaGreatDoorMh04
import Derived.Test.YtcjmhmmjfgjcnaaGreatDoorProg
import Derived.Outline
import Derived.WalkSpells
import Derived.WalkLawsBesides
import Derived.Shelf.Strings.Builder1
import Derived.Shelf.Strings.BuilderF
import Derived.Shelf.Strings.BuilderK

/- sha: right. -/
namespace Go.Proofs.YtcjmhmmjfgjcnaaGreatDoor.Sh
open Go.RowKit Go.Proofs.YtcjmhmmjfgjcnaaGreatDoor.Lx

set_option maxHeartbeats 1000000 in
set_option maxRecDepth 100000 in
theorem right_calls (w : World) (a0 a1 a2 a3 a4 a5 a6 a7 n : Nat) (r : ByteArray) (hn : n < 1152921504606846976) (hr : r.size < 64) (he : n % 64 = r.size) :
    Calls Tryz.prog 123 #[.agg #[.int .u32 a0, .int .u32 a1, .int .u32 a2, .int .u32 a3, .int .u32 a4, .int .u32 a5, .int .u32 a6, .int .u32 a7, .int .u64 n, .string r]] w fun e w' => e = .returned (.bool true) ∧ Below w.heap.size w w' := by
  have b0 : decide ((n : Int) < 1152921504606846976) = true := by rw [decide_eq_true_iff]; omega
  have b1 : decide ((r.size : Int) < 64) = true := by rw [decide_eq_true_iff]; omega
  have b2 : (r.size : Int) % 18446744073709551616 = r.size := by omega
  have b3 : (n : Int) % 64 = r.size := by omega
  have c0 : (n : Int) < 1152921504606846976 := by omega
  have c1 : (r.size : Int) < 64 := by omega
  go_enter Tryz.func123, Tryz.ntmps123
  go_wp2_with fail
  go_ret
  refine ⟨?_, shNew _ _⟩

  rfl

end Go.Proofs.YtcjmhmmjfgjcnaaGreatDoor.Sh

/- The small functions of lex: kinds of bytes, runs of them, great letters. -/
namespace Go.Proofs.YtcjmhmmjfgjcnaaGreatDoor.Lx
open Go.RowKit

theorem digit_calls (c : UInt8) (w : World) : Calls Tryz.prog 92 #[.int .u8 c.toNat] w fun e w' => e = .returned (.bool (digitB c)) ∧ w = w' := by
  go_enter Tryz.func92, Tryz.ntmps92
  go_wp2
  all_goals go_ret
  all_goals refine ⟨ret_bool ?_, rfl⟩
  all_goals (rename_i h; revert h; revert c; refine all_u8 ?_; decide +kernel)

theorem blank_calls (c : UInt8) (w : World) : Calls Tryz.prog 46 #[.int .u8 c.toNat] w fun e w' => e = .returned (.bool (blankB c)) ∧ w = w' := by
  have H : ∀ b : Bool, ((c.toNat : Int) == 32 || (c.toNat : Int) == 9 || (c.toNat : Int) == 10 || (c.toNat : Int) == 13) = b → blankB c = b := by
    intro b; revert b; revert c; refine all_u8 ?_; decide +kernel
  go_enter Tryz.func46, Tryz.ntmps46
  go_wp2
  all_goals go_ret
  all_goals refine ⟨ret_bool ?_, rfl⟩
  all_goals (symm; apply H; simp [*])

theorem letter_calls (c : UInt8) (w : World) : Calls Tryz.prog 90 #[.int .u8 c.toNat] w fun e w' => e = .returned (.bool (letterB c)) ∧ w = w' := by
  go_enter Tryz.func90, Tryz.ntmps90
  go_wp2
  all_goals go_ret
  all_goals refine ⟨ret_bool ?_, rfl⟩
  · rename_i h1 h2; revert h1 h2; revert c; refine all_u8 ?_; decide +kernel
  · rename_i h1 h2; revert h1 h2; revert c; refine all_u8 ?_; decide +kernel
  · rename_i h1; revert h1; revert c; refine all_u8 ?_; decide +kernel

theorem wordB_calls (c : UInt8) (w : World) : Calls Tryz.prog 128 #[.int .u8 c.toNat] w fun e w' => e = .returned (.bool (wordB c)) ∧ w = w' := by
  unfold wordB
  cases h : letterB c
  all_goals
    go_enter Tryz.func128, Tryz.ntmps128
    go_wp2_with (first | (go_at_call 90; refine (letter_calls _ _).mono ?_; rintro e w' ⟨rfl, rfl⟩) | (go_at_call 92; refine (digit_calls _ _).mono ?_; rintro e w' ⟨rfl, rfl⟩))
    go_ret
    exact ⟨ret_bool (by simp), rfl⟩

theorem quote_calls (c : UInt8) (w : World) : Calls Tryz.prog 94 #[.int .u8 c.toNat] w fun e w' => e = .returned (.bool (quoteB c)) ∧ w = w' := by
  have H : ((c.toNat : Int) == 39) = quoteB c := by
    revert c; refine all_u8 ?_; decide +kernel
  go_enter Tryz.func94, Tryz.ntmps94
  go_wp2
  all_goals go_ret
  all_goals exact ⟨ret_bool (by simp), rfl⟩

theorem any_calls (c : UInt8) (w : World) : Calls Tryz.prog 96 #[.int .u8 c.toNat] w fun e w' => e = .returned (.bool true) ∧ w = w' := by
  go_enter Tryz.func96, Tryz.ntmps96
  go_wp2
  go_ret
  exact ⟨rfl, rfl⟩

structure RunTo (p : UInt8 → Bool) (s : ByteArray) (k : Nat) : Prop where
  le : k ≤ s.size
  all : ∀ j (h : j < s.size), j < k → p s[j] = true
theorem RunTo.stop {p : UInt8 → Bool} {s : ByteArray} {k : Nat} (h : RunTo p s k) (h2 : ∀ h : k < s.size, p s[k] = false) : runN p (L s) = k :=
  runN_stop (by rw [L_length]; exact h.le) (fun j hj hk => by have := h.all j (by rw [← L_length]; exact hj) hk; exact this) (fun hk => h2 (by rw [← L_length]; exact hk))
theorem RunTo.step {p : UInt8 → Bool} {s : ByteArray} {k : Nat} (h : RunTo p s k) (hk : k < s.size) (hp : p s[k] = true) : RunTo p s (k + 1) :=
  ⟨hk, fun j hj hjk => by
    by_cases e : j = k
    · subst e; exact hp
    · exact h.all j hj (by omega)⟩

theorem runN_digit (s : ByteArray) (w : World) (hs : s.size ≤ maxLen) :
    Calls Tryz.prog 45 #[.string s, .func (.func 92) #[] #[]] w fun e w' => e = .returned (.int .i64 (runN digitB (L s))) ∧ w = w' := by
  unfold maxLen at hs
  go_enter Tryz.func45, Tryz.ntmps45
  go_wp2
  go_loop [5] (fun n => ∃ k : Nat, n = .int .i64 k ∧ RunTo digitB s k) (fun n => s.size - (intOf n).toNat)
  case atStart => exact ⟨0, rfl, Nat.zero_le _, fun _ _ h => absurd h (Nat.not_lt_zero _)⟩
  case round =>
    obtain ⟨k, rfl, hp⟩ := hrel
    have hle := hp.le
    by_cases hlt : k < s.size
    · cases hd : digitB s[k]
      · have hf := Lib.hid (hp.stop fun _ => hd)
        go_wp2_with (first | (go_at_call 92; refine (digit_calls _ _).mono ?_; rintro e w' ⟨rfl, rfl⟩))
        go_ret
        exact ⟨ret_int (by rw [hf.out]), rfl⟩
      · have hn := hp.step hlt hd
        go_wp2_with (first | (go_at_call 92; refine (digit_calls _ _).mono ?_; rintro e w' ⟨rfl, rfl⟩))
        go_round
        case rel => exact ⟨k + 1, by go_num, hn⟩
        case measure => simp [intOf]; omega
    · have hf := Lib.hid (hp.stop fun h => absurd h hlt)
      go_wp2
      go_ret
      exact ⟨ret_int (by rw [hf.out]), rfl⟩

theorem runN_word (s : ByteArray) (w : World) (hs : s.size ≤ maxLen) :
    Calls Tryz.prog 45 #[.string s, .func (.func 128) #[] #[]] w fun e w' => e = .returned (.int .i64 (runN wordB (L s))) ∧ w = w' := by
  unfold maxLen at hs
  go_enter Tryz.func45, Tryz.ntmps45
  go_wp2
  go_loop [5] (fun n => ∃ k : Nat, n = .int .i64 k ∧ RunTo wordB s k) (fun n => s.size - (intOf n).toNat)
  case atStart => exact ⟨0, rfl, Nat.zero_le _, fun _ _ h => absurd h (Nat.not_lt_zero _)⟩
  case round =>
    obtain ⟨k, rfl, hp⟩ := hrel
    have hle := hp.le
    by_cases hlt : k < s.size
    · cases hd : wordB s[k]
      · have hf := Lib.hid (hp.stop fun _ => hd)
        go_wp2_with (first | (go_at_call 128; refine (wordB_calls _ _).mono ?_; rintro e w' ⟨rfl, rfl⟩))
        go_ret
        exact ⟨ret_int (by rw [hf.out]), rfl⟩
      · have hn := hp.step hlt hd
        go_wp2_with (first | (go_at_call 128; refine (wordB_calls _ _).mono ?_; rintro e w' ⟨rfl, rfl⟩))
        go_round
        case rel => exact ⟨k + 1, by go_num, hn⟩
        case measure => simp [intOf]; omega
    · have hf := Lib.hid (hp.stop fun h => absurd h hlt)
      go_wp2
      go_ret
      exact ⟨ret_int (by rw [hf.out]), rfl⟩

theorem runN_blank (s : ByteArray) (w : World) (hs : s.size ≤ maxLen) :
    Calls Tryz.prog 45 #[.string s, .func (.func 46) #[] #[]] w fun e w' => e = .returned (.int .i64 (runN blankB (L s))) ∧ w = w' := by
  unfold maxLen at hs
  go_enter Tryz.func45, Tryz.ntmps45
  go_wp2
  go_loop [5] (fun n => ∃ k : Nat, n = .int .i64 k ∧ RunTo blankB s k) (fun n => s.size - (intOf n).toNat)
  case atStart => exact ⟨0, rfl, Nat.zero_le _, fun _ _ h => absurd h (Nat.not_lt_zero _)⟩
  case round =>
    obtain ⟨k, rfl, hp⟩ := hrel
    have hle := hp.le
    by_cases hlt : k < s.size
    · cases hd : blankB s[k]
      · have hf := Lib.hid (hp.stop fun _ => hd)
        go_wp2_with (first | (go_at_call 46; refine (blank_calls _ _).mono ?_; rintro e w' ⟨rfl, rfl⟩))
        go_ret
        exact ⟨ret_int (by rw [hf.out]), rfl⟩
      · have hn := hp.step hlt hd
        go_wp2_with (first | (go_at_call 46; refine (blank_calls _ _).mono ?_; rintro e w' ⟨rfl, rfl⟩))
        go_round
        case rel => exact ⟨k + 1, by go_num, hn⟩
        case measure => simp [intOf]; omega
    · have hf := Lib.hid (hp.stop fun h => absurd h hlt)
      go_wp2
      go_ret
      exact ⟨ret_int (by rw [hf.out]), rfl⟩

end Go.Proofs.YtcjmhmmjfgjcnaaGreatDoor.Lx

/- great and Keyword of lex. -/
namespace Go.Proofs.YtcjmhmmjfgjcnaaGreatDoor.Lx
open Go.RowKit

theorem upB_yes (c : UInt8) (h1 : 97 ≤ (c.toNat : Int)) (h2 : (c.toNat : Int) ≤ 122) : (upB c).toNat = bits .andNot .u8 c.toNat 32 := by
  revert h1 h2; revert c; refine all_u8 ?_; decide +kernel
theorem upB_no (c : UInt8) (h : ¬ (97 ≤ (c.toNat : Int) ∧ (c.toNat : Int) ≤ 122)) : upB c = c := by
  revert h; revert c; refine all_u8 ?_; decide +kernel

set_option maxRecDepth 100000 in
theorem great_calls (s : ByteArray) (w : World) (hs : s.size ≤ maxLen) :
    Calls Tryz.prog 130 #[.string s] w fun e w' => e = .returned (.string ⟨(great (L s)).toArray⟩) ∧ Below w.heap.size w w' := by
  unfold maxLen at hs
  obtain ⟨cap, w1, hcap, hconv, hb0, hsz0, hrow0⟩ := conv_bytes Tryz.prog 9 104 5 Tryz.underlying9 Tryz.underlying104 Tryz.underlying5 s w
  have hb1 := Lib.hid hb0
  have hrow := Lib.hid hrow0
  have hsz := Lib.hid hsz0
  clear hb0 hrow0 hsz0
  go_enter Tryz.func130, Tryz.ntmps130
  go_wp2
  go_loopw [10] (fun i wr => ∃ k : Nat, k ≤ s.size ∧ i = .int .i64 k ∧ Hid (Below w.heap.size w wr ∧ w.heap.size < wr.heap.size) ∧ Hid (BytesAt wr w.heap.size (greatTo (L s) k))) (fun i _ => s.size - (intOf i).toNat)
  case atStart => exact ⟨0, Nat.zero_le _, rfl, ⟨hb1.out, by rw [hsz.out]; omega⟩, by rw [greatTo_zero]; exact hrow.out⟩
  case round =>
    obtain ⟨k, hk, rfl, hb, hr⟩ := hrel
    by_cases hlt : k < s.size
    · have hlt' : k < (L s).length := by rw [L_length]; exact hlt
      have hck := (hr.out k (by rw [greatTo_length]; exact hlt')).1
      have hcz := (hr.out k (by rw [greatTo_length]; exact hlt')).2
      rw [greatTo_get _ hlt'] at hck
      generalize hc : (L s)[k] = c at hck
      have Hc := Lib.hid hc
      clear hc
      have hb' := hb.out.1
      have hz' := hb.out.2
      have hup := fun h1 h2 => (show BytesAt (wr.setCell ⟨w.heap.size, k, none⟩ (.int .u8 (bits .andNot .u8 c.toNat 32))) w.heap.size (greatTo (L s) (k + 1)) by
        rw [greatTo_succ _ hlt', Hc.out, ← upB_yes c h1 h2]
        exact hr.out.set k (upB c) (by rw [greatTo_length]; exact hlt'))
      have hno := fun h => (show BytesAt wr w.heap.size (greatTo (L s) (k + 1)) by
        rw [greatTo_same _ hlt' (by rw [Hc.out]; exact upB_no c h)]
        exact hr.out)
      have Hup := Lib.hid hup
      have Hno := Lib.hid hno
      clear hup hno
      have Hb := Lib.hid hb'
      clear hb'
      go_wp2
      · rename_i h1 h2
        go_roundw
        case rel => exact ⟨k + 1, by omega, by go_num, ⟨Hb.out.setCell (Nat.le_refl _) _, by simpa using hz'⟩, Hup.out h1 h2⟩
        case measure => simp [intOf]; omega
      · rename_i h1 h2
        go_roundw
        case rel => exact ⟨k + 1, by omega, by go_num, ⟨Hb.out, hz'⟩, Hno.out (by omega)⟩
        case measure => simp [intOf]; omega
      · rename_i h1
        go_roundw
        case rel => exact ⟨k + 1, by omega, by go_num, ⟨Hb.out, hz'⟩, Hno.out (by omega)⟩
        case measure => simp [intOf]; omega
    · have hback := conv_string Tryz.prog 104 9 5 Tryz.underlying104 Tryz.underlying9 Tryz.underlying5 wr w.heap.size s.size cap (greatTo (L s) k) (by rw [greatTo_length, L_length]) hr.out
      go_wp2
      go_ret
      exact ⟨ret_str (by rw [greatTo_all]; rw [L_length]; omega), hb.out.1⟩

theorem nan_calls (a : ByteArray) (w : World) : Calls Tryz.prog 198 #[.string a] w fun e w' => e = .returned (.bool false) ∧ w = w' := by
  go_enter Tryz.func198, Tryz.ntmps198
  go_wp2
  go_ret
  exact ⟨ret_bool (by simp), rfl⟩
theorem nan2_calls (a : ByteArray) (w : World) : Calls Tryz.prog 177 #[.string a] w fun e w' => e = .returned (.bool false) ∧ w = w' := by
  go_enter Tryz.func177, Tryz.ntmps177
  go_wp2
  go_ret
  exact ⟨ret_bool (by simp), rfl⟩
theorem less_calls (a b : ByteArray) (w : World) : Calls Tryz.prog 176 #[.string a, .string b] w fun e w' => e = .returned (.bool (Op.bytesLess (L a) (L b))) ∧ w = w' := by
  go_enter Tryz.func176, Tryz.ntmps176
  go_wp2_with (go_at_call 198; refine (nan_calls _ _).mono ?_; rintro e w' ⟨rfl, rfl⟩)
  go_ret
  exact ⟨ret_bool (by simp [toList_L]), rfl⟩

def KwsAt (w : World) (B : Nat) : Prop := ∀ j, j < 26 → w.cell? ⟨B, j, none⟩ = some (.string ⟨(kwAt j).toArray⟩)
theorem KwsAt.below {w w' : World} {B : Nat} (h : KwsAt w B) (hb : Below w.heap.size w w') (hB : B < w.heap.size) : KwsAt w' B :=
  fun j hj => (hb.cell (p := ⟨B, j, none⟩) hB).trans (h j hj)

set_option maxRecDepth 100000 in
theorem keywords_calls (w : World) : Calls Tryz.prog 152 #[] w fun e w' => e = .returned (.slice (some ⟨w.heap.size, 0, none⟩) 26 26) ∧ Below w.heap.size w w' ∧ w.heap.size < w'.heap.size ∧ KwsAt w' w.heap.size := by
  go_enter Tryz.func152, Tryz.ntmps152
  go_wp2
  go_ret
  refine ⟨rfl, (Below.refl _ _).alloc (Nat.le_refl _) _, by simp, ?_⟩
  intro j hj
  rw [World.cell?_alloc_new]
  match j, hj with
  | 0, _ => rfl
  | 1, _ => rfl
  | 2, _ => rfl
  | 3, _ => rfl
  | 4, _ => rfl
  | 5, _ => rfl
  | 6, _ => rfl
  | 7, _ => rfl
  | 8, _ => rfl
  | 9, _ => rfl
  | 10, _ => rfl
  | 11, _ => rfl
  | 12, _ => rfl
  | 13, _ => rfl
  | 14, _ => rfl
  | 15, _ => rfl
  | 16, _ => rfl
  | 17, _ => rfl
  | 18, _ => rfl
  | 19, _ => rfl
  | 20, _ => rfl
  | 21, _ => rfl
  | 22, _ => rfl
  | 23, _ => rfl
  | 24, _ => rfl
  | 25, _ => rfl
  | n + 26, h => exact absurd h (by omega)

set_option maxRecDepth 100000 in
theorem search_calls (B : Nat) (x : ByteArray) (w : World) (hk : KwsAt w B) :
    Calls Tryz.prog 151 #[.slice (some ⟨B, 0, none⟩) 26 26, .string x] w fun e w' => (∃ i : Int, e = .returned (.tuple #[.int .i64 i, .bool (decide (L x ∈ kws))])) ∧ w = w' := by
  have Hk := Lib.hid hk
  clear hk
  go_enter Tryz.func151, Tryz.ntmps151
  go_wp2
  go_loop [7, 8] (fun a b => ∃ i j : Nat, i ≤ j ∧ j ≤ 26 ∧ a = .int .i64 i ∧ b = .int .i64 j ∧ Hid (∀ m, m < i → Op.bytesLess (kwAt m) (L x) = true) ∧ Hid (∀ m, j ≤ m → m < 26 → Op.bytesLess (kwAt m) (L x) = false)) (fun a b => ((intOf b).toNat - (intOf a).toNat))
  case atStart => exact ⟨0, 26, by omega, by omega, rfl, rfl, fun m h => absurd h (Nat.not_lt_zero _), fun m h1 h2 => by omega⟩
  case round =>
    obtain ⟨i, j, hij, hj, rfl, rfl, hlo, hhi⟩ := hrel
    by_cases hlt : i < j
    · have hc := Hk.out ((i + j) / 2) (by omega)
      have Hlo := Lib.hid (show Op.bytesLess (kwAt ((i + j) / 2)) (L x) = true → ∀ m, m < (i + j) / 2 + 1 → Op.bytesLess (kwAt m) (L x) = true from fun h m hm => by
        rcases Nat.lt_or_ge m i with h' | h'
        · exact hlo.out m h'
        · exact kw_down h (by omega) (by omega))
      have Hhi := Lib.hid (show Op.bytesLess (kwAt ((i + j) / 2)) (L x) = false → ∀ m, (i + j) / 2 ≤ m → m < 26 → Op.bytesLess (kwAt m) (L x) = false from fun h m h1 h2 => kw_up h (by omega) (by omega))
      go_wp2_with (go_at_call 176; refine (less_calls _ _ _).mono ?_; rintro e w' ⟨rfl, rfl⟩)
      · rename_i h1
        go_round
        case rel => exact ⟨(i + j) / 2 + 1, j, by omega, by omega, by go_num, rfl, Hlo.out (by rw [← h1, L_mk]), hhi⟩
        case measure => simp [intOf]; omega
      · rename_i h1
        go_round
        case rel => exact ⟨i, (i + j) / 2, by omega, by omega, rfl, by go_num, hlo, Hhi.out (by rw [← h1, L_mk])⟩
        case measure => simp [intOf]; omega
    · obtain rfl : i = j := by omega
      have hkw := Lib.hid (kw_in hj hlo.out hhi.out)
      by_cases h26 : i < 26
      · have hc := Hk.out i h26
        go_wp2_with (go_at_call 177; refine (nan2_calls _ _).mono ?_; rintro e w' ⟨rfl, rfl⟩)
        · have h2 : kwAt i = x.toList := by assumption
          go_ret2
          exact ⟨⟨(i : Int), ret_ib (decide_eq_true (hkw.out.2 ⟨h26, by rw [h2, toList_L]⟩)).symm⟩, rfl⟩
        · have h2 : ¬ kwAt i = x.toList := by assumption
          go_ret2
          exact ⟨⟨(i : Int), ret_ib ((beq_eq_false_iff_ne.2 h2).trans (decide_eq_false (fun h => h2 (by rw [(hkw.out.1 h).2, toList_L]))).symm)⟩, rfl⟩
      · go_wp2_with (go_at_call 177; refine (nan2_calls _ _).mono ?_; rintro e w' ⟨rfl, rfl⟩)
        go_ret2
        exact ⟨⟨(i : Int), ret_ib (decide_eq_false (fun h => h26 (hkw.out.1 h).1)).symm⟩, rfl⟩

set_option maxRecDepth 100000 in
theorem Keyword_calls (s : ByteArray) (w : World) (hs : s.size ≤ maxLen) :
    Calls Tryz.prog 129 #[.string s] w fun e w' => e = .returned (.bool (keywordB (L s))) ∧ Below w.heap.size w w' := by
  go_enter Tryz.func129, Tryz.ntmps129
  go_wp2_with fail
  refine (keywords_calls _).mono ?_
  rintro e w1 ⟨rfl, hb1, hz1, hk⟩
  have Hb1 := Lib.hid hb1
  have Hk := Lib.hid hk
  clear hb1 hk
  go_wp2_with fail
  refine (great_calls _ _ hs).mono ?_
  rintro e w2 ⟨rfl, hb2⟩
  have Hb2 := Lib.hid hb2
  clear hb2
  go_wp2_with fail
  refine (search_calls _ _ _ (Hk.out.below Hb2.out hz1)).mono ?_
  rintro e w3 ⟨⟨i, rfl⟩, rfl⟩
  go_wp2_with fail
  go_ret
  exact ⟨ret_bool (by rw [L_mk]; rfl), Hb1.out.trans (Hb2.out.mono (by omega))⟩

end Go.Proofs.YtcjmhmmjfgjcnaaGreatDoor.Lx

/- Laid by hand after the shelf's plain form: a Builder's WriteString and WriteByte (the shelf's own command leaves these out where a type is named by no body). -/
namespace Go.Proofs.YtcjmhmmjfgjcnaaGreatDoor.Lx
open Go.Shelf Go.Proofs

def bRen : Go.Shelf.Ren := ⟨fun | 166 => 101 | 167 => 77 | 240 => 122 | 276 => 146 | n => n, fun | 0 => 0 | 3 => 3 | 4 => 4 | 5 => 5 | 9 => 9 | 20 => 20 | 37 => 104 | 70 => 123 | 72 => 125 | 75 => 127 | 80 => 130 | 164 => 195 | n => n, fun | n => n⟩

theorem lays166 : Go.Proofs.Lays.n166 Tryz.prog bRen := {
  mixed := by kernel_rfl
  f166 := Tryz.func101.trans (congrArg some (by kernel_rfl))
  f240 := Tryz.func122.trans (congrArg some (by kernel_rfl))
  f276 := Tryz.func146.trans (congrArg some (by kernel_rfl))
  t0 := Tryz.underlying0
  a0 := Tryz.isAgg0
  z0 := Tryz.sizeOf0
  v0 := Tryz.zeroValue0
  t3 := Tryz.underlying3
  a3 := Tryz.isAgg3
  z3 := Tryz.sizeOf3
  v3 := Tryz.zeroValue3
  t4 := Tryz.underlying4
  a4 := Tryz.isAgg4
  z4 := Tryz.sizeOf4
  v4 := Tryz.zeroValue4
  t9 := Tryz.underlying9
  a9 := Tryz.isAgg9
  z9 := Tryz.sizeOf9
  v9 := Tryz.zeroValue9
  t20 := Tryz.underlying20
  a20 := Tryz.isAgg20
  z20 := Tryz.sizeOf20
  v20 := Tryz.zeroValue20
  t37 := Tryz.underlying104
  a37 := Tryz.isAgg104
  z37 := Tryz.sizeOf104
  v37 := Tryz.zeroValue104
  t70 := Tryz.underlying123
  a70 := Tryz.isAgg123
  z70 := Tryz.sizeOf123
  v70 := Tryz.zeroValue123
  t72 := Tryz.underlying125
  a72 := Tryz.isAgg125
  z72 := Tryz.sizeOf125
  v72 := Tryz.zeroValue125
  t75 := Tryz.underlying127
  a75 := Tryz.isAgg127
  z75 := Tryz.sizeOf127
  v75 := Tryz.zeroValue127
  t164 := Tryz.underlying195
  a164 := Tryz.isAgg195
  z164 := Tryz.sizeOf195
  v164 := Tryz.zeroValue195 }

theorem lays167 : Go.Proofs.Lays.n167 Tryz.prog bRen := {
  mixed := by kernel_rfl
  f167 := Tryz.func77.trans (congrArg some (by kernel_rfl))
  f240 := Tryz.func122.trans (congrArg some (by kernel_rfl))
  f276 := Tryz.func146.trans (congrArg some (by kernel_rfl))
  t0 := Tryz.underlying0
  a0 := Tryz.isAgg0
  z0 := Tryz.sizeOf0
  v0 := Tryz.zeroValue0
  t4 := Tryz.underlying4
  a4 := Tryz.isAgg4
  z4 := Tryz.sizeOf4
  v4 := Tryz.zeroValue4
  t5 := Tryz.underlying5
  a5 := Tryz.isAgg5
  z5 := Tryz.sizeOf5
  v5 := Tryz.zeroValue5
  t9 := Tryz.underlying9
  a9 := Tryz.isAgg9
  z9 := Tryz.sizeOf9
  v9 := Tryz.zeroValue9
  t20 := Tryz.underlying20
  a20 := Tryz.isAgg20
  z20 := Tryz.sizeOf20
  v20 := Tryz.zeroValue20
  t37 := Tryz.underlying104
  a37 := Tryz.isAgg104
  z37 := Tryz.sizeOf104
  v37 := Tryz.zeroValue104
  t70 := Tryz.underlying123
  a70 := Tryz.isAgg123
  z70 := Tryz.sizeOf123
  v70 := Tryz.zeroValue123
  t72 := Tryz.underlying125
  a72 := Tryz.isAgg125
  z72 := Tryz.sizeOf125
  v72 := Tryz.zeroValue125
  t75 := Tryz.underlying127
  a75 := Tryz.isAgg127
  z75 := Tryz.sizeOf127
  v75 := Tryz.zeroValue127
  t164 := Tryz.underlying195
  a164 := Tryz.isAgg195
  z164 := Tryz.sizeOf195
  v164 := Tryz.zeroValue195 }

theorem bExtra : Builder.Extra Tryz.prog bRen := {
  sizeBuilder := by kernel_rfl
  liesBuilder := by kernel_rfl
  t5 := Tryz.underlying5
  a5 := Tryz.isAgg5
  z5 := Tryz.sizeOf5
  v5 := Tryz.zeroValue5
  infoByte := by kernel_rfl
  cellsByte := by kernel_rfl
  sizeByte := by kernel_rfl
  neB5 := by decide }
open Go.RowKit
theorem writeString_calls (B b : Nat) (bs : List Value) (s : ByteArray) (w : World) (h : Lib.IsBuilderF 125 5 B b bs w) (hl : bs.length + s.size ≤ 140737488355328) (hB : B ≤ w.heap.size) :
    Calls Tryz.prog 101 #[.pointer (some ⟨b, 0, none⟩), .string s] w fun e w' => e = .returned (.tuple #[.int .i64 s.size, .nilIface]) ∧ Lib.IsBuilderF 125 5 B b (bs ++ Lib.strCells s) w' ∧ Below B w w' :=
  (Any.Builder_WriteString_k lays166 bExtra B b bs s w h hl hB).mono fun _ _ h => ⟨h.1, .inr h.2.1, h.2.2.1⟩
theorem writeByte_calls (B b : Nat) (bs : List Value) (c : Int) (w : World) (h : Lib.IsBuilderF 125 5 B b bs w) (hl : bs.length + 1 ≤ 140737488355328) (hB : B ≤ w.heap.size) :
    Calls Tryz.prog 77 #[.pointer (some ⟨b, 0, none⟩), .int .u8 c] w fun e w' => e = .returned .nilIface ∧ Lib.IsBuilderF 125 5 B b (bs ++ [.int .u8 c]) w' ∧ Below B w w' :=
  (Any.Builder_WriteByte_k lays167 bExtra B b bs c w h hl hB).mono fun _ _ h => ⟨h.1, .inr h.2.1, h.2.2.1⟩
end Go.Proofs.YtcjmhmmjfgjcnaaGreatDoor.Lx

/- The readers of single tokens: word, number, sign, text. -/
namespace Go.Proofs.YtcjmhmmjfgjcnaaGreatDoor.Lx
open Go.RowKit

def Tok.val (t : Tok) : Value := .agg #[.int .u8 t.kind, .string ⟨t.text.toArray⟩, .int .i64 t.num, .int .i64 t.pos]
def Rd.val : Rd → Value
  | .ok t n => .tuple #[t.val, .int .i64 n, .int .i64 0]
  | .err e => .tuple #[tok0.val, .int .i64 0, .int .i64 e]

theorem four {w : World} {B : Nat} {a b c d : Value} {T : TypeId} (h : w.heap[B]? = some (.cells #[a, b, c, d] T)) :
    (w.cell? ⟨B, 0, none⟩ = some a ∧ w.cell? ⟨B, 1, none⟩ = some b ∧ w.cell? ⟨B, 2, none⟩ = some c ∧ w.cell? ⟨B, 3, none⟩ = some d) ∧
    (w.frozen? ⟨B, 0, none⟩ = false ∧ w.frozen? ⟨B, 1, none⟩ = false ∧ w.frozen? ⟨B, 2, none⟩ = false ∧ w.frozen? ⟨B, 3, none⟩ = false) := by
  simp [World.cell?, World.frozen?, h]
theorem new_block (w : World) (o : Obj) {w' : World} (hb : Below (w.alloc o).heap.size (w.alloc o) w') : w'.heap[w.heap.size]? = some o := by
  rw [hb.block w.heap.size (by simp)]
  simp [World.alloc, -World.alloc_eq]
theorem below_new {w w' : World} {o : Obj} (hb : Below (w.alloc o).heap.size (w.alloc o) w') : Below w.heap.size w w' :=
  ((Below.refl _ _).alloc (Nat.le_refl _) o).trans (hb.mono (by simp))

theorem ext_le (s : ByteArray) (n : Nat) (h : s.size ≤ maxLen) : (s.extract 0 n).size ≤ maxLen := by
  rw [← L_length, L_take, List.length_take]; exact Nat.le_trans (Nat.min_le_right _ _) (by rw [L_length]; exact h)

theorem below_set4 {w w1 : World} (h : Below w.heap.size w w1) (a b c d : Value) (i j k l : Nat) :
    Below w.heap.size w ((((w1.setCell ⟨w.heap.size, i, none⟩ a).setCell ⟨w.heap.size, j, none⟩ b).setCell ⟨w.heap.size, k, none⟩ c).setCell ⟨w.heap.size, l, none⟩ d) :=
  (((h.setCell (Nat.le_refl _) _).setCell (Nat.le_refl _) _).setCell (Nat.le_refl _) _).setCell (Nat.le_refl _) _

set_option maxRecDepth 100000 in
theorem word_calls (s : ByteArray) (w : World) (hs : s.size ≤ maxLen) :
    Calls Tryz.prog 91 #[.string s] w fun e w' => e = .returned (wordR (L s)).val ∧ Below w.heap.size w w' := by
  have hle := runN_le wordB (L s)
  rw [L_length] at hle
  have Hs := Lib.hid hs
  unfold maxLen at hs
  unfold wordR
  cases hk : keywordB ((L s).take (runN wordB (L s)))
  · rw [if_neg (by simp)]
    have hk' : keywordB (L (s.extract 0 (runN wordB (L s)))) = false := by rw [L_take]; exact hk
    have Hk := Lib.hid hk
    clear hk
    by_cases h64 : 64 < runN wordB (L s)
    · rw [if_pos h64]
      go_enter Tryz.func91, Tryz.ntmps91
      go_wp2_with fail
      refine (runN_word _ _ Hs.out).mono ?_
      rintro e w1 ⟨rfl, rfl⟩
      go_wp2_with fail
      refine (Keyword_calls _ _ (ext_le _ _ Hs.out)).mono ?_
      rintro e w1 ⟨rfl, hb1⟩
      have hw1 := new_block _ _ hb1
      have Hb1 := Lib.hid (below_new hb1)
      have hz1 : w.heap.size < w1.heap.size := by have := hb1.size; simp at this; omega
      have Hw1 := Lib.hid hw1
      clear hb1 hw1
      obtain ⟨⟨c0, c1, c2, c3⟩, f0, f1, f2, f3⟩ := four Hw1.out
      go_wp2_with fail
      refine bodyPost_ret (v := (Rd.err 13).val) (by simp [results, Tryz.results91, go_sem, Rd.val, tok0, Tok.val, c0, c1, c2, c3]) rfl ⟨rfl, below_set4 Hb1.out _ _ _ _ _ _ _ _⟩
    · rw [if_neg h64]
      go_enter Tryz.func91, Tryz.ntmps91
      go_wp2_with fail
      refine (runN_word _ _ Hs.out).mono ?_
      rintro e w1 ⟨rfl, rfl⟩
      go_wp2_with fail
      refine (Keyword_calls _ _ (ext_le _ _ Hs.out)).mono ?_
      rintro e w1 ⟨rfl, hb1⟩
      have hw1 := new_block _ _ hb1
      have Hb1 := Lib.hid (below_new hb1)
      have hz1 : w.heap.size < w1.heap.size := by have := hb1.size; simp at this; omega
      have Hw1 := Lib.hid hw1
      clear hb1 hw1
      obtain ⟨⟨c0, c1, c2, c3⟩, f0, f1, f2, f3⟩ := four Hw1.out
      go_wp2_with fail
      refine bodyPost_ret (v := .tuple #[.agg #[.int .u8 1, .string (s.extract 0 (runN wordB (L s))), .int .i64 0, .int .i64 0], .int .i64 (runN wordB (L s)), .int .i64 0]) (by simp [results, Tryz.results91, go_sem, c0, c1, c2, c3]) rfl ⟨?_, below_set4 Hb1.out _ _ _ _ _ _ _ _⟩
      simp only [Rd.val, Tok.val]
      rw [← L_take, mk_L]
      rfl
  · rw [if_pos rfl]
    have hk' : keywordB (L (s.extract 0 (runN wordB (L s)))) = true := by rw [L_take]; exact hk
    have Hk := Lib.hid hk
    clear hk
    go_enter Tryz.func91, Tryz.ntmps91
    go_wp2_with fail
    refine (runN_word _ _ Hs.out).mono ?_
    rintro e w1 ⟨rfl, rfl⟩
    go_wp2_with fail
    refine (Keyword_calls _ _ (ext_le _ _ Hs.out)).mono ?_
    rintro e w1 ⟨rfl, hb1⟩
    have hw1 := new_block _ _ hb1
    have Hb1 := Lib.hid (below_new hb1)
    have hz1 : w.heap.size < w1.heap.size := by have := hb1.size; simp at this; omega
    have Hw1 := Lib.hid hw1
    clear hb1 hw1
    go_wp2_with fail
    refine (great_calls _ _ (ext_le _ _ Hs.out)).mono ?_
    rintro e w2 ⟨rfl, hb2⟩
    have hw2 : w2.heap[w.heap.size]? = _ := (hb2.block _ hz1).trans Hw1.out
    have Hb2 := Lib.hid (Hb1.out.trans (hb2.mono (by omega)))
    have hz2 : w.heap.size < w2.heap.size := Nat.lt_of_lt_of_le hz1 hb2.size
    obtain ⟨⟨c0, c1, c2, c3⟩, f0, f1, f2, f3⟩ := four hw2
    clear hb2 hw2
    go_wp2_with fail
    refine bodyPost_ret (v := (Rd.ok ⟨2, great ((L s).take (runN wordB (L s))), 0, 0⟩ (runN wordB (L s))).val) (by rw [← L_take]; simp [results, Tryz.results91, go_sem, Rd.val, Tok.val, c0, c1, c2, c3]) rfl ⟨rfl, below_set4 Hb2.out _ _ _ _ _ _ _ _⟩

end Go.Proofs.YtcjmhmmjfgjcnaaGreatDoor.Lx

/- The reader of signs. -/
namespace Go.Proofs.YtcjmhmmjfgjcnaaGreatDoor.Lx
open Go.RowKit

theorem find_at {α : Type} {p : α → Bool} : ∀ {l : List α} {k : Nat} (hk : k < l.length), (∀ j (h : j < l.length), j < k → p l[j] = false) → p l[k] = true → l.find? p = some l[k]
  | [], _, hk, _, _ => absurd hk (by simp)
  | a :: l, 0, _, _, h => by
    have h' : p a = true := h
    simp [h']
  | a :: l, k + 1, hk, h0, h => by
    have ha : p a = false := h0 0 (by simp) (by omega)
    have hk' : k < l.length := by simpa using hk
    simp only [List.find?_cons, ha, List.getElem_cons_succ]
    exact find_at hk' (fun j hj hjk => h0 (j + 1) (by simpa using hj) (by omega)) (by simpa using h)

def SignsAt (w : World) (B : Nat) : Prop := ∀ j (h : j < signs.length), w.cell? ⟨B, j, none⟩ = some (.string ⟨signs[j].toArray⟩)
theorem signs_length : signs.length = 18 := rfl

abbrev tokObj : Obj := .cells #[.int .u8 0, .string ⟨#[]⟩, .int .i64 0, .int .i64 0] 41
abbrev signsObj : Obj := .cells #[.string ⟨#[60, 62]⟩, .string ⟨#[60, 61]⟩, .string ⟨#[62, 61]⟩, .string ⟨#[61]⟩, .string ⟨#[60]⟩, .string ⟨#[62]⟩, .string ⟨#[43]⟩, .string ⟨#[45]⟩, .string ⟨#[42]⟩, .string ⟨#[40]⟩, .string ⟨#[41]⟩, .string ⟨#[91]⟩, .string ⟨#[93]⟩, .string ⟨#[123]⟩, .string ⟨#[125]⟩, .string ⟨#[44]⟩, .string ⟨#[58]⟩, .string ⟨#[46]⟩] 9
theorem signs_at (w : World) : SignsAt (w.alloc signsObj) w.heap.size := by
  intro j hj
  rw [World.cell?_alloc_new]
  match j, hj with
  | 0, _ => rfl
  | 1, _ => rfl
  | 2, _ => rfl
  | 3, _ => rfl
  | 4, _ => rfl
  | 5, _ => rfl
  | 6, _ => rfl
  | 7, _ => rfl
  | 8, _ => rfl
  | 9, _ => rfl
  | 10, _ => rfl
  | 11, _ => rfl
  | 12, _ => rfl
  | 13, _ => rfl
  | 14, _ => rfl
  | 15, _ => rfl
  | 16, _ => rfl
  | 17, _ => rfl
  | n + 18, h => exact absurd h (by rw [signs_length]; omega)
theorem sign_world (w : World) : Below w.heap.size w ((w.alloc tokObj).alloc signsObj) ∧ ((w.alloc tokObj).alloc signsObj).heap[w.heap.size]? = some tokObj ∧ SignsAt ((w.alloc tokObj).alloc signsObj) (w.heap.size + 1) := by
  refine ⟨((Below.refl _ _).alloc (Nat.le_refl _) _).alloc (by simp) _, ?_, ?_⟩
  · rw [Below.heap_alloc _ _ _ (by simp)]
    simp [World.alloc, -World.alloc_eq]
  · have := signs_at (w.alloc tokObj)
    simpa using this

def NoSign (l : List UInt8) (k : Nat) : Prop := ∀ j (h : j < signs.length), j < k → Lib.hasPrefix l signs[j] = false
theorem NoSign.end_ {l : List UInt8} {k : Nat} (h : NoSign l k) (hk : 18 ≤ k) : signR l = .err 13 := by
  unfold signR
  have : (signs.find? fun t => Lib.hasPrefix l t) = none := by
    rw [List.find?_eq_none]
    intro t ht
    obtain ⟨j, hj, rfl⟩ := List.getElem_of_mem ht
    simp [h j hj (by rw [signs_length] at hj; omega)]
  rw [this]
theorem NoSign.hit {l : List UInt8} {k : Nat} (h : NoSign l k) (hk : k < signs.length) (hp : Lib.hasPrefix l signs[k] = true) : signR l = .ok ⟨5, signs[k], 0, 0⟩ signs[k].length := by
  unfold signR
  rw [find_at hk h hp]
theorem NoSign.step {l : List UInt8} {k : Nat} (h : NoSign l k) (hp : ∀ hk : k < signs.length, Lib.hasPrefix l signs[k] = false) : NoSign l (k + 1) := by
  intro j hj hjk
  by_cases e : j = k
  · subst e; exact hp hj
  · exact h j hj (by omega)

set_option maxRecDepth 100000 in
theorem sign_calls (s : ByteArray) (w : World) :
    Calls Tryz.prog 97 #[.string s] w fun e w' => e = .returned (signR (L s)).val ∧ Below w.heap.size w w' := by
  go_enter Tryz.func97, Tryz.ntmps97
  go_wp2
  obtain ⟨hb, ht, hS⟩ := sign_world w
  generalize hW : (w.alloc tokObj).alloc signsObj = W at hb ht hS ⊢
  clear hW
  have Hb := Lib.hid hb
  have HS := Lib.hid hS
  obtain ⟨⟨c0, c1, c2, c3⟩, f0, f1, f2, f3⟩ := four ht
  have Ht := Lib.hid ht
  clear hb hS ht
  go_loop [9] (fun i => ∃ k : Nat, k ≤ 18 ∧ i = .int .i64 k ∧ Hid (NoSign (L s) k)) (fun i => 18 - (intOf i).toNat)
  case atStart => exact ⟨0, Nat.zero_le _, rfl, fun j _ h => absurd h (Nat.not_lt_zero _)⟩
  case round =>
    obtain ⟨k, hk, rfl, hn⟩ := hrel
    by_cases hlt : k < 18
    · have hlt' : k < signs.length := hlt
      have hc := HS.out k hlt'
      generalize hg : signs[k] = g at hc
      have Hg := Lib.hid hg
      clear hg
      cases hp : Lib.hasPrefix (L s) (L ⟨g.toArray⟩)
      · have Hp := Lib.hid (hn.out.step fun h => by rw [Hg.out, ← L_mk g]; exact hp)
        go_wp2_with (first | (go_at_call 133; refine (Tryz.strings_HasPrefix _ _ _).mono ?_; rintro e w' ⟨rfl, rfl⟩))
        go_round
        case rel => exact ⟨k + 1, by omega, by go_num, Hp⟩
        case measure => simp [intOf]; omega
      · have Hp := Lib.hid (hn.out.hit hlt' (by rw [Hg.out, ← L_mk g]; exact hp))
        go_wp2_with (first | (go_at_call 133; refine (Tryz.strings_HasPrefix _ _ _).mono ?_; rintro e w' ⟨rfl, rfl⟩))
        have hv : (signR (L s)).val = .tuple #[.agg #[.int .u8 5, .string ⟨g.toArray⟩, .int .i64 0, .int .i64 0], .int .i64 g.length, .int .i64 0] := by
          rw [Hp.out, Hg.out]; rfl
        rw [hv]
        exact bodyPost_ret (v := .tuple #[.agg #[.int .u8 5, .string ⟨g.toArray⟩, .int .i64 0, .int .i64 0], .int .i64 g.length, .int .i64 0]) (by simp [results, Tryz.results97, go_sem, c0, c1, c2, c3]) rfl ⟨rfl, below_set4 Hb.out _ _ _ _ _ _ _ _⟩
    · have Hn := Lib.hid (hn.out.end_ (by omega))
      go_wp2
      rw [Hn.out]
      exact bodyPost_ret (v := (Rd.err 13).val) (by simp [results, Tryz.results97, go_sem, Rd.val, tok0, Tok.val, c0, c1, c2, c3]) rfl ⟨rfl, below_set4 Hb.out _ _ _ _ _ _ _ _⟩

end Go.Proofs.YtcjmhmmjfgjcnaaGreatDoor.Lx
