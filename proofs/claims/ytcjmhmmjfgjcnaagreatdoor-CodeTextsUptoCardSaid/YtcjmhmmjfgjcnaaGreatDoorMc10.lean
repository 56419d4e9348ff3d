/- Parts: LxA LxB LxU RaA. -/
import Derived.Test.YtcjmhmmjfgjcnaaGreatDoorMc01
import Derived.Test.YtcjmhmmjfgjcnaaGreatDoorMc02
import Derived.Test.YtcjmhmmjfgjcnaaGreatDoorProg
import Derived.Outline
import Derived.WalkSpells
import Derived.WalkLawsBesides
import Derived.Lib.ValidLaws
import Derived.Lib.TrimUEq

/- The small functions of lex: kinds of bytes, runs of them, great letters. -/
namespace Go.Proofs.YtcjmhmmjfgjcnaaGreatDoor.Lx
open Go.RowKit

theorem digit_calls (c : UInt8) (w : World) : Calls Tryz.prog 92 #[.int .u8 c.toNat] w fun e w' => e = .returned (.bool (digitB c)) ∧ w = w' := by
  go_enter Tryz.func92, Tryz.ntmps92
  go_wp2
  all_goals go_ret
  all_goals refine ⟨ret_bool ?_, rfl⟩
  all_goals (rename_i h; revert h; revert c; refine all_u8 ?_; decide +kernel)

theorem blank_calls (c : UInt8) (w : World) : Calls Tryz.prog 46 #[.int .u8 c.toNat] w fun e w' => e = .returned (.bool (blankB c)) ∧ w = w' := by
  have H : ∀ b : Bool, ((c.toNat : Int) == 32 || (c.toNat : Int) == 9 || (c.toNat : Int) == 10 || (c.toNat : Int) == 13) = b → blankB c = b := by
    intro b; revert b; revert c; refine all_u8 ?_; decide +kernel
  go_enter Tryz.func46, Tryz.ntmps46
  go_wp2
  all_goals go_ret
  all_goals refine ⟨ret_bool ?_, rfl⟩
  all_goals (symm; apply H; simp [*])

theorem letter_calls (c : UInt8) (w : World) : Calls Tryz.prog 90 #[.int .u8 c.toNat] w fun e w' => e = .returned (.bool (letterB c)) ∧ w = w' := by
  go_enter Tryz.func90, Tryz.ntmps90
  go_wp2
  all_goals go_ret
  all_goals refine ⟨ret_bool ?_, rfl⟩
  · rename_i h1 h2; revert h1 h2; revert c; refine all_u8 ?_; decide +kernel
  · rename_i h1 h2; revert h1 h2; revert c; refine all_u8 ?_; decide +kernel
  · rename_i h1; revert h1; revert c; refine all_u8 ?_; decide +kernel

theorem wordB_calls (c : UInt8) (w : World) : Calls Tryz.prog 128 #[.int .u8 c.toNat] w fun e w' => e = .returned (.bool (wordB c)) ∧ w = w' := by
  unfold wordB
  cases h : letterB c
  all_goals
    go_enter Tryz.func128, Tryz.ntmps128
    go_wp2_with (first | (go_at_call 90; refine (letter_calls _ _).mono ?_; rintro e w' ⟨rfl, rfl⟩) | (go_at_call 92; refine (digit_calls _ _).mono ?_; rintro e w' ⟨rfl, rfl⟩))
    go_ret
    exact ⟨ret_bool (by simp), rfl⟩

theorem quote_calls (c : UInt8) (w : World) : Calls Tryz.prog 94 #[.int .u8 c.toNat] w fun e w' => e = .returned (.bool (quoteB c)) ∧ w = w' := by
  have H : ((c.toNat : Int) == 39) = quoteB c := by
    revert c; refine all_u8 ?_; decide +kernel
  go_enter Tryz.func94, Tryz.ntmps94
  go_wp2
  all_goals go_ret
  all_goals exact ⟨ret_bool (by simp), rfl⟩

theorem any_calls (c : UInt8) (w : World) : Calls Tryz.prog 96 #[.int .u8 c.toNat] w fun e w' => e = .returned (.bool true) ∧ w = w' := by
  go_enter Tryz.func96, Tryz.ntmps96
  go_wp2
  go_ret
  exact ⟨rfl, rfl⟩

structure RunTo (p : UInt8 → Bool) (s : ByteArray) (k : Nat) : Prop where
  le : k ≤ s.size
  all : ∀ j (h : j < s.size), j < k → p s[j] = true
theorem RunTo.stop {p : UInt8 → Bool} {s : ByteArray} {k : Nat} (h : RunTo p s k) (h2 : ∀ h : k < s.size, p s[k] = false) : runN p (L s) = k :=
  runN_stop (by rw [L_length]; exact h.le) (fun j hj hk => by have := h.all j (by rw [← L_length]; exact hj) hk; exact this) (fun hk => h2 (by rw [← L_length]; exact hk))
theorem RunTo.step {p : UInt8 → Bool} {s : ByteArray} {k : Nat} (h : RunTo p s k) (hk : k < s.size) (hp : p s[k] = true) : RunTo p s (k + 1) :=
  ⟨hk, fun j hj hjk => by
    by_cases e : j = k
    · subst e; exact hp
    · exact h.all j hj (by omega)⟩

theorem runN_digit (s : ByteArray) (w : World) (hs : s.size ≤ maxLen) :
    Calls Tryz.prog 45 #[.string s, .func (.func 92) #[] #[]] w fun e w' => e = .returned (.int .i64 (runN digitB (L s))) ∧ w = w' := by
  unfold maxLen at hs
  go_enter Tryz.func45, Tryz.ntmps45
  go_wp2
  go_loop [5] (fun n => ∃ k : Nat, n = .int .i64 k ∧ RunTo digitB s k) (fun n => s.size - (intOf n).toNat)
  case atStart => exact ⟨0, rfl, Nat.zero_le _, fun _ _ h => absurd h (Nat.not_lt_zero _)⟩
  case round =>
    obtain ⟨k, rfl, hp⟩ := hrel
    have hle := hp.le
    by_cases hlt : k < s.size
    · cases hd : digitB s[k]
      · have hf := Lib.hid (hp.stop fun _ => hd)
        go_wp2_with (first | (go_at_call 92; refine (digit_calls _ _).mono ?_; rintro e w' ⟨rfl, rfl⟩))
        go_ret
        exact ⟨ret_int (by rw [hf.out]), rfl⟩
      · have hn := hp.step hlt hd
        go_wp2_with (first | (go_at_call 92; refine (digit_calls _ _).mono ?_; rintro e w' ⟨rfl, rfl⟩))
        go_round
        case rel => exact ⟨k + 1, by go_num, hn⟩
        case measure => simp [intOf]; omega
    · have hf := Lib.hid (hp.stop fun h => absurd h hlt)
      go_wp2
      go_ret
      exact ⟨ret_int (by rw [hf.out]), rfl⟩

theorem runN_word (s : ByteArray) (w : World) (hs : s.size ≤ maxLen) :
    Calls Tryz.prog 45 #[.string s, .func (.func 128) #[] #[]] w fun e w' => e = .returned (.int .i64 (runN wordB (L s))) ∧ w = w' := by
  unfold maxLen at hs
  go_enter Tryz.func45, Tryz.ntmps45
  go_wp2
  go_loop [5] (fun n => ∃ k : Nat, n = .int .i64 k ∧ RunTo wordB s k) (fun n => s.size - (intOf n).toNat)
  case atStart => exact ⟨0, rfl, Nat.zero_le _, fun _ _ h => absurd h (Nat.not_lt_zero _)⟩
  case round =>
    obtain ⟨k, rfl, hp⟩ := hrel
    have hle := hp.le
    by_cases hlt : k < s.size
    · cases hd : wordB s[k]
      · have hf := Lib.hid (hp.stop fun _ => hd)
        go_wp2_with (first | (go_at_call 128; refine (wordB_calls _ _).mono ?_; rintro e w' ⟨rfl, rfl⟩))
        go_ret
        exact ⟨ret_int (by rw [hf.out]), rfl⟩
      · have hn := hp.step hlt hd
        go_wp2_with (first | (go_at_call 128; refine (wordB_calls _ _).mono ?_; rintro e w' ⟨rfl, rfl⟩))
        go_round
        case rel => exact ⟨k + 1, by go_num, hn⟩
        case measure => simp [intOf]; omega
    · have hf := Lib.hid (hp.stop fun h => absurd h hlt)
      go_wp2
      go_ret
      exact ⟨ret_int (by rw [hf.out]), rfl⟩

theorem runN_blank (s : ByteArray) (w : World) (hs : s.size ≤ maxLen) :
    Calls Tryz.prog 45 #[.string s, .func (.func 46) #[] #[]] w fun e w' => e = .returned (.int .i64 (runN blankB (L s))) ∧ w = w' := by
  unfold maxLen at hs
  go_enter Tryz.func45, Tryz.ntmps45
  go_wp2
  go_loop [5] (fun n => ∃ k : Nat, n = .int .i64 k ∧ RunTo blankB s k) (fun n => s.size - (intOf n).toNat)
  case atStart => exact ⟨0, rfl, Nat.zero_le _, fun _ _ h => absurd h (Nat.not_lt_zero _)⟩
  case round =>
    obtain ⟨k, rfl, hp⟩ := hrel
    have hle := hp.le
    by_cases hlt : k < s.size
    · cases hd : blankB s[k]
      · have hf := Lib.hid (hp.stop fun _ => hd)
        go_wp2_with (first | (go_at_call 46; refine (blank_calls _ _).mono ?_; rintro e w' ⟨rfl, rfl⟩))
        go_ret
        exact ⟨ret_int (by rw [hf.out]), rfl⟩
      · have hn := hp.step hlt hd
        go_wp2_with (first | (go_at_call 46; refine (blank_calls _ _).mono ?_; rintro e w' ⟨rfl, rfl⟩))
        go_round
        case rel => exact ⟨k + 1, by go_num, hn⟩
        case measure => simp [intOf]; omega
    · have hf := Lib.hid (hp.stop fun h => absurd h hlt)
      go_wp2
      go_ret
      exact ⟨ret_int (by rw [hf.out]), rfl⟩

end Go.Proofs.YtcjmhmmjfgjcnaaGreatDoor.Lx

/- great and Keyword of lex. -/
namespace Go.Proofs.YtcjmhmmjfgjcnaaGreatDoor.Lx
open Go.RowKit

theorem upB_yes (c : UInt8) (h1 : 97 ≤ (c.toNat : Int)) (h2 : (c.toNat : Int) ≤ 122) : (upB c).toNat = bits .andNot .u8 c.toNat 32 := by
  revert h1 h2; revert c; refine all_u8 ?_; decide +kernel
theorem upB_no (c : UInt8) (h : ¬ (97 ≤ (c.toNat : Int) ∧ (c.toNat : Int) ≤ 122)) : upB c = c := by
  revert h; revert c; refine all_u8 ?_; decide +kernel

set_option maxRecDepth 100000 in
theorem great_calls (s : ByteArray) (w : World) (hs : s.size ≤ maxLen) :
    Calls Tryz.prog 130 #[.string s] w fun e w' => e = .returned (.string ⟨(great (L s)).toArray⟩) ∧ Below w.heap.size w w' := by
  unfold maxLen at hs
  obtain ⟨cap, w1, hcap, hconv, hb0, hsz0, hrow0⟩ := conv_bytes Tryz.prog 9 104 5 Tryz.underlying9 Tryz.underlying104 Tryz.underlying5 s w
  have hb1 := Lib.hid hb0
  have hrow := Lib.hid hrow0
  have hsz := Lib.hid hsz0
  clear hb0 hrow0 hsz0
  go_enter Tryz.func130, Tryz.ntmps130
  go_wp2
  go_loopw [10] (fun i wr => ∃ k : Nat, k ≤ s.size ∧ i = .int .i64 k ∧ Hid (Below w.heap.size w wr ∧ w.heap.size < wr.heap.size) ∧ Hid (BytesAt wr w.heap.size (greatTo (L s) k))) (fun i _ => s.size - (intOf i).toNat)
  case atStart => exact ⟨0, Nat.zero_le _, rfl, ⟨hb1.out, by rw [hsz.out]; omega⟩, by rw [greatTo_zero]; exact hrow.out⟩
  case round =>
    obtain ⟨k, hk, rfl, hb, hr⟩ := hrel
    by_cases hlt : k < s.size
    · have hlt' : k < (L s).length := by rw [L_length]; exact hlt
      have hck := (hr.out k (by rw [greatTo_length]; exact hlt')).1
      have hcz := (hr.out k (by rw [greatTo_length]; exact hlt')).2
      rw [greatTo_get _ hlt'] at hck
      generalize hc : (L s)[k] = c at hck
      have Hc := Lib.hid hc
      clear hc
      have hb' := hb.out.1
      have hz' := hb.out.2
      have hup := fun h1 h2 => (show BytesAt (wr.setCell ⟨w.heap.size, k, none⟩ (.int .u8 (bits .andNot .u8 c.toNat 32))) w.heap.size (greatTo (L s) (k + 1)) by
        rw [greatTo_succ _ hlt', Hc.out, ← upB_yes c h1 h2]
        exact hr.out.set k (upB c) (by rw [greatTo_length]; exact hlt'))
      have hno := fun h => (show BytesAt wr w.heap.size (greatTo (L s) (k + 1)) by
        rw [greatTo_same _ hlt' (by rw [Hc.out]; exact upB_no c h)]
        exact hr.out)
      have Hup := Lib.hid hup
      have Hno := Lib.hid hno
      clear hup hno
      have Hb := Lib.hid hb'
      clear hb'
      go_wp2
      · rename_i h1 h2
        go_roundw
        case rel => exact ⟨k + 1, by omega, by go_num, ⟨Hb.out.setCell (Nat.le_refl _) _, by simpa using hz'⟩, Hup.out h1 h2⟩
        case measure => simp [intOf]; omega
      · rename_i h1 h2
        go_roundw
        case rel => exact ⟨k + 1, by omega, by go_num, ⟨Hb.out, hz'⟩, Hno.out (by omega)⟩
        case measure => simp [intOf]; omega
      · rename_i h1
        go_roundw
        case rel => exact ⟨k + 1, by omega, by go_num, ⟨Hb.out, hz'⟩, Hno.out (by omega)⟩
        case measure => simp [intOf]; omega
    · have hback := conv_string Tryz.prog 104 9 5 Tryz.underlying104 Tryz.underlying9 Tryz.underlying5 wr w.heap.size s.size cap (greatTo (L s) k) (by rw [greatTo_length, L_length]) hr.out
      go_wp2
      go_ret
      exact ⟨ret_str (by rw [greatTo_all]; rw [L_length]; omega), hb.out.1⟩

theorem nan_calls (a : ByteArray) (w : World) : Calls Tryz.prog 198 #[.string a] w fun e w' => e = .returned (.bool false) ∧ w = w' := by
  go_enter Tryz.func198, Tryz.ntmps198
  go_wp2
  go_ret
  exact ⟨ret_bool (by simp), rfl⟩
theorem nan2_calls (a : ByteArray) (w : World) : Calls Tryz.prog 177 #[.string a] w fun e w' => e = .returned (.bool false) ∧ w = w' := by
  go_enter Tryz.func177, Tryz.ntmps177
  go_wp2
  go_ret
  exact ⟨ret_bool (by simp), rfl⟩
theorem less_calls (a b : ByteArray) (w : World) : Calls Tryz.prog 176 #[.string a, .string b] w fun e w' => e = .returned (.bool (Op.bytesLess (L a) (L b))) ∧ w = w' := by
  go_enter Tryz.func176, Tryz.ntmps176
  go_wp2_with (go_at_call 198; refine (nan_calls _ _).mono ?_; rintro e w' ⟨rfl, rfl⟩)
  go_ret
  exact ⟨ret_bool (by simp [toList_L]), rfl⟩

def KwsAt (w : World) (B : Nat) : Prop := ∀ j, j < 26 → w.cell? ⟨B, j, none⟩ = some (.string ⟨(kwAt j).toArray⟩)
theorem KwsAt.below {w w' : World} {B : Nat} (h : KwsAt w B) (hb : Below w.heap.size w w') (hB : B < w.heap.size) : KwsAt w' B :=
  fun j hj => (hb.cell (p := ⟨B, j, none⟩) hB).trans (h j hj)

set_option maxRecDepth 100000 in
theorem keywords_calls (w : World) : Calls Tryz.prog 152 #[] w fun e w' => e = .returned (.slice (some ⟨w.heap.size, 0, none⟩) 26 26) ∧ Below w.heap.size w w' ∧ w.heap.size < w'.heap.size ∧ KwsAt w' w.heap.size := by
  go_enter Tryz.func152, Tryz.ntmps152
  go_wp2
  go_ret
  refine ⟨rfl, (Below.refl _ _).alloc (Nat.le_refl _) _, by simp, ?_⟩
  intro j hj
  rw [World.cell?_alloc_new]
  match j, hj with
  | 0, _ => rfl
  | 1, _ => rfl
  | 2, _ => rfl
  | 3, _ => rfl
  | 4, _ => rfl
  | 5, _ => rfl
  | 6, _ => rfl
  | 7, _ => rfl
  | 8, _ => rfl
  | 9, _ => rfl
  | 10, _ => rfl
  | 11, _ => rfl
  | 12, _ => rfl
  | 13, _ => rfl
  | 14, _ => rfl
  | 15, _ => rfl
  | 16, _ => rfl
  | 17, _ => rfl
  | 18, _ => rfl
  | 19, _ => rfl
  | 20, _ => rfl
  | 21, _ => rfl
  | 22, _ => rfl
  | 23, _ => rfl
  | 24, _ => rfl
  | 25, _ => rfl
  | n + 26, h => exact absurd h (by omega)

set_option maxRecDepth 100000 in
theorem search_calls (B : Nat) (x : ByteArray) (w : World) (hk : KwsAt w B) :
    Calls Tryz.prog 151 #[.slice (some ⟨B, 0, none⟩) 26 26, .string x] w fun e w' => (∃ i : Int, e = .returned (.tuple #[.int .i64 i, .bool (decide (L x ∈ kws))])) ∧ w = w' := by
  have Hk := Lib.hid hk
  clear hk
  go_enter Tryz.func151, Tryz.ntmps151
  go_wp2
  go_loop [7, 8] (fun a b => ∃ i j : Nat, i ≤ j ∧ j ≤ 26 ∧ a = .int .i64 i ∧ b = .int .i64 j ∧ Hid (∀ m, m < i → Op.bytesLess (kwAt m) (L x) = true) ∧ Hid (∀ m, j ≤ m → m < 26 → Op.bytesLess (kwAt m) (L x) = false)) (fun a b => ((intOf b).toNat - (intOf a).toNat))
  case atStart => exact ⟨0, 26, by omega, by omega, rfl, rfl, fun m h => absurd h (Nat.not_lt_zero _), fun m h1 h2 => by omega⟩
  case round =>
    obtain ⟨i, j, hij, hj, rfl, rfl, hlo, hhi⟩ := hrel
    by_cases hlt : i < j
    · have hc := Hk.out ((i + j) / 2) (by omega)
      have Hlo := Lib.hid (show Op.bytesLess (kwAt ((i + j) / 2)) (L x) = true → ∀ m, m < (i + j) / 2 + 1 → Op.bytesLess (kwAt m) (L x) = true from fun h m hm => by
        rcases Nat.lt_or_ge m i with h' | h'
        · exact hlo.out m h'
        · exact kw_down h (by omega) (by omega))
      have Hhi := Lib.hid (show Op.bytesLess (kwAt ((i + j) / 2)) (L x) = false → ∀ m, (i + j) / 2 ≤ m → m < 26 → Op.bytesLess (kwAt m) (L x) = false from fun h m h1 h2 => kw_up h (by omega) (by omega))
      go_wp2_with (go_at_call 176; refine (less_calls _ _ _).mono ?_; rintro e w' ⟨rfl, rfl⟩)
      · rename_i h1
        go_round
        case rel => exact ⟨(i + j) / 2 + 1, j, by omega, by omega, by go_num, rfl, Hlo.out (by rw [← h1, L_mk]), hhi⟩
        case measure => simp [intOf]; omega
      · rename_i h1
        go_round
        case rel => exact ⟨i, (i + j) / 2, by omega, by omega, rfl, by go_num, hlo, Hhi.out (by rw [← h1, L_mk])⟩
        case measure => simp [intOf]; omega
    · obtain rfl : i = j := by omega
      have hkw := Lib.hid (kw_in hj hlo.out hhi.out)
      by_cases h26 : i < 26
      · have hc := Hk.out i h26
        go_wp2_with (go_at_call 177; refine (nan2_calls _ _).mono ?_; rintro e w' ⟨rfl, rfl⟩)
        · have h2 : kwAt i = x.toList := by assumption
          go_ret2
          exact ⟨⟨(i : Int), ret_ib (decide_eq_true (hkw.out.2 ⟨h26, by rw [h2, toList_L]⟩)).symm⟩, rfl⟩
        · have h2 : ¬ kwAt i = x.toList := by assumption
          go_ret2
          exact ⟨⟨(i : Int), ret_ib ((beq_eq_false_iff_ne.2 h2).trans (decide_eq_false (fun h => h2 (by rw [(hkw.out.1 h).2, toList_L]))).symm)⟩, rfl⟩
      · go_wp2_with (go_at_call 177; refine (nan2_calls _ _).mono ?_; rintro e w' ⟨rfl, rfl⟩)
        go_ret2
        exact ⟨⟨(i : Int), ret_ib (decide_eq_false (fun h => h26 (hkw.out.1 h).1)).symm⟩, rfl⟩

set_option maxRecDepth 100000 in
theorem Keyword_calls (s : ByteArray) (w : World) (hs : s.size ≤ maxLen) :
    Calls Tryz.prog 129 #[.string s] w fun e w' => e = .returned (.bool (keywordB (L s))) ∧ Below w.heap.size w w' := by
  go_enter Tryz.func129, Tryz.ntmps129
  go_wp2_with fail
  refine (keywords_calls _).mono ?_
  rintro e w1 ⟨rfl, hb1, hz1, hk⟩
  have Hb1 := Lib.hid hb1
  have Hk := Lib.hid hk
  clear hb1 hk
  go_wp2_with fail
  refine (great_calls _ _ hs).mono ?_
  rintro e w2 ⟨rfl, hb2⟩
  have Hb2 := Lib.hid hb2
  clear hb2
  go_wp2_with fail
  refine (search_calls _ _ _ (Hk.out.below Hb2.out hz1)).mono ?_
  rintro e w3 ⟨⟨i, rfl⟩, rfl⟩
  go_wp2_with fail
  go_ret
  exact ⟨ret_bool (by rw [L_mk]; rfl), Hb1.out.trans (Hb2.out.mono (by omega))⟩

end Go.Proofs.YtcjmhmmjfgjcnaaGreatDoor.Lx

/- What a read token is bounded by: plain. -/
namespace Go.Proofs.YtcjmhmmjfgjcnaaGreatDoor.Lx

/-! ### what a read token is bounded by -/
structure TokFits (t : Tok) : Prop where
  txt : t.text.length ≤ 16384
  lo : 0 ≤ t.num
  hi : t.num ≤ 9223372036854775807
theorem next_fits {l : List UInt8} (hl : l.length ≤ 16384) {t : Tok} {n : Nat} (h : nextR l = .ok t n) : TokFits t := by
  have ht : ∀ k : Nat, (l.take k).length ≤ 16384 := fun k => by rw [List.length_take]; omega
  have hg : ∀ k : Nat, (great (l.take k)).length ≤ 16384 := fun k => by unfold great; rw [List.length_map]; exact ht k
  cases l with
  | nil => simp [nextR] at h
  | cons c r =>
    unfold nextR at h
    simp only at h
    split at h
    · unfold wordR at h
      split at h
      · simp only [Rd.ok.injEq] at h; rw [← h.1]; exact ⟨hg _, Int.le_refl _, by simp⟩
      · split at h
        · cases h
        · simp only [Rd.ok.injEq] at h; rw [← h.1]; exact ⟨ht _, Int.le_refl _, by simp⟩
    · split at h
      · unfold numberR at h
        split at h
        · rename_i u hu
          split at h
          · cases h
          · rename_i hu2
            split at h
            · cases h
            · split at h
              · simp only [Rd.ok.injEq] at h; rw [← h.1]; exact ⟨by simp, by simp, by simp only; omega⟩
              · cases h
        · cases h
      · split at h
        · unfold textR at h
          split at h
          · cases h
          · split at h
            · cases h
            · split at h
              · simp only [Rd.ok.injEq] at h; rw [← h.1]; exact ⟨by simp only; omega, Int.le_refl _, by simp⟩
              · cases h
        · unfold signR at h
          split at h
          · rename_i x hx
            have hm := (signs_next x (List.mem_of_find?_eq_some hx)).2
            simp only [Rd.ok.injEq] at h; rw [← h.1]; exact ⟨hm, Int.le_refl _, by simp⟩
          · cases h
theorem lexF_fits : ∀ (k a : Nat) (l : List UInt8) {x : List Tok}, l.length ≤ 16384 → lexF k a l = .ok x → ∀ t ∈ x, TokFits t
  | 0, _, _, _, _, h => by simp only [lexF, Lx.ok.injEq] at h; subst h; simp
  | k + 1, a, l, x, hl, h => by
    rw [lexF] at h
    cases hd : l.drop (runN blankB l) with
    | nil => rw [hd] at h; simp only [Lx.ok.injEq] at h; subst h; simp
    | cons c r =>
      have hlen : (c :: r).length = l.length - runN blankB l := by rw [← hd, List.length_drop]
      rw [hd] at h
      simp only at h
      cases hn : nextR (c :: r) with
      | err e' => rw [hn] at h; cases h
      | ok t n =>
        have hf0 := next_fits (by omega) hn
        rw [hn] at h
        simp only at h
        cases hf : lexF k (a + runN blankB l + n) ((c :: r).drop n) with
        | ok l' =>
          have := lexF_fits k _ _ (by rw [List.length_drop]; omega) hf
          rw [hf] at h
          simp only [Lx.cons, Lx.ok.injEq] at h
          rw [← h]
          intro u hu
          rcases List.mem_cons.1 hu with rfl | hu
          · exact ⟨hf0.txt, hf0.lo, hf0.hi⟩
          · exact this u hu
        | err e' p' => rw [hf] at h; cases h
theorem lexL_fits {l : List UInt8} {x : List Tok} (h : lexL l = .ok x) : ∀ t ∈ x, TokFits t := by
  have hl := (lexL_len h).1
  unfold lexL at h
  rw [if_neg (by omega)] at h
  exact lexF_fits _ _ _ hl h
end Go.Proofs.YtcjmhmmjfgjcnaaGreatDoor.Lx

/- The reference lexer's steps, over lists of bytes. Plain. -/
namespace Go.Proofs.YtcjmhmmjfgjcnaaGreatDoor.Lx

def numG : List UInt8 → Nat → Option Nat
  | [], n => some n
  | c :: r, n => if (9223372036854775807 - (c.toNat - 48)) / 10 < n then none else numG r (10 * n + (c.toNat - 48))
theorem digit_range {c : UInt8} (h : digitB c = true) : 48 ≤ c.toNat ∧ c.toNat ≤ 57 := by
  have h1 : ∀ c : UInt8, digitB c = true → 48 ≤ c.toNat ∧ c.toNat ≤ 57 := all_u8 (by decide +kernel)
  exact h1 c h
theorem numM_ge : ∀ (l : List UInt8) (n u : Nat), Lib.parseUintM 18446744073709551615 n l = .ok u → n ≤ u
  | [], n, u, h => by simp only [Lib.parseUintM, Lib.NumEnd.ok.injEq] at h; omega
  | c :: r, n, u, h => by
    rw [Lib.parseUintM] at h
    split at h
    · split at h
      · cases h
      · split at h
        · cases h
        · have := numM_ge r _ u h
          omega
    · cases h
theorem numG_some : ∀ (l : List UInt8) (n u : Nat), (∀ c ∈ l, digitB c = true) → n ≤ 9223372036854775807 → numG l n = some u → Lib.parseUintM 18446744073709551615 n l = .ok u ∧ u ≤ 9223372036854775807
  | [], n, u, _, hn, h => by
    simp only [numG, Option.some.injEq] at h
    subst h
    exact ⟨rfl, hn⟩
  | c :: r, n, u, hd, hn, h => by
    obtain ⟨h1, h2⟩ := digit_range (hd c (by simp))
    rw [numG] at h
    split at h
    · cases h
    · rename_i hlt
      rw [Lib.parseUintM, if_pos ⟨h1, h2⟩, if_neg (by omega), if_neg (by omega), show n * 10 + (c.toNat - 48) = 10 * n + (c.toNat - 48) by omega]
      exact numG_some r _ u (fun x hx => hd x (by simp [hx])) (by omega) h
theorem numG_none : ∀ (l : List UInt8) (n u : Nat), (∀ c ∈ l, digitB c = true) → n ≤ 9223372036854775807 → numG l n = none → Lib.parseUintM 18446744073709551615 n l = .ok u → 9223372036854775807 < u
  | [], n, u, _, _, h, _ => by cases h
  | c :: r, n, u, hd, hn, h, hp => by
    obtain ⟨h1, h2⟩ := digit_range (hd c (by simp))
    rw [Lib.parseUintM, if_pos ⟨h1, h2⟩] at hp
    rw [numG] at h
    split at hp
    · cases hp
    · split at hp
      · cases hp
      · split at h
        · have := numM_ge r _ u hp
          omega
        · rw [show n * 10 + (c.toNat - 48) = 10 * n + (c.toNat - 48) by omega] at hp
          exact numG_none r _ u (fun x hx => hd x (by simp [hx])) (by omega) h hp
theorem numberR_eq (l : List UInt8) (hne : l.take (runN digitB l) ≠ []) : numberR l = match numG (l.take (runN digitB l)) 0 with
    | none => .err 13
    | some u => if 1 < runN digitB l ∧ l.head? = some 48 then .err 13 else if endsB l (runN digitB l) then .ok ⟨3, [], u, 0⟩ (runN digitB l) else .err 13 := by
  have hd := runN_take_all digitB l
  unfold numberR Lib.parseUintB
  rw [if_neg hne, show (2 ^ 64 - 1 : Nat) = 18446744073709551615 by decide]
  cases hg : numG (l.take (runN digitB l)) 0 with
  | none =>
    simp only
    split
    · rename_i u hu
      rw [if_pos (numG_none _ 0 u hd (by omega) hg hu)]
    · rfl
  | some u =>
    obtain ⟨hu, hle⟩ := numG_some _ 0 u hd (by omega) hg
    rw [hu]
    simp only
    rw [if_neg (by omega)]

/-! ### a text's end -/
theorem textL_plain {c : UInt8} (hc : c ≠ 39) (r : List UInt8) : textL (c :: r) = (textL r).map fun x => (c :: x.1, x.2 + 1) := by
  rw [textL.eq_def]; simp only [hc, if_false]
theorem textL_two (r : List UInt8) : textL (39 :: 39 :: r) = (textL r).map fun x => (39 :: x.1, x.2 + 2) := by
  rw [textL.eq_def]; simp only [if_true]
theorem textL_end {r : List UInt8} (h : r.head? ≠ some 39) : textL (39 :: r) = some ([], 1) := by
  cases r with
  | nil => rfl
  | cons d r =>
    have hd : d ≠ 39 := fun e => h (by rw [e]; rfl)
    rw [textL.eq_def]; simp only [if_true, hd, if_false]
def TextTo (s : ByteArray) (i : Nat) (out : List UInt8) : Prop := 1 ≤ i ∧ textL ((L s).drop 1) = (textL ((L s).drop i)).map fun x => (out ++ x.1, x.2 + (i - 1))
theorem TextTo.start (s : ByteArray) : TextTo s 1 [] := ⟨Nat.le_refl _, by cases textL ((L s).drop 1) <;> simp⟩
theorem drop_cons' (s : ByteArray) (i : Nat) (h : i < s.size) : (L s).drop i = s[i] :: (L s).drop (i + 1) :=
  List.drop_eq_getElem_cons (by rw [L_length]; exact h)
theorem TextTo.none {s : ByteArray} {i : Nat} {out : List UInt8} (h : TextTo s i out) (hi : s.size ≤ i) : textL ((L s).drop 1) = Option.none := by
  rw [h.2, List.drop_of_length_le (by rw [L_length]; exact hi)]; rfl
theorem TextTo.plain {s : ByteArray} {i : Nat} {out : List UInt8} (h : TextTo s i out) (hi : i < s.size) (hc : s[i] ≠ 39) : TextTo s (i + 1) (out ++ [s[i]]) := by
  refine ⟨by omega, ?_⟩
  have h1 := h.1
  rw [h.2, drop_cons' s i hi, textL_plain hc, Option.map_map]
  congr 1
  funext x
  simp only [Function.comp, List.append_assoc, List.singleton_append, Prod.mk.injEq, true_and]
  omega
theorem TextTo.two {s : ByteArray} {i : Nat} {out : List UInt8} (h : TextTo s i out) (hi : i + 1 < s.size) (hc : s[i] = 39) (hd : s[i + 1] = 39) : TextTo s (i + 2) (out ++ [39]) := by
  refine ⟨by omega, ?_⟩
  have h1 := h.1
  rw [h.2, drop_cons' s i (by omega), drop_cons' s (i + 1) hi, hc, hd, textL_two, Option.map_map]
  congr 1
  funext x
  simp only [Function.comp, List.append_assoc, List.singleton_append, Prod.mk.injEq, true_and]
  omega
theorem TextTo.ends {s : ByteArray} {i : Nat} {out : List UInt8} (h : TextTo s i out) (hi : i < s.size) (hc : s[i] = 39) (hd : ∀ h : i + 1 < s.size, s[i + 1] ≠ 39) : textL ((L s).drop 1) = some (out, i) := by
  have h1 := h.1
  have he : textL (39 :: (L s).drop (i + 1)) = some ([], 1) := by
    refine textL_end fun e => ?_
    by_cases hlt : i + 1 < s.size
    · rw [drop_cons' s (i + 1) hlt] at e
      exact hd hlt (by simpa using e)
    · rw [List.drop_of_length_le (by rw [L_length]; omega)] at e
      cases e
  rw [h.2, drop_cons' s i hi, hc, he]
  simp only [Option.map_some, List.append_nil, Option.some.injEq, Prod.mk.injEq, true_and]
  omega

/-! ### signs -/
def pairs : List (List UInt8) := [[60, 62], [60, 61], [62, 61]]
def singles : List UInt8 := [61, 60, 62, 43, 45, 42, 40, 41, 91, 93, 123, 125, 44, 58, 46]
theorem sign_two {c d : UInt8} (r : List UInt8) (h : [c, d] ∈ pairs) : signR (c :: d :: r) = .ok ⟨5, [c, d], 0, 0⟩ 2 := by
  simp only [pairs, List.mem_cons, List.mem_nil_iff, or_false, List.cons.injEq, and_true] at h
  rcases h with ⟨rfl, rfl⟩ | ⟨rfl, rfl⟩ | ⟨rfl, rfl⟩ <;> rfl
theorem pair_none {c : UInt8} {r : List UInt8} (h : ∀ d r', r = d :: r' → [c, d] ∉ pairs) : signR (c :: r) = match (singles.map fun b => [b]).find? fun t => Lib.hasPrefix (c :: r) t with
    | some t => .ok ⟨5, t, 0, 0⟩ t.length
    | none => .err 13 := by
  have hp : ∀ t ∈ pairs, Lib.hasPrefix (c :: r) t = false := by
    intro t ht
    cases r with
    | nil =>
      revert t
      have : ∀ c : UInt8, ∀ t ∈ pairs, Lib.hasPrefix [c] t = false := all_u8 (by decide +kernel)
      exact this c
    | cons d r =>
      have hn := h d r rfl
      simp only [pairs, List.mem_cons, List.mem_nil_iff, or_false, List.cons.injEq, and_true] at ht hn
      cases hh : Lib.hasPrefix (c :: d :: r) t with
      | false => rfl
      | true =>
        exfalso
        apply hn
        rcases ht with rfl | rfl | rfl <;> simp [Lib.hasPrefix, List.isPrefixOf] at hh <;> simp [hh]
  unfold signR
  have hs : signs = pairs ++ singles.map fun b => [b] := by decide
  rw [hs, List.find?_append, show pairs.find? (fun t => Lib.hasPrefix (c :: r) t) = none from List.find?_eq_none.2 fun t ht => by rw [hp t ht]; simp]
  rfl
theorem single_find (c : UInt8) (r : List UInt8) : (singles.map fun b => [b]).find? (fun t => Lib.hasPrefix (c :: r) t) = if c ∈ singles then some [c] else none := by
  rw [List.find?_map]
  have e : ((fun t => Lib.hasPrefix (c :: r) t) ∘ fun b => [b]) = fun b : UInt8 => b == c := by
    funext b
    simp [Lib.hasPrefix, List.isPrefixOf]
  rw [e]
  by_cases hc : c ∈ singles
  · rw [if_pos hc]
    cases hf : singles.find? (fun b => b == c) with
    | none => exact absurd (List.find?_eq_none.1 hf c hc) (by simp)
    | some b =>
      have := List.find?_some hf
      simp only [beq_iff_eq] at this
      rw [this]; rfl
  · rw [if_neg hc, List.find?_eq_none.2 fun b hb e => hc (by simp only [beq_iff_eq] at e; rw [← e]; exact hb)]
    rfl
theorem sign_eq {c : UInt8} {r : List UInt8} (h : ∀ d r', r = d :: r' → [c, d] ∉ pairs) : signR (c :: r) = if c ∈ singles then .ok ⟨5, [c], 0, 0⟩ 1 else .err 13 := by
  rw [pair_none h, single_find]
  by_cases hc : c ∈ singles
  · rw [if_pos hc, if_pos hc]; rfl
  · rw [if_neg hc, if_neg hc]

/-! ### one token, one blank -/
theorem lexS_skip {c : UInt8} (h : blankB c = true) (a : Nat) (r : List UInt8) : lexS a (c :: r) = lexS (a + 1) r := by
  have := blank_run (b := [c]) (by simpa using h) a r
  simpa using this
theorem lexS_tok {c : UInt8} {r : List UInt8} (h : blankB c = false) {t : Tok} {n : Nat} (hn : nextR (c :: r) = .ok t n) (a : Nat) : lexS a (c :: r) = (lexS (a + n) ((c :: r).drop n)).cons { t with pos := a } := by
  have h0 := runN_zero blankB c r h
  have := lexS_ok (a := a) (l := c :: r) (c := c) (r := r) (by rw [h0]; rfl) hn
  rw [h0] at this
  exact this
theorem lexS_bad {c : UInt8} {r : List UInt8} (h : blankB c = false) {e : Nat} (hn : nextR (c :: r) = .err e) (a : Nat) : lexS a (c :: r) = .err e a := by
  have h0 := runN_zero blankB c r h
  have := lexS_err (a := a) (l := c :: r) (c := c) (r := r) (by rw [h0]; rfl) hn
  rw [h0] at this
  exact this
theorem lexS_nil (a : Nat) : lexS a [] = .ok [] := lexS_blank rfl
def LexTo (s : ByteArray) (a : Nat) (toks : List Tok) : Prop := lexL (L s) = (lexS a ((L s).drop a)).app toks
theorem Lx.app_nil (x : Lx) : x.app [] = x := by cases x <;> rfl
theorem LexTo.start {s : ByteArray} (h : ¬ 16384 < s.size) : LexTo s 0 [] := by
  unfold LexTo
  rw [Lx.app_nil, List.drop_zero, lexL_small (by rw [L_length]; omega)]
theorem LexTo.end_ {s : ByteArray} {a : Nat} {toks : List Tok} (h : LexTo s a toks) (ha : s.size ≤ a) : lexL (L s) = .ok toks := by
  unfold LexTo at h
  rw [List.drop_of_length_le (by rw [L_length]; exact ha), lexS_nil] at h
  rw [h]; simp [Lx.app]
theorem LexTo.blank {s : ByteArray} {a : Nat} {toks : List Tok} (h : LexTo s a toks) (ha : a < s.size) (hb : blankB s[a] = true) : LexTo s (a + 1) toks := by
  unfold LexTo at h ⊢
  rw [h, drop_cons' s a ha, lexS_skip hb]
theorem LexTo.tok {s : ByteArray} {a : Nat} {toks : List Tok} (h : LexTo s a toks) (ha : a < s.size) (hb : blankB s[a] = false) {t : Tok} {n : Nat} (hn : nextR ((L s).drop a) = .ok t n) : LexTo s (a + n) (toks ++ [{ t with pos := a }]) := by
  unfold LexTo at h ⊢
  rw [drop_cons' s a ha] at hn
  rw [h, drop_cons' s a ha, lexS_tok hb hn, ← drop_cons' s a ha, List.drop_drop]
  cases lexS (a + n) ((L s).drop (a + n)) <;> simp [Lx.app, Lx.cons]
theorem LexTo.bad {s : ByteArray} {a : Nat} {toks : List Tok} (h : LexTo s a toks) (ha : a < s.size) (hb : blankB s[a] = false) {e : Nat} (hn : nextR ((L s).drop a) = .err e) : lexL (L s) = .err e a := by
  unfold LexTo at h
  rw [drop_cons' s a ha] at hn h
  rw [h, lexS_bad hb hn]; rfl

/-! ### UTF-8, a rune at a time -/
theorem valid_step (s : ByteArray) (i : Nat) (h : i < s.size) : Lib.validD ((L s).drop i) = if (Utf8.decode s i).1 = 65533 ∧ (Utf8.decode s i).2 = 1 then false else Lib.validD ((L s).drop (i + (Utf8.decode s i).2)) := by
  have hne : (L s).drop i ≠ [] := by rw [drop_cons' s i h]; simp
  rw [Lib.validD_step _ hne, show Lib.decodeL ((L s).drop i) = Utf8.decode s i from Lib.decodeL_drop s i, List.drop_drop]
theorem valid_end (s : ByteArray) (i : Nat) (h : s.size ≤ i) : Lib.validD ((L s).drop i) = true := by
  rw [List.drop_of_length_le (by rw [L_length]; exact h)]; rfl

set_option maxHeartbeats 2000000 in
theorem decodeN_bad (n b0 b1 b2 b3 : Nat) (h : (Lib.decodeN n b0 b1 b2 b3).1 = 65533) (h1 : b1 < 256) (h2 : b2 < 256) : (Lib.decodeN n b0 b1 b2 b3).2 = 1 ↔ ¬ (3 ≤ n ∧ b0 = 239 ∧ b1 = 191 ∧ b2 = 189) := by
  unfold Lib.decodeN at h ⊢
  by_cases h0 : b0 < 128
  · rw [if_pos h0] at h
    exfalso
    simp only at h
    omega
  rw [if_neg h0] at h ⊢
  by_cases ha : b0 / 32 = 6 ∧ (1 < n ∧ b1 / 64 = 2)
  · rw [if_pos ha] at h ⊢
    by_cases hc : b0 % 32 * 64 + b1 % 64 ≥ 128
    · rw [if_pos hc] at h
      exfalso
      simp only at h
      omega
    · rw [if_neg hc]
      simp only [true_iff]
      omega
  rw [if_neg ha] at h ⊢
  by_cases hb : b0 / 16 = 14 ∧ (1 < n ∧ b1 / 64 = 2) ∧ (2 < n ∧ b2 / 64 = 2)
  · rw [if_pos hb] at h ⊢
    by_cases hc : b0 % 16 * 4096 + b1 % 64 * 64 + b2 % 64 ≥ 2048 ∧ (b0 % 16 * 4096 + b1 % 64 * 64 + b2 % 64 < 55296 ∨ (57344 ≤ b0 % 16 * 4096 + b1 % 64 * 64 + b2 % 64 ∧ b0 % 16 * 4096 + b1 % 64 * 64 + b2 % 64 ≤ 1114111))
    · rw [if_pos hc] at h ⊢
      simp only at h ⊢
      constructor
      · intro h3; omega
      · intro h3
        exact absurd ⟨by omega, by omega, by omega, by omega⟩ h3
    · rw [if_neg hc]
      simp only [true_iff]
      rintro ⟨h3, rfl, rfl, rfl⟩
      exact hc (by decide)
  rw [if_neg hb] at h ⊢
  have hno : ¬ (3 ≤ n ∧ b0 = 239 ∧ b1 = 191 ∧ b2 = 189) := by
    rintro ⟨h3, rfl, rfl, rfl⟩
    exact hb ⟨by decide, ⟨by omega, by decide⟩, by omega, by decide⟩
  by_cases hc : b0 / 8 = 30 ∧ (1 < n ∧ b1 / 64 = 2) ∧ (2 < n ∧ b2 / 64 = 2) ∧ (3 < n ∧ b3 / 64 = 2)
  · rw [if_pos hc] at h ⊢
    by_cases hd : b0 % 8 * 262144 + b1 % 64 * 4096 + b2 % 64 * 64 + b3 % 64 ≥ 65536 ∧ (b0 % 8 * 262144 + b1 % 64 * 4096 + b2 % 64 * 64 + b3 % 64 < 55296 ∨ (57344 ≤ b0 % 8 * 262144 + b1 % 64 * 4096 + b2 % 64 * 64 + b3 % 64 ∧ b0 % 8 * 262144 + b1 % 64 * 4096 + b2 % 64 * 64 + b3 % 64 ≤ 1114111))
    · rw [if_pos hd] at h
      exfalso
      simp only at h
      omega
    · rw [if_neg hd]
      simp only [true_iff]
      exact hno
  rw [if_neg hc]
  simp only [true_iff]
  exact hno
theorem get_ofL (s : ByteArray) (i : Nat) (h : i < s.size) : s.get! i = (L s)[i]'(by rw [L_length]; exact h) := by
  rw [← Lib.getD_get!']
  simp [List.getD_eq_getElem?_getD, List.getElem?_eq_getElem (show i < s.data.toList.length by rw [Array.length_toList]; exact h)]
theorem decode_bad (s : ByteArray) (i : Nat) (hi : i < s.size) (h : (Utf8.decode s i).1 = 65533) : (Utf8.decode s i).2 = 1 ↔ ¬ (i + 3 ≤ s.size ∧ (s.extract i (i + 3)).toList = [239, 191, 189]) := by
  rw [Lib.decode_at] at h ⊢
  rw [decodeN_bad _ _ _ _ _ h (s.get! (i + 1)).toNat_lt (s.get! (i + 2)).toNat_lt]
  have e8 : ∀ c d : UInt8, c.toNat = d.toNat ↔ c = d := fun c d => UInt8.toNat_inj
  by_cases h3 : i + 3 ≤ s.size
  · have hl : (s.extract i (i + 3)).toList = [s.get! i, s.get! (i + 1), s.get! (i + 2)] := by
      rw [toList_L, L_extract, get_ofL s i (by omega), get_ofL s (i + 1) (by omega), get_ofL s (i + 2) (by omega)]
      rw [List.drop_eq_getElem_cons (by rw [L_length]; omega), List.drop_eq_getElem_cons (by rw [L_length]; omega), List.drop_eq_getElem_cons (by rw [L_length]; omega)]
      rw [show i + 3 - i = 3 by omega]
      rfl
    rw [hl]
    simp only [List.cons.injEq, and_true, h3, true_and]
    rw [← e8 (s.get! i), ← e8 (s.get! (i + 1)), ← e8 (s.get! (i + 2))]
    rw [show (3 ≤ s.size - i) = True by simp; omega, true_and]
    rfl
  · constructor
    · intro _ hh; exact h3 hh.1
    · intro _ hh; omega

end Go.Proofs.YtcjmhmmjfgjcnaaGreatDoor.Lx
