/- great and Keyword of lex. -/
import Derived.Test.YtebmbghlhicjlaaDoorLxA
namespace Go.Proofs.YtebmbghlhicjlaaDoor.Lx
open Go.RowKit

theorem upB_yes (c : UInt8) (h1 : 97 ≤ (c.toNat : Int)) (h2 : (c.toNat : Int) ≤ 122) : (upB c).toNat = bits .andNot .u8 c.toNat 32 := by
  revert h1 h2; revert c; refine all_u8 ?_; decide +kernel
theorem upB_no (c : UInt8) (h : ¬ (97 ≤ (c.toNat : Int) ∧ (c.toNat : Int) ≤ 122)) : upB c = c := by
  revert h; revert c; refine all_u8 ?_; decide +kernel

set_option maxRecDepth 100000 in
theorem great_calls (s : ByteArray) (w : World) (hs : s.size ≤ maxLen) :
    Calls Tryd.prog 21 #[.string s] w fun e w' => e = .returned (.string ⟨(great (L s)).toArray⟩) ∧ Below w.heap.size w w' := by
  unfold maxLen at hs
  obtain ⟨cap, w1, hcap, hconv, hb0, hsz0, hrow0⟩ := conv_bytes Tryd.prog 9 37 5 Tryd.underlying9 Tryd.underlying37 Tryd.underlying5 s w
  have hb1 := Lib.hid hb0
  have hrow := Lib.hid hrow0
  have hsz := Lib.hid hsz0
  clear hb0 hrow0 hsz0
  go_enter Tryd.func21, Tryd.ntmps21
  go_wp2
  go_loopw [10] (fun i wr => ∃ k : Nat, k ≤ s.size ∧ i = .int .i64 k ∧ Hid (Below w.heap.size w wr ∧ w.heap.size < wr.heap.size) ∧ Hid (BytesAt wr w.heap.size (greatTo (L s) k))) (fun i _ => s.size - (intOf i).toNat)
  case atStart => exact ⟨0, Nat.zero_le _, rfl, ⟨hb1.out, by rw [hsz.out]; omega⟩, by rw [greatTo_zero]; exact hrow.out⟩
  case round =>
    obtain ⟨k, hk, rfl, hb, hr⟩ := hrel
    by_cases hlt : k < s.size
    · have hlt' : k < (L s).length := by rw [L_length]; exact hlt
      have hck := (hr.out k (by rw [greatTo_length]; exact hlt')).1
      have hcz := (hr.out k (by rw [greatTo_length]; exact hlt')).2
      rw [greatTo_get _ hlt'] at hck
      generalize hc : (L s)[k] = c at hck
      have Hc := Lib.hid hc
      clear hc
      have hb' := hb.out.1
      have hz' := hb.out.2
      have hup := fun h1 h2 => (show BytesAt (wr.setCell ⟨w.heap.size, k, none⟩ (.int .u8 (bits .andNot .u8 c.toNat 32))) w.heap.size (greatTo (L s) (k + 1)) by
        rw [greatTo_succ _ hlt', Hc.out, ← upB_yes c h1 h2]
        exact hr.out.set k (upB c) (by rw [greatTo_length]; exact hlt'))
      have hno := fun h => (show BytesAt wr w.heap.size (greatTo (L s) (k + 1)) by
        rw [greatTo_same _ hlt' (by rw [Hc.out]; exact upB_no c h)]
        exact hr.out)
      have Hup := Lib.hid hup
      have Hno := Lib.hid hno
      clear hup hno
      have Hb := Lib.hid hb'
      clear hb'
      go_wp2
      · rename_i h1 h2
        go_roundw
        case rel => exact ⟨k + 1, by omega, by go_num, ⟨Hb.out.setCell (Nat.le_refl _) _, by simpa using hz'⟩, Hup.out h1 h2⟩
        case measure => simp [intOf]; omega
      · rename_i h1 h2
        go_roundw
        case rel => exact ⟨k + 1, by omega, by go_num, ⟨Hb.out, hz'⟩, Hno.out (by omega)⟩
        case measure => simp [intOf]; omega
      · rename_i h1
        go_roundw
        case rel => exact ⟨k + 1, by omega, by go_num, ⟨Hb.out, hz'⟩, Hno.out (by omega)⟩
        case measure => simp [intOf]; omega
    · have hback := conv_string Tryd.prog 37 9 5 Tryd.underlying37 Tryd.underlying9 Tryd.underlying5 wr w.heap.size s.size cap (greatTo (L s) k) (by rw [greatTo_length, L_length]) hr.out
      go_wp2
      go_ret
      exact ⟨ret_str (by rw [greatTo_all]; rw [L_length]; omega), hb.out.1⟩

theorem nan_calls (a : ByteArray) (w : World) : Calls Tryd.prog 50 #[.string a] w fun e w' => e = .returned (.bool false) ∧ w = w' := by
  go_enter Tryd.func50, Tryd.ntmps50
  go_wp2
  go_ret
  exact ⟨ret_bool (by simp), rfl⟩
theorem nan2_calls (a : ByteArray) (w : World) : Calls Tryd.prog 33 #[.string a] w fun e w' => e = .returned (.bool false) ∧ w = w' := by
  go_enter Tryd.func33, Tryd.ntmps33
  go_wp2
  go_ret
  exact ⟨ret_bool (by simp), rfl⟩
theorem less_calls (a b : ByteArray) (w : World) : Calls Tryd.prog 32 #[.string a, .string b] w fun e w' => e = .returned (.bool (Op.bytesLess (L a) (L b))) ∧ w = w' := by
  go_enter Tryd.func32, Tryd.ntmps32
  go_wp2_with (go_at_call 50; refine (nan_calls _ _).mono ?_; rintro e w' ⟨rfl, rfl⟩)
  go_ret
  exact ⟨ret_bool (by simp [toList_L]), rfl⟩

/-- the keywords in memory -/
def KwsAt (w : World) (B : Nat) : Prop := ∀ j, j < 26 → w.cell? ⟨B, j, none⟩ = some (.string ⟨(kwAt j).toArray⟩)
theorem KwsAt.below {w w' : World} {B : Nat} (h : KwsAt w B) (hb : Below w.heap.size w w') (hB : B < w.heap.size) : KwsAt w' B :=
  fun j hj => (hb.cell (p := ⟨B, j, none⟩) hB).trans (h j hj)

set_option maxRecDepth 100000 in
theorem keywords_calls (w : World) : Calls Tryd.prog 20 #[] w fun e w' => e = .returned (.slice (some ⟨w.heap.size, 0, none⟩) 26 26) ∧ Below w.heap.size w w' ∧ w.heap.size < w'.heap.size ∧ KwsAt w' w.heap.size := by
  go_enter Tryd.func20, Tryd.ntmps20
  go_wp2
  go_ret
  refine ⟨rfl, (Below.refl _ _).alloc (Nat.le_refl _) _, by simp, ?_⟩
  intro j hj
  rw [World.cell?_alloc_new]
  match j, hj with
  | 0, _ => rfl
  | 1, _ => rfl
  | 2, _ => rfl
  | 3, _ => rfl
  | 4, _ => rfl
  | 5, _ => rfl
  | 6, _ => rfl
  | 7, _ => rfl
  | 8, _ => rfl
  | 9, _ => rfl
  | 10, _ => rfl
  | 11, _ => rfl
  | 12, _ => rfl
  | 13, _ => rfl
  | 14, _ => rfl
  | 15, _ => rfl
  | 16, _ => rfl
  | 17, _ => rfl
  | 18, _ => rfl
  | 19, _ => rfl
  | 20, _ => rfl
  | 21, _ => rfl
  | 22, _ => rfl
  | 23, _ => rfl
  | 24, _ => rfl
  | 25, _ => rfl
  | n + 26, h => exact absurd h (by omega)

set_option maxRecDepth 100000 in
theorem search_calls (B : Nat) (x : ByteArray) (w : World) (hk : KwsAt w B) :
    Calls Tryd.prog 19 #[.slice (some ⟨B, 0, none⟩) 26 26, .string x] w fun e w' => (∃ i : Int, e = .returned (.tuple #[.int .i64 i, .bool (decide (L x ∈ kws))])) ∧ w = w' := by
  have Hk := Lib.hid hk
  clear hk
  go_enter Tryd.func19, Tryd.ntmps19
  go_wp2
  go_loop [7, 8] (fun a b => ∃ i j : Nat, i ≤ j ∧ j ≤ 26 ∧ a = .int .i64 i ∧ b = .int .i64 j ∧ Hid (∀ m, m < i → Op.bytesLess (kwAt m) (L x) = true) ∧ Hid (∀ m, j ≤ m → m < 26 → Op.bytesLess (kwAt m) (L x) = false)) (fun a b => ((intOf b).toNat - (intOf a).toNat))
  case atStart => exact ⟨0, 26, by omega, by omega, rfl, rfl, fun m h => absurd h (Nat.not_lt_zero _), fun m h1 h2 => by omega⟩
  case round =>
    obtain ⟨i, j, hij, hj, rfl, rfl, hlo, hhi⟩ := hrel
    by_cases hlt : i < j
    · have hc := Hk.out ((i + j) / 2) (by omega)
      have Hlo := Lib.hid (show Op.bytesLess (kwAt ((i + j) / 2)) (L x) = true → ∀ m, m < (i + j) / 2 + 1 → Op.bytesLess (kwAt m) (L x) = true from fun h m hm => by
        rcases Nat.lt_or_ge m i with h' | h'
        · exact hlo.out m h'
        · exact kw_down h (by omega) (by omega))
      have Hhi := Lib.hid (show Op.bytesLess (kwAt ((i + j) / 2)) (L x) = false → ∀ m, (i + j) / 2 ≤ m → m < 26 → Op.bytesLess (kwAt m) (L x) = false from fun h m h1 h2 => kw_up h (by omega) (by omega))
      go_wp2_with (go_at_call 32; refine (less_calls _ _ _).mono ?_; rintro e w' ⟨rfl, rfl⟩)
      · rename_i h1
        go_round
        case rel => exact ⟨(i + j) / 2 + 1, j, by omega, by omega, by go_num, rfl, Hlo.out (by rw [← h1, L_mk]), hhi⟩
        case measure => simp [intOf]; omega
      · rename_i h1
        go_round
        case rel => exact ⟨i, (i + j) / 2, by omega, by omega, rfl, by go_num, hlo, Hhi.out (by rw [← h1, L_mk])⟩
        case measure => simp [intOf]; omega
    · obtain rfl : i = j := by omega
      have hkw := Lib.hid (kw_in hj hlo.out hhi.out)
      by_cases h26 : i < 26
      · have hc := Hk.out i h26
        go_wp2_with (go_at_call 33; refine (nan2_calls _ _).mono ?_; rintro e w' ⟨rfl, rfl⟩)
        · have h2 : kwAt i = x.toList := by assumption
          go_ret2
          exact ⟨⟨(i : Int), ret_ib (decide_eq_true (hkw.out.2 ⟨h26, by rw [h2, toList_L]⟩)).symm⟩, rfl⟩
        · have h2 : ¬ kwAt i = x.toList := by assumption
          go_ret2
          exact ⟨⟨(i : Int), ret_ib ((beq_eq_false_iff_ne.2 h2).trans (decide_eq_false (fun h => h2 (by rw [(hkw.out.1 h).2, toList_L]))).symm)⟩, rfl⟩
      · go_wp2_with (go_at_call 33; refine (nan2_calls _ _).mono ?_; rintro e w' ⟨rfl, rfl⟩)
        go_ret2
        exact ⟨⟨(i : Int), ret_ib (decide_eq_false (fun h => h26 (hkw.out.1 h).1)).symm⟩, rfl⟩

set_option maxRecDepth 100000 in
theorem Keyword_calls (s : ByteArray) (w : World) (hs : s.size ≤ maxLen) :
    Calls Tryd.prog 11 #[.string s] w fun e w' => e = .returned (.bool (keywordB (L s))) ∧ Below w.heap.size w w' := by
  go_enter Tryd.func11, Tryd.ntmps11
  go_wp2_with fail
  refine (keywords_calls _).mono ?_
  rintro e w1 ⟨rfl, hb1, hz1, hk⟩
  have Hb1 := Lib.hid hb1
  have Hk := Lib.hid hk
  clear hb1 hk
  go_wp2_with fail
  refine (great_calls _ _ hs).mono ?_
  rintro e w2 ⟨rfl, hb2⟩
  have Hb2 := Lib.hid hb2
  clear hb2
  go_wp2_with fail
  refine (search_calls _ _ _ (Hk.out.below Hb2.out hz1)).mono ?_
  rintro e w3 ⟨⟨i, rfl⟩, rfl⟩
  go_wp2_with fail
  go_ret
  exact ⟨ret_bool (by rw [L_mk]; rfl), Hb1.out.trans (Hb2.out.mono (by omega))⟩

end Go.Proofs.YtebmbghlhicjlaaDoor.Lx
