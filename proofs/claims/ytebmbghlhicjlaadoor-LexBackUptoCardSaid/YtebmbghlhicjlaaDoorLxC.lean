/- The readers of single tokens: word, number, sign, text. -/
import Derived.Test.YtebmbghlhicjlaaDoorLxB
import Derived.Test.YtebmbghlhicjlaaDoorLxL
import Derived.Test.YtebmbghlhicjlaaDoorShelf
namespace Go.Proofs.YtebmbghlhicjlaaDoor.Lx
open Go.RowKit

/-- a token's four cells -/
def Tok.val (t : Tok) : Value := .agg #[.int .u8 t.kind, .string ⟨t.text.toArray⟩, .int .i64 t.num, .int .i64 t.pos]
def Rd.val : Rd → Value
  | .ok t n => .tuple #[t.val, .int .i64 n, .int .i64 0]
  | .err e => .tuple #[tok0.val, .int .i64 0, .int .i64 e]

/-- a block of four cells behind a call -/
theorem four {w : World} {B : Nat} {a b c d : Value} {T : TypeId} (h : w.heap[B]? = some (.cells #[a, b, c, d] T)) :
    (w.cell? ⟨B, 0, none⟩ = some a ∧ w.cell? ⟨B, 1, none⟩ = some b ∧ w.cell? ⟨B, 2, none⟩ = some c ∧ w.cell? ⟨B, 3, none⟩ = some d) ∧
    (w.frozen? ⟨B, 0, none⟩ = false ∧ w.frozen? ⟨B, 1, none⟩ = false ∧ w.frozen? ⟨B, 2, none⟩ = false ∧ w.frozen? ⟨B, 3, none⟩ = false) := by
  simp [World.cell?, World.frozen?, h]
theorem new_block (w : World) (o : Obj) {w' : World} (hb : Below (w.alloc o).heap.size (w.alloc o) w') : w'.heap[w.heap.size]? = some o := by
  rw [hb.block w.heap.size (by simp)]
  simp [World.alloc, -World.alloc_eq]
theorem below_new {w w' : World} {o : Obj} (hb : Below (w.alloc o).heap.size (w.alloc o) w') : Below w.heap.size w w' :=
  ((Below.refl _ _).alloc (Nat.le_refl _) o).trans (hb.mono (by simp))

theorem ext_le (s : ByteArray) (n : Nat) (h : s.size ≤ maxLen) : (s.extract 0 n).size ≤ maxLen := by
  rw [← L_length, L_take, List.length_take]; exact Nat.le_trans (Nat.min_le_right _ _) (by rw [L_length]; exact h)

theorem below_set4 {w w1 : World} (h : Below w.heap.size w w1) (a b c d : Value) (i j k l : Nat) :
    Below w.heap.size w ((((w1.setCell ⟨w.heap.size, i, none⟩ a).setCell ⟨w.heap.size, j, none⟩ b).setCell ⟨w.heap.size, k, none⟩ c).setCell ⟨w.heap.size, l, none⟩ d) :=
  (((h.setCell (Nat.le_refl _) _).setCell (Nat.le_refl _) _).setCell (Nat.le_refl _) _).setCell (Nat.le_refl _) _

set_option maxRecDepth 100000 in
theorem word_calls (s : ByteArray) (w : World) (hs : s.size ≤ maxLen) :
    Calls Tryd.prog 25 #[.string s] w fun e w' => e = .returned (wordR (L s)).val ∧ Below w.heap.size w w' := by
  have hle := runN_le wordB (L s)
  rw [L_length] at hle
  have Hs := Lib.hid hs
  unfold maxLen at hs
  unfold wordR
  cases hk : keywordB ((L s).take (runN wordB (L s)))
  · rw [if_neg (by simp)]
    have hk' : keywordB (L (s.extract 0 (runN wordB (L s)))) = false := by rw [L_take]; exact hk
    have Hk := Lib.hid hk
    clear hk
    by_cases h64 : 64 < runN wordB (L s)
    · rw [if_pos h64]
      go_enter Tryd.func25, Tryd.ntmps25
      go_wp2_with fail
      refine (runN_word _ _ Hs.out).mono ?_
      rintro e w1 ⟨rfl, rfl⟩
      go_wp2_with fail
      refine (Keyword_calls _ _ (ext_le _ _ Hs.out)).mono ?_
      rintro e w1 ⟨rfl, hb1⟩
      have hw1 := new_block _ _ hb1
      have Hb1 := Lib.hid (below_new hb1)
      have hz1 : w.heap.size < w1.heap.size := by have := hb1.size; simp at this; omega
      have Hw1 := Lib.hid hw1
      clear hb1 hw1
      obtain ⟨⟨c0, c1, c2, c3⟩, f0, f1, f2, f3⟩ := four Hw1.out
      go_wp2_with fail
      refine bodyPost_ret (v := (Rd.err 13).val) (by simp [results, Tryd.results25, go_sem, Rd.val, tok0, Tok.val, c0, c1, c2, c3]) rfl ⟨rfl, below_set4 Hb1.out _ _ _ _ _ _ _ _⟩
    · rw [if_neg h64]
      go_enter Tryd.func25, Tryd.ntmps25
      go_wp2_with fail
      refine (runN_word _ _ Hs.out).mono ?_
      rintro e w1 ⟨rfl, rfl⟩
      go_wp2_with fail
      refine (Keyword_calls _ _ (ext_le _ _ Hs.out)).mono ?_
      rintro e w1 ⟨rfl, hb1⟩
      have hw1 := new_block _ _ hb1
      have Hb1 := Lib.hid (below_new hb1)
      have hz1 : w.heap.size < w1.heap.size := by have := hb1.size; simp at this; omega
      have Hw1 := Lib.hid hw1
      clear hb1 hw1
      obtain ⟨⟨c0, c1, c2, c3⟩, f0, f1, f2, f3⟩ := four Hw1.out
      go_wp2_with fail
      refine bodyPost_ret (v := .tuple #[.agg #[.int .u8 1, .string (s.extract 0 (runN wordB (L s))), .int .i64 0, .int .i64 0], .int .i64 (runN wordB (L s)), .int .i64 0]) (by simp [results, Tryd.results25, go_sem, c0, c1, c2, c3]) rfl ⟨?_, below_set4 Hb1.out _ _ _ _ _ _ _ _⟩
      simp only [Rd.val, Tok.val]
      rw [← L_take, mk_L]
      rfl
  · rw [if_pos rfl]
    have hk' : keywordB (L (s.extract 0 (runN wordB (L s)))) = true := by rw [L_take]; exact hk
    have Hk := Lib.hid hk
    clear hk
    go_enter Tryd.func25, Tryd.ntmps25
    go_wp2_with fail
    refine (runN_word _ _ Hs.out).mono ?_
    rintro e w1 ⟨rfl, rfl⟩
    go_wp2_with fail
    refine (Keyword_calls _ _ (ext_le _ _ Hs.out)).mono ?_
    rintro e w1 ⟨rfl, hb1⟩
    have hw1 := new_block _ _ hb1
    have Hb1 := Lib.hid (below_new hb1)
    have hz1 : w.heap.size < w1.heap.size := by have := hb1.size; simp at this; omega
    have Hw1 := Lib.hid hw1
    clear hb1 hw1
    go_wp2_with fail
    refine (great_calls _ _ (ext_le _ _ Hs.out)).mono ?_
    rintro e w2 ⟨rfl, hb2⟩
    have hw2 : w2.heap[w.heap.size]? = _ := (hb2.block _ hz1).trans Hw1.out
    have Hb2 := Lib.hid (Hb1.out.trans (hb2.mono (by omega)))
    have hz2 : w.heap.size < w2.heap.size := Nat.lt_of_lt_of_le hz1 hb2.size
    obtain ⟨⟨c0, c1, c2, c3⟩, f0, f1, f2, f3⟩ := four hw2
    clear hb2 hw2
    go_wp2_with fail
    refine bodyPost_ret (v := (Rd.ok ⟨2, great ((L s).take (runN wordB (L s))), 0, 0⟩ (runN wordB (L s))).val) (by rw [← L_take]; simp [results, Tryd.results25, go_sem, Rd.val, Tok.val, c0, c1, c2, c3]) rfl ⟨rfl, below_set4 Hb2.out _ _ _ _ _ _ _ _⟩

end Go.Proofs.YtebmbghlhicjlaaDoor.Lx
