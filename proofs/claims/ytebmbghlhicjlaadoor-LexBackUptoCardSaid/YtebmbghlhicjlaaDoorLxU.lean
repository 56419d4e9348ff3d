/- What a read token is bounded by: plain. -/
import Derived.Test.YtebmbghlhicjlaaDoorLxR
namespace Go.Proofs.YtebmbghlhicjlaaDoor.Lx

/-! ### what a read token is bounded by -/
structure TokFits (t : Tok) : Prop where
  txt : t.text.length ≤ 16384
  lo : 0 ≤ t.num
  hi : t.num ≤ 9223372036854775807
theorem next_fits {l : List UInt8} (hl : l.length ≤ 16384) {t : Tok} {n : Nat} (h : nextR l = .ok t n) : TokFits t := by
  have ht : ∀ k : Nat, (l.take k).length ≤ 16384 := fun k => by rw [List.length_take]; omega
  have hg : ∀ k : Nat, (great (l.take k)).length ≤ 16384 := fun k => by unfold great; rw [List.length_map]; exact ht k
  cases l with
  | nil => simp [nextR] at h
  | cons c r =>
    unfold nextR at h
    simp only at h
    split at h
    · unfold wordR at h
      split at h
      · simp only [Rd.ok.injEq] at h; rw [← h.1]; exact ⟨hg _, Int.le_refl _, by simp⟩
      · split at h
        · cases h
        · simp only [Rd.ok.injEq] at h; rw [← h.1]; exact ⟨ht _, Int.le_refl _, by simp⟩
    · split at h
      · unfold numberR at h
        split at h
        · rename_i u hu
          split at h
          · cases h
          · rename_i hu2
            split at h
            · cases h
            · split at h
              · simp only [Rd.ok.injEq] at h; rw [← h.1]; exact ⟨by simp, by simp, by simp only; omega⟩
              · cases h
        · cases h
      · split at h
        · unfold textR at h
          split at h
          · cases h
          · split at h
            · cases h
            · split at h
              · simp only [Rd.ok.injEq] at h; rw [← h.1]; exact ⟨by simp only; omega, Int.le_refl _, by simp⟩
              · cases h
        · unfold signR at h
          split at h
          · rename_i x hx
            have hm := (signs_next x (List.mem_of_find?_eq_some hx)).2
            simp only [Rd.ok.injEq] at h; rw [← h.1]; exact ⟨hm, Int.le_refl _, by simp⟩
          · cases h
theorem lexF_fits : ∀ (k a : Nat) (l : List UInt8) {x : List Tok}, l.length ≤ 16384 → lexF k a l = .ok x → ∀ t ∈ x, TokFits t
  | 0, _, _, _, _, h => by simp only [lexF, Lx.ok.injEq] at h; subst h; simp
  | k + 1, a, l, x, hl, h => by
    rw [lexF] at h
    cases hd : l.drop (runN blankB l) with
    | nil => rw [hd] at h; simp only [Lx.ok.injEq] at h; subst h; simp
    | cons c r =>
      have hlen : (c :: r).length = l.length - runN blankB l := by rw [← hd, List.length_drop]
      rw [hd] at h
      simp only at h
      cases hn : nextR (c :: r) with
      | err e' => rw [hn] at h; cases h
      | ok t n =>
        have hf0 := next_fits (by omega) hn
        rw [hn] at h
        simp only at h
        cases hf : lexF k (a + runN blankB l + n) ((c :: r).drop n) with
        | ok l' =>
          have := lexF_fits k _ _ (by rw [List.length_drop]; omega) hf
          rw [hf] at h
          simp only [Lx.cons, Lx.ok.injEq] at h
          rw [← h]
          intro u hu
          rcases List.mem_cons.1 hu with rfl | hu
          · exact ⟨hf0.txt, hf0.lo, hf0.hi⟩
          · exact this u hu
        | err e' p' => rw [hf] at h; cases h
theorem lexL_fits {l : List UInt8} {x : List Tok} (h : lexL l = .ok x) : ∀ t ∈ x, TokFits t := by
  have hl := (lexL_len h).1
  unfold lexL at h
  rw [if_neg (by omega)] at h
  exact lexF_fits _ _ _ hl h
theorem shown_length {t : Tok} (h : showOk t = true) : (showS t).length ≤ 16384 := (lexL_len (of_decide_eq_true h)).1

end Go.Proofs.YtebmbghlhicjlaaDoor.Lx
