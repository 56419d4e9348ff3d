/- Parts: LxQ. -/
import Derived.Test.YtcjmhmmjfgjcnaaGreatDoorMe01

/- The lexer over lists of bytes: what one token takes. Plain. -/
namespace Go.Proofs.YtcjmhmmjfgjcnaaGreatDoor.Lx

theorem runN_cons (p : UInt8 → Bool) (c : UInt8) (l : List UInt8) (h : p c = true) : runN p (c :: l) = runN p l + 1 := by
  simp [runN, h]
theorem runN_zero (p : UInt8 → Bool) (c : UInt8) (l : List UInt8) (h : p c = false) : runN p (c :: l) = 0 := by
  simp [runN, h]

theorem textL_le : ∀ (l : List UInt8) {x : List UInt8} {n : Nat}, textL l = some (x, n) → 1 ≤ n ∧ n ≤ l.length
  | [], _, _, h => by simp [textL] at h
  | [c], x, n, h => by
    by_cases hc : c = 39
    · simp only [textL, hc, if_true, Option.some.injEq, Prod.mk.injEq] at h
      simp; omega
    · simp [textL, hc] at h
  | c :: d :: r, x, n, h => by
    by_cases hc : c = 39
    · by_cases hd : d = 39
      · simp only [textL, hc, hd, if_true, Option.map_eq_some_iff] at h
        obtain ⟨⟨y, m⟩, h1, h2⟩ := h
        have := textL_le r h1
        simp only [Prod.mk.injEq] at h2
        simp; omega
      · simp only [textL, hc, hd, if_true, if_false, Option.some.injEq, Prod.mk.injEq] at h
        simp; omega
    · rw [textL.eq_def] at h
      simp only [hc, if_false, Option.map_eq_some_iff] at h
      obtain ⟨⟨y, m⟩, h1, h2⟩ := h
      have := textL_le (d :: r) h1
      simp only [Prod.mk.injEq] at h2
      simp only [List.length_cons] at this ⊢
      omega

theorem signs_pos : ∀ t ∈ signs, 1 ≤ t.length := by decide
theorem prefix_le {l p : List UInt8} (h : Lib.hasPrefix l p = true) : p.length ≤ l.length := by
  unfold Lib.hasPrefix at h
  rw [List.isPrefixOf_iff_prefix] at h
  exact h.length_le

theorem nextR_le {c : UInt8} {r : List UInt8} {t : Tok} {n : Nat} (h : nextR (c :: r) = .ok t n) : 1 ≤ n ∧ n ≤ (c :: r).length := by
  unfold nextR at h
  simp only at h
  by_cases h1 : letterB c = true
  · rw [if_pos h1] at h
    have hw : wordB c = true := by simp [wordB, h1]
    have hle := runN_le wordB (c :: r)
    have h1 := runN_cons wordB c r hw
    unfold wordR at h
    split at h
    · simp only [Rd.ok.injEq] at h; omega
    · split at h
      · cases h
      · simp only [Rd.ok.injEq] at h; omega
  · rw [if_neg h1] at h
    by_cases h2 : digitB c = true
    · rw [if_pos h2] at h
      have hle := runN_le digitB (c :: r)
      have h1 := runN_cons digitB c r h2
      unfold numberR at h
      split at h
      · split at h
        · cases h
        · split at h
          · cases h
          · split at h
            · simp only [Rd.ok.injEq] at h; omega
            · cases h
      · cases h
    · rw [if_neg h2] at h
      by_cases h3 : quoteB c = true
      · rw [if_pos h3] at h
        unfold textR at h
        split at h
        · cases h
        · rename_i x m hx
          have := textL_le _ hx
          simp only [List.drop_succ_cons, List.drop_zero] at this
          split at h
          · cases h
          · split at h
            · simp only [Rd.ok.injEq] at h
              simp only [List.length_cons]; omega
            · cases h
      · rw [if_neg h3] at h
        unfold signR at h
        split at h
        · rename_i x hx
          have hp := prefix_le (List.find?_some hx)
          have hm := signs_pos _ (List.mem_of_find?_eq_some hx)
          simp only [Rd.ok.injEq] at h
          omega
        · cases h

end Go.Proofs.YtcjmhmmjfgjcnaaGreatDoor.Lx
