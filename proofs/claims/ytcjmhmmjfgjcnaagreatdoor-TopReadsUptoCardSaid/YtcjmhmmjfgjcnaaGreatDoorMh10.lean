/- Parts: LxR. -/
import Derived.Test.YtcjmhmmjfgjcnaaGreatDoorMh07
import Derived.Lib.Replace
import Derived.Lib.SplitLaws
import Derived.Lib.ItoaMem

/- The lexer over lists of bytes: two texts with a blank between, what stands from a token's place on, a shown token. Plain. -/
namespace Go.Proofs.YtcjmhmmjfgjcnaaGreatDoor.Lx

/-! ### runs -/
theorem runN_app {p : UInt8 → Bool} {c : UInt8} {b : List UInt8} (h : p c = false) : ∀ l : List UInt8, runN p (l ++ c :: b) = runN p l
  | [] => by rw [List.nil_append, runN_zero p c b h]; rfl
  | x :: l => by
    cases hx : p x with
    | true => rw [List.cons_append, runN_cons p x _ hx, runN_cons p x _ hx, runN_app h l]
    | false => rw [List.cons_append, runN_zero p x _ hx, runN_zero p x _ hx]
theorem runN_app_lt {p : UInt8 → Bool} {y : List UInt8} : ∀ {l : List UInt8}, runN p l < l.length → runN p (l ++ y) = runN p l
  | [], h => by simp at h
  | x :: l, h => by
    cases hx : p x with
    | true =>
      rw [runN_cons p x l hx] at h
      rw [List.cons_append, runN_cons p x _ hx, runN_cons p x _ hx, runN_app_lt (by simpa using h)]
    | false => rw [List.cons_append, runN_zero p x _ hx, runN_zero p x _ hx]
theorem runN_app_all {p : UInt8 → Bool} {y : List UInt8} : ∀ {l : List UInt8}, runN p l = l.length → runN p (l ++ y) = l.length + runN p y
  | [], _ => by simp
  | x :: l, h => by
    cases hx : p x with
    | true =>
      rw [runN_cons p x l hx] at h
      rw [List.cons_append, runN_cons p x _ hx, runN_app_all (by simpa using h)]
      simp; omega
    | false => rw [runN_zero p x l hx] at h; simp at h
theorem runN_all {p : UInt8 → Bool} : ∀ {l : List UInt8}, (∀ c ∈ l, p c = true) → runN p l = l.length
  | [], _ => rfl
  | x :: l, h => by rw [runN_cons p x l (h x (by simp)), runN_all fun c hc => h c (by simp [hc])]; rfl
theorem runN_take_all (p : UInt8 → Bool) (l : List UInt8) : ∀ c ∈ l.take (runN p l), p c = true := by
  intro c hc
  have e : l.take (runN p l) = l.takeWhile p := by
    have := List.takeWhile_prefix (p := p) (l := l)
    exact (List.prefix_iff_eq_take.1 this).symm
  rw [e] at hc
  have := List.all_takeWhile (p := p) (l := l)
  exact List.all_eq_true.1 this c hc

/-! ### places and rounds -/
def Tok.up (a : Nat) (t : Tok) : Tok := { t with pos := t.pos + a }
def Lx.up (a : Nat) : Lx → Lx
  | .ok l => .ok (l.map (Tok.up a))
  | .err e p => .err e (p + a)

theorem lexF_up : ∀ (k a b : Nat) (l : List UInt8), lexF k (b + a) l = (lexF k b l).up a
  | 0, _, _, _ => rfl
  | k + 1, a, b, l => by
    rw [lexF, lexF]
    cases l.drop (runN blankB l) with
    | nil => rfl
    | cons c r =>
      simp only
      cases nextR (c :: r) with
      | err e => simp only [Lx.up]; congr 1; omega
      | ok t n =>
        simp only
        rw [show b + a + runN blankB l + n = (b + runN blankB l + n) + a by omega, lexF_up k a]
        cases lexF k (b + runN blankB l + n) ((c :: r).drop n) with
        | err e p => rfl
        | ok l' => simp only [Lx.up, Lx.cons, List.map_cons, Tok.up]; congr 2; congr 1; omega

theorem lexF_fuel : ∀ (k k' a : Nat) (l : List UInt8), l.length < k → l.length < k' → lexF k a l = lexF k' a l
  | 0, _, _, _, h, _ => absurd h (Nat.not_lt_zero _)
  | _ + 1, 0, _, _, _, h => absurd h (Nat.not_lt_zero _)
  | k + 1, k' + 1, a, l, h, h' => by
    rw [lexF, lexF]
    have hd : (l.drop (runN blankB l)).length ≤ l.length := by rw [List.length_drop]; omega
    cases hx : l.drop (runN blankB l) with
    | nil => rfl
    | cons c r =>
      rw [hx] at hd
      simp only
      cases hn : nextR (c :: r) with
      | err e => rfl
      | ok t n =>
        have hn' := nextR_le hn
        have : ((c :: r).drop n).length < l.length := by rw [List.length_drop]; omega
        simp only
        rw [lexF_fuel k k' _ _ (by omega) (by omega)]
def lexS (a : Nat) (l : List UInt8) : Lx := lexF (l.length + 1) a l
theorem lexS_eq {k : Nat} (a : Nat) {l : List UInt8} (h : l.length < k) : lexF k a l = lexS a l := lexF_fuel _ _ _ _ h (Nat.lt_succ_self _)
theorem lexS_up (a b : Nat) (l : List UInt8) : lexS (b + a) l = (lexS b l).up a := lexF_up _ _ _ _
theorem lexS_up0 (a : Nat) (l : List UInt8) : lexS a l = (lexS 0 l).up a := by rw [← lexS_up, Nat.zero_add]
theorem lexS_blank {a : Nat} {l : List UInt8} (h : l.drop (runN blankB l) = []) : lexS a l = .ok [] := by
  unfold lexS; rw [lexF, h]
theorem lexS_ok {a : Nat} {l : List UInt8} {c : UInt8} {r : List UInt8} (h : l.drop (runN blankB l) = c :: r) {t : Tok} {n : Nat} (hn : nextR (c :: r) = .ok t n) :
    lexS a l = (lexS (a + runN blankB l + n) ((c :: r).drop n)).cons { t with pos := a + runN blankB l } := by
  have hd : (l.drop (runN blankB l)).length ≤ l.length := by rw [List.length_drop]; omega
  rw [h] at hd
  have hn' := nextR_le hn
  rw [lexS, lexF, h]
  simp only [hn]
  rw [lexS_eq _ (by rw [List.length_drop]; omega)]
theorem lexS_err {a : Nat} {l : List UInt8} {c : UInt8} {r : List UInt8} (h : l.drop (runN blankB l) = c :: r) {e : Nat} (hn : nextR (c :: r) = .err e) :
    lexS a l = .err e (a + runN blankB l) := by
  rw [lexS, lexF, h]
  simp only [hn]
theorem lexL_small {l : List UInt8} (h : l.length ≤ 16384) : lexL l = lexS 0 l := by
  unfold lexL lexS
  rw [if_neg (by omega)]
theorem lexL_len {l : List UInt8} {x : List Tok} (h : lexL l = .ok x) : l.length ≤ 16384 ∧ lexS 0 l = .ok x := by
  by_cases hl : 16384 < l.length
  · unfold lexL at h; rw [if_pos hl] at h; cases h
  · exact ⟨by omega, by rw [lexL_small (by omega)] at h; exact h⟩

/-! ### a blank behind -/
theorem textL_app {y : List UInt8} (hy : y.head? ≠ some 39) : ∀ (l : List UInt8) {x : List UInt8} {n : Nat}, textL l = some (x, n) → textL (l ++ y) = some (x, n)
  | [], _, _, h => by simp [textL] at h
  | [c], x, n, h => by
    by_cases hc : c = 39
    · subst hc
      cases y with
      | nil => exact h
      | cons d y =>
        have hd : d ≠ 39 := fun e => hy (by rw [e]; rfl)
        simp only [textL, if_true] at h
        simp only [List.cons_append, List.nil_append, textL, if_true, hd, if_false]
        exact h
    · simp [textL, hc] at h
  | c :: d :: r, x, n, h => by
    by_cases hc : c = 39
    · by_cases hd : d = 39
      · simp only [textL, hc, hd, if_true, Option.map_eq_some_iff] at h
        obtain ⟨⟨z, m⟩, h1, h2⟩ := h
        have := textL_app hy r h1
        simp only [List.cons_append, textL, hc, hd, if_true, this, Option.map_some]
        exact congrArg some h2
      · simp only [textL, hc, hd, if_true, if_false] at h
        simp only [List.cons_append, textL, hc, hd, if_true, if_false]
        exact h
    · rw [textL.eq_def] at h
      simp only [hc, if_false, Option.map_eq_some_iff] at h
      obtain ⟨⟨z, m⟩, h1, h2⟩ := h
      have := textL_app hy (d :: r) h1
      rw [textL.eq_def]
      simp only [List.cons_append, hc, if_false]
      rw [List.cons_append] at this
      rw [this]
      exact congrArg some h2

theorem prefix_app {b : List UInt8} : ∀ (p l : List UInt8), 32 ∉ p → p.isPrefixOf (l ++ 32 :: b) = p.isPrefixOf l
  | [], l, _ => by cases l <;> simp [List.isPrefixOf]
  | c :: p, [], h => by
    have : (c == 32) = false := by rw [beq_eq_false_iff_ne]; intro e; exact h (by simp [e])
    simp [List.isPrefixOf, this]
  | c :: p, x :: l, h => by
    simp only [List.cons_append, List.isPrefixOf]
    rw [prefix_app p l (fun e => h (by simp [e]))]
theorem signs_no32 : ∀ t ∈ signs, 32 ∉ t := by decide
theorem find_ext {α : Type} {p q : α → Bool} : ∀ {l : List α}, (∀ x ∈ l, p x = q x) → l.find? p = l.find? q
  | [], _ => rfl
  | x :: l, h => by
    rw [List.find?_cons, List.find?_cons, h x (by simp), find_ext fun y hy => h y (by simp [hy])]

theorem nextR_app {b l : List UInt8} {t : Tok} {n : Nat} (h : nextR l = .ok t n) : nextR (l ++ 32 :: b) = .ok t n := by
  cases l with
  | nil => simp [nextR] at h
  | cons c r =>
    rw [List.cons_append]
    unfold nextR at h ⊢
    simp only at h ⊢
    rw [← List.cons_append]
    split at h
    · rename_i h1
      rw [if_pos h1]
      unfold wordR at h ⊢
      rw [runN_app (p := wordB) (c := 32) (by decide), List.take_append_of_le_length (runN_le _ _)]
      exact h
    · rename_i h1
      rw [if_neg h1]
      split at h
      · rename_i h2
        rw [if_pos h2]
        unfold numberR at h ⊢
        rw [runN_app (p := digitB) (c := 32) (by decide), List.take_append_of_le_length (runN_le _ _)]
        have e1 : ((c :: r) ++ 32 :: b).head? = (c :: r).head? := rfl
        have e2 : endsB ((c :: r) ++ 32 :: b) (runN digitB (c :: r)) = endsB (c :: r) (runN digitB (c :: r)) := by
          unfold endsB
          rw [List.drop_append_of_le_length (runN_le _ _)]
          cases (c :: r).drop (runN digitB (c :: r)) with
          | nil => rfl
          | cons d y => rfl
        rw [e1, e2]
        exact h
      · rename_i h2
        rw [if_neg h2]
        split at h
        · rename_i h3
          rw [if_pos h3]
          unfold textR at h ⊢
          simp only [List.cons_append, List.drop_succ_cons, List.drop_zero] at h ⊢
          cases hx : textL r with
          | none => rw [hx] at h; cases h
          | some x =>
            obtain ⟨x, m⟩ := x
            rw [textL_app (y := 32 :: b) (by simp) r hx]
            rw [hx] at h
            exact h
        · rename_i h3
          rw [if_neg h3]
          unfold signR at h ⊢
          rw [find_ext (q := fun t => Lib.hasPrefix (c :: r) t) fun x hx => ?_]
          · exact h
          · exact prefix_app _ _ (signs_no32 x hx)

theorem lexS_join (b : List UInt8) : ∀ (k : Nat) (a : List UInt8) (p : Nat) {la : List Tok}, a.length < k → lexS p a = .ok la →
    lexS p (a ++ 32 :: b) = (lexS (p + a.length + 1) b).app la
  | 0, _, _, _, h, _ => absurd h (Nat.not_lt_zero _)
  | k + 1, a, p, la, hk, h => by
    have hle := runN_le blankB a
    cases hd : a.drop (runN blankB a) with
    | nil =>
      have hall : runN blankB a = a.length := by
        have := congrArg List.length hd
        rw [List.length_drop] at this
        simp at this; omega
      rw [lexS_blank hd, Lx.ok.injEq] at h
      subst h
      have hrun : runN blankB (a ++ 32 :: b) = a.length + 1 + runN blankB b := by
        rw [runN_app_all hall, runN_cons blankB 32 b (by decide)]; omega
      have hdrop : (a ++ 32 :: b).drop (runN blankB (a ++ 32 :: b)) = b.drop (runN blankB b) := by
        rw [hrun, show a ++ 32 :: b = (a ++ [32]) ++ b by simp, ← List.drop_drop]
        congr 1
        exact List.drop_left' (by simp)
      have happ : ∀ x : Lx, x.app [] = x := fun x => by cases x <;> rfl
      rw [happ]
      cases hb : b.drop (runN blankB b) with
      | nil => rw [lexS_blank hb, lexS_blank (hdrop.trans hb)]
      | cons c r =>
        cases hn : nextR (c :: r) with
        | err e => rw [lexS_err hb hn, lexS_err (hdrop.trans hb) hn, hrun]; congr 1; omega
        | ok t n => rw [lexS_ok hb hn, lexS_ok (hdrop.trans hb) hn, hrun, show p + (a.length + 1 + runN blankB b) = p + a.length + 1 + runN blankB b by omega]
    | cons c r =>
      have hlt : runN blankB a < a.length := by
        have := congrArg List.length hd
        rw [List.length_drop] at this
        simp at this; omega
      have hrun : runN blankB (a ++ 32 :: b) = runN blankB a := runN_app_lt hlt
      have hdrop : (a ++ 32 :: b).drop (runN blankB (a ++ 32 :: b)) = c :: (r ++ 32 :: b) := by
        rw [hrun, List.drop_append_of_le_length hle, hd]; rfl
      cases hn : nextR (c :: r) with
      | err e => rw [lexS_err hd hn] at h; cases h
      | ok t n =>
        have hn' := nextR_le hn
        have hlen : (c :: r).length = a.length - runN blankB a := by rw [← hd, List.length_drop]
        rw [lexS_ok hd hn] at h
        cases hx : lexS (p + runN blankB a + n) ((c :: r).drop n) with
        | err e q => rw [hx] at h; cases h
        | ok l' =>
          rw [hx] at h
          simp only [Lx.cons, Lx.ok.injEq] at h
          have hnn : nextR (c :: (r ++ 32 :: b)) = .ok t n := nextR_app (l := c :: r) hn
          rw [lexS_ok hdrop hnn, hrun]
          rw [show (c :: (r ++ 32 :: b)).drop n = (c :: r).drop n ++ 32 :: b by rw [← List.drop_append_of_le_length hn'.2]; rfl]
          rw [lexS_join b k _ _ (by rw [List.length_drop]; omega) hx, List.length_drop]
          rw [show p + runN blankB a + n + ((c :: r).length - n) + 1 = p + a.length + 1 by omega]
          rw [← h]
          cases lexS (p + a.length + 1) b <;> rfl

/-! ### what is read is shown -/
def dbl : List UInt8 → List UInt8
  | [] => []
  | c :: r => if c = 39 then 39 :: 39 :: dbl r else c :: dbl r
theorem dbl_length (l : List UInt8) : (dbl l).length ≤ 2 * l.length := by
  induction l with
  | nil => simp [dbl]
  | cons c r ih => simp only [dbl]; split <;> simp <;> omega
theorem textL_dbl : ∀ l : List UInt8, textL (dbl l ++ [39]) = some (l, (dbl l).length + 1)
  | [] => rfl
  | c :: r => by
    by_cases hc : c = 39
    · subst hc
      simp only [dbl, if_true, List.cons_append, textL, textL_dbl r, Option.map_some, List.length_cons]
    · rw [textL.eq_def]
      simp only [dbl, hc, if_false, List.cons_append, textL_dbl r, Option.map_some, List.length_cons]
theorem replaceK_ne {c : UInt8} (hc : c ≠ 39) (new : List UInt8) (k : Nat) (l : List UInt8) : Lib.replaceK [39] new k (c :: l) = c :: Lib.replaceK [39] new k l := by
  cases k with
  | zero => rfl
  | succ k =>
    have hp : ([39] : List UInt8).isPrefixOf (c :: l) = false := by simp [List.isPrefixOf, Ne.symm hc]
    have hix : Lib.index (c :: l) [39] = if Lib.index l [39] == -1 then -1 else Lib.index l [39] + 1 := by rw [Lib.index, hp]; simp
    by_cases hm : Lib.index l [39] = -1
    · have e1 : (Lib.index l [39] == -1) = true := beq_iff_eq.2 hm
      rw [Lib.replaceK, Lib.replaceK, hix, e1]
      simp
    · have hge := Lib.index_ge l [39]
      obtain ⟨j, hj⟩ : ∃ j : Nat, Lib.index l [39] = j := ⟨(Lib.index l [39]).toNat, by omega⟩
      have hix' : Lib.index (c :: l) [39] = ((j + 1 : Nat) : Int) := by rw [hix, if_neg (fun e => hm (beq_iff_eq.1 e)), hj]; omega
      rw [Lib.replaceK_hit _ _ _ _ _ hj, Lib.replaceK_hit _ _ _ _ _ hix']
      simp
theorem replaceK_eq (new : List UInt8) (k : Nat) (l : List UInt8) : Lib.replaceK [39] new (k + 1) (39 :: l) = new ++ Lib.replaceK [39] new k l := by
  have hix : Lib.index (39 :: l) [39] = ((0 : Nat) : Int) := by rw [Lib.index]; simp [List.isPrefixOf]
  rw [Lib.replaceK_hit _ _ _ _ _ hix]
  simp
theorem replaceK_dbl : ∀ l : List UInt8, Lib.replaceK [39] [39, 39] (Lib.count l [39]) l = dbl l
  | [] => by rw [Lib.count_miss (by simp [Lib.index])]; rfl
  | c :: l => by
    by_cases hc : c = 39
    · subst hc
      rw [Lib.count_cons_eq, Nat.add_comm, replaceK_eq, replaceK_dbl l]
      simp [dbl]
    · rw [Lib.count_cons_ne c 39 l hc, replaceK_ne hc, replaceK_dbl l]
      simp [dbl, hc]
theorem replaceAll_dbl (l : List UInt8) : Lib.replaceAll l [39] [39, 39] = dbl l := by
  unfold Lib.replaceAll Lib.replace Lib.replaceNum
  rw [if_neg (by decide), if_pos (by left; decide)]
  exact replaceK_dbl l

theorem parseUintM_snoc {M : Nat} {d : UInt8} : ∀ {l : List UInt8} {acc v : Nat}, Lib.parseUintM M acc l = .ok v → Lib.parseUintM M acc (l ++ [d]) = Lib.parseUintM M v [d]
  | [], acc, v, h => by simp only [Lib.parseUintM, Lib.NumEnd.ok.injEq] at h; subst h; rfl
  | c :: l, acc, v, h => by
    rw [List.cons_append]
    rw [Lib.parseUintM] at h ⊢
    split at h
    · rename_i h1
      rw [if_pos h1]
      split at h
      · cases h
      · rename_i h2
        rw [if_neg h2]
        split at h
        · cases h
        · rename_i h3
          rw [if_neg h3]
          exact parseUintM_snoc h
    · cases h
theorem digit_nat {i : Nat} (h : i < 10) : (UInt8.ofNat (48 + i)).toNat = 48 + i := by
  rw [UInt8.toNat_ofNat']; omega
theorem decDigits_ne (u : Nat) : Lib.decDigits u ≠ [] := by
  rw [Lib.decDigits]; split <;> simp
theorem parse_dec : ∀ (u : Nat), u ≤ 18446744073709551615 → Lib.parseUintM 18446744073709551615 0 (Lib.decDigits u) = .ok u := by
  intro u
  induction u using Nat.strongRecOn with
  | _ u ih =>
    intro hu
    rw [Lib.decDigits]
    split
    · rename_i h
      simp only [Lib.parseUintM, digit_nat h]
      rw [if_pos (by omega), if_neg (by omega), if_neg (by omega)]
      congr 1; omega
    · rename_i h
      rw [parseUintM_snoc (ih (u / 10) (by omega) (by omega))]
      have hd := digit_nat (i := u % 10) (by omega)
      simp only [Lib.parseUintM, hd]
      rw [if_pos (by omega), if_neg (by omega), if_neg (by omega)]
      congr 1; omega
theorem dec_digit : ∀ (u : Nat), ∀ c ∈ Lib.decDigits u, digitB c = true := by
  intro u
  have hd : ∀ i : Nat, i < 10 → digitB (UInt8.ofNat (48 + i)) = true := by decide
  induction u using Nat.strongRecOn with
  | _ u ih =>
    intro c hc
    rw [Lib.decDigits] at hc
    split at hc
    · rename_i h
      simp only [List.mem_singleton] at hc
      subst hc; exact hd u h
    · rename_i h
      rcases List.mem_append.1 hc with hc | hc
      · exact ih (u / 10) (by omega) c hc
      · simp only [List.mem_singleton] at hc
        subst hc; exact hd _ (by omega)
theorem dec_lead : ∀ (u : Nat), 10 ≤ u → (Lib.decDigits u).head? ≠ some 48 := by
  intro u
  have hd : ∀ i : Nat, i < 10 → 0 < i → UInt8.ofNat (48 + i) ≠ 48 := by decide
  induction u using Nat.strongRecOn with
  | _ u ih =>
    intro hu
    rw [Lib.decDigits, dif_neg (by omega)]
    have hh : (Lib.decDigits (u / 10) ++ [UInt8.ofNat (48 + u % 10)]).head? = (Lib.decDigits (u / 10)).head? := by
      have := decDigits_ne (u / 10)
      cases hx : Lib.decDigits (u / 10) with
      | nil => exact absurd hx this
      | cons x y => rfl
    rw [hh]
    by_cases h : u / 10 < 10
    · rw [Lib.decDigits, dif_pos h]
      have := hd (u / 10) h (by omega)
      simpa using this
    · exact ih (u / 10) (by omega) (by omega)
theorem dec_length (u : Nat) (hu : u ≤ 9223372036854775807) : (Lib.decDigits u).length ≤ 21 := by
  rw [Lib.decDigits_length]
  rcases Nat.lt_or_ge 21 (Lib.nDigits u) with h | h
  · exfalso
    have hx : ∀ v : Nat, 10 ^ (Lib.nDigits v - 1) ≤ v ∨ v < 10 := by
      intro v
      induction v using Nat.strongRecOn with
      | _ v ih =>
        by_cases hv : v < 10
        · exact .inr hv
        · left
          rw [Lib.nDigits_big hv]
          have hp := Lib.nDigits_pos (v / 10)
          rcases ih (v / 10) (by omega) with h1 | h1
          · rw [show Lib.nDigits (v / 10) + 1 - 1 = (Lib.nDigits (v / 10) - 1) + 1 by omega, Nat.pow_succ]
            omega
          · rw [Lib.nDigits_small h1]; simp; omega
    rcases hx u with h1 | h1
    · have : 10 ^ 21 ≤ 10 ^ (Lib.nDigits u - 1) := Nat.pow_le_pow_right (by decide) (by omega)
      have e : (10 : Nat) ^ 21 = 1000000000000000000000 := by decide
      omega
    · rw [Lib.nDigits_small h1] at h; omega
  · exact h

def showS (t : Tok) : List UInt8 := if t.kind = 3 then Lib.itoa t.num else if t.kind = 4 then 39 :: (Lib.replaceAll t.text [39] [39, 39] ++ [39]) else t.text
def showOk (t : Tok) : Bool := decide (lexL (showS t) = .ok [{ t with pos := 0 }])

theorem blank_letter : ∀ c : UInt8, blankB c = true → letterB c = false := all_u8 (by decide +kernel)
theorem blank_digit : ∀ c : UInt8, blankB c = true → digitB c = false := all_u8 (by decide +kernel)
theorem blank_quote : ∀ c : UInt8, blankB c = true → quoteB c = false := all_u8 (by decide +kernel)
theorem blank_sign : ∀ c : UInt8, blankB c = true → ∀ t ∈ signs, t.head? ≠ some c ∧ t ≠ [] := all_u8 (by decide +kernel)
theorem digit_letter : ∀ c : UInt8, digitB c = true → letterB c = false := all_u8 (by decide +kernel)
theorem blank_next {c : UInt8} (h : blankB c = true) (r : List UInt8) : nextR (c :: r) = .err 13 := by
  have h1 := blank_letter c h
  have h2 := blank_digit c h
  have h3 := blank_quote c h
  have h4 := blank_sign c h
  unfold nextR
  simp only [h1, h2, h3, Bool.false_eq_true, if_false]
  unfold signR
  have : signs.find? (fun t => Lib.hasPrefix (c :: r) t) = none := by
    rw [List.find?_eq_none]
    intro t ht hp
    have := h4 t ht
    cases t with
    | nil => exact this.2 rfl
    | cons d t =>
      simp only [Lib.hasPrefix, List.isPrefixOf, Bool.and_eq_true, beq_iff_eq] at hp
      exact this.1 (by rw [hp.1]; rfl)
  rw [this]
theorem lex_one {x : List UInt8} {t : Tok} (h : nextR x = .ok t x.length) (hl : x.length ≤ 16384) : lexL x = .ok [{ t with pos := 0 }] := by
  cases x with
  | nil => simp [nextR] at h
  | cons c r =>
    have hb : blankB c = false := by
      cases hb : blankB c with
      | false => rfl
      | true => rw [blank_next hb] at h; cases h
    have h0 : runN blankB (c :: r) = 0 := runN_zero _ _ _ hb
    have hd : (c :: r).drop (runN blankB (c :: r)) = c :: r := by rw [h0]; rfl
    rw [lexL_small hl, lexS_ok hd h, h0, List.drop_length]
    rw [lexS_blank (by rfl)]
    rfl

theorem next_pos {l : List UInt8} {t : Tok} {n : Nat} (h : nextR l = .ok t n) : t.pos = 0 := by
  cases l with
  | nil => simp [nextR] at h
  | cons c r =>
    unfold nextR at h
    simp only at h
    split at h
    · unfold wordR at h
      split at h
      · simp only [Rd.ok.injEq] at h; rw [← h.1]
      · split at h
        · cases h
        · simp only [Rd.ok.injEq] at h; rw [← h.1]
    · split at h
      · unfold numberR at h
        split at h
        · split at h
          · cases h
          · split at h
            · cases h
            · split at h
              · simp only [Rd.ok.injEq] at h; rw [← h.1]
              · cases h
        · cases h
      · split at h
        · unfold textR at h
          split at h
          · cases h
          · split at h
            · cases h
            · split at h
              · simp only [Rd.ok.injEq] at h; rw [← h.1]
              · cases h
        · unfold signR at h
          split at h
          · simp only [Rd.ok.injEq] at h; rw [← h.1]
          · cases h

theorem kws_next : ∀ x ∈ kws, nextR x = .ok ⟨2, x, 0, 0⟩ x.length ∧ x.length ≤ 16384 := by decide +kernel
theorem signs_next : ∀ x ∈ signs, nextR x = .ok ⟨5, x, 0, 0⟩ x.length ∧ x.length ≤ 16384 := by decide +kernel

theorem next_show {l : List UInt8} {t : Tok} {n : Nat} (h : nextR l = .ok t n) (p : Nat) : showOk { t with pos := p } = true := by
  have key : ∀ x : List UInt8, showS { t with pos := p } = x → nextR x = .ok t x.length → x.length ≤ 16384 → showOk { t with pos := p } = true := by
    intro x h1 h2 h3
    unfold showOk
    rw [h1, lex_one h2 h3]
    simp
  cases l with
  | nil => simp [nextR] at h
  | cons c r =>
    unfold nextR at h
    simp only at h
    split at h
    · rename_i hc
      have hw : wordB c = true := by simp [wordB, hc]
      unfold wordR at h
      split at h
      · rename_i hk
        simp only [Rd.ok.injEq] at h
        unfold keywordB at hk
        have hm := of_decide_eq_true hk
        obtain ⟨h1, h2⟩ := kws_next _ hm
        rw [← h.1] at key ⊢
        exact key _ rfl h1 h2
      · rename_i hk
        split at h
        · cases h
        · rename_i hl
          simp only [Rd.ok.injEq] at h
          rw [← h.1] at key ⊢
          have hlen : ((c :: r).take (runN wordB (c :: r))).length = runN wordB (c :: r) := by rw [List.length_take]; have := runN_le wordB (c :: r); omega
          have hrun : runN wordB ((c :: r).take (runN wordB (c :: r))) = runN wordB (c :: r) := by rw [runN_all (runN_take_all _ _), hlen]
          have hh : (c :: r).take (runN wordB (c :: r)) = c :: r.take (runN wordB r) := by rw [runN_cons wordB c r hw]; rfl
          have hx : nextR ((c :: r).take (runN wordB (c :: r))) = wordR ((c :: r).take (runN wordB (c :: r))) := by
            rw [hh, nextR]
            simp only [hc, if_true]
          have hlen2 : ((c :: r).take (runN wordB (c :: r))).length ≤ 16384 := by omega
          refine key ((c :: r).take (runN wordB (c :: r))) rfl ?_ hlen2
          have htk : ((c :: r).take (runN wordB (c :: r))).take (runN wordB (c :: r)) = (c :: r).take (runN wordB (c :: r)) := List.take_of_length_le (by omega)
          rw [hx, wordR, hrun, htk, if_neg hk, if_neg hl, hlen]
    · rename_i hc
      split at h
      · unfold numberR at h
        split at h
        · rename_i u hu
          split at h
          · cases h
          · rename_i hu2
            split at h
            · cases h
            · split at h
              · simp only [Rd.ok.injEq] at h
                rw [← h.1] at key ⊢
                have hs : showS ⟨3, [], (u : Int), p⟩ = Lib.decDigits u := by unfold showS; simp only [if_true]; exact Lib.itoa_nonneg u
                have hl := dec_length u (by omega)
                refine key _ hs ?_ (by omega)
                have hr : runN digitB (Lib.decDigits u) = (Lib.decDigits u).length := runN_all (dec_digit u)
                have hp := parse_dec u (by omega)
                have h10 : (Lib.decDigits u).length = 1 ∨ (Lib.decDigits u).head? ≠ some 48 := by
                  by_cases hu : u < 10
                  · left; rw [Lib.decDigits_length, Lib.nDigits_small hu]
                  · right; exact dec_lead u (by omega)
                have hdg := dec_digit u
                have hne := decDigits_ne u
                generalize Lib.decDigits u = D at *
                cases D with
                | nil => exact absurd rfl hne
                | cons d D =>
                  have hd := hdg d (by simp)
                  have hd2 := digit_letter d hd
                  unfold nextR
                  simp only [hd2, hd, Bool.false_eq_true, if_false, if_true]
                  unfold numberR
                  rw [hr, List.take_length]
                  have e : Lib.parseUintB 64 (d :: D) = .ok u := by unfold Lib.parseUintB; rw [if_neg (by simp)]; exact hp
                  rw [e]
                  simp only
                  rw [if_neg (by omega), if_neg (by rintro ⟨h1, h2⟩; rcases h10 with h3 | h3; · omega
                                                    · exact h3 h2)]
                  have e2 : endsB (d :: D) (d :: D).length = true := by unfold endsB; rw [List.drop_length]
                  rw [if_pos e2]
              · cases h
        · cases h
      · split at h
        · rename_i hq
          unfold textR at h
          split at h
          · cases h
          · rename_i x m hx
            split at h
            · cases h
            · rename_i hl
              split at h
              · rename_i hv
                simp only [Rd.ok.injEq] at h
                rw [← h.1] at key ⊢
                have hs : showS ⟨4, x, 0, p⟩ = 39 :: (dbl x ++ [39]) := by unfold showS; simp [replaceAll_dbl]
                have hd := dbl_length x
                refine key _ hs ?_ (by simp only [List.length_cons, List.length_append, List.length_nil]; omega)
                have e1 : letterB 39 = false := by decide
                have e2 : digitB 39 = false := by decide
                have e3 : quoteB 39 = true := by decide
                unfold nextR
                simp only [e1, e2, e3, Bool.false_eq_true, if_false, if_true]
                unfold textR
                simp only [List.drop_succ_cons, List.drop_zero, textL_dbl]
                rw [if_neg hl, if_pos hv]
                simp
              · cases h
        · unfold signR at h
          split at h
          · rename_i x hx
            have hm := List.mem_of_find?_eq_some hx
            obtain ⟨h1, h2⟩ := signs_next x hm
            simp only [Rd.ok.injEq] at h
            rw [← h.1] at key ⊢
            exact key _ rfl h1 h2
          · cases h

/-! ### from a token's place on -/
structure PlaceOk (p : Nat) (l : List UInt8) (toks : List Tok) (i : Nat) (t : Tok) (q : Nat) : Prop where
  lt : q < l.length
  pos : t.pos = p + q
  tail : lexS (p + q) (l.drop q) = .ok (toks.drop i)
  ok : showOk t = true
theorem lexS_places : ∀ (k p : Nat) (l : List UInt8) {toks : List Tok}, l.length < k → lexS p l = .ok toks → ∀ i (hi : i < toks.length), ∃ q, PlaceOk p l toks i toks[i] q
  | 0, _, _, _, h, _ => absurd h (Nat.not_lt_zero _)
  | k + 1, p, l, toks, hk, h => by
    intro i hi
    cases hd : l.drop (runN blankB l) with
    | nil =>
      rw [lexS_blank hd, Lx.ok.injEq] at h
      subst h; exact absurd hi (Nat.not_lt_zero _)
    | cons c r =>
      have hlen : (c :: r).length = l.length - runN blankB l := by rw [← hd, List.length_drop]
      have hlen2 : 0 < (c :: r).length := by simp
      cases hn : nextR (c :: r) with
      | err e => rw [lexS_err hd hn] at h; cases h
      | ok t n =>
        have hn' := nextR_le hn
        have h' := h
        rw [lexS_ok hd hn] at h
        cases hx : lexS (p + runN blankB l + n) ((c :: r).drop n) with
        | err e q => rw [hx] at h; cases h
        | ok l' =>
          rw [hx] at h
          simp only [Lx.cons, Lx.ok.injEq] at h
          cases i with
          | zero =>
            refine ⟨runN blankB l, by omega, ?_, ?_, ?_⟩
            · subst h; rfl
            · have h0 : runN blankB (l.drop (runN blankB l)) = 0 := by
                rw [hd]
                refine runN_zero _ _ _ ?_
                cases hb : blankB c with
                | false => rfl
                | true => rw [blank_next hb] at hn; cases hn
              have hd2 : (l.drop (runN blankB l)).drop (runN blankB (l.drop (runN blankB l))) = c :: r := by rw [h0]; exact hd
              rw [lexS_ok hd2 hn, h0]
              rw [List.drop_zero, ← h', lexS_ok hd hn]
              rfl
            · subst h
              exact next_show hn _
          | succ i =>
            have hi' : i < l'.length := by subst h; simpa using hi
            obtain ⟨q, h1⟩ := lexS_places k _ _ (by rw [List.length_drop]; omega) hx i hi'
            have hq := h1.lt
            rw [List.length_drop] at hq
            refine ⟨runN blankB l + n + q, by omega, ?_, ?_, ?_⟩
            · subst h
              have := h1.pos
              simp only [List.getElem_cons_succ]
              omega
            · have := h1.tail
              rw [List.drop_drop, ← hd, List.drop_drop] at this
              rw [show p + (runN blankB l + n + q) = p + runN blankB l + n + q by omega, show runN blankB l + n + q = runN blankB l + (n + q) by omega, this]
              subst h; rfl
            · subst h
              exact h1.ok

theorem lexS_first : ∀ (p : Nat) (l : List UInt8) {t : Tok} {toks : List Tok}, lexS p l = .ok (t :: toks) → (∀ u ∈ toks, t.pos < u.pos) := by
  intro p l t toks h u hu
  cases hd : l.drop (runN blankB l) with
  | nil => rw [lexS_blank hd] at h; cases h
  | cons c r =>
    cases hn : nextR (c :: r) with
    | err e => rw [lexS_err hd hn] at h; cases h
    | ok t' n =>
      have hn' := nextR_le hn
      rw [lexS_ok hd hn] at h
      cases hx : lexS (p + runN blankB l + n) ((c :: r).drop n) with
      | err e q => rw [hx] at h; cases h
      | ok l' =>
        rw [hx] at h
        simp only [Lx.cons, Lx.ok.injEq, List.cons.injEq] at h
        obtain ⟨rfl, rfl⟩ := h
        obtain ⟨i, hi, rfl⟩ := List.getElem_of_mem hu
        obtain ⟨q, h1⟩ := lexS_places _ _ _ (Nat.lt_succ_self _) hx i hi
        have := h1.pos
        simp only
        omega

structure Placed (s : List UInt8) (toks : List Tok) (i : Nat) (hi : i < toks.length) : Prop where
  show_ : showOk toks[i] = true
  lt : toks[i].pos < s.length
  rise : ∀ h : 0 < i, toks[i - 1].pos < toks[i].pos
  tail : ∃ rest first, lexL (s.drop toks[i].pos) = .ok (first :: rest) ∧ rest.length + 1 = toks.length - i ∧ { first with pos := toks[i].pos } = toks[i]
theorem places {s : List UInt8} {toks : List Tok} (h : lexL s = .ok toks) (i : Nat) (hi : i < toks.length) : Placed s toks i hi := by
  obtain ⟨hl, hs⟩ := lexL_len h
  obtain ⟨q, h1⟩ := lexS_places _ _ _ (Nat.lt_succ_self _) hs i hi
  have hq : toks[i].pos = q := by have := h1.pos; omega
  refine ⟨h1.ok, by rw [hq]; exact h1.lt, fun h0 => ?_, ?_⟩
  · obtain ⟨q', h2⟩ := lexS_places _ _ _ (Nat.lt_succ_self _) hs (i - 1) (by omega)
    have ht := h2.tail
    have e : toks.drop (i - 1) = toks[i - 1] :: toks.drop i := by
      rw [List.drop_eq_getElem_cons (by omega), show i - 1 + 1 = i by omega]
    rw [e] at ht
    refine lexS_first _ _ ht _ ?_
    rw [List.drop_eq_getElem_cons hi]
    exact List.mem_cons_self
  · have ht := h1.tail
    rw [hq]
    rw [lexL_small (by rw [List.length_drop]; omega)]
    rw [lexS_up0, Nat.zero_add] at ht
    cases hx : lexS 0 (s.drop q) with
    | err e p => rw [hx] at ht; cases ht
    | ok l' =>
      rw [hx] at ht
      simp only [Lx.up, Lx.ok.injEq] at ht
      rw [List.drop_eq_getElem_cons hi] at ht
      cases l' with
      | nil => cases ht
      | cons f rest =>
        simp only [List.map_cons, List.cons.injEq] at ht
        refine ⟨rest, f, rfl, ?_, ?_⟩
        · have := congrArg List.length ht.2
          rw [List.length_map, List.length_drop] at this
          omega
        · rw [← ht.1]
          have := ht.1
          unfold Tok.up at this ⊢
          congr 1
          have hp := congrArg Tok.pos this
          simp only at hp
          omega

def Trail (text : List UInt8) (want : List Tok) : Prop := ∀ (p : Nat) (y : List UInt8), lexS p (text ++ y) = (lexS (p + text.length) y).app (want.map (Tok.up p))
theorem Trail.nil : Trail [] [] := fun p y => by
  simp only [List.nil_append, List.length_nil, Nat.add_zero, List.map_nil]
  cases lexS p y <;> rfl
theorem blank_run {b : List UInt8} (hb : ∀ c ∈ b, blankB c = true) (p : Nat) (y : List UInt8) : lexS p (b ++ y) = lexS (p + b.length) y := by
  have hr : runN blankB (b ++ y) = b.length + runN blankB y := runN_app_all (runN_all hb)
  have hd : (b ++ y).drop (runN blankB (b ++ y)) = y.drop (runN blankB y) := by
    rw [hr, ← List.drop_drop, List.drop_left' rfl]
  cases hy : y.drop (runN blankB y) with
  | nil => rw [lexS_blank hy, lexS_blank (hd.trans hy)]
  | cons c r =>
    cases hn : nextR (c :: r) with
    | err e => rw [lexS_err hy hn, lexS_err (hd.trans hy) hn, hr]; congr 1; omega
    | ok t n => rw [lexS_ok hy hn, lexS_ok (hd.trans hy) hn, hr, show p + (b.length + runN blankB y) = p + b.length + runN blankB y by omega]
theorem Lx.app_app (p q : List Tok) (r : Lx) : (r.app q).app p = r.app (p ++ q) := by cases r <;> simp [Lx.app]
theorem Trail.more {text : List UInt8} {want : List Tok} (h : Trail text want) {t : Tok} (ht : showOk t = true) {b : List UInt8} (hb : ∀ c ∈ b, blankB c = true) :
    Trail (text ++ (showS t ++ (32 :: b))) (want ++ [{ t with pos := text.length }]) := by
  intro p y
  unfold showOk at ht
  obtain ⟨_, ht⟩ := lexL_len (of_decide_eq_true ht)
  have e : text ++ (showS t ++ (32 :: b)) ++ y = text ++ (showS t ++ (32 :: (b ++ y))) := by simp
  have ht2 : lexS (p + text.length) (showS t) = .ok [{ t with pos := p + text.length }] := by
    rw [lexS_up0, ht]; simp [Lx.up, Tok.up]
  rw [e, h, lexS_join (b ++ y) _ _ _ (Nat.lt_succ_self _) ht2, blank_run hb, Lx.app_app]
  simp only [List.length_append, List.length_cons, List.map_append, List.map_cons, List.map_nil, Tok.up]
  rw [show p + text.length + (showS t).length + 1 + b.length = p + (text.length + ((showS t).length + (b.length + 1))) by omega, Nat.add_comm p text.length]
theorem Trail.lex {text : List UInt8} {want : List Tok} (h : Trail text want) (hl : text.length ≤ 16384) : lexL text = .ok want := by
  have := h 0 []
  rw [List.append_nil] at this
  rw [lexL_small hl, this, lexS_blank (by rfl)]
  have e : want.map (Tok.up 0) = want := by
    conv => rhs; rw [← List.map_id want]
    exact List.map_congr_left fun t _ => rfl
  simp [Lx.app, e]

end Go.Proofs.YtcjmhmmjfgjcnaaGreatDoor.Lx
