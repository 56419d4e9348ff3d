/- Parts: PeB RdG. -/
import Derived.Test.YtcjmhmmjfgjcnaaGreatDoorMe29

/- parse: how the pieces of a printed text are read as tokens. Plain. -/
namespace Go.Proofs.YtcjmhmmjfgjcnaaGreatDoor.Pa
open Go.Proofs.YtcjmhmmjfgjcnaaGreatDoor.Lx

def kw (x : Txt) : Tok := ⟨2, x, 0, 0⟩
def sg (x : Txt) : Tok := ⟨5, x, 0, 0⟩
def wd (x : Txt) : Tok := ⟨1, x, 0, 0⟩
def nm (n : Int) : Tok := ⟨3, [], n, 0⟩
def tx (x : Txt) : Tok := ⟨4, x, 0, 0⟩

/-- what stands behind a word, a number, a text that is printed -/
def softL : List UInt8 := [32, 40, 41, 93, 125, 44, 58, 46]
def Soft (y : Txt) : Prop := y = [] ∨ ∃ c r, y = c :: r ∧ c ∈ softL
theorem soft_word : ∀ c ∈ softL, wordB c = false := by decide +kernel
theorem soft_letter : ∀ c ∈ softL, letterB c = false := by decide +kernel
theorem soft_digit : ∀ c ∈ softL, digitB c = false := by decide +kernel
theorem soft_quote : ∀ c ∈ softL, c ≠ 39 := by decide +kernel
theorem Soft.cons {c : UInt8} (h : c ∈ softL) (r z : Txt) : Soft (c :: r ++ z) := .inr ⟨c, r ++ z, rfl, h⟩
theorem Soft.run {p : UInt8 → Bool} (hp : ∀ c ∈ softL, p c = false) {y : Txt} (h : Soft y) : Lx.runN p y = 0 := by
  rcases h with rfl | ⟨c, r, rfl, hc⟩
  · rfl
  · exact runN_zero p c r (hp c hc)

/-- a text that is read as some tokens, where what is behind is of a kind -/
def LexP (P : Txt → Prop) (x : Txt) (T : List Tok) : Prop := ∀ (p : Nat) (y : Txt), P y → ∃ T', T'.map Tok.er = T ∧ lexS p (x ++ y) = (lexS (p + x.length) y).app T'
abbrev LexH (x : Txt) (T : List Tok) : Prop := LexP (fun _ => True) x T
abbrev LexW (x : Txt) (T : List Tok) : Prop := LexP Soft x T
theorem LexP.app {P Q : Txt → Prop} {x y : Txt} {T U : List Tok} (h : LexP P x T) (h2 : LexP Q y U) (hs : ∀ z, Q z → P (y ++ z)) : LexP Q (x ++ y) (T ++ U) := by
  intro p z hz
  obtain ⟨U', hU, e2⟩ := h2 (p + x.length) z hz
  obtain ⟨T', hT, e1⟩ := h p (y ++ z) (hs z hz)
  refine ⟨T' ++ U', by rw [List.map_append, hT, hU], ?_⟩
  rw [List.append_assoc, e1, e2, Lx.app_app, List.length_append, Nat.add_assoc]
theorem LexP.to {P Q : Txt → Prop} {x : Txt} {T : List Tok} (h : LexP P x T) (hq : ∀ z, Q z → P z) : LexP Q x T := fun p y hy => h p y (hq y hy)
theorem LexH.any {P : Txt → Prop} {x : Txt} {T : List Tok} (h : LexH x T) : LexP P x T := h.to fun _ _ => trivial
theorem LexH.app {Q : Txt → Prop} {x y : Txt} {T U : List Tok} (h : LexH x T) (h2 : LexP Q y U) : LexP Q (x ++ y) (T ++ U) := LexP.app h h2 fun _ _ => trivial
theorem LexW.app {Q : Txt → Prop} {x r : Txt} {c : UInt8} {T U : List Tok} (h : LexW x T) (h2 : LexP Q (c :: r) U) (hc : c ∈ softL) : LexP Q (x ++ c :: r) (T ++ U) :=
  LexP.app h h2 fun z _ => Soft.cons hc r z
theorem LexP.nil (P : Txt → Prop) : LexP P [] [] := fun p y _ => ⟨[], rfl, by simp only [List.nil_append, List.length_nil, Nat.add_zero]; cases lexS p y <;> rfl⟩
theorem LexH.blank {b : Txt} (hb : ∀ c ∈ b, blankB c = true) : LexH b [] := fun p y _ => ⟨[], rfl, by rw [blank_run hb]; cases lexS (p + b.length) y <;> rfl⟩
theorem LexH.one : LexH [32] [] := LexH.blank (by decide)
theorem er_pos {t : Tok} (h : t.pos = 0) : Tok.er t = t := by
  cases t; simp only at h; subst h; rfl
theorem er_at (t : Tok) (p : Nat) : Tok.er { t with pos := p } = Tok.er t := rfl
theorem LexP.tok {P : Txt → Prop} {x : Txt} {t : Tok} (h : ∀ y, P y → nextR (x ++ y) = .ok t x.length) : LexP P x [t] := by
  intro p y hy
  have hn := h y hy
  refine ⟨[{ t with pos := p }], by rw [List.map_cons, er_at, er_pos (next_pos hn)]; rfl, ?_⟩
  cases hx : x ++ y with
  | nil => rw [hx] at hn; simp [nextR] at hn
  | cons c r =>
    rw [hx] at hn
    have hb : blankB c = false := by
      cases hb : blankB c with
      | false => rfl
      | true => rw [blank_next hb] at hn; cases hn
    have h0 : Lx.runN blankB (c :: r) = 0 := runN_zero _ _ _ hb
    have hd : (c :: r).drop (Lx.runN blankB (c :: r)) = c :: r := by rw [h0]; rfl
    rw [lexS_ok hd hn, h0, Nat.add_zero, ← hx, List.drop_left' rfl]
    cases lexS (p + x.length) y <;> rfl
/-- with a blank behind -/
theorem LexH.gap {x : Txt} {t : Tok} (h : nextR x = .ok t x.length) : LexH (x ++ [32]) [t] := by
  have h1 : LexP (fun y => ∃ r, y = 32 :: r) x [t] := LexP.tok fun y hy => by obtain ⟨r, rfl⟩ := hy; exact nextR_app h
  have := LexP.app h1 LexH.one (fun z _ => ⟨z, rfl⟩)
  simpa using this

/-! ### words -/
structure WordOk (w : Txt) : Prop where
  first : ∃ c r, w = c :: r ∧ letterB c = true
  all : ∀ c ∈ w, wordB c = true
theorem word_run {w y : Txt} (h : WordOk w) (hy : Soft y) : Lx.runN wordB (w ++ y) = w.length ∧ nextR (w ++ y) = wordR (w ++ y) := by
  constructor
  · rw [runN_app_all (runN_all h.all), hy.run soft_word]; rfl
  · obtain ⟨c, r, rfl, hc⟩ := h.first
    rw [List.cons_append, nextR]
    simp only [hc, if_true]
theorem next_word {w y : Txt} (h : WordOk w) (hk : keywordB w = false) (hl : w.length ≤ 64) (hy : Soft y) : nextR (w ++ y) = .ok (wd w) w.length := by
  obtain ⟨h1, h2⟩ := word_run h hy
  rw [h2, wordR, h1, List.take_left' rfl, hk]
  simp only [Bool.false_eq_true, if_false]
  rw [if_neg (by omega)]
  rfl
theorem next_key {w y : Txt} (h : WordOk w) (hk : keywordB w = true) (hy : Soft y) : nextR (w ++ y) = .ok (kw (great w)) w.length := by
  obtain ⟨h1, h2⟩ := word_run h hy
  rw [h2, wordR, h1, List.take_left' rfl, hk]
  rfl
theorem word_key : ∀ x ∈ kws, (x.all wordB && (x.head?.map letterB == some true) && (great x == x)) = true := by decide +kernel
theorem kws_word {x : Txt} (h : x ∈ kws) : WordOk x ∧ keywordB x = true ∧ great x = x := by
  have := word_key x h
  simp only [Bool.and_eq_true, beq_iff_eq, List.all_eq_true] at this
  obtain ⟨⟨h1, h2⟩, h3⟩ := this
  refine ⟨⟨?_, h1⟩, ?_, h3⟩
  · cases x with
    | nil => simp at h2
    | cons c r => exact ⟨c, r, rfl, by simpa using h2⟩
  · unfold keywordB; rw [h3]; exact decide_eq_true h
theorem LexW.key {x : Txt} (h : x ∈ kws) : LexW x [kw x] := by
  obtain ⟨h1, h2, h3⟩ := kws_word h
  refine LexP.tok fun y hy => ?_
  rw [next_key h1 h2 hy, h3]
theorem LexH.key {x : Txt} (h : x ∈ kws) : LexH (x ++ [32]) [kw x] := LexH.gap (kws_next x h).1
theorem LexH.op {x : Txt} (h : x ∈ signs) : LexH (x ++ [32]) [sg x] := LexH.gap (signs_next x h).1

theorem next_one {c : UInt8} {r : Txt} {t : Tok} {n : Nat} (h : nextR (c :: r) = .ok t n) (hk : t.kind = 1) : letterB c = true ∧ n = Lx.runN wordB (c :: r) ∧ t.text = (c :: r).take n ∧ keywordB t.text = false ∧ n ≤ 64 := by
  unfold nextR at h
  simp only at h
  split at h
  · rename_i hc
    unfold wordR at h
    split at h
    · simp only [Rd.ok.injEq] at h; rw [← h.1] at hk; cases hk
    · rename_i hkw
      split at h
      · cases h
      · rename_i hl
        simp only [Rd.ok.injEq] at h
        obtain ⟨rfl, rfl⟩ := h
        exact ⟨hc, rfl, rfl, by simpa using hkw, by omega⟩
  · split at h
    · unfold numberR at h
      split at h
      · split at h
        · cases h
        · split at h
          · cases h
          · split at h
            · simp only [Rd.ok.injEq] at h; rw [← h.1] at hk; cases hk
            · cases h
      · cases h
    · split at h
      · unfold textR at h
        split at h
        · cases h
        · split at h
          · cases h
          · split at h
            · simp only [Rd.ok.injEq] at h; rw [← h.1] at hk; cases hk
            · cases h
      · unfold signR at h
        split at h
        · simp only [Rd.ok.injEq] at h; rw [← h.1] at hk; cases hk
        · cases h
/-- what a name is -/
theorem name_word {w : Txt} (h : nameB w = true) : WordOk w ∧ keywordB w = false ∧ w.length ≤ 64 := by
  unfold nameB showOk at h
  have h1 := of_decide_eq_true h
  rw [show showS ⟨1, w, 0, 0⟩ = w from rfl] at h1
  obtain ⟨_, h2⟩ := lexL_len h1
  cases hd : w.drop (Lx.runN blankB w) with
  | nil => rw [lexS_blank hd] at h2; cases h2
  | cons c r =>
    cases hn : nextR (c :: r) with
    | err e => rw [lexS_err hd hn] at h2; cases h2
    | ok t n =>
      rw [lexS_ok hd hn] at h2
      have ht : t.kind = 1 ∧ t.text = w := by
        cases hf : lexS (0 + Lx.runN blankB w + n) ((c :: r).drop n) with
        | err e p => rw [hf] at h2; cases h2
        | ok l =>
          rw [hf] at h2
          simp only [Lx.cons, Lx.ok.injEq, List.cons.injEq, Tok.mk.injEq] at h2
          exact ⟨h2.1.1, h2.1.2.1⟩
      obtain ⟨hc, hr, htx, hk, hl⟩ := next_one hn ht.1
      rw [ht.2] at htx hk
      have hlen : (c :: r).length = w.length - Lx.runN blankB w := by rw [← hd, List.length_drop]
      have hlt := congrArg List.length htx
      rw [List.length_take, hlen] at hlt
      have hle := runN_le blankB w
      have hpos : 0 < w.length := by
        cases w with
        | nil => simp at hd
        | cons _ _ => simp
      have h0 : Lx.runN blankB w = 0 := by omega
      rw [h0, List.drop_zero] at hd
      subst hd
      refine ⟨⟨⟨c, r, rfl, hc⟩, ?_⟩, hk, by omega⟩
      rw [htx, hr]
      exact runN_take_all wordB (c :: r)
theorem LexW.name {w : Txt} (h : nameB w = true) : LexW w [wd w] := by
  obtain ⟨h1, h2, h3⟩ := name_word h
  exact LexP.tok fun y hy => next_word h1 h2 h3 hy
/-! ### numbers, texts, signs -/
theorem next_num {n : Int} (h0 : 0 ≤ n) (h1 : n ≤ 9223372036854775807) {y : Txt} (hy : Soft y) : nextR (Lib.itoa n ++ y) = .ok (nm n) (Lib.itoa n).length := by
  obtain ⟨u, rfl⟩ : ∃ u : Nat, n = u := ⟨n.toNat, by omega⟩
  rw [Lib.itoa_nonneg]
  have hr : Lx.runN digitB (Lib.decDigits u ++ y) = (Lib.decDigits u).length := by rw [runN_app_all (runN_all (dec_digit u)), hy.run soft_digit]; rfl
  have hp := parse_dec u (by omega)
  have h10 : (Lib.decDigits u).length = 1 ∨ (Lib.decDigits u).head? ≠ some 48 := by
    by_cases hu : u < 10
    · left; rw [Lib.decDigits_length, Lib.nDigits_small hu]
    · right; exact dec_lead u (by omega)
  have hdg := dec_digit u
  have hne := decDigits_ne u
  generalize Lib.decDigits u = D at *
  cases D with
  | nil => exact absurd rfl hne
  | cons d D =>
    have hd := hdg d (by simp)
    have hd2 := digit_letter d hd
    rw [List.cons_append, nextR]
    simp only [hd2, hd, Bool.false_eq_true, if_false, if_true]
    rw [← List.cons_append]
    unfold numberR
    rw [hr, List.take_left' rfl]
    have e : Lib.parseUintB 64 (d :: D) = .ok u := by unfold Lib.parseUintB; rw [if_neg (by simp)]; exact hp
    rw [e]
    simp only
    rw [if_neg (by omega), if_neg (by rintro ⟨h1, h2⟩; rcases h10 with h3 | h3; · omega
                                      · exact h3 h2)]
    have e2 : endsB (d :: D ++ y) (d :: D).length = true := by
      unfold endsB
      rw [List.drop_left' rfl]
      rcases hy with rfl | ⟨c, r, rfl, hc⟩
      · rfl
      · simp only [soft_letter c hc, Bool.not_false]
    rw [if_pos e2]
    rfl
theorem LexW.num {n : Int} (h0 : 0 ≤ n) (h1 : n ≤ 9223372036854775807) : LexW (Lib.itoa n) [nm n] := LexP.tok fun _ hy => next_num h0 h1 hy
theorem Soft.quote {y : Txt} (h : Soft y) : y.head? ≠ some 39 := by
  rcases h with rfl | ⟨c, r, rfl, hc⟩
  · simp
  · simp only [List.head?_cons, ne_eq, Option.some.injEq]
    exact soft_quote c hc
theorem next_quote {x : Txt} (hl : x.length ≤ 1024) (hv : Lib.validD x = true) {y : Txt} (hy : Soft y) : nextR (39 :: (dbl x ++ [39]) ++ y) = .ok (tx x) (39 :: (dbl x ++ [39])).length := by
  have e1 : letterB 39 = false := by decide
  have e2 : digitB 39 = false := by decide
  have e3 : quoteB 39 = true := by decide
  rw [List.cons_append, nextR]
  simp only [e1, e2, e3, Bool.false_eq_true, if_false, if_true]
  unfold textR
  simp only [List.drop_succ_cons, List.drop_zero]
  rw [textL_app hy.quote _ (textL_dbl x)]
  simp only
  rw [if_neg (by omega), if_pos hv]
  simp [tx]
theorem textS_eq {x : Txt} (hl : x.length ≤ 1024) (hv : Lib.validD x = true) : textS x = 39 :: (dbl x ++ [39]) := by
  have hs : showS ⟨4, x, 0, 0⟩ = 39 :: (dbl x ++ [39]) := by unfold showS; simp [replaceAll_dbl]
  have hd := dbl_length x
  have hn := next_quote hl hv (y := []) (.inl rfl)
  rw [List.append_nil] at hn
  have hok : showOk ⟨4, x, 0, 0⟩ = true := by
    unfold showOk
    rw [hs, lex_one hn (by simp only [List.length_cons, List.length_append, List.length_nil]; omega)]
    exact decide_eq_true rfl
  unfold textS
  rw [if_pos hok, hs]
theorem LexW.text {x : Txt} (hl : x.length ≤ 1024) (hv : Lib.validD x = true) : LexW (textS x) [tx x] := by
  rw [textS_eq hl hv]
  exact LexP.tok fun _ hy => next_quote hl hv hy
/-- signs that begin no longer one -/
def hardL : List UInt8 := [43, 45, 42, 40, 41, 91, 93, 123, 125, 44, 58, 46, 61]
theorem hard_none : ∀ c ∈ hardL, letterB c = false ∧ digitB c = false ∧ quoteB c = false := by decide +kernel
theorem hard_sign {c : UInt8} (h : c ∈ hardL) (y : Txt) : signR (c :: y) = .ok (sg [c]) 1 := by
  simp only [hardL, List.mem_cons, List.mem_nil_iff, or_false] at h
  rcases h with rfl | rfl | rfl | rfl | rfl | rfl | rfl | rfl | rfl | rfl | rfl | rfl | rfl <;> simp [signR, signs, Lib.hasPrefix, List.isPrefixOf, sg]
theorem LexH.sign {c : UInt8} (h : c ∈ hardL) : LexH [c] [sg [c]] := by
  refine LexP.tok fun y _ => ?_
  obtain ⟨h1, h2, h3⟩ := hard_none c h
  rw [List.cons_append, nextR]
  simp only [h1, h2, h3, Bool.false_eq_true, if_false]
  exact hard_sign h y

end Go.Proofs.YtcjmhmmjfgjcnaaGreatDoor.Pa

/- codicilref10: shown, numbers and texts. -/
namespace Go.Proofs.YtcjmhmmjfgjcnaaGreatDoor.Rf
open Go.RowKit Go.Proofs.YtcjmhmmjfgjcnaaGreatDoor.Lx Go.Proofs.YtcjmhmmjfgjcnaaGreatDoor.Pa

set_option maxHeartbeats 1000000 in
set_option maxRecDepth 100000 in
theorem shownR_4 (y : Stp) (k : Nat) (l : List Txt) (v : Value) (w : World) (h : ShArgs w y k v l) (hc : y.kind = 4) :
    Calls Tryz.prog 54 #[y.val, v] w fun e w' => e = .returned (.string ⟨(shown y l).toArray⟩) ∧ Below w.heap.size w w' := by
  have HS := Lib.hid (show shown y l = Lib.itoa y.num by unfold shown; simp [hc])
  have hnn := num_of_takes h.ht hc
  obtain ⟨n, hn⟩ : ∃ n : Nat, y.num = n := ⟨y.num.toNat, by omega⟩
  have hn2 : n ≤ 9223372036854775807 := by have := h.hn; omega
  have HN := Lib.hid (fun W => NumberI_calls n hn2 W)
  rw [hn] at HS
  have b1 : ((y.kind : Int) == 1) = false := by rw [beq_eq_false_iff_ne]; omega
  have b2 : ((y.kind : Int) == 2) = false := by rw [beq_eq_false_iff_ne]; omega
  have b3 : ((y.kind : Int) == 3) = false := by rw [beq_eq_false_iff_ne]; omega
  have b4 : ((y.kind : Int) == 4) = true := by rw [beq_iff_eq]; omega
  unfold Stp.val
  rw [hn]
  clear h hc hnn hn
  go_enter Tryz.func54, Tryz.ntmps54
  go_wp2_with fail
  refine (HN.out _).mono ?_
  rintro e w2 ⟨rfl, rfl⟩
  go_wp2_with fail
  go_ret
  exact ⟨by rw [HS.out]; rfl, rAlloc _ _⟩

set_option maxHeartbeats 1000000 in
set_option maxRecDepth 100000 in
theorem shownR_5 (y : Stp) (k : Nat) (l : List Txt) (v : Value) (w : World) (h : ShArgs w y k v l) (hc : y.kind = 5) :
    Calls Tryz.prog 54 #[y.val, v] w fun e w' => e = .returned (.string ⟨(shown y l).toArray⟩) ∧ Below w.heap.size w w' := by
  have hvd : y.text.length ≤ 1024 ∧ Lib.validD y.text = true := by
    have ht := h.ht
    unfold takes at ht
    rw [if_neg (by omega), if_neg (by omega), if_pos hc] at ht
    split at ht
    · rename_i hx; exact hx.2
    · cases ht
  have HS := Lib.hid (show shown y l = 39 :: (dbl y.text ++ [39]) by rw [← textS_eq hvd.1 hvd.2]; unfold shown; simp [hc])
  have HN := Lib.hid (fun W => QuotedR_calls ⟨y.text.toArray⟩ W (by rw [size_mk]; have := hvd.1; omega))
  rw [L_mk] at HN
  have b1 : ((y.kind : Int) == 1) = false := by rw [beq_eq_false_iff_ne]; omega
  have b2 : ((y.kind : Int) == 2) = false := by rw [beq_eq_false_iff_ne]; omega
  have b3 : ((y.kind : Int) == 3) = false := by rw [beq_eq_false_iff_ne]; omega
  have b4 : ((y.kind : Int) == 4) = false := by rw [beq_eq_false_iff_ne]; omega
  have b5 : ((y.kind : Int) == 5) = true := by rw [beq_iff_eq]; omega
  unfold Stp.val
  clear h hc hvd
  go_enter Tryz.func54, Tryz.ntmps54
  go_wp2_with fail
  refine (HN.out _).mono ?_
  rintro e w2 ⟨rfl, hb2⟩
  have Hb2 := Lib.hid (rStep (rAlloc w _) hb2)
  clear hb2
  go_wp2_with fail
  go_ret
  exact ⟨by rw [HS.out]; rfl, Hb2.out⟩

end Go.Proofs.YtcjmhmmjfgjcnaaGreatDoor.Rf
