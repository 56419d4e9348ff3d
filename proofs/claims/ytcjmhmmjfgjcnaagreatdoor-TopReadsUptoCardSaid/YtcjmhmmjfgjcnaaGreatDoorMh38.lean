/- Parts: PcI PcJ. -/
import Derived.Test.YtcjmhmmjfgjcnaaGreatDoorMh15
import Derived.Test.YtcjmhmmjfgjcnaaGreatDoorMh26
import Derived.Test.YtcjmhmmjfgjcnaaGreatDoorMh37

/- parse: how long what is read may be. Plain. -/
namespace Go.Proofs.YtcjmhmmjfgjcnaaGreatDoor.Pa
open Go.Proofs.YtcjmhmmjfgjcnaaGreatDoor.Lx

/-! ### tokens -/
def wg (t : Tok) : Nat := t.text.length + (Lib.itoa t.num).length + 1
def WL (l : List Tok) : Nat := (l.map wg).sum
theorem WL_cons (t : Tok) (l : List Tok) : WL (t :: l) = wg t + WL l := by simp [WL]
theorem textL_short : ∀ (l : List UInt8) {x : List UInt8} {n : Nat}, textL l = some (x, n) → x.length ≤ n
  | [], _, _, h => by simp [textL] at h
  | [c], x, n, h => by
    by_cases hc : c = 39
    · simp only [textL, hc, if_true, Option.some.injEq, Prod.mk.injEq] at h; rw [← h.1]; simp
    · simp [textL, hc] at h
  | c :: d :: r, x, n, h => by
    by_cases hc : c = 39
    · by_cases hd : d = 39
      · simp only [textL, hc, hd, if_true, Option.map_eq_some_iff] at h
        obtain ⟨⟨z, m⟩, h1, h2⟩ := h
        have := textL_short r h1
        simp only [Prod.mk.injEq] at h2
        rw [← h2.1, ← h2.2]; simp; omega
      · simp only [textL, hc, hd, if_true, if_false, Option.some.injEq, Prod.mk.injEq] at h
        rw [← h.1]; simp
    · rw [textL.eq_def] at h
      simp only [hc, if_false, Option.map_eq_some_iff] at h
      obtain ⟨⟨z, m⟩, h1, h2⟩ := h
      have := textL_short (d :: r) h1
      simp only [Prod.mk.injEq] at h2
      rw [← h2.1, ← h2.2]; simp; omega
theorem next_text {l : List UInt8} {t : Tok} {n : Nat} (h : nextR l = .ok t n) : t.text.length ≤ n := by
  cases l with
  | nil => simp [nextR] at h
  | cons c r =>
    unfold nextR at h
    simp only at h
    split at h
    · have hr := runN_le wordB (c :: r)
      unfold wordR at h
      split at h
      · simp only [Rd.ok.injEq] at h; rw [← h.1, ← h.2]; unfold great; simp only [List.length_map, List.length_take]; omega
      · split at h
        · cases h
        · simp only [Rd.ok.injEq] at h; rw [← h.1, ← h.2]; simp only [List.length_take]; omega
    · split at h
      · unfold numberR at h
        split at h
        · split at h
          · cases h
          · split at h
            · cases h
            · split at h
              · simp only [Rd.ok.injEq] at h; rw [← h.1]; simp
              · cases h
        · cases h
      · split at h
        · unfold textR at h
          split at h
          · cases h
          · rename_i x m hx
            have := textL_short _ hx
            split at h
            · cases h
            · split at h
              · simp only [Rd.ok.injEq] at h; rw [← h.1, ← h.2]; simp only; omega
              · cases h
        · unfold signR at h
          split at h
          · simp only [Rd.ok.injEq] at h; rw [← h.1, ← h.2]; simp
          · cases h
theorem next_wg {c : UInt8} {r : List UInt8} (hl : (c :: r).length ≤ 16384) {t : Tok} {n : Nat} (h : nextR (c :: r) = .ok t n) : wg t ≤ 24 * n := by
  have h1 := next_text h
  have h2 := next_fits hl h
  have h3 := (nextR_le h).1
  have h4 := Lib.itoa_length_le t.num (by have := h2.lo; omega) h2.hi
  unfold wg
  omega
theorem lexF_wg : ∀ (k a : Nat) (l : List UInt8) {x : List Tok}, l.length ≤ 16384 → lexF k a l = .ok x → WL x ≤ 24 * l.length ∧ x.length ≤ l.length
  | 0, _, _, _, _, h => by simp only [lexF, Lx.ok.injEq] at h; subst h; simp [WL]
  | k + 1, a, l, x, hl, h => by
    rw [lexF] at h
    have hr := runN_le blankB l
    cases hd : l.drop (Lx.runN blankB l) with
    | nil => rw [hd] at h; simp only [Lx.ok.injEq] at h; subst h; simp [WL]
    | cons c r =>
      have hlen : (c :: r).length = l.length - Lx.runN blankB l := by rw [← hd, List.length_drop]
      rw [hd] at h
      simp only at h
      cases hn : nextR (c :: r) with
      | err e => rw [hn] at h; cases h
      | ok t n =>
        have hw := next_wg (by omega) hn
        have hn' := nextR_le hn
        rw [hn] at h
        simp only at h
        cases hf : lexF k (a + Lx.runN blankB l + n) ((c :: r).drop n) with
        | err e' p' => rw [hf] at h; cases h
        | ok l' =>
          have ih := lexF_wg k _ _ (by rw [List.length_drop]; omega) hf
          rw [hf] at h
          simp only [Lx.cons, Lx.ok.injEq] at h
          rw [List.length_drop] at ih
          have e : wg { t with pos := a + Lx.runN blankB l } = wg t := rfl
          rw [← h, WL_cons, e, List.length_cons]
          omega
theorem lexL_wg {l : List UInt8} {x : List Tok} (h : lexL l = .ok x) : WL x ≤ 393216 ∧ x.length ≤ 16384 := by
  have hl := (lexL_len h).1
  unfold lexL at h
  rw [if_neg (by omega)] at h
  have := lexF_wg _ _ _ hl h
  omega

/-! ### states -/
structure Fin (M : Nat) (s : St) : Prop where
  left : WL s.left ≤ M
  toks : ∀ t ∈ s.left, TokFits t
  few : s.steps.length ≤ 128
  txt : ∀ y ∈ s.steps, y.text.length ≤ M ∧ y.num ≤ 9223372036854775807
def Le (s r : St) : Prop := WL r.left ≤ WL s.left ∧ (s.why ≠ 0 → r.why ≠ 0)
theorem Le.refl (s : St) : Le s s := ⟨Nat.le_refl _, id⟩
theorem Le.trans {a b c : St} (h : Le a b) (h2 : Le b c) : Le a c := ⟨Nat.le_trans h2.1 h.1, fun e => h2.2 (h.2 e)⟩
theorem Le.zero {a b : St} (h : Le a b) (e : b.why = 0) : a.why = 0 := by
  rcases Nat.eq_zero_or_pos a.why with h0 | h0
  · exact h0
  · exact absurd e (h.2 (by omega))
def Kp (M : Nat) (s r : St) : Prop := (Fin M s → Fin M r) ∧ Le s r
theorem Kp.refl (M : Nat) (s : St) : Kp M s s := ⟨id, Le.refl s⟩
theorem Kp.trans {M : Nat} {a b c : St} (h : Kp M a b) (h2 : Kp M b c) : Kp M a c := ⟨fun x => h2.1 (h.1 x), h.2.trans h2.2⟩
theorem kp_fail (M : Nat) (s : St) (y a : Nat) : Kp M s (s.fail y a) := by
  unfold St.fail; split
  · rename_i h0
    exact ⟨fun h => ⟨by simp [WL], by simp, h.few, h.txt⟩, by simp [WL], fun e => absurd h0 e⟩
  · exact Kp.refl _ _
theorem WL_tail (l : List Tok) : WL l.tail ≤ WL l := by
  cases l with
  | nil => exact Nat.le_refl _
  | cons t l => rw [WL_cons, List.tail_cons]; omega
theorem kp_drop (M : Nat) (s : St) : Kp M s s.drop :=
  ⟨fun h => ⟨Nat.le_trans (WL_tail _) h.left, fun t ht => h.toks t (List.mem_of_mem_tail ht), h.few, h.txt⟩, WL_tail _, id⟩
theorem kp_bad (M : Nat) (s : St) : Kp M s s.bad := kp_fail M s _ _
theorem kp_deep (M : Nat) (s : St) : Kp M s s.deep := kp_fail M s _ _
theorem kp_need (M : Nat) (s : St) (k : Nat) (x : List Txt) : Kp M s (s.need k x) := by
  unfold St.need; split
  · exact kp_drop M s
  · exact kp_bad M s
theorem kp_after (M : Nat) (s : St) (k : Nat) (x : List Txt) : Kp M s (s.after k x) := by
  unfold St.after; split
  · exact kp_drop M s
  · exact Kp.refl M s
theorem kp_keys (M : Nat) : ∀ (xs : List Txt) (s : St), Kp M s (s.keys xs)
  | [], s => Kp.refl M s
  | x :: xs, s => (kp_need M s 2 [x]).trans (kp_keys M xs (s.need 2 [x]))
theorem kp_sign (M : Nat) (s : St) (x : Txt) : Kp M s (s.sign x) := kp_need M s _ _
theorem kp_name (M : Nat) (s : St) : Kp M s s.name := kp_need M s _ _
theorem kp_many (M : Nat) (s : St) : Kp M s s.many := by
  unfold St.many; split
  · exact kp_fail M s _ _
  · exact Kp.refl M s
theorem kp_put (M : Nat) (s : St) (y : Stp) (ht : y.text.length ≤ M) (hn : y.num ≤ 9223372036854775807) : Kp M s (s.put y) := by
  have hm := kp_many M s
  unfold St.put
  split
  · rename_i hw
    refine ⟨fun h => ?_, hm.2.1, hm.2.2⟩
    have h2 := hm.1 h
    have hlt : s.many.steps.length < 128 := by
      unfold St.many at hw ⊢
      split
      · rename_i hx
        rw [if_pos hx] at hw
        unfold St.fail at hw
        rw [if_pos hx.1] at hw
        simp at hw
      · rename_i hx
        rw [if_neg hx] at hw
        have := h.few
        omega
    refine ⟨h2.left, h2.toks, by simp only [List.length_append, List.length_cons, List.length_nil]; omega, fun z hz => ?_⟩
    rcases List.mem_append.1 hz with hz | hz
    · exact h2.txt z hz
    · simp only [List.mem_cons, List.mem_nil_iff, or_false] at hz
      rw [hz]; exact ⟨ht, hn⟩
  · exact hm
theorem kp_put0 (M : Nat) (s : St) (k : Nat) : Kp M s (s.put ⟨k, [], 0⟩) := kp_put M s _ (Nat.zero_le _) (by simp)
theorem head_wg {s : St} {k : Nat} {x : List Txt} (h : s.next k x = true) : wg s.head + WL s.drop.left = WL s.left ∧ s.head ∈ s.left := by
  unfold St.next at h
  cases hl : s.left with
  | nil => rw [hl] at h; cases h
  | cons t r => simp [St.head, St.drop, hl, WL_cons]
theorem name_why {s : St} (h : s.name.why = 0) : s.name.left.length ≤ s.left.length ∧ (s.why = 0 → s.nameT.length + 1 + WL s.name.left ≤ WL s.left) := by
  refine ⟨name_left s, fun h0 => ?_⟩
  rcases need_why (s := s) (k := 1) (x := []) h with h1 | h1
  · exact absurd h0 h1
  · have h5 := (head_wg h1).1
    have h6 : s.name.left = s.drop.left := by unfold St.name St.need; rw [if_pos h1]
    have h7 : s.nameT = s.head.text := by unfold St.nameT St.taken; rw [if_pos h1]
    rw [h6, h7]
    unfold wg at h5
    omega
theorem nameT_short (s : St) : s.nameT.length + WL s.name.left ≤ WL s.left := by
  by_cases h1 : s.next 1 [] = true
  · have h5 := (head_wg h1).1
    have h6 : s.name.left = s.drop.left := by unfold St.name St.need; rw [if_pos h1]
    have h7 : s.nameT = s.head.text := by unfold St.nameT St.taken; rw [if_pos h1]
    rw [h6, h7]
    unfold wg at h5
    omega
  · have h7 : s.nameT = [] := by unfold St.nameT St.taken; rw [if_neg h1]; rfl
    have := (kp_name 0 s).2.1
    rw [h7]
    simpa using this

/-! ### expressions -/
def KpF (M : Nat) (f : St → Option St) : Prop := ∀ s r, Fin M s → f s = some r → Fin M r ∧ Le s r
theorem rowL_kp {M : Nat} {one : St → Option St} (h : KpF M one) (k : Nat) (texts : List Txt) : ∀ (m : Nat) (s r : St), Fin M s → rowL one k texts m s = some r → Fin M r ∧ Le s r
  | 0, _, _, _, hr => by cases hr
  | m + 1, s, r, hs, hr => by
    rw [rowL] at hr
    split at hr
    · rw [Option.bind_eq_some_iff] at hr
      obtain ⟨q, h1, h2⟩ := hr
      have hd := kp_drop M s
      obtain ⟨h3, h4⟩ := h s.drop q (hd.1 hs) h1
      have hp := kp_put0 M q (opKind s.head.text)
      obtain ⟨h5, h6⟩ := rowL_kp h k texts m _ r (hp.1 h3) h2
      exact ⟨h5, hd.2.trans (h4.trans (hp.2.trans h6))⟩
    · simp only [Option.some.injEq] at hr; subst hr; exact ⟨hs, Le.refl _⟩
theorem row_kp {M : Nat} {one : St → Option St} (h : KpF M one) (k : Nat) (texts : List Txt) (n : Nat) : KpF M (row one k texts n) := by
  intro s r hs hr
  unfold row at hr
  rw [Option.bind_eq_some_iff] at hr
  obtain ⟨q, h1, h2⟩ := hr
  obtain ⟨h3, h4⟩ := h s q hs h1
  obtain ⟨h5, h6⟩ := rowL_kp h k texts n q r h3 h2
  exact ⟨h5, h4.trans h6⟩
theorem aheadF_kp {M : Nat} {other : Nat → St → Option St} (h : ∀ d, KpF M (other d)) (k : Nat) (text : Txt) (step : Nat) : ∀ (m d : Nat) (s r : St), Fin M s → aheadF k text step other m d s = some r → Fin M r ∧ Le s r
  | 0, _, _, _, _, hr => by cases hr
  | m + 1, d, s, r, hs, hr => by
    rw [aheadF] at hr
    split at hr
    · split at hr
      · simp only [Option.some.injEq] at hr; subst hr
        have := kp_deep M s
        exact ⟨this.1 hs, this.2⟩
      · rw [Option.bind_eq_some_iff] at hr
        obtain ⟨q, h1, h2⟩ := hr
        have hd := kp_drop M s
        obtain ⟨h3, h4⟩ := aheadF_kp h k text step m (d + 1) s.drop q (hd.1 hs) h1
        have hp := kp_put0 M q step
        simp only [Option.some.injEq] at h2
        rw [← h2]
        exact ⟨hp.1 h3, hd.2.trans (h4.trans hp.2)⟩
    · exact h d s r hs hr
theorem commas_short : ∀ l : List Txt, (commas l).length ≤ Lib.lens l + l.length
  | [] => by simp [commas]
  | [x] => by rw [lens_cons]; simp [commas]; omega
  | x :: y :: r => by
    have := commas_short (y :: r)
    simp only [commas, List.length_append, List.length_cons, lens_cons] at this ⊢
    omega
theorem partN_kp (M : Nat) (x : Stp) (l : List Txt) (s : St) : Kp M s (partN x l s).2 ∧ (s.why = 0 → (partN x l s).2.why = 0 → Lib.lens (partN x l s).1 + (partN x l s).1.length + WL (partN x l s).2.left ≤ Lib.lens l + l.length + WL s.left) := by
  unfold partN
  split
  · have h1 : Kp M s.name (if (l ++ [s.nameT]).Nodup then s.name else s.name.fail 18 s.place) := by
      split
      · exact Kp.refl M _
      · exact kp_fail M _ _ _
    have hsg := kp_sign M (if (l ++ [s.nameT]).Nodup then s.name else s.name.fail 18 s.place) [58]
    refine ⟨(kp_name M s).trans (h1.trans hsg), fun h0 hw => ?_⟩
    simp only at hw ⊢
    have h2 := (h1.trans hsg).2
    have h3 := (name_why (h2.zero hw)).2 h0
    have h4 := h2.1
    rw [lens_app, lens_cons, List.length_append]
    simp only [List.length_cons, List.length_nil]
    have h8 : Lib.lens ([] : List Txt) = 0 := rfl
    omega
  · exact ⟨Kp.refl M s, fun _ _ => Nat.le_refl _⟩
theorem partsL_kp {M : Nat} {or_ : St → Option St} (h : KpF M or_) (end_ : Txt) : ∀ (m : Nat) (x : Stp) (l : List Txt) (s r : St), x.text = [] → x.num ≤ 64 → (s.why = 0 → Lib.lens l + l.length + WL s.left ≤ M) → Fin M s →
    partsL or_ end_ m x l s = some r → Fin M r ∧ Le s r
  | 0, _, _, _, _, _, _, _, _, hr => by cases hr
  | m + 1, x, l, s, r, hx, hxn, hl, hs, hr => by
    rw [partsL] at hr
    by_cases hw : s.why = 0
    · rw [if_pos hw] at hr
      split at hr
      · simp only [Option.some.injEq] at hr; subst hr
        have := kp_fail M s 3 s.place
        exact ⟨this.1 hs, this.2⟩
      · rename_i h64
        rw [Option.bind_eq_some_iff] at hr
        obtain ⟨q, h1, h2⟩ := hr
        obtain ⟨hp, hpl⟩ := partN_kp M x l s
        obtain ⟨h3, h4⟩ := h _ q (hp.1 hs) h1
        have h5 : Le s q := hp.2.trans h4
        unfold partsB at h2
        by_cases hq : q.why = 0
        · rw [if_pos hq] at h2
          have hb := hpl hw (h4.zero hq)
          have h6 := h4.1
          have h7 := hl hw
          split at h2
          · simp only [Option.some.injEq] at h2
            have hc := commas_short (partN x l s).1
            have hpt := (kp_drop M q).trans (kp_put M q.drop { x with text := x.text ++ commas (partN x l s).1, num := x.num + 1 } (by simp only [hx, List.nil_append]; omega) (by simp only; omega))
            rw [← h2]
            exact ⟨hpt.1 h3, h5.trans hpt.2⟩
          · have hsg := kp_sign M q [44]
            obtain ⟨h8, h9⟩ := partsL_kp h end_ m { x with num := x.num + 1 } (partN x l s).1 (q.sign [44]) r hx (by simp only; omega) (fun _ => by have := hsg.2.1; omega) (hsg.1 h3) h2
            exact ⟨h8, h5.trans (hsg.2.trans h9)⟩
        · rw [if_neg hq] at h2
          simp only [Option.some.injEq] at h2
          rw [← h2]
          exact ⟨h3, h5⟩
    · rw [if_neg hw] at hr
      simp only [Option.some.injEq] at hr; subst hr
      exact ⟨hs, Le.refl _⟩
theorem parts_kp {M : Nat} {or_ : St → Option St} (h : KpF M or_) (n : Nat) (k : Nat) (end_ : Txt) : KpF M (parts or_ n ⟨k, [], 0⟩ end_) := by
  intro s r hs hr
  unfold parts at hr
  split at hr
  · simp only [Option.some.injEq] at hr; subst hr
    have := (kp_drop M s).trans (kp_put0 M s.drop k)
    exact ⟨this.1 hs, this.2⟩
  · exact partsL_kp h end_ n _ [] s r rfl (by simp) (fun _ => by have := hs.left; simp [Lib.lens]; omega) hs hr
theorem pathL_kp (M : Nat) : ∀ (m : Nat) (x : Txt) (s : St) (r : Txt × St), Fin M s → pathL m x s = some r → Fin M r.2 ∧ Le s r.2 ∧ r.1.length + WL r.2.left ≤ x.length + WL s.left
  | 0, _, _, _, _, hr => by cases hr
  | m + 1, x, s, r, hs, hr => by
    rw [pathL] at hr
    split at hr
    · rename_i hn
      have hd := kp_drop M s
      have hg := (head_wg hn).1
      unfold wg at hg
      split at hr
      · rename_i hn2
        have hd2 := kp_drop M s.drop
        have hg2 := (head_wg hn2).1
        unfold wg at hg2
        obtain ⟨h1, h2, h3⟩ := pathL_kp M m _ s.drop.drop r (hd2.1 (hd.1 hs)) hr
        refine ⟨h1, hd.2.trans (hd2.2.trans h2), ?_⟩
        simp only [List.length_append, List.length_cons] at h3
        omega
      · have hd2 := kp_name M s.drop
        have hg2 := nameT_short s.drop
        obtain ⟨h1, h2, h3⟩ := pathL_kp M m _ s.drop.name r (hd2.1 (hd.1 hs)) hr
        refine ⟨h1, hd.2.trans (hd2.2.trans h2), ?_⟩
        simp only [List.length_append, List.length_cons] at h3
        omega
    · simp only [Option.some.injEq] at hr; subst hr
      exact ⟨hs, Le.refl _, Nat.le_refl _⟩
theorem path_kp (M n : Nat) : KpF M (path n) := by
  intro s r hs hr
  unfold path at hr
  rw [Option.map_eq_some_iff] at hr
  obtain ⟨q, h1, h2⟩ := hr
  have hd := kp_name M s
  have hg := nameT_short s
  obtain ⟨h3, h4, h5⟩ := pathL_kp M n _ s.name q (hd.1 hs) h1
  have hl := hs.left
  have hp := kp_put M q.2 ⟨6, q.1, 0⟩ (by simp only; omega) (by simp)
  rw [← h2]
  exact ⟨hp.1 h3, hd.2.trans (h4.trans hp.2)⟩
theorem nest_kp {M d : Nat} {go : St → Option St} (h : KpF M go) {s r : St} (hs : Fin M s) (hr : nestThen d s go = some r) : Fin M r ∧ Le s r := by
  unfold nestThen at hr
  split at hr
  · simp only [Option.some.injEq] at hr; subst hr
    have := kp_deep M s
    exact ⟨this.1 hs, this.2⟩
  · have hd := kp_drop M s
    obtain ⟨h1, h2⟩ := h s.drop r (hd.1 hs) hr
    exact ⟨h1, hd.2.trans h2⟩
theorem primary_kp {M : Nat} {or_ : Nat → St → Option St} (h : ∀ d, KpF M (or_ d)) (n d : Nat) : KpF M (primary or_ n d) := by
  intro s r hs hr
  have one : ∀ y : Stp, y.text.length ≤ M → y.num ≤ 9223372036854775807 → s.drop.put y = r → Fin M r ∧ Le s r := fun y h1 h2 e => by
    have := (kp_drop M s).trans (kp_put M s.drop y h1 h2)
    rw [← e]
    exact ⟨this.1 hs, this.2⟩
  unfold primary at hr
  split at hr
  · rename_i hn
    simp only [Option.some.injEq] at hr
    exact one _ (Nat.zero_le _) (hs.toks _ (head_wg hn).2).hi hr
  split at hr
  · rename_i hn
    simp only [Option.some.injEq] at hr
    have hg := (head_wg hn).1
    have hl := hs.left
    unfold wg at hg
    exact one _ (by simp only; omega) (by simp) hr
  split at hr
  · exact path_kp M n s r hs hr
  split at hr
  · simp only [Option.some.injEq] at hr
    exact one _ (Nat.zero_le _) (by simp) hr
  split at hr
  · refine nest_kp (fun s r hs hr => ?_) hs hr
    rw [Option.bind_eq_some_iff] at hr
    obtain ⟨q, h1, h2⟩ := hr
    obtain ⟨h3, h4⟩ := h (d + 1) s q hs h1
    simp only [Option.some.injEq] at h2
    have := kp_sign M q [41]
    rw [← h2]
    exact ⟨this.1 h3, h4.trans this.2⟩
  split at hr
  · exact nest_kp (parts_kp (h (d + 1)) n 7 [93]) hs hr
  split at hr
  · exact nest_kp (parts_kp (h (d + 1)) n 8 [125]) hs hr
  · simp only [Option.some.injEq] at hr; subst hr
    have := kp_bad M s
    exact ⟨this.1 hs, this.2⟩
theorem isNull_kp (M : Nat) (s : St) : Kp M s (isNull s) := by
  unfold isNull
  split
  · have h1 := (kp_drop M s).trans ((kp_after M s.drop 2 [kNOT]).trans ((kp_keys M [kNULL] _).trans (kp_put0 M ((s.drop.after 2 [kNOT]).keys [kNULL]) 11)))
    simp only
    split
    · exact h1.trans (kp_put0 M _ 10)
    · exact h1
  · exact Kp.refl M s
theorem orE_kp {M : Nat} {or_ : Nat → St → Option St} (h : ∀ d, KpF M (or_ d)) (n d : Nat) : KpF M (orE or_ n d) := by
  have h1 : ∀ d, KpF M (signed or_ n d) := fun d s r hs hr => aheadF_kp (primary_kp h n) 5 [45] 9 n d s r hs hr
  have h2 : ∀ d, KpF M (product or_ n d) := fun d => row_kp (h1 d) _ _ n
  have h3 : ∀ d, KpF M (sum or_ n d) := fun d => row_kp (h2 d) _ _ n
  have h4 : ∀ d, KpF M (compared or_ n d) := fun d s r hs hr => by
    unfold compared at hr
    rw [Option.bind_eq_some_iff] at hr
    obtain ⟨q, g1, g2⟩ := hr
    obtain ⟨g3, g4⟩ := h3 d s q hs g1
    split at g2
    · rw [Option.bind_eq_some_iff] at g2
      obtain ⟨p, g5, g6⟩ := g2
      have hd := kp_drop M q
      obtain ⟨g7, g8⟩ := h3 d q.drop p (hd.1 g3) g5
      simp only [Option.some.injEq] at g6
      have hp := kp_put0 M p (opKind q.head.text)
      rw [← g6]
      exact ⟨hp.1 g7, g4.trans (hd.2.trans (g8.trans hp.2))⟩
    · simp only [Option.some.injEq] at g2
      have hn := isNull_kp M q
      rw [← g2]
      exact ⟨hn.1 g3, g4.trans hn.2⟩
  have h5 : ∀ d, KpF M (notE or_ n d) := fun d s r hs hr => aheadF_kp h4 2 kNOT 10 n d s r hs hr
  have h6 : ∀ d, KpF M (andE or_ n d) := fun d => row_kp (h5 d) _ _ n
  exact row_kp (h6 d) _ _ n
theorem orF_kp (M : Nat) : ∀ (n d : Nat), KpF M (orF n d)
  | 0, _ => fun _ _ _ hr => by cases hr
  | n + 1, d => orE_kp (orF_kp M n) n d
theorem expr_kp (M n : Nat) : KpF M (expr n) := fun s r hs hr =>
  orF_kp M n 0 { s with steps := [] } r ⟨hs.left, hs.toks, by simp, by simp⟩ hr

end Go.Proofs.YtcjmhmmjfgjcnaaGreatDoor.Pa

/- parse: how long a read statement's parts may be. Plain. -/
namespace Go.Proofs.YtcjmhmmjfgjcnaaGreatDoor.Pa
open Go.Proofs.YtcjmhmmjfgjcnaaGreatDoor.Lx

structure EF (M : Nat) (l : List Stp) : Prop where
  few : l.length ≤ 128
  txt : ∀ y ∈ l, y.text.length ≤ M ∧ y.num ≤ 9223372036854775807
structure ItF (M : Nat) (t : Itm) : Prop where
  name : t.name.length ≤ M
  expr : EF M t.expr
structure StF (M : Nat) (st : Stm) : Prop where
  table : st.table.length ≤ M
  field : st.field.length ≤ M
  expr : EF M st.expr
  few : st.items.length ≤ 64
  items : ∀ t ∈ st.items, ItF M t
theorem EF.nil (M : Nat) : EF M [] := ⟨by simp, by simp⟩
theorem Fin.ef {M : Nat} {s : St} (h : Fin M s) : EF M s.steps := ⟨h.few, h.txt⟩
theorem Fin.nameT {M : Nat} {s : St} (h : Fin M s) : s.nameT.length ≤ M := by
  have h1 := nameT_short s
  have h2 := h.left
  omega
theorem itemF_kp {M n : Nat} {set : Bool} {names : List Txt} {s : St} {r : Itm × St} (hs : Fin M s) (hr : itemF n set names s = some r) : Fin M r.2 ∧ ItF M r.1 := by
  have hn : ∀ s : St, Fin M s → Fin M (if (names ++ [s.nameT]).Nodup then s.name else s.name.fail 18 s.place) := fun s h => by
    split
    · exact (kp_name M s).1 h
    · exact (kp_fail M _ _ _).1 ((kp_name M s).1 h)
  unfold itemF at hr
  split at hr
  · simp only at hr
    rw [Option.bind_eq_some_iff] at hr
    obtain ⟨q, h1, h2⟩ := hr
    have h3 := (expr_kp M n _ q ((kp_sign M _ [61]).1 (hn s hs)) h1).1
    simp only [Option.some.injEq] at h2
    rw [← h2]
    exact ⟨h3, hs.nameT, h3.ef⟩
  · rw [Option.bind_eq_some_iff] at hr
    obtain ⟨q, h1, h2⟩ := hr
    have h3 := (expr_kp M n s q hs h1).1
    have h4 := (kp_keys M [kAS] q).1 h3
    simp only [Option.some.injEq] at h2
    rw [← h2]
    exact ⟨hn _ h4, h4.nameT, h3.ef⟩
theorem itemsL_kp {M m : Nat} {set : Bool} : ∀ (n : Nat) (out : List Itm) (s : St) (r : List Itm × St), Fin M s → out.length ≤ 64 → (∀ t ∈ out, ItF M t) → itemsL m set n out s = some r → Fin M r.2 ∧ r.1.length ≤ 64 ∧ ∀ t ∈ r.1, ItF M t
  | 0, _, _, _, _, _, _, hr => by cases hr
  | n + 1, out, s, r, hs, ho, ht, hr => by
    rw [itemsL] at hr
    split at hr
    · split at hr
      · simp only [Option.some.injEq] at hr; subst hr
        exact ⟨(kp_fail M s _ _).1 hs, ho, ht⟩
      · rename_i h64
        rw [Option.bind_eq_some_iff] at hr
        obtain ⟨q, h1, h2⟩ := hr
        obtain ⟨h3, h4⟩ := itemF_kp hs h1
        have ho2 : (out ++ [q.1]).length ≤ 64 := by simp only [List.length_append, List.length_cons, List.length_nil]; omega
        have ht2 : ∀ t ∈ out ++ [q.1], ItF M t := fun t h => by
          rcases List.mem_append.1 h with h | h
          · exact ht t h
          · simp only [List.mem_cons, List.mem_nil_iff, or_false] at h
            rw [h]; exact h4
        split at h2
        · exact itemsL_kp n _ _ r ((kp_drop M q.2).1 h3) ho2 ht2 h2
        · simp only [Option.some.injEq] at h2; subst h2
          exact ⟨h3, ho2, ht2⟩
    · simp only [Option.some.injEq] at hr; subst hr
      exact ⟨hs, ho, ht⟩
theorem items_kp {M n : Nat} {set : Bool} {s : St} {r : List Itm × St} (hs : Fin M s) (hr : items n set s = some r) : Fin M r.2 ∧ r.1.length ≤ 64 ∧ ∀ t ∈ r.1, ItF M t :=
  itemsL_kp n [] s r hs (by simp) (by simp) hr
theorem where_kp {M n : Nat} {s : St} {r : List Stp × St} (hs : Fin M s) (hr : where_ n s = some r) : Fin M r.2 ∧ EF M r.1 := by
  unfold where_ at hr
  split at hr
  · rw [Option.bind_eq_some_iff] at hr
    obtain ⟨q, h1, h2⟩ := hr
    have h3 := (expr_kp M n _ q ((kp_drop M s).1 hs) h1).1
    simp only [Option.some.injEq] at h2
    rw [← h2]
    exact ⟨h3, h3.ef⟩
  · simp only [Option.some.injEq] at hr; subst hr
    exact ⟨hs, EF.nil M⟩
theorem fromT_kp {M : Nat} {s : St} (hs : Fin M s) : Fin M (fromT s).2.2 ∧ (fromT s).2.1.length ≤ M := by
  unfold fromT
  split
  · have h1 := (kp_sign M s.drop [40]).1 ((kp_drop M s).1 hs)
    exact ⟨(kp_sign M _ [41]).1 ((kp_name M _).1 h1), h1.nameT⟩
  · exact ⟨(kp_name M s).1 hs, hs.nameT⟩
theorem orderT_kp {M : Nat} {s : St} (hs : Fin M s) : Fin M (orderT s).2.2 ∧ (orderT s).1.length ≤ M := by
  unfold orderT
  split
  · have h1 := (kp_keys M [kBY] s.drop).1 ((kp_drop M s).1 hs)
    exact ⟨(kp_after M _ 2 [kDESC]).1 ((kp_name M _).1 h1), h1.nameT⟩
  · exact ⟨hs, Nat.zero_le _⟩
theorem what_kp {M n : Nat} {s : St} {r : List Itm × St} (hs : Fin M s) (hr : what n s = some r) : Fin M r.2 ∧ r.1.length ≤ 64 ∧ ∀ t ∈ r.1, ItF M t := by
  unfold what at hr
  split at hr
  · simp only [Option.some.injEq] at hr; subst hr
    exact ⟨(kp_drop M s).1 hs, by simp, by simp⟩
  · exact items_kp hs hr
theorem picked_kp {M n : Nat} {s : St} {r : Stm × St} (hs : Fin M s) (hr : picked n s = some r) : Fin M r.2 ∧ StF M r.1 := by
  unfold picked at hr
  rw [Option.bind_eq_some_iff] at hr
  obtain ⟨q, h1, h2⟩ := hr
  simp only at h2
  rw [Option.bind_eq_some_iff] at h2
  obtain ⟨v, h3, h4⟩ := h2
  obtain ⟨g1, g2, g3⟩ := what_kp hs h1
  obtain ⟨g4, g5⟩ := fromT_kp ((kp_keys M [kFROM] q.2).1 g1)
  obtain ⟨g6, g7⟩ := where_kp g4 h3
  obtain ⟨g8, g9⟩ := orderT_kp g6
  simp only [Option.some.injEq] at h4
  rw [← h4]
  exact ⟨g8, g5, g9, g7, g2, g3⟩
theorem stmt_kp {M n : Nat} {s : St} {r : Stm × St} (hs : Fin M s) (hr : stmt n s = some r) : Fin M r.2 ∧ StF M r.1 := by
  have hd := (kp_drop M s).1 hs
  have h0 : ∀ (k : Nat) (tb fd : Txt), tb.length ≤ M → fd.length ≤ M → StF M { stm0 with kind := k, table := tb, field := fd } := fun k tb fd h1 h2 => ⟨h1, h2, EF.nil M, by simp [stm0], by simp [stm0]⟩
  unfold stmt at hr
  split at hr
  · split at hr
    · have h1 := (kp_drop M _).1 hd
      simp only [Option.some.injEq] at hr; subst hr
      exact ⟨(kp_name M _).1 h1, h0 1 _ [] h1.nameT (Nat.zero_le _)⟩
    · have h1 := (kp_keys M [kINDEX, kON] _).1 hd
      have h2 := (kp_sign M _ [40]).1 ((kp_name M _).1 h1)
      simp only [Option.some.injEq] at hr; subst hr
      exact ⟨(kp_sign M _ [41]).1 ((kp_name M _).1 h2), h0 2 _ _ h1.nameT h2.nameT⟩
  split at hr
  · have h1 := (kp_keys M [kINTO] _).1 hd
    simp only at hr
    rw [Option.bind_eq_some_iff] at hr
    obtain ⟨q, g1, g2⟩ := hr
    have h2 := (expr_kp M n _ q ((kp_name M _).1 h1) g1).1
    simp only [Option.some.injEq] at g2; subst g2
    exact ⟨h2, h1.nameT, Nat.zero_le _, h2.ef, by simp [stm0], by simp [stm0]⟩
  split at hr
  · simp only at hr
    rw [Option.bind_eq_some_iff] at hr
    obtain ⟨q, g1, g2⟩ := hr
    rw [Option.bind_eq_some_iff] at g2
    obtain ⟨v, g3, g4⟩ := g2
    obtain ⟨h1, h2, h3⟩ := items_kp ((kp_keys M [kSET] _).1 ((kp_name M _).1 hd)) g1
    obtain ⟨h4, h5⟩ := where_kp h1 g3
    simp only [Option.some.injEq] at g4; subst g4
    exact ⟨h4, hd.nameT, Nat.zero_le _, h5, h2, h3⟩
  split at hr
  · have h1 := (kp_keys M [kFROM] _).1 hd
    simp only at hr
    rw [Option.bind_eq_some_iff] at hr
    obtain ⟨v, g3, g4⟩ := hr
    obtain ⟨h4, h5⟩ := where_kp ((kp_name M _).1 h1) g3
    simp only [Option.some.injEq] at g4; subst g4
    exact ⟨h4, h1.nameT, Nat.zero_le _, h5, by simp [stm0], by simp [stm0]⟩
  split at hr
  · exact picked_kp hd hr
  · simp only [Option.some.injEq] at hr; subst hr
    exact ⟨(kp_bad M s).1 hs, h0 0 [] [] (Nat.zero_le _) (Nat.zero_le _)⟩

end Go.Proofs.YtcjmhmmjfgjcnaaGreatDoor.Pa
