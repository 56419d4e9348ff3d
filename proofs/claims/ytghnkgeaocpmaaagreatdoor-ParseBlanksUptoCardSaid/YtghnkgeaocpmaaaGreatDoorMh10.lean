/- Parts: PeH PfG. -/
import Derived.Test.YtghnkgeaocpmaaaGreatDoorMh09

/- ParseBlanks: blanks at both ends, and brackets around a condition, are no matter. Plain. -/
namespace Go.Proofs.YtghnkgeaocpmaaaGreatDoor.Pa
open Go.Proofs.YtghnkgeaocpmaaaGreatDoor.Lx

/-! ### blanks behind a text -/
theorem blank_noquote : ∀ c : UInt8, blankB c = true → c ≠ 39 := all_u8 (by decide +kernel)
theorem blank_word : ∀ c : UInt8, blankB c = true → wordB c = false := all_u8 (by decide +kernel)
theorem signs_noblank : ∀ c : UInt8, blankB c = true → ∀ t ∈ signs, c ∉ t := all_u8 (by decide +kernel)
theorem blank_head {bs : Txt} (hb : ∀ c ∈ bs, blankB c = true) : bs.head? ≠ some 39 := by
  cases bs with
  | nil => simp
  | cons c r =>
    simp only [List.head?_cons, ne_eq, Option.some.injEq]
    exact blank_noquote c (hb c (by simp))
theorem blank_run0 {p : UInt8 → Bool} (hp : ∀ c : UInt8, blankB c = true → p c = false) {bs : Txt} (hb : ∀ c ∈ bs, blankB c = true) : Lx.runN p bs = 0 := by
  cases bs with
  | nil => rfl
  | cons c r => exact runN_zero p c r (hp c (hb c (by simp)))
theorem run_blank {p : UInt8 → Bool} (hp : ∀ c : UInt8, blankB c = true → p c = false) {bs : Txt} (hb : ∀ c ∈ bs, blankB c = true) (l : Txt) : Lx.runN p (l ++ bs) = Lx.runN p l := by
  by_cases h : Lx.runN p l < l.length
  · exact runN_app_lt h
  · have hle := runN_le p l
    have he : Lx.runN p l = l.length := by omega
    rw [runN_app_all he, blank_run0 hp hb, he]
    omega
theorem textL_none : ∀ (l bs : Txt), (∀ c ∈ bs, blankB c = true) → textL l = none → textL (l ++ bs) = none
  | [], [], _, _ => by simp [textL]
  | [], b :: bs, hb, _ => by
    have h1 := blank_noquote b (hb b (by simp))
    have ih := textL_none [] bs (fun c hc => hb c (by simp [hc])) (by simp [textL])
    rw [List.nil_append] at ih ⊢
    rw [textL.eq_def]
    simp only [h1, if_false, ih, Option.map_none]
  | [c], bs, hb, h => by
    by_cases hc : c = 39
    · simp [textL, hc] at h
    · have ih := textL_none [] bs hb (by simp [textL])
      rw [List.nil_append] at ih
      rw [List.cons_append, List.nil_append, textL.eq_def]
      simp only [hc, if_false, ih, Option.map_none]
  | c :: d :: r, bs, hb, h => by
    by_cases hc : c = 39
    · by_cases hd : d = 39
      · simp only [textL, hc, hd, if_true, Option.map_eq_none_iff] at h
        have ih := textL_none r bs hb h
        simp only [List.cons_append, textL, hc, hd, if_true, ih, Option.map_none]
      · simp only [textL, hc, hd, if_true, if_false] at h
        cases h
    · rw [textL.eq_def] at h
      simp only [hc, if_false, Option.map_eq_none_iff] at h
      have ih := textL_none (d :: r) bs hb h
      rw [textL.eq_def]
      simp only [List.cons_append, hc, if_false]
      rw [List.cons_append] at ih
      rw [ih]
      rfl
theorem prefix_blank {bs : Txt} (hb : ∀ c ∈ bs, blankB c = true) : ∀ (p l : Txt), (∀ c ∈ p, blankB c = false) → p.isPrefixOf (l ++ bs) = p.isPrefixOf l
  | [], l, _ => by cases l <;> cases bs <;> simp [List.isPrefixOf]
  | c :: p, [], h => by
    cases bs with
    | nil => rfl
    | cons b bs =>
      have hne : (c == b) = false := by
        rw [beq_eq_false_iff_ne]
        intro e
        have h1 := h c (by simp)
        rw [e, hb b (by simp)] at h1
        cases h1
      simp [List.isPrefixOf, hne]
  | c :: p, x :: l, h => by
    simp only [List.cons_append, List.isPrefixOf]
    rw [prefix_blank hb p l fun d hd => h d (by simp [hd])]
theorem signs_none : ∀ t ∈ signs, ∀ c ∈ t, blankB c = false := by decide +kernel
/-- a token is the same, or the same error, where blanks stand behind the text -/
theorem next_blank {bs : Txt} (hb : ∀ c ∈ bs, blankB c = true) (c : UInt8) (r : Txt) : nextR (c :: r ++ bs) = nextR (c :: r) := by
  rw [List.cons_append, nextR, nextR]
  by_cases h1 : letterB c = true
  · rw [if_pos h1, if_pos h1]
    have hr := run_blank blank_word hb (c :: r)
    rw [List.cons_append] at hr
    have ht : (c :: (r ++ bs)).take (Lx.runN wordB (c :: r)) = (c :: r).take (Lx.runN wordB (c :: r)) := by
      rw [← List.cons_append, List.take_append_of_le_length (runN_le _ _)]
    unfold wordR
    rw [hr, ht]
  · rw [if_neg h1, if_neg h1]
    by_cases h2 : digitB c = true
    · rw [if_pos h2, if_pos h2]
      have hr := run_blank blank_digit hb (c :: r)
      rw [List.cons_append] at hr
      have ht : (c :: (r ++ bs)).take (Lx.runN digitB (c :: r)) = (c :: r).take (Lx.runN digitB (c :: r)) := by
        rw [← List.cons_append, List.take_append_of_le_length (runN_le _ _)]
      have he : endsB (c :: (r ++ bs)) (Lx.runN digitB (c :: r)) = endsB (c :: r) (Lx.runN digitB (c :: r)) := by
        unfold endsB
        rw [← List.cons_append, List.drop_append_of_le_length (runN_le _ _)]
        cases hd : (c :: r).drop (Lx.runN digitB (c :: r)) with
        | cons x y => rfl
        | nil =>
          cases bs with
          | nil => rfl
          | cons b bs => simp only [List.nil_append, blank_letter b (hb b (by simp)), Bool.not_false]
      unfold numberR
      rw [hr, ht, he]
      rfl
    · rw [if_neg h2, if_neg h2]
      by_cases h3 : quoteB c = true
      · rw [if_pos h3, if_pos h3]
        unfold textR
        simp only [List.drop_succ_cons, List.drop_zero]
        cases ht : textL r with
        | none => rw [textL_none r bs hb ht]
        | some x =>
          obtain ⟨y, m⟩ := x
          rw [textL_app (blank_head hb) r ht]
      · rw [if_neg h3, if_neg h3]
        unfold signR
        have hf : signs.find? (fun t => Lib.hasPrefix (c :: (r ++ bs)) t) = signs.find? (fun t => Lib.hasPrefix (c :: r) t) :=
          find_ext fun t ht => by
            unfold Lib.hasPrefix
            rw [← List.cons_append]
            exact prefix_blank hb t (c :: r) (signs_none t ht)
        rw [hf]
theorem lexS_blanks {bs : Txt} (hb : ∀ c ∈ bs, blankB c = true) : ∀ (k : Nat) (l : Txt) (p : Nat), l.length < k → lexS p (l ++ bs) = lexS p l
  | 0, _, _, h => absurd h (Nat.not_lt_zero _)
  | k + 1, l, p, h => by
    cases hd : l.drop (Lx.runN blankB l) with
    | nil =>
      have hle := runN_le blankB l
      have hlen : l.length - Lx.runN blankB l = 0 := by rw [← List.length_drop, hd]; rfl
      have hall : ∀ c ∈ l, blankB c = true := fun c hc => by
        have := runN_take_all blankB l c
        rw [List.take_of_length_le (by omega)] at this
        exact this hc
      rw [lexS_blank hd]
      have h2 : (l ++ bs).drop (Lx.runN blankB (l ++ bs)) = [] := by
        rw [runN_all fun c hc => by rcases List.mem_append.1 hc with h | h; exact hall c h; exact hb c h]
        exact List.drop_length
      rw [lexS_blank h2]
    | cons c r =>
      have hlt : Lx.runN blankB l < l.length := by
        have := congrArg List.length hd
        rw [List.length_drop] at this
        simp only [List.length_cons] at this
        omega
      have hr : Lx.runN blankB (l ++ bs) = Lx.runN blankB l := runN_app_lt hlt
      have hd2 : (l ++ bs).drop (Lx.runN blankB (l ++ bs)) = c :: (r ++ bs) := by rw [hr, List.drop_append_of_le_length (by omega), hd]; rfl
      have hn := next_blank hb c r
      rw [List.cons_append] at hn
      cases hx : nextR (c :: r) with
      | err e => rw [lexS_err hd hx, lexS_err hd2 (hn.trans hx), hr]
      | ok t n =>
        have hnl := nextR_le hx
        have hlen := congrArg List.length hd
        rw [List.length_drop] at hlen
        rw [lexS_ok hd hx, lexS_ok hd2 (hn.trans hx), hr, ← List.cons_append, List.drop_append_of_le_length hnl.2, lexS_blanks hb k _ _ (by rw [List.length_drop]; omega)]
theorem up_er (a : Nat) (l : List Tok) : (l.map (Tok.up a)).map Tok.er = l.map Tok.er := by
  rw [List.map_map]
  exact List.map_congr_left fun t _ => rfl
/-- blanks at both ends -/
theorem parse_blanks {n : Nat} {s pre post : Txt} (h1 : ∀ c ∈ pre, blankB c = true) (h2 : ∀ c ∈ post, blankB c = true) (hl : (pre ++ s ++ post).length ≤ 16384) : (parseF n (pre ++ s ++ post)).map Rs.er = (parseF n s).map Rs.er := by
  have hl2 : s.length ≤ 16384 := by simp only [List.length_append] at hl; omega
  have e : lexL (pre ++ s ++ post) = (lexL s).up pre.length := by
    rw [lexL_small hl, lexL_small hl2, List.append_assoc, blank_run h1, Nat.zero_add, lexS_blanks h2 _ s _ (Nat.lt_succ_self _), lexS_up0]
  cases hx : lexL s with
  | err c a =>
    rw [hx] at e
    unfold parseF
    rw [hx, e]
    rfl
  | ok toks =>
    rw [hx] at e
    exact parseF_same e hx (up_er _ _)

/-! ### brackets around a condition -/
theorem reads_par {T : List Tok} {h : Nat} {l : List Stp} (g : ReadsP T h l) (hs : Starts T) : ReadsP (sg [40] :: (T ++ [sg [41]])) (1 + h) l := by
  intro d R acc hd ha hR
  have e : sg [40] :: (T ++ [sg [41]]) ++ R = sg [40] :: (T ++ sg [41] :: R) := by simp
  rw [e]
  refine (prim_par (b := d + 1 + h ≤ 16) (out := acc ++ l) fun hd1 => ?_).mono (by omega) rfl
  exact prim_or (g (d + 1) (sg [41] :: R) acc (by omega) ha (stop_par R acc).2) (hs.plain _ _) (stop_par R _).1
/-- a condition's tokens, read behind DELETE FROM t WHERE -/
theorem delete_reads {T : List Tok} {h : Nat} {l : List Stp} (g : ReadsP T h l) (hs : Starts T) (hl : l.length ≤ 128) (hr : rightB l = true) :
    ∃ n0, ∀ n, n0 ≤ n → ∃ r, readT n (kw kDELETE :: kw kFROM :: wd [116] :: kw kWHERE :: T) 0 = some r ∧ (h ≤ 16 → r = .ok { stm0 with kind := 5, table := [116], expr := l }) ∧ (¬ h ≤ 16 → ∃ a, r = .err 10 a) := by
  obtain ⟨hst, hdot⟩ := stopL_stop stop_nil ([] ++ l)
  have he := or_orF (prim_or (g 0 [] [] (by omega) (by simpa using hl) (stopL_stop stop_nil []).2) (hs.plain _ _) hst)
  rw [Nat.zero_add, List.nil_append, List.append_nil] at he
  obtain ⟨n0, he⟩ := he
  refine ⟨n0, fun n hn => ?_⟩
  obtain ⟨s, hs1, hc⟩ := he n hn
  have hx : expr n (mk T []) = some s := hs1
  have hnm : nameB [116] = true := by decide +kernel
  have hck : checkB { stm0 with kind := 5, table := [116], expr := l } = true := by
    unfold checkB stm0
    simp [hnm, hr]
  have hstmt : stmt n (mk (kw kDELETE :: kw kFROM :: wd [116] :: kw kWHERE :: T) []) = some ({ stm0 with kind := 5, table := [116], expr := s.steps }, s) := by
    unfold stmt
    rw [if_neg (by rw [kwn _ _ (by decide)]; decide), if_neg (by rw [kwn _ _ (by decide)]; decide), if_neg (by rw [kwn _ _ (by decide)]; decide), if_pos (kwy _ _), mk_drop, mk_key]
    simp only
    rw [(mk_name _ _ _).1, (mk_name _ _ _).2]
    unfold where_
    rw [if_pos (kwy _ _), mk_drop, hx]
    rfl
  unfold readT
  rw [show st0 (kw kDELETE :: kw kFROM :: wd [116] :: kw kWHERE :: T) 0 = mk (kw kDELETE :: kw kFROM :: wd [116] :: kw kWHERE :: T) [] from rfl, hstmt, Option.bind_some]
  refine ⟨_, rfl, fun hb => ?_, fun hb => ?_⟩
  · rw [hc.1 hb]
    rw [show (mk [] l).ended = mk [] l from rfl]
    unfold finish
    rw [if_neg (by simp [mk])]
    simp only [show (mk [] l).steps = l from rfl]
    rw [if_pos hck]
  · have h1 := hc.2 hb
    have e : s.ended = s := by unfold St.ended; rw [h1.left]; rfl
    simp only
    rw [e]
    unfold finish
    rw [if_pos (by have := h1.why; omega), h1.why]
    exact ⟨_, rfl⟩
theorem low_key {w g : Txt} (h : WordOk w) (hk : keywordB w = true) (hg : great w = g) : LexH (w ++ [32]) [kw g] := by
  refine LexH.gap ?_
  have := next_key h hk (y := []) (.inl rfl)
  rw [List.append_nil, hg] at this
  exact this
theorem wordOk_of {w : Txt} (h : (w.all wordB && (w.head?.map letterB == some true)) = true) : WordOk w := by
  simp only [Bool.and_eq_true, beq_iff_eq, List.all_eq_true] at h
  refine ⟨?_, h.1⟩
  cases w with
  | nil => simp at h
  | cons c r => exact ⟨c, r, rfl, by simpa using h.2⟩
def kDel : Txt := [68, 69, 76, 69, 84, 69, 32, 70, 82, 79, 77, 32, 116, 32, 87, 72, 69, 82, 69, 32]
def kdel : Txt := [100, 101, 108, 101, 116, 101, 32, 102, 114, 111, 109, 32, 116, 32, 119, 104, 101, 114, 101, 32, 40, 40]
theorem lex_del : LexH kDel [kw kDELETE, kw kFROM, wd [116], kw kWHERE] := by
  have e : kDel = (kDELETE ++ [32]) ++ ((kFROM ++ [32]) ++ (([116] ++ [32]) ++ (kWHERE ++ [32]))) := rfl
  rw [e]
  have hn : nextR [116] = .ok (wd [116]) 1 := by decide +kernel
  exact LexH.app (LexH.key (by decide +kernel)) (LexH.app (LexH.key (by decide +kernel)) (LexH.app (LexH.gap hn) (LexH.key (by decide +kernel))))
theorem lex_del2 : LexH kdel [kw kDELETE, kw kFROM, wd [116], kw kWHERE, sg [40], sg [40]] := by
  have e : kdel = ([100, 101, 108, 101, 116, 101] ++ [32]) ++ (([102, 114, 111, 109] ++ [32]) ++ (([116] ++ [32]) ++ (([119, 104, 101, 114, 101] ++ [32]) ++ ([40] ++ [40])))) := rfl
  rw [e]
  have hn : nextR [116] = .ok (wd [116]) 1 := by decide +kernel
  exact LexH.app (low_key (wordOk_of (by decide +kernel)) (by decide +kernel) (by decide +kernel)) (LexH.app (low_key (wordOk_of (by decide +kernel)) (by decide +kernel) (by decide +kernel)) (LexH.app (LexH.gap hn)
    (LexH.app (low_key (wordOk_of (by decide +kernel)) (by decide +kernel) (by decide +kernel)) (LexH.app (LexH.sign (by decide)) (LexH.sign (by decide))))))
theorem readT_back {n : Nat} {toks : List Tok} {fin : Nat} {r : Rs} (h : readT n (toks.map Tok.er) 0 = some r) : ∃ q, readT n toks fin = some q ∧ q.er = r := by
  rw [readT_er n toks fin] at h
  cases hq : readT n toks fin with
  | none => rw [hq] at h; cases h
  | some q => rw [hq, Option.map_some, Option.some.injEq] at h; exact ⟨q, rfl, h⟩
/-- the condition of a DELETE, without brackets and with two -/
theorem delete_both {l : List Stp} (hr : rightB l = true) (hn : ∀ y ∈ l, y.num ≤ 9223372036854775807) (ht : (showE l).length ≤ 8000) :
    ∃ n r3 r4, parseF n (kDel ++ showE l) = some r3 ∧ parseF n (kdel ++ showE l ++ [41, 41]) = some r4 ∧
      ((r3 = .ok { stm0 with kind := 5, table := [116], expr := l } ∧ r4 = .ok { stm0 with kind := 5, table := [116], expr := l }) ∨ (4 < l.length ∧ ∃ a, r4 = .err 10 a)) := by
  obtain ⟨⟨T, h, g⟩, hl⟩ := showE_good hr hn
  have l3 : LexW (kDel ++ showE l) (kw kDELETE :: kw kFROM :: wd [116] :: kw kWHERE :: T) := LexH.app lex_del g.lex
  have l4 : LexW (kdel ++ showE l ++ [41, 41]) (kw kDELETE :: kw kFROM :: wd [116] :: kw kWHERE :: (sg [40] :: (sg [40] :: (T ++ [sg [41]]) ++ [sg [41]]))) := by
    have e : kdel ++ showE l ++ [41, 41] = kdel ++ (showE l ++ 41 :: [41]) := by simp
    have e2 : kw kDELETE :: kw kFROM :: wd [116] :: kw kWHERE :: (sg [40] :: (sg [40] :: (T ++ [sg [41]]) ++ [sg [41]])) = [kw kDELETE, kw kFROM, wd [116], kw kWHERE, sg [40], sg [40]] ++ (T ++ ([sg [41]] ++ [sg [41]])) := by simp
    rw [e, e2]
    exact LexH.app lex_del2 (LexW.app g.lex (LexH.any (LexH.app (x := [41]) (y := [41]) (LexH.sign (by decide)) (LexH.sign (by decide)))) (by decide))
  obtain ⟨k3, x3, e3⟩ := l3.lex (by simp only [List.length_append, kDel, List.length_cons, List.length_nil]; omega)
  obtain ⟨k4, x4, e4⟩ := l4.lex (by simp only [List.length_append, kdel, List.length_cons, List.length_nil]; omega)
  have s1 : Starts (sg [40] :: (T ++ [sg [41]])) := ⟨_, _, rfl, rfl⟩
  obtain ⟨n3, h3⟩ := delete_reads g.reads g.starts hl hr
  obtain ⟨n4, h4⟩ := delete_reads (reads_par (reads_par g.reads g.starts) s1) ⟨_, _, rfl, rfl⟩ hl hr
  obtain ⟨q3, h3a, h3b, h3c⟩ := h3 (n3 + n4) (by omega)
  obtain ⟨q4, h4a, h4b, h4c⟩ := h4 (n3 + n4) (by omega)
  rw [← e3] at h3a
  rw [← e4] at h4a
  obtain ⟨r3, p3, o3⟩ := readT_back (fin := (kDel ++ showE l).length) h3a
  obtain ⟨r4, p4, o4⟩ := readT_back (fin := (kdel ++ showE l ++ [41, 41]).length) h4a
  refine ⟨n3 + n4, r3, r4, by rw [parseF_ok x3]; exact p3, by rw [parseF_ok x4]; exact p4, ?_⟩
  by_cases hb : 1 + (1 + h) ≤ 16
  · left
    rw [h3b (by omega)] at o3
    rw [h4b hb] at o4
    exact ⟨er_ok o3, er_ok o4⟩
  · right
    obtain ⟨a, ha⟩ := h4c hb
    rw [ha] at o4
    refine ⟨by have := g.deep; omega, ?_⟩
    cases r4 with
    | ok y => cases o4
    | err c b =>
      simp only [Rs.er, Rs.err.injEq] at o4
      exact ⟨b, by rw [o4.1]⟩

end Go.Proofs.YtghnkgeaocpmaaaGreatDoor.Pa

/- ParseBlanks: the walk. -/
namespace Go.Proofs.YtghnkgeaocpmaaaGreatDoor.Pa
open Go.RowKit Go.Proofs.YtghnkgeaocpmaaaGreatDoor.Lx

def Rs.stm : Rs → Stm
  | .ok x => x
  | .err _ _ => stm0
def Rs.code : Rs → Nat
  | .ok _ => 0
  | .err c _ => c
def Rs.pl : Rs → Nat
  | .ok _ => 0
  | .err _ a => a
/-- what Parse hands back, in one form -/
def GaveU (w : World) (r : Rs) (e : Ending) (w' : World) : Prop := Below w.heap.size w w' ∧ ∃ (ai : Option Addr) (ni ci : Nat) (ae : Option Addr) (ne ce : Nat),
  e = .returned (.tuple #[r.stm.val (.slice ai ni ci) (.slice ae ne ce), .int .i64 r.code, .int .i64 r.pl]) ∧ ItmsIn w' (.slice ai ni ci) r.stm.items ∧ StpsIn w' (.slice ae ne ce) r.stm.expr ∧
  r.stm.items.length ≤ maxLen ∧ r.stm.expr.length ≤ maxLen ∧ ∀ t ∈ r.stm.items, t.expr.length ≤ maxLen
theorem parseU_calls (n : Nat) (s : ByteArray) (w : World) (hs : s.size ≤ maxLen) (he : Env w) {r : Rs} (hr : parseF n (L s) = some r) : Calls Tryz.prog 24 #[.string s] w (GaveU w r) := by
  refine (Parse_calls n s w hs he hr).mono ?_
  rintro e w' ⟨hb, hg⟩
  refine ⟨hb, ?_⟩
  cases r with
  | ok st =>
    obtain ⟨vi, ve, rfl, hi, hv, hf, -⟩ := hg
    obtain ⟨ai, ni, ci, rfl, -⟩ := id hi
    obtain ⟨ae, ne, ce, rfl, -⟩ := id hv
    exact ⟨ai, ni, ci, ae, ne, ce, rfl, hi, hv, by unfold maxLen; have := hf.few; simp only [Rs.stm]; omega, by unfold maxLen; have := hf.expr.few; simp only [Rs.stm]; omega, fun t ht => by unfold maxLen; have := (hf.items t ht).expr.few; omega⟩
  | err c a =>
    exact ⟨none, 0, 0, none, 0, 0, hg, itms0 _, stps0 _, Nat.zero_le _, Nat.zero_le _, by simp [Rs.stm, stm0]⟩
theorem er_stm {a b : Rs} (h : a.er = b.er) : a.stm = b.stm ∧ a.code = b.code := by
  cases a <;> cases b <;> simp_all [Rs.er, Rs.stm, Rs.code]
theorem both_n (a b : Txt) : ∃ n ra rb, parseF n a = some ra ∧ parseF n b = some rb := by
  obtain ⟨n1, h1⟩ := parseF_total a
  obtain ⟨n2, h2⟩ := parseF_total b
  obtain ⟨ra, ha⟩ := h1 (n1 + n2) (by omega)
  obtain ⟨rb, hb⟩ := h2 (n1 + n2) (by omega)
  exact ⟨n1 + n2, ra, rb, ha, hb⟩
theorem blanks_L (s : ByteArray) : L (⟨#[32, 10]⟩ ++ s ++ ⟨#[9, 32]⟩) = [32, 10] ++ L s ++ [9, 32] := by simp [L, ByteArray.data_append]
theorem blanks_size (s : ByteArray) : (⟨#[32, 10]⟩ ++ s ++ ⟨#[9, 32]⟩ : ByteArray).size = s.size + 4 := by
  rw [ByteArray.size_append, ByteArray.size_append]
  have h1 : (⟨#[32, 10]⟩ : ByteArray).size = 2 := rfl
  have h2 : (⟨#[9, 32]⟩ : ByteArray).size = 2 := rfl
  omega
/-- a block that is new, and Same of it and another -/
theorem alloc_keep {w : World} {o o' : Obj} {b : Nat} (h : w.heap[b]? = some o) : (w.alloc o').heap[b]? = some o := ((alloc_below w o').block b (lt_of_heap h)).trans h

set_option maxHeartbeats 4000000 in
set_option maxRecDepth 100000 in
theorem ParseBlanks_calls (s : ByteArray) (v : Value) (l : List Stp) (w : World) (hs : s.size ≤ 1048576) (hv : StpsIn w v l) (hl : l.length ≤ 1048576) (ht : ∀ y ∈ l, y.text.length ≤ 1048575) (hn : ∀ y ∈ l, y.num ≤ 9223372036854775807) (he : Env w) :
    Calls Tryz.prog 7 #[.string s, v] w fun e w' => e = .returned (.bool true) ∧ Below w.heap.size w w' := by
  have He := Lib.hid he
  have Hv := Lib.hid hv
  have Hshow := Lib.hid (fun (w2 : World) (hb : Below w.heap.size w w2) => showE_calls w2 v l (hv.below hb) hl ht hn (he.below hb))
  obtain ⟨av, nv, cv, rfl, hnv, -⟩ := id hv
  have Hn := Lib.hid hn
  have Hnv := Lib.hid hnv
  have Hlen := Lib.hid (showE_len hn ht)
  clear he hv hn hnv ht
  by_cases hbig : s.size + 9 ≤ 16384
  · have hbig1 : ¬ (16384 : Int) < (s.size : Int) + 9 := by omega
    obtain ⟨n, r1, r2, p1, p2⟩ := both_n (L s) (L (⟨#[32, 10]⟩ ++ s ++ ⟨#[9, 32]⟩))
    have hee : r2.er = r1.er := by
      have h := parse_blanks (n := n) (s := L s) (pre := [32, 10]) (post := [9, 32]) (by decide) (by decide) (by
        have h1 := blanks_size s
        rw [← L_length, blanks_L] at h1
        rw [h1]; omega)
      rw [← blanks_L, p2, p1, Option.map_some, Option.map_some, Option.some.injEq] at h
      exact h
    obtain ⟨hst, hcd⟩ := er_stm hee
    have Hp1 := Lib.hid (fun (w2 : World) (hb : Below w.heap.size w w2) => parseU_calls n s w2 (by unfold maxLen; omega) (He.out.below hb) p1)
    have Hp2 := Lib.hid (fun (w2 : World) (hb : Below w.heap.size w w2) => parseU_calls n (⟨#[32, 10]⟩ ++ s ++ ⟨#[9, 32]⟩) w2 (by rw [blanks_size]; unfold maxLen; omega) (He.out.below hb) p2)
    unfold GaveU at Hp1 Hp2
    rw [hst, hcd] at Hp2
    have z0 : 2 + s.size ≤ 9223372036854775807 := by omega
    have z1 : ¬ 9223372036854775807 < 2 + s.size := by omega
    have z2 : 2 + s.size + 2 ≤ 9223372036854775807 := by omega
    have z3 : ¬ 9223372036854775807 < 2 + s.size + 2 := by omega
    clear p1 p2 hee hst hcd
    generalize r1.stm = st at *
    generalize r1.code = c1 at *
    generalize r1.pl = pl1 at *
    generalize r2.pl = pl2 at *
    unfold Stm.val at Hp1 Hp2
    go_enter Tryz.func7, Tryz.ntmps7
    go_wp2_with fail
    refine (lives_calls w He.out).mono ?_
    rintro e w0 ⟨rfl, hb0⟩
    have Hb0 := Lib.hid hb0
    clear hb0
    go_wp2_with fail
    refine (Hp1.out _ Hb0.out).mono ?_
    rintro e w1 ⟨hb1, ai, ni, ci, ae, ne, ce, rfl, hi1, hv1, m1, m2, m3⟩
    have hba1 := alloc_below w1 (.cells (smC st (.slice ai ni ci) (.slice ae ne ce)) 26)
    have Ht1 := Lib.hid (heap_alloc_new w1 (.cells (smC st (.slice ai ni ci) (.slice ae ne ce)) 26))
    have Hb1 := Lib.hid (stepB (stepB Hb0.out hb1) hba1)
    have Hi1 := Lib.hid (hi1.below hba1)
    have Hv1 := Lib.hid (hv1.below hba1)
    have Hm := Lib.hid (And.intro m1 (And.intro m2 m3))
    clear hb1 hba1 hi1 hv1 m1 m2 m3
    go_wp2_with fail
    refine (Hp2.out _ Hb1.out).mono ?_
    rintro e w2 ⟨hb2, aj, nj, cj, af, nf, cf, rfl, hi2, hv2, -, -, -⟩
    have ht2 := (hb2.block w1.heap.size (lt_of_heap Ht1.out)).trans Ht1.out
    have hba2 := alloc_below w2 (.cells (smC st (.slice aj nj cj) (.slice af nf cf)) 26)
    have hT : w1.heap.size < w2.heap.size := lt_of_heap ht2
    have Hb2 := Lib.hid (stepB (stepB Hb1.out hb2) hba2)
    have Hsame := Lib.hid (Same_calls _ st _ _ _ _ (Hi1.out.below (stepB hb2 hba2)) (Hv1.out.below (stepB hb2 hba2)) (hi2.below hba2) (hv2.below hba2) Hm.out.1 Hm.out.2.1 Hm.out.2.2)
    obtain ⟨⟨k0, k1, k2, k3, k4, k5, k6⟩, -⟩ := seven ht2
    unfold Stm.val at Hsame
    clear hb2 ht2 hba2 hi2 hv2
    go_wp2_with fail
    refine Hsame.out.mono ?_
    rintro e w3 ⟨rfl, hb3⟩
    have Hb3 := Lib.hid (stepB Hb2.out hb3)
    clear hb3 k0 k1 k2 k3 k4 k5 k6 hT
    cases hr : rightB l with
    | false =>
      have HV := Lib.hid (show showEV l = .tuple #[.string ⟨#[]⟩, .int .i64 13] by unfold showEV; rw [hr]; rfl)
      rw [HV.out] at Hshow
      clear hr
      go_wp2_with fail
      refine (Hshow.out _ Hb3.out).mono ?_
      rintro e w4 ⟨rfl, hb4⟩
      have Hb4 := Lib.hid (stepB Hb3.out hb4)
      clear hb4
      go_wp2_with fail
      go_ret
      exact ⟨rfl, Hb4.out⟩
    | true =>
      have HV := Lib.hid (show showEV l = .tuple #[.string ⟨(showE l).toArray⟩, .int .i64 0] by unfold showEV; rw [hr]; rfl)
      rw [HV.out] at Hshow
      by_cases h8 : (showE l).length ≤ 8000
      · obtain ⟨m, r3, r4, p3, p4, hq⟩ := delete_both hr Hn.out h8
        have h8i : ¬ (8000 : Int) < (showE l).length := by omega
        have Hp3 := Lib.hid (fun (w2 : World) (hb : Below w.heap.size w w2) => parseU_calls m (⟨kDel.toArray⟩ ++ ⟨(showE l).toArray⟩) w2 (by rw [cat2, size_mk]; unfold maxLen; simp [kDel]; omega) (He.out.below hb) (r := r3) (by rw [cat2, L_mk]; exact p3))
        have Hp4 := Lib.hid (fun (w2 : World) (hb : Below w.heap.size w w2) => parseU_calls m (⟨kdel.toArray⟩ ++ ⟨(showE l).toArray⟩ ++ ⟨([41, 41] : Txt).toArray⟩) w2 (by rw [cat3L, size_mk]; unfold maxLen; simp [kdel]; omega) (He.out.below hb) (r := r4) (by rw [cat3L, L_mk]; exact p4))
        unfold GaveU at Hp3 Hp4
        unfold kDel at Hp3
        unfold kdel at Hp4
        have Hq := Lib.hid hq
        have Hr := Lib.hid hr
        clear p3 p4 hq hr
        generalize showE l = tx at *
        have x0 : 20 + tx.length ≤ 9223372036854775807 := by omega
        have x1 : ¬ 9223372036854775807 < 20 + tx.length := by omega
        have x2 : 22 + tx.length ≤ 9223372036854775807 := by omega
        have x3 : ¬ 9223372036854775807 < 22 + tx.length := by omega
        have x4 : 22 + tx.length + 2 ≤ 9223372036854775807 := by omega
        have x5 : ¬ 9223372036854775807 < 22 + tx.length + 2 := by omega
        go_wp2_with fail
        refine (Hshow.out _ Hb3.out).mono ?_
        rintro e w4 ⟨rfl, hb4⟩
        have Hb4 := Lib.hid (stepB Hb3.out hb4)
        clear hb4
        go_wp2_with fail
        refine (Hp3.out _ Hb4.out).mono ?_
        rintro e w5 ⟨hb5, a3, n3, c3, e3, f3, g3, rfl, hi3, hv3, m1, m2, m3⟩
        have hba5 := alloc_below w5 (.cells (smC r3.stm (.slice a3 n3 c3) (.slice e3 f3 g3)) 26)
        have Ht5 := Lib.hid (heap_alloc_new w5 (.cells (smC r3.stm (.slice a3 n3 c3) (.slice e3 f3 g3)) 26))
        have Hb5 := Lib.hid (stepB (stepB Hb4.out hb5) hba5)
        have Hi5 := Lib.hid (hi3.below hba5)
        have Hv5 := Lib.hid (hv3.below hba5)
        have Hm5 := Lib.hid (And.intro m1 (And.intro m2 m3))
        clear hb5 hba5 hi3 hv3 m1 m2 m3
        unfold Stm.val
        go_wp2_with fail
        refine (Hp4.out _ Hb5.out).mono ?_
        rintro e w6 ⟨hb6, a4, n4, c4, e4, f4, g4, rfl, hi4, hv4, -, -, -⟩
        have ht6 := (hb6.block w5.heap.size (lt_of_heap Ht5.out)).trans Ht5.out
        have hba6 := alloc_below w6 (.cells (smC r4.stm (.slice a4 n4 c4) (.slice e4 f4 g4)) 26)
        have hT : w5.heap.size < w6.heap.size := lt_of_heap ht6
        have Hb6 := Lib.hid (stepB (stepB Hb5.out hb6) hba6)
        have Hi6 := Lib.hid (Hi5.out.below (stepB hb6 hba6))
        have Hv6 := Lib.hid (Hv5.out.below (stepB hb6 hba6))
        have Hi7 := Lib.hid (hi4.below hba6)
        have Hv7 := Lib.hid (hv4.below hba6)
        have Ht6 := Lib.hid ((hba6.block w5.heap.size hT).trans ht6)
        obtain ⟨⟨k0, k1, k2, k3, k4, k5, k6⟩, -⟩ := seven ht6
        clear hb6 ht6 hba6 hi4 hv4
        unfold Stm.val
        rcases Hq.out with ⟨rfl, rfl⟩ | ⟨h4, a, rfl⟩
        · clear Hp1 Hp2 Hp3 Hp4 Hsame Hq Hshow Ht5 Hi5 Hv5 Hi1 Hv1 Ht1 Hm
          simp only [Rs.stm, Rs.code, Rs.pl] at Hi6 Hv6 Hi7 Hv7 Hm5 Ht6 k0 k1 k2 k3 k4 k5 k6 ⊢
          have Hsm := Lib.hid (Same_calls _ (⟨5, [116], [], [], l, false, false⟩ : Stm) _ _ _ _ Hi6.out Hv6.out Hi7.out Hv7.out Hm5.out.1 Hm5.out.2.1 Hm5.out.2.2)
          unfold Stm.val at Hsm
          unfold stm0 at k2 k5 k6 ⊢
          simp only at k2 k5 k6 ⊢
          go_wp2_with fail
          refine Hsm.out.mono ?_
          rintro e w7 ⟨rfl, hb7⟩
          have Hb7 := Lib.hid (stepB Hb6.out hb7)
          have Hss := Lib.hid (SameSteps_calls w7 _ _ l l (Hv6.out.below hb7) (Hv.out.below Hb7.out) Hm5.out.2.1 (by unfold maxLen; omega))
          rw [decide_eq_true rfl] at Hss
          clear k0 k1 k2 k3 k4 k5 k6
          obtain ⟨⟨k0, k1, k2, k3, k4, k5, k6⟩, -⟩ := seven ((hb7.block w5.heap.size (lt_of_heap Ht6.out)).trans Ht6.out)
          clear hb7
          go_wp2_with fail
          refine Hss.out.mono ?_
          rintro e w8 ⟨rfl, hb8⟩
          have Hb8 := Lib.hid (stepB Hb7.out hb8)
          clear hb8
          go_wp2_with fail
          go_ret
          exact ⟨rfl, Hb8.out⟩
        · clear Hp1 Hp2 Hp3 Hp4 Hsame Hq Hshow Ht5 Hi5 Hv5 Hi1 Hv1 Ht1 Hm Hi6 Hv6 Hi7 Hv7 Hm5 Ht6 k0 k1 k2 k3 k4 k5 k6
          generalize r3.stm = s3 at *
          generalize r3.code = c3' at *
          generalize r3.pl = pl3 at *
          simp only [Rs.stm, Rs.code, Rs.pl]
          have h4i : (4 : Int) < nv := by have := Hnv.out; omega
          unfold stm0
          simp only
          go_wp2_with fail
          go_ret
          exact ⟨ret_bool (by simp), Hb6.out⟩
      · have h8i : (8000 : Int) < (showE l).length := by omega
        have hlen := Hlen.out
        generalize showE l = tx at *
        clear hr
        go_wp2_with fail
        refine (Hshow.out _ Hb3.out).mono ?_
        rintro e w4 ⟨rfl, hb4⟩
        have Hb4 := Lib.hid (stepB Hb3.out hb4)
        clear hb4
        go_wp2_with fail
        go_ret
        exact ⟨rfl, Hb4.out⟩
  · have hbig1 : (16384 : Int) < (s.size : Int) + 9 := by omega
    go_enter Tryz.func7, Tryz.ntmps7
    go_wp2_with fail
    refine (lives_calls w He.out).mono ?_
    rintro e w0 ⟨rfl, hb0⟩
    have Hb0 := Lib.hid hb0
    clear hb0
    go_wp2_with fail
    go_ret
    exact ⟨rfl, Hb0.out⟩

end Go.Proofs.YtghnkgeaocpmaaaGreatDoor.Pa
