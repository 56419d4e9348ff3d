/- Parts: PeD. -/
import Derived.Test.YtghnkgeaocpmaaaGreatDoorMh04

/- parse: right expressions that are shown are read as they were: single values, and operators. Plain. -/
namespace Go.Proofs.YtghnkgeaocpmaaaGreatDoor.Pa
open Go.Proofs.YtghnkgeaocpmaaaGreatDoor.Lx

/-- what an operand begins with -/
def startB (t : Tok) : Bool := t.kind == 1 || t.kind == 3 || t.kind == 4 || (t.kind == 2 && [kNULL, kTRUE, kFALSE].contains t.text) || (t.kind == 5 && [[40], [91], [123]].contains t.text)
def Starts (T : List Tok) : Prop := ∃ t r, T = t :: r ∧ startB t = true
theorem start_next {t : Tok} (h : startB t = true) {k : Nat} {x : Txt} (hk : k = 2 ∧ x ∉ [kNULL, kTRUE, kFALSE] ∨ k = 5 ∧ x ∉ [[40], [91], [123]]) : (t.kind == k && ([x].isEmpty || [x].contains t.text)) = false := by
  unfold startB at h
  rcases hk with ⟨rfl, hx⟩ | ⟨rfl, hx⟩
  · by_cases h2 : t.kind = 2
    · rw [h2] at h
      simp only [Bool.or_eq_true, Bool.and_eq_true, List.contains_iff_mem] at h
      have hm : t.text ∈ [kNULL, kTRUE, kFALSE] := by
        rcases h with (((h | h) | h) | h) | h
        · cases h
        · cases h
        · cases h
        · exact h.2
        · cases h.1
      have : t.text ≠ x := fun e => hx (e ▸ hm)
      simp [this]
    · simp [h2]
  · by_cases h2 : t.kind = 5
    · rw [h2] at h
      simp only [Bool.or_eq_true, Bool.and_eq_true, List.contains_iff_mem] at h
      have hm : t.text ∈ [[40], [91], [123]] := by
        rcases h with (((h | h) | h) | h) | h
        · cases h
        · cases h
        · cases h
        · cases h.1
        · exact h.2
      have : t.text ≠ x := fun e => hx (e ▸ hm)
      simp [this]
    · simp [h2]
theorem Starts.next {T : List Tok} (h : Starts T) (R : List Tok) (acc : List Stp) {k : Nat} {x : Txt} (hk : k = 2 ∧ x ∉ [kNULL, kTRUE, kFALSE] ∨ k = 5 ∧ x ∉ [[40], [91], [123]]) : (mk (T ++ R) acc).next k [x] = false := by
  obtain ⟨t, r, rfl, ht⟩ := h
  rw [List.cons_append, mk_next]
  exact start_next ht hk
theorem Starts.minus {T : List Tok} (h : Starts T) (R : List Tok) (acc : List Stp) : (mk (T ++ R) acc).next 5 [[45]] = false := h.next R acc (.inr ⟨rfl, by decide⟩)
theorem Starts.not {T : List Tok} (h : Starts T) (R : List Tok) (acc : List Stp) : (mk (T ++ R) acc).next 2 [kNOT] = false := h.next R acc (.inl ⟨rfl, by decide⟩)
theorem Starts.plain {T : List Tok} (h : Starts T) (R : List Tok) (acc : List Stp) : Plain (mk (T ++ R) acc) := ⟨h.minus R acc, h.not R acc⟩

/-- an expression and its text: the text is read as the expression -/
structure GoodT (l : List Stp) (x : Txt) (T : List Tok) (h : Nat) : Prop where
  lex : LexW x T
  reads : ReadsP T h l
  starts : Starts T
  deep : h + 1 ≤ 2 * l.length
def Good (l : List Stp) (x : Txt) : Prop := ∃ T h, GoodT l x T h
theorem GoodT.pos {l : List Stp} {x : Txt} {T : List Tok} {h : Nat} (g : GoodT l x T h) : 1 ≤ l.length := by have := g.deep; omega

/-! ### single values -/
theorem reads_atom {T : List Tok} {y : Stp} (h : ∀ (d : Nat) (R : List Tok) (acc : List Stp), acc.length < 128 → ∀ n, primary (orF n) n d (mk (T ++ R) acc) = some (mk R (acc ++ [y]))) : ReadsP T 0 [y] := by
  intro d R acc hd ha _
  refine ⟨0, fun n _ => ⟨_, h d R acc (by simp at ha; omega) n, Comes.ok (by omega) rfl⟩⟩
theorem good_key {x : Txt} {k : Nat} (hm : x ∈ [kNULL, kTRUE, kFALSE]) (hk : constKind x = k) : GoodT [⟨k, [], 0⟩] x [kw x] 0 := by
  have hkws : x ∈ kws := by
    simp only [List.mem_cons, List.mem_nil_iff, or_false] at hm
    rcases hm with rfl | rfl | rfl <;> decide +kernel
  refine ⟨LexW.key hkws, reads_atom fun d R acc ha n => ?_, ⟨_, _, rfl, by unfold startB kw; simp only [Bool.or_eq_true, Bool.and_eq_true, List.contains_iff_mem]; exact .inl (.inr ⟨rfl, hm⟩)⟩, by simp⟩
  have hc : ([kNULL, kTRUE, kFALSE] : List Txt).contains x = true := by rw [List.contains_iff_mem]; exact hm
  unfold primary
  rw [if_neg (by rw [List.cons_append, mk_next]; simp [kw]), if_neg (by rw [List.cons_append, mk_next]; simp [kw]), if_neg (by rw [List.cons_append, mk_next]; simp [kw]),
    if_pos (by rw [List.cons_append, mk_next]; simp only [kw, hc]; rfl)]
  rw [List.cons_append, mk_drop, mk_head, mk_put ha]
  simp [kw, hk]
theorem good_int {n : Int} (h0 : 0 ≤ n) (h1 : n ≤ 9223372036854775807) : GoodT [⟨4, [], n⟩] (Lib.itoa n) [nm n] 0 := by
  refine ⟨LexW.num h0 h1, reads_atom fun d R acc ha m => ?_, ⟨_, _, rfl, rfl⟩, by simp⟩
  unfold primary
  rw [if_pos (by rw [List.cons_append, mk_next]; rfl), List.cons_append, mk_drop, mk_head, mk_put ha]
  rfl
theorem good_text {x : Txt} (hl : x.length ≤ 1024) (hv : Lib.validD x = true) : GoodT [⟨5, x, 0⟩] (textS x) [tx x] 0 := by
  refine ⟨LexW.text hl hv, reads_atom fun d R acc ha m => ?_, ⟨_, _, rfl, rfl⟩, by simp⟩
  unfold primary
  rw [if_neg (by rw [List.cons_append, mk_next]; simp [tx]), if_pos (by rw [List.cons_append, mk_next]; rfl), List.cons_append, mk_drop, mk_head, mk_put ha]
  rfl

/-! ### operators -/
theorem stop_par (R : List Tok) (acc : List Stp) : Stop (mk (sg [41] :: R) acc) ∧ (mk (sg [41] :: R) acc).next 5 [[46]] = false := by
  refine ⟨⟨?_, ?_, ?_, ?_, ?_, ?_⟩, ?_⟩ <;> (try unfold mulB) <;> (try unfold addB) <;> (try unfold relB) <;> (try unfold isB) <;> (try unfold andB) <;> (try unfold orB) <;> rw [mk_next] <;> decide
theorem app2 {α : Type} (a : α) (T R : List α) : (a :: T) ++ R = a :: (T ++ R) := rfl
/-- '(-x)' -/
theorem good_neg {l : List Stp} {x : Txt} {T : List Tok} {h : Nat} (g : GoodT l x T h) : GoodT (l ++ [⟨9, [], 0⟩]) ([40, 45] ++ x ++ [41]) (sg [40] :: sg [45] :: (T ++ [sg [41]])) (2 + h) := by
  refine ⟨?_, ?_, ⟨_, _, rfl, rfl⟩, by have := g.deep; simp; omega⟩
  · have e : ([40, 45] ++ x ++ [41] : Txt) = [40] ++ ([45] ++ (x ++ 41 :: [])) := by simp
    rw [e]
    exact LexH.app (LexH.sign (by decide)) (LexH.app (LexH.sign (by decide)) (LexW.app g.lex (LexH.any (LexH.sign (by decide))) (by decide)))
  · intro d R acc hd ha hR
    simp only [List.length_append, List.length_cons, List.length_nil] at ha
    have e : sg [40] :: sg [45] :: (T ++ [sg [41]]) ++ R = sg [40] :: sg [45] :: (T ++ sg [41] :: R) := by simp
    rw [e]
    obtain ⟨hs1, hs2⟩ := stop_par R (acc ++ l)
    refine (prim_par (b := d + 1 < 16 ∧ d + 1 + 1 + h ≤ 16) (out := acc ++ l ++ [⟨9, [], 0⟩]) fun hd1 => ?_).mono (by omega) (by rw [List.append_assoc])
    rw [← mk_put (T := sg [41] :: R) (acc := acc ++ l) (by simp; omega)]
    refine prod_or (to_prod (Ends.ahead1 (other := fun n => primary (orF n) n) ?_ (fun hd2 => g.reads (d + 1 + 1) (sg [41] :: R) acc (by omega) (by omega) (stop_par R acc).2) (g.starts.minus _ _)) ?_) ?_ ?_
    · rw [mk_next]; decide
    · rw [mk_put (by simp; omega)]; exact (stop_par R _).1.mul
    · rw [mk_next]; decide
    · rw [mk_put (by simp; omega)]; exact (stop_par R _).1
/-- '(NOT x)' -/
theorem good_not {l : List Stp} {x : Txt} {T : List Tok} {h : Nat} (g : GoodT l x T h) : GoodT (l ++ [⟨10, [], 0⟩]) (kNOTX ++ x ++ [41]) (sg [40] :: kw kNOT :: (T ++ [sg [41]])) (2 + h) := by
  refine ⟨?_, ?_, ⟨_, _, rfl, rfl⟩, by have := g.deep; simp; omega⟩
  · have e : (kNOTX ++ x ++ [41] : Txt) = [40] ++ ((kNOT ++ [32]) ++ (x ++ 41 :: [])) := by simp [kNOTX, kNOT]
    rw [e]
    exact LexH.app (LexH.sign (by decide)) (LexH.app (LexH.key (by decide +kernel)) (LexW.app g.lex (LexH.any (LexH.sign (by decide))) (by decide)))
  · intro d R acc hd ha hR
    simp only [List.length_append, List.length_cons, List.length_nil] at ha
    have e : sg [40] :: kw kNOT :: (T ++ [sg [41]]) ++ R = sg [40] :: kw kNOT :: (T ++ sg [41] :: R) := by simp
    rw [e]
    obtain ⟨hs1, hs2⟩ := stop_par R (acc ++ l)
    refine (prim_par (b := d + 1 < 16 ∧ d + 1 + 1 + h ≤ 16) (out := acc ++ l ++ [⟨10, [], 0⟩]) fun hd1 => ?_).mono (by omega) (by rw [List.append_assoc])
    rw [← mk_put (T := sg [41] :: R) (acc := acc ++ l) (by simp; omega)]
    refine to_or (to_and (Ends.ahead1 (other := fun n => compared (orF n) n) ?_ (fun hd2 => to_comp (to_sum (to_prod (to_signed (g.reads (d + 1 + 1) (sg [41] :: R) acc (by omega) (by omega) (stop_par R acc).2) (g.starts.minus _ _)) hs1.mul) hs1.add) hs1.rel hs1.is) (g.starts.not _ _)) ?_) ?_
    · rw [mk_next]; decide
    · rw [mk_put (by simp; omega)]; exact (stop_par R _).1.and
    · rw [mk_put (by simp; omega)]; exact (stop_par R _).1.or
/-- '(x IS NULL)' -/
theorem good_is {l : List Stp} {x : Txt} {T : List Tok} {h : Nat} (g : GoodT l x T h) : GoodT (l ++ [⟨11, [], 0⟩]) ([40] ++ x ++ kISNULLX) (sg [40] :: (T ++ [kw kIS, kw kNULL, sg [41]])) (1 + h) := by
  refine ⟨?_, ?_, ⟨_, _, rfl, rfl⟩, by have := g.deep; simp; omega⟩
  · have e : ([40] ++ x ++ kISNULLX : Txt) = [40] ++ (x ++ 32 :: ((kIS ++ [32]) ++ (kNULL ++ 41 :: []))) := by simp [kISNULLX, kIS, kNULL]
    rw [e]
    refine LexH.app (LexH.sign (by decide)) (LexW.app g.lex (T := T) (U := [kw kIS, kw kNULL, sg [41]]) ?_ (by decide))
    exact LexH.app (x := [32]) (T := []) LexH.one (LexH.app (LexH.key (by decide +kernel)) (LexW.app (LexW.key (by decide +kernel)) (LexH.any (LexH.sign (by decide))) (by decide)))
  · intro d R acc hd ha hR
    simp only [List.length_append, List.length_cons, List.length_nil] at ha
    have e : sg [40] :: (T ++ [kw kIS, kw kNULL, sg [41]]) ++ R = sg [40] :: (T ++ kw kIS :: kw kNULL :: sg [41] :: R) := by simp
    rw [e]
    refine (prim_par (b := d + 1 + h ≤ 16) (out := acc ++ l ++ [⟨11, [], 0⟩]) fun hd1 => ?_).mono (by omega) (by rw [List.append_assoc])
    refine comp_or (comp_is (to_sum (to_prod (to_signed (g.reads (d + 1) (kw kIS :: kw kNULL :: sg [41] :: R) acc (by omega) (by omega) ?_) (g.starts.minus _ _)) ?_) ?_) (by simp; omega)) (g.starts.not _ _) (stop_par R _).1
    · rw [mk_next]; decide
    · unfold mulB; rw [mk_next]; decide
    · unfold addB; rw [mk_next]; decide

/-- '(x op y)' where the brackets' inside is read -/
theorem good_two {l m : List Stp} {x z : Txt} {T U : List Tok} {h i : Nat} (g : GoodT l x T h) (g2 : GoodT m z U i) {op : Txt} {ot : Tok} {k : Nat} (hlex : LexH (op ++ [32]) [ot])
    (hr : ∀ (d : Nat) (R : List Tok) (acc : List Stp), d ≤ 16 → acc.length + l.length + m.length + 1 ≤ 128 →
      Ends (eOr d (mk (T ++ ot :: (U ++ sg [41] :: R)) acc)) (d + h ≤ 16 ∧ d + i ≤ 16) (mk (sg [41] :: R) (acc ++ l ++ m ++ [⟨k, [], 0⟩]))) :
    GoodT (l ++ m ++ [⟨k, [], 0⟩]) ([40] ++ x ++ [32] ++ op ++ [32] ++ z ++ [41]) (sg [40] :: (T ++ ot :: (U ++ [sg [41]]))) (1 + max h i) := by
  refine ⟨?_, ?_, ⟨_, _, rfl, rfl⟩, by have := g.deep; have := g2.deep; simp; omega⟩
  · have e : ([40] ++ x ++ [32] ++ op ++ [32] ++ z ++ [41] : Txt) = [40] ++ (x ++ 32 :: ((op ++ [32]) ++ (z ++ 41 :: []))) := by simp
    rw [e]
    refine LexH.app (LexH.sign (by decide)) (LexW.app g.lex (T := T) (U := ot :: (U ++ [sg [41]])) ?_ (by decide))
    exact LexH.app (x := [32]) (T := []) LexH.one (LexH.app hlex (LexW.app g2.lex (LexH.any (LexH.sign (by decide))) (by decide)))
  · intro d R acc hd ha hR
    simp only [List.length_append, List.length_cons, List.length_nil] at ha
    have e : sg [40] :: (T ++ ot :: (U ++ [sg [41]])) ++ R = sg [40] :: (T ++ ot :: (U ++ sg [41] :: R)) := by simp
    rw [e]
    refine (prim_par (b := d + 1 + h ≤ 16 ∧ d + 1 + i ≤ 16) (out := acc ++ l ++ m ++ [⟨k, [], 0⟩]) fun hd1 => hr (d + 1) R acc (by omega) (by omega)).mono (by omega) (by simp)

section
variable {l m : List Stp} {x z : Txt} {T U : List Tok} {h i : Nat} (g : GoodT l x T h) (g2 : GoodT m z U i) {d : Nat} {R : List Tok} {acc : List Stp} (hd : d ≤ 16) (ha : acc.length + l.length + m.length + 1 ≤ 128)
include g g2 hd ha
theorem two_mul : Ends (eOr d (mk (T ++ sg [42] :: (U ++ sg [41] :: R)) acc)) (d + h ≤ 16 ∧ d + i ≤ 16) (mk (sg [41] :: R) (acc ++ l ++ m ++ [⟨14, [], 0⟩])) := by
  rw [← mk_put (T := sg [41] :: R) (acc := acc ++ l ++ m) (by simp; omega)]
  refine prod_or (Ends.row2 (one := fun n => signed (orF n) n d) (t1 := mk (sg [42] :: (U ++ sg [41] :: R)) (acc ++ l)) (t2 := mk (sg [41] :: R) (acc ++ l ++ m))
    (to_signed (g.reads d _ acc hd (by omega) (by rw [mk_next]; decide)) (g.starts.minus _ _)) (by rw [mk_next]; decide)
    (to_signed (g2.reads d (sg [41] :: R) (acc ++ l) hd (by simp; omega) (stop_par R _).2) (g2.starts.minus _ _)) ?_) (g.starts.not _ _) ?_
  · show St.next ((mk (sg [41] :: R) (acc ++ l ++ m)).put ⟨14, [], 0⟩) _ _ = _
    rw [mk_put (by simp; omega)]; exact (stop_par R _).1.mul
  · rw [mk_put (by simp; omega)]; exact (stop_par R _).1
theorem two_add {op : Txt} {k : Nat} (hop : op = [43] ∧ k = 12 ∨ op = [45] ∧ k = 13) : Ends (eOr d (mk (T ++ sg op :: (U ++ sg [41] :: R)) acc)) (d + h ≤ 16 ∧ d + i ≤ 16) (mk (sg [41] :: R) (acc ++ l ++ m ++ [⟨k, [], 0⟩])) := by
  have hk : opKind op = k := by rcases hop with ⟨rfl, rfl⟩ | ⟨rfl, rfl⟩ <;> decide
  have n1 : ∀ (acc : List Stp) (Z : List Tok), (mk (sg op :: Z) acc).next 5 [[46]] = false ∧ mulB (mk (sg op :: Z) acc) = false ∧ (mk (sg op :: Z) acc).next 5 [[43], [45]] = true := fun acc Z => by
    unfold mulB; rw [mk_next, mk_next, mk_next]; rcases hop with ⟨rfl, rfl⟩ | ⟨rfl, rfl⟩ <;> decide
  rw [← mk_put (T := sg [41] :: R) (acc := acc ++ l ++ m) (by simp; omega), ← hk]
  refine sum_or (Ends.row2 (one := fun n => product (orF n) n d) (t1 := mk (sg op :: (U ++ sg [41] :: R)) (acc ++ l)) (t2 := mk (sg [41] :: R) (acc ++ l ++ m))
    (to_prod (to_signed (g.reads d _ acc hd (by omega) (n1 _ _).1) (g.starts.minus _ _)) (n1 _ _).2.1) (n1 _ _).2.2
    (to_prod (to_signed (g2.reads d (sg [41] :: R) (acc ++ l) hd (by simp; omega) (stop_par R _).2) (g2.starts.minus _ _)) (stop_par R _).1.mul) ?_) (g.starts.not _ _) ?_
  · show St.next ((mk (sg [41] :: R) (acc ++ l ++ m)).put ⟨opKind op, [], 0⟩) _ _ = _
    rw [mk_put (by simp; omega)]; exact (stop_par R _).1.add
  · rw [mk_put (by simp; omega)]; exact (stop_par R _).1
theorem two_rel {op : Txt} (hop : op ∈ relOps) : Ends (eOr d (mk (T ++ sg op :: (U ++ sg [41] :: R)) acc)) (d + h ≤ 16 ∧ d + i ≤ 16) (mk (sg [41] :: R) (acc ++ l ++ m ++ [⟨opKind op, [], 0⟩])) := by
  have n1 : ∀ (acc : List Stp) (Z : List Tok), (mk (sg op :: Z) acc).next 5 [[46]] = false ∧ mulB (mk (sg op :: Z) acc) = false ∧ addB (mk (sg op :: Z) acc) = false ∧ relB (mk (sg op :: Z) acc) = true := fun acc Z => by
    unfold mulB addB relB; rw [mk_next, mk_next, mk_next, mk_next]; revert hop; revert op; decide
  rw [← mk_put (T := sg [41] :: R) (acc := acc ++ l ++ m) (by simp; omega)]
  refine comp_or (comp_two (t1 := mk (sg op :: (U ++ sg [41] :: R)) (acc ++ l)) (t2 := mk (sg [41] :: R) (acc ++ l ++ m))
    (to_sum (to_prod (to_signed (g.reads d _ acc hd (by omega) (n1 _ _).1) (g.starts.minus _ _)) (n1 _ _).2.1) (n1 _ _).2.2.1) (n1 _ _).2.2.2
    (to_sum (to_prod (to_signed (g2.reads d (sg [41] :: R) (acc ++ l) hd (by simp; omega) (stop_par R _).2) (g2.starts.minus _ _)) (stop_par R _).1.mul) (stop_par R _).1.add)) (g.starts.not _ _) ?_
  rw [mk_put (by simp; omega)]; exact (stop_par R _).1
theorem two_and : Ends (eOr d (mk (T ++ kw kAND :: (U ++ sg [41] :: R)) acc)) (d + h ≤ 16 ∧ d + i ≤ 16) (mk (sg [41] :: R) (acc ++ l ++ m ++ [⟨21, [], 0⟩])) := by
  have n1 : ∀ (acc : List Stp) (Z : List Tok), (mk (kw kAND :: Z) acc).next 5 [[46]] = false ∧ mulB (mk (kw kAND :: Z) acc) = false ∧ addB (mk (kw kAND :: Z) acc) = false ∧ relB (mk (kw kAND :: Z) acc) = false ∧ isB (mk (kw kAND :: Z) acc) = false ∧ (mk (kw kAND :: Z) acc).next 2 [kAND] = true := fun acc Z => by
    unfold mulB addB relB isB; simp only [mk_next]; decide
  rw [← mk_put (T := sg [41] :: R) (acc := acc ++ l ++ m) (by simp; omega)]
  refine to_or (Ends.row2 (one := fun n => notE (orF n) n d) (t1 := mk (kw kAND :: (U ++ sg [41] :: R)) (acc ++ l)) (t2 := mk (sg [41] :: R) (acc ++ l ++ m))
    (to_not (to_comp (to_sum (to_prod (to_signed (g.reads d _ acc hd (by omega) (n1 _ _).1) (g.starts.minus _ _)) (n1 _ _).2.1) (n1 _ _).2.2.1) (n1 _ _).2.2.2.1 (n1 _ _).2.2.2.2.1) (g.starts.not _ _)) (n1 _ _).2.2.2.2.2
    (to_not (to_comp (to_sum (to_prod (to_signed (g2.reads d (sg [41] :: R) (acc ++ l) hd (by simp; omega) (stop_par R _).2) (g2.starts.minus _ _)) (stop_par R _).1.mul) (stop_par R _).1.add) (stop_par R _).1.rel (stop_par R _).1.is) (g2.starts.not _ _)) ?_) ?_
  · show St.next ((mk (sg [41] :: R) (acc ++ l ++ m)).put ⟨21, [], 0⟩) _ _ = _
    rw [mk_put (by simp; omega)]; exact (stop_par R _).1.and
  · rw [mk_put (by simp; omega)]; exact (stop_par R _).1.or
theorem two_or : Ends (eOr d (mk (T ++ kw kOR :: (U ++ sg [41] :: R)) acc)) (d + h ≤ 16 ∧ d + i ≤ 16) (mk (sg [41] :: R) (acc ++ l ++ m ++ [⟨22, [], 0⟩])) := by
  have n1 : ∀ (acc : List Stp) (Z : List Tok), (mk (kw kOR :: Z) acc).next 5 [[46]] = false ∧ mulB (mk (kw kOR :: Z) acc) = false ∧ addB (mk (kw kOR :: Z) acc) = false ∧ relB (mk (kw kOR :: Z) acc) = false ∧ isB (mk (kw kOR :: Z) acc) = false ∧ andB (mk (kw kOR :: Z) acc) = false ∧ (mk (kw kOR :: Z) acc).next 2 [kOR] = true := fun acc Z => by
    unfold mulB addB relB isB andB; simp only [mk_next]; decide
  rw [← mk_put (T := sg [41] :: R) (acc := acc ++ l ++ m) (by simp; omega)]
  refine Ends.row2 (one := fun n => andE (orF n) n d) (t1 := mk (kw kOR :: (U ++ sg [41] :: R)) (acc ++ l)) (t2 := mk (sg [41] :: R) (acc ++ l ++ m))
    (to_and (to_not (to_comp (to_sum (to_prod (to_signed (g.reads d _ acc hd (by omega) (n1 _ _).1) (g.starts.minus _ _)) (n1 _ _).2.1) (n1 _ _).2.2.1) (n1 _ _).2.2.2.1 (n1 _ _).2.2.2.2.1) (g.starts.not _ _)) (n1 _ _).2.2.2.2.2.1) (n1 _ _).2.2.2.2.2.2
    (to_and (to_not (to_comp (to_sum (to_prod (to_signed (g2.reads d (sg [41] :: R) (acc ++ l) hd (by simp; omega) (stop_par R _).2) (g2.starts.minus _ _)) (stop_par R _).1.mul) (stop_par R _).1.add) (stop_par R _).1.rel (stop_par R _).1.is) (g2.starts.not _ _)) (stop_par R _).1.and) ?_
  show St.next ((mk (sg [41] :: R) (acc ++ l ++ m)).put ⟨22, [], 0⟩) _ _ = _
  rw [mk_put (by simp; omega)]; exact (stop_par R _).1.or
end
theorem rel_op : ∀ k : _root_.Fin 6, operators.getD (k.val + 3) [] ∈ relOps ∧ operators.getD (k.val + 3) [] ∈ signs ∧ opKind (operators.getD (k.val + 3) []) = k.val + 15 := by decide
/-- any operator of two -/
theorem good_op {l m : List Stp} {x z : Txt} {T U : List Tok} {h i : Nat} (g : GoodT l x T h) (g2 : GoodT m z U i) {k : Nat} (h1 : 12 ≤ k) (h2 : k < 23) :
    Good (l ++ m ++ [⟨k, [], 0⟩]) ([40] ++ x ++ [32] ++ operators.getD (k - 12) [] ++ [32] ++ z ++ [41]) := by
  by_cases ha : k < 14
  · have hop : operators.getD (k - 12) [] = [43] ∧ k = 12 ∨ operators.getD (k - 12) [] = [45] ∧ k = 13 := by
      rcases (show k = 12 ∨ k = 13 by omega) with rfl | rfl
      · exact .inl ⟨rfl, rfl⟩
      · exact .inr ⟨rfl, rfl⟩
    have hs : operators.getD (k - 12) [] ∈ signs := by rcases hop with ⟨e, _⟩ | ⟨e, _⟩ <;> rw [e] <;> decide
    exact ⟨_, _, good_two g g2 (LexH.op hs) fun d R acc hd hl => two_add g g2 hd hl hop⟩
  · by_cases hb : k = 14
    · subst hb
      exact ⟨_, _, good_two g g2 (LexH.op (x := [42]) (by decide)) fun d R acc hd hl => two_mul g g2 hd hl⟩
    · by_cases hc : k < 21
      · obtain ⟨r1, r2, r3⟩ := rel_op ⟨k - 15, by omega⟩
        simp only [show k - 15 + 3 = k - 12 by omega, show k - 15 + 15 = k by omega] at r1 r2 r3
        have := good_two (k := opKind (operators.getD (k - 12) [])) g g2 (LexH.op r2) fun d R acc hd hl => two_rel g g2 hd hl r1
        rw [r3] at this
        exact ⟨_, _, this⟩
      · rcases (show k = 21 ∨ k = 22 by omega) with rfl | rfl
        · exact ⟨_, _, good_two g g2 (LexH.key (x := kAND) (by decide +kernel)) fun d R acc hd hl => two_and g g2 hd hl⟩
        · exact ⟨_, _, good_two g g2 (LexH.key (x := kOR) (by decide +kernel)) fun d R acc hd hl => two_or g g2 hd hl⟩

end Go.Proofs.YtghnkgeaocpmaaaGreatDoor.Pa
