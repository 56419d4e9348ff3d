/- Parts: PeC. -/
import Derived.Test.YtghnkgeaocpmaaaGreatDoorMh03

/- parse: what the levels of the parser do where one thing stands between its neighbours. Plain. -/
namespace Go.Proofs.YtghnkgeaocpmaaaGreatDoor.Pa
open Go.Proofs.YtghnkgeaocpmaaaGreatDoor.Lx

/-- a state in which nothing is wrong yet -/
def mk (T : List Tok) (acc : List Stp) : St := ⟨T, 0, 0, 0, acc⟩
theorem mk_drop (t : Tok) (T : List Tok) (acc : List Stp) : (mk (t :: T) acc).drop = mk T acc := rfl
theorem mk_head (t : Tok) (T : List Tok) (acc : List Stp) : (mk (t :: T) acc).head = t := rfl
theorem mk_next (t : Tok) (T : List Tok) (acc : List Stp) (k : Nat) (x : List Txt) : (mk (t :: T) acc).next k x = (t.kind == k && (x.isEmpty || x.contains t.text)) := rfl
theorem mk_put {T : List Tok} {acc : List Stp} (h : acc.length < 128) (x : Stp) : (mk T acc).put x = mk T (acc ++ [x]) := by
  have hm : (mk T acc).many = mk T acc := by
    unfold St.many
    rw [if_neg]
    rintro ⟨_, h2⟩
    have h3 : (mk T acc).steps.length = acc.length := rfl
    omega
  unfold St.put
  rw [hm]
  rfl
theorem mk_sign (x : Txt) (T : List Tok) (acc : List Stp) : (mk (sg x :: T) acc).sign x = mk T acc := by
  unfold St.sign St.need
  rw [mk_next]
  simp [sg, mk_drop]
theorem mk_key (x : Txt) (T : List Tok) (acc : List Stp) : (mk (kw x :: T) acc).keys [x] = mk T acc := by
  unfold St.keys
  simp only [List.foldl_cons, List.foldl_nil]
  unfold St.need
  rw [mk_next]
  simp [kw, mk_drop]
theorem mk_name (x : Txt) (T : List Tok) (acc : List Stp) : (mk (wd x :: T) acc).name = mk T acc ∧ (mk (wd x :: T) acc).nameT = x := by
  unfold St.name St.need St.nameT St.taken
  rw [mk_next]
  simp [wd, mk_drop, mk_head]

/-- a state in which something is wrong -/
structure Stuck (s : St) : Prop where
  why : s.why = 10
  left : s.left = []
theorem Stuck.next {s : St} (h : Stuck s) (k : Nat) (x : List Txt) : s.next k x = false := by unfold St.next; rw [h.left]
theorem Stuck.fail {s : St} (h : Stuck s) (y a : Nat) : s.fail y a = s := by
  unfold St.fail; rw [if_neg (by have := h.why; omega)]
theorem Stuck.need {s : St} (h : Stuck s) (k : Nat) (x : List Txt) : s.need k x = s := by
  unfold St.need; rw [h.next]; exact h.fail _ _
theorem Stuck.sign {s : St} (h : Stuck s) (x : Txt) : s.sign x = s := h.need _ _
theorem Stuck.name {s : St} (h : Stuck s) : s.name = s := h.need _ _
theorem Stuck.after {s : St} (h : Stuck s) (k : Nat) (x : List Txt) : s.after k x = s := by
  unfold St.after; rw [h.next]; rfl
theorem Stuck.keys {s : St} (h : Stuck s) : ∀ xs : List Txt, s.keys xs = s
  | [] => rfl
  | x :: xs => by
    show (s.need 2 [x]).keys xs = s
    rw [h.need, h.keys xs]
theorem Stuck.put {s : St} (h : Stuck s) (x : Stp) : s.put x = s := by
  have hm : s.many = s := by unfold St.many; rw [if_neg (by rintro ⟨h1, _⟩; have := h.why; omega)]
  unfold St.put
  rw [hm, if_neg (by have := h.why; omega)]
theorem deep_stuck (T : List Tok) (acc : List Stp) : Stuck (mk T acc).deep := ⟨rfl, rfl⟩
theorem Stuck.isNull' {s : St} (h : Stuck s) : isNull s = s := by unfold isNull; rw [h.next]; rfl

/-- what comes out: the state that is asked for, or one in which it is nested too deep -/
def Comes (b : Prop) (t s : St) : Prop := (b → s = t) ∧ (¬ b → Stuck s)
theorem Comes.ok {b : Prop} {t s : St} (h : b) (e : s = t) : Comes b t s := ⟨fun _ => e, fun n => absurd h n⟩
theorem Comes.bad {b : Prop} {t s : St} (h : ¬ b) (e : Stuck s) : Comes b t s := ⟨fun n => absurd n h, fun _ => e⟩

/-- 'from some number of rounds on' -/
def Ends (f : Nat → Option St) (b : Prop) (t : St) : Prop := ∃ n0, ∀ n, n0 ≤ n → ∃ s, f n = some s ∧ Comes b t s

theorem rowL_off {one : St → Option St} {k : Nat} {texts : List Txt} {n : Nat} {s : St} (hn : 1 ≤ n) (h : s.next k texts = false) : rowL one k texts n s = some s := by
  obtain ⟨m, rfl⟩ : ∃ m, n = m + 1 := ⟨n - 1, by omega⟩
  rw [rowL, h]; rfl
theorem ahead_off {other : Nat → St → Option St} {k : Nat} {text : Txt} {step n d : Nat} {s : St} (hn : 1 ≤ n) (h : s.next k [text] = false) : aheadF k text step other n d s = other d s := by
  obtain ⟨m, rfl⟩ : ∃ m, n = m + 1 := ⟨n - 1, by omega⟩
  rw [aheadF, h]; rfl

/-- one thing alone -/
theorem Ends.row1 {one : Nat → St → Option St} {k : Nat} {texts : List Txt} {s t : St} {b : Prop} (h : Ends (fun n => one n s) b t) (ht : t.next k texts = false) :
    Ends (fun n => row (one n) k texts n s) b t := by
  obtain ⟨n0, h⟩ := h
  refine ⟨n0 + 1, fun n hn => ?_⟩
  obtain ⟨r, hr, hc⟩ := h n (by omega)
  refine ⟨r, ?_, hc⟩
  show row (one n) k texts n s = some r
  unfold row
  rw [show one n s = some r from hr, Option.bind_some]
  refine rowL_off (by omega) ?_
  by_cases hb : b
  · rw [hc.1 hb]; exact ht
  · exact (hc.2 hb).next _ _
/-- two things, and the operator's step -/
theorem Ends.row2 {one : Nat → St → Option St} {k : Nat} {texts : List Txt} {s t1 t2 : St} {b1 b2 : Prop} (h1 : Ends (fun n => one n s) b1 t1) (hk : t1.next k texts = true)
    (h2 : Ends (fun n => one n t1.drop) b2 t2) (ht : (t2.put ⟨opKind t1.head.text, [], 0⟩).next k texts = false) :
    Ends (fun n => row (one n) k texts n s) (b1 ∧ b2) (t2.put ⟨opKind t1.head.text, [], 0⟩) := by
  obtain ⟨n1, h1⟩ := h1
  obtain ⟨n2, h2⟩ := h2
  refine ⟨n1 + n2 + 2, fun n hn => ?_⟩
  obtain ⟨r1, hr1, hc1⟩ := h1 n (by omega)
  obtain ⟨r2, hr2, hc2⟩ := h2 n (by omega)
  have hr1' : one n s = some r1 := hr1
  have hr2' : one n t1.drop = some r2 := hr2
  show ∃ r, row (one n) k texts n s = some r ∧ _
  unfold row
  rw [hr1', Option.bind_some]
  obtain ⟨m, rfl⟩ : ∃ m, n = m + 1 := ⟨n - 1, by omega⟩
  by_cases hb1 : b1
  · rw [hc1.1 hb1, rowL, hk, if_pos rfl, hr2', Option.bind_some]
    by_cases hb2 : b2
    · rw [hc2.1 hb2, rowL_off (by omega) ht]
      exact ⟨_, rfl, Comes.ok ⟨hb1, hb2⟩ rfl⟩
    · have hs := hc2.2 hb2
      rw [hs.put, rowL_off (by omega) (hs.next _ _)]
      exact ⟨_, rfl, Comes.bad (fun h => hb2 h.2) hs⟩
  · have hs := hc1.2 hb1
    rw [rowL_off (by omega) (hs.next _ _)]
    exact ⟨_, rfl, Comes.bad (fun h => hb1 h.1) hs⟩
theorem Ends.ahead0 {other : Nat → Nat → St → Option St} {k : Nat} {text : Txt} {step d : Nat} {s t : St} {b : Prop} (h : Ends (fun n => other n d s) b t) (hs : s.next k [text] = false) :
    Ends (fun n => aheadF k text step (other n) n d s) b t := by
  obtain ⟨n0, h⟩ := h
  refine ⟨n0 + 1, fun n hn => ?_⟩
  obtain ⟨r, hr, hc⟩ := h n (by omega)
  exact ⟨r, (ahead_off (by omega) hs).trans hr, hc⟩
/-- one sign ahead -/
theorem Ends.ahead1 {other : Nat → Nat → St → Option St} {k : Nat} {text : Txt} {step d : Nat} {t : St} {b : Prop} {tk : Tok} {T : List Tok} {acc : List Stp} (hk : (mk (tk :: T) acc).next k [text] = true)
    (h : d < 16 → Ends (fun n => other n (d + 1) (mk T acc)) b t) (hs : (mk T acc).next k [text] = false) :
    Ends (fun n => aheadF k text step (other n) n d (mk (tk :: T) acc)) (d < 16 ∧ b) (t.put ⟨step, [], 0⟩) := by
  by_cases hd : 16 ≤ d
  · refine ⟨1, fun n hn => ?_⟩
    obtain ⟨m, rfl⟩ : ∃ m, n = m + 1 := ⟨n - 1, by omega⟩
    show ∃ x, aheadF k text step (other (m + 1)) (m + 1) d (mk (tk :: T) acc) = some x ∧ _
    rw [aheadF, hk, if_pos rfl, if_pos hd]
    exact ⟨_, rfl, Comes.bad (fun h => by omega) (deep_stuck _ _)⟩
  · obtain ⟨n0, h⟩ := h (by omega)
    refine ⟨n0 + 2, fun n hn => ?_⟩
    obtain ⟨r, hr, hc⟩ := h n (by omega)
    obtain ⟨m, rfl⟩ : ∃ m, n = m + 1 := ⟨n - 1, by omega⟩
    show ∃ x, aheadF k text step (other (m + 1)) (m + 1) d (mk (tk :: T) acc) = some x ∧ _
    rw [aheadF, hk, if_pos rfl, if_neg hd, mk_drop, ahead_off (by omega) hs, show other (m + 1) (d + 1) (mk T acc) = some r from hr, Option.bind_some]
    refine ⟨_, rfl, ?_⟩
    by_cases hb : b
    · exact Comes.ok ⟨by omega, hb⟩ (by rw [hc.1 hb])
    · have hs := hc.2 hb
      exact Comes.bad (fun h => hb h.2) (by rw [hs.put]; exact hs)
theorem Ends.mono {f : Nat → Option St} {b c : Prop} {t u : St} (h : Ends f b t) (hb : b ↔ c) (ht : t = u) : Ends f c u := by
  obtain ⟨n0, h⟩ := h
  refine ⟨n0, fun n hn => ?_⟩
  obtain ⟨s, hs, hc⟩ := h n hn
  exact ⟨s, hs, fun x => (hc.1 (hb.2 x)).trans ht, fun x => hc.2 (fun y => x (hb.1 y))⟩

/-! ### the levels -/
abbrev ePrim (d : Nat) (s : St) (n : Nat) : Option St := primary (orF n) n d s
abbrev eSigned (d : Nat) (s : St) (n : Nat) : Option St := signed (orF n) n d s
abbrev eProd (d : Nat) (s : St) (n : Nat) : Option St := product (orF n) n d s
abbrev eSum (d : Nat) (s : St) (n : Nat) : Option St := sum (orF n) n d s
abbrev eComp (d : Nat) (s : St) (n : Nat) : Option St := compared (orF n) n d s
abbrev eNot (d : Nat) (s : St) (n : Nat) : Option St := notE (orF n) n d s
abbrev eAnd (d : Nat) (s : St) (n : Nat) : Option St := andE (orF n) n d s
abbrev eOr (d : Nat) (s : St) (n : Nat) : Option St := orE (orF n) n d s
theorem or_orF {d : Nat} {s t : St} {b : Prop} (h : Ends (eOr d s) b t) : Ends (fun n => orF n d s) b t := by
  obtain ⟨n0, h⟩ := h
  refine ⟨n0 + 1, fun n hn => ?_⟩
  obtain ⟨m, rfl⟩ : ∃ m, n = m + 1 := ⟨n - 1, by omega⟩
  obtain ⟨r, hr, hc⟩ := h m (by omega)
  exact ⟨r, hr, hc⟩
theorem or_less {d : Nat} {s t : St} {b : Prop} (h : Ends (fun n => orF n d s) b t) : Ends (eOr d s) b t := by
  obtain ⟨n0, h⟩ := h
  refine ⟨n0, fun n hn => ?_⟩
  obtain ⟨r, hr, hc⟩ := h (n + 1) (by omega)
  exact ⟨r, hr, hc⟩

/-- what begins no sign ahead -/
structure Plain (s : St) : Prop where
  minus : s.next 5 [[45]] = false
  not : s.next 2 [kNOT] = false
def mulB (s : St) : Bool := s.next 5 [[42]]
def addB (s : St) : Bool := s.next 5 [[43], [45]]
def relB (s : St) : Bool := s.next 5 relOps
def isB (s : St) : Bool := s.next 2 [kIS]
def andB (s : St) : Bool := s.next 2 [kAND]
def orB (s : St) : Bool := s.next 2 [kOR]

theorem to_signed {d : Nat} {s t : St} {b : Prop} (h : Ends (ePrim d s) b t) (hs : s.next 5 [[45]] = false) : Ends (eSigned d s) b t := Ends.ahead0 (other := fun n => primary (orF n) n) h hs
theorem to_prod {d : Nat} {s t : St} {b : Prop} (h : Ends (eSigned d s) b t) (ht : mulB t = false) : Ends (eProd d s) b t := Ends.row1 (one := fun n => signed (orF n) n d) h ht
theorem to_sum {d : Nat} {s t : St} {b : Prop} (h : Ends (eProd d s) b t) (ht : addB t = false) : Ends (eSum d s) b t := Ends.row1 (one := fun n => product (orF n) n d) h ht
theorem isNull_off {s : St} (h : isB s = false) : isNull s = s := by unfold isNull; rw [show s.next 2 [kIS] = false from h]; rfl
theorem to_comp {d : Nat} {s t : St} {b : Prop} (h : Ends (eSum d s) b t) (ht : relB t = false) (hi : isB t = false) : Ends (eComp d s) b t := by
  obtain ⟨n0, h⟩ := h
  refine ⟨n0, fun n hn => ?_⟩
  obtain ⟨r, hr, hc⟩ := h n hn
  refine ⟨r, ?_, hc⟩
  show compared (orF n) n d s = some r
  unfold compared
  rw [show sum (orF n) n d s = some r from hr, Option.bind_some]
  by_cases hb : b
  · rw [hc.1 hb, show t.next 5 relOps = false from ht, isNull_off hi]; rfl
  · have hs := hc.2 hb
    rw [hs.next, hs.isNull']; rfl
theorem to_not {d : Nat} {s t : St} {b : Prop} (h : Ends (eComp d s) b t) (hs : s.next 2 [kNOT] = false) : Ends (eNot d s) b t := Ends.ahead0 (other := fun n => compared (orF n) n) h hs
theorem to_and {d : Nat} {s t : St} {b : Prop} (h : Ends (eNot d s) b t) (ht : andB t = false) : Ends (eAnd d s) b t := Ends.row1 (one := fun n => notE (orF n) n d) h ht
theorem to_or {d : Nat} {s t : St} {b : Prop} (h : Ends (eAnd d s) b t) (ht : orB t = false) : Ends (eOr d s) b t := Ends.row1 (one := fun n => andE (orF n) n d) h ht

/-- what ends an expression -/
structure Stop (s : St) : Prop where
  mul : mulB s = false
  add : addB s = false
  rel : relB s = false
  is : isB s = false
  and : andB s = false
  or : orB s = false
theorem sum_or {d : Nat} {s t : St} {b : Prop} (h : Ends (eSum d s) b t) (hs : s.next 2 [kNOT] = false) (ht : Stop t) : Ends (eOr d s) b t :=
  to_or (to_and (to_not (to_comp h ht.rel ht.is) hs) ht.and) ht.or
theorem prod_or {d : Nat} {s t : St} {b : Prop} (h : Ends (eProd d s) b t) (hs : s.next 2 [kNOT] = false) (ht : Stop t) : Ends (eOr d s) b t := sum_or (to_sum h ht.add) hs ht
theorem prim_or {d : Nat} {s t : St} {b : Prop} (h : Ends (ePrim d s) b t) (hs : Plain s) (ht : Stop t) : Ends (eOr d s) b t := prod_or (to_prod (to_signed h hs.minus) ht.mul) hs.not ht
theorem comp_or {d : Nat} {s t : St} {b : Prop} (h : Ends (eComp d s) b t) (hs : s.next 2 [kNOT] = false) (ht : Stop t) : Ends (eOr d s) b t := to_or (to_and (to_not h hs) ht.and) ht.or

/-- a comparison -/
theorem comp_two {d : Nat} {s t1 t2 : St} {b1 b2 : Prop} (h1 : Ends (eSum d s) b1 t1) (hr : relB t1 = true) (h2 : Ends (eSum d t1.drop) b2 t2) :
    Ends (eComp d s) (b1 ∧ b2) (t2.put ⟨opKind t1.head.text, [], 0⟩) := by
  obtain ⟨n1, h1⟩ := h1
  obtain ⟨n2, h2⟩ := h2
  refine ⟨n1 + n2, fun n hn => ?_⟩
  obtain ⟨r1, hr1, hc1⟩ := h1 n (by omega)
  obtain ⟨r2, hr2, hc2⟩ := h2 n (by omega)
  show ∃ x, compared (orF n) n d s = some x ∧ _
  unfold compared
  rw [show sum (orF n) n d s = some r1 from hr1, Option.bind_some]
  by_cases hb1 : b1
  · rw [hc1.1 hb1, show t1.next 5 relOps = true from hr, if_pos rfl, show sum (orF n) n d t1.drop = some r2 from hr2, Option.bind_some]
    by_cases hb2 : b2
    · exact ⟨_, rfl, Comes.ok ⟨hb1, hb2⟩ (by rw [hc2.1 hb2])⟩
    · have hs := hc2.2 hb2
      exact ⟨_, rfl, Comes.bad (fun h => hb2 h.2) (by rw [hs.put]; exact hs)⟩
  · have hs := hc1.2 hb1
    rw [hs.next, hs.isNull']
    exact ⟨_, rfl, Comes.bad (fun h => hb1 h.1) hs⟩
/-- IS NULL -/
theorem comp_is {d : Nat} {s : St} {b : Prop} {T : List Tok} {acc : List Stp} (h : Ends (eSum d s) b (mk (kw kIS :: kw kNULL :: T) acc)) (ha : acc.length < 128) :
    Ends (eComp d s) b (mk T (acc ++ [⟨11, [], 0⟩])) := by
  obtain ⟨n0, h⟩ := h
  refine ⟨n0, fun n hn => ?_⟩
  obtain ⟨r, hr, hc⟩ := h n hn
  show ∃ x, compared (orF n) n d s = some x ∧ _
  unfold compared
  rw [show sum (orF n) n d s = some r from hr, Option.bind_some]
  by_cases hb : b
  · rw [hc.1 hb]
    refine ⟨_, rfl, Comes.ok hb ?_⟩
    have e1 : (mk (kw kIS :: kw kNULL :: T) acc).next 2 [kIS] = true := by rw [mk_next]; decide
    have e2 : (mk (kw kNULL :: T) acc).next 2 [kNOT] = false := by rw [mk_next]; decide
    unfold isNull
    rw [e1, if_pos rfl, mk_drop]
    simp only
    unfold St.after
    rw [e2]
    simp only [Bool.false_eq_true, if_false]
    rw [mk_key, mk_put ha]
  · have hs := hc.2 hb
    rw [hs.next, hs.isNull']
    exact ⟨_, rfl, Comes.bad hb hs⟩

/-! ### things in brackets -/
theorem prim_par {d : Nat} {T R : List Tok} {acc out : List Stp} {b : Prop} (h : d < 16 → Ends (eOr (d + 1) (mk T acc)) b (mk (sg [41] :: R) out)) :
    Ends (ePrim d (mk (sg [40] :: T) acc)) (d < 16 ∧ b) (mk R out) := by
  have hp : ∀ n, primary (orF n) n d (mk (sg [40] :: T) acc) = nestThen d (mk (sg [40] :: T) acc) fun s => (orF n (d + 1) s).bind fun s => some (s.sign [41]) := fun n => by
    unfold primary
    rw [if_neg (by rw [mk_next]; simp [sg]), if_neg (by rw [mk_next]; simp [sg]), if_neg (by rw [mk_next]; simp [sg]), if_neg (by rw [mk_next]; simp [sg]), if_pos (by rw [mk_next]; simp [sg])]
  by_cases hd : 16 ≤ d
  · refine ⟨0, fun n hn => ?_⟩
    show ∃ x, primary (orF n) n d (mk (sg [40] :: T) acc) = some x ∧ _
    rw [hp]
    unfold nestThen
    rw [if_pos hd]
    exact ⟨_, rfl, Comes.bad (fun h => by omega) (deep_stuck _ _)⟩
  · obtain ⟨n0, h⟩ := or_orF (h (by omega))
    refine ⟨n0, fun n hn => ?_⟩
    obtain ⟨r, hr, hc⟩ := h n hn
    show ∃ x, primary (orF n) n d (mk (sg [40] :: T) acc) = some x ∧ _
    rw [hp]
    unfold nestThen
    rw [if_neg hd, mk_drop]
    simp only
    rw [show orF n (d + 1) (mk T acc) = some r from hr, Option.bind_some]
    refine ⟨_, rfl, ?_⟩
    by_cases hb : b
    · exact Comes.ok ⟨by omega, hb⟩ (by rw [hc.1 hb, mk_sign])
    · have hs := hc.2 hb
      exact Comes.bad (fun h => hb h.2) (by rw [hs.sign]; exact hs)
/-- what an operand is, at a depth -/
def ReadsP (T : List Tok) (h : Nat) (l : List Stp) : Prop := ∀ (d : Nat) (R : List Tok) (acc : List Stp), d ≤ 16 → acc.length + l.length ≤ 128 → (mk R acc).next 5 [[46]] = false →
  Ends (ePrim d (mk (T ++ R) acc)) (d + h ≤ 16) (mk R (acc ++ l))

end Go.Proofs.YtghnkgeaocpmaaaGreatDoor.Pa
