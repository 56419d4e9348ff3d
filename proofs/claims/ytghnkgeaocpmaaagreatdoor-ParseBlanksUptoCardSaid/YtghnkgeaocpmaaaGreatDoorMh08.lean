/- Parts: PeG. -/
import Derived.Test.YtghnkgeaocpmaaaGreatDoorMh07

/- parse: what is printed of a right statement is read as the statement, or it is nested too deep. Plain. -/
namespace Go.Proofs.YtghnkgeaocpmaaaGreatDoor.Pa
open Go.Proofs.YtghnkgeaocpmaaaGreatDoor.Lx

/-- some expression has more than eight steps -/
def DeepS (x : Stm) : Prop := 8 < x.expr.length ∨ ∃ i ∈ x.items, 8 < i.expr.length
/-- numbers that fit -/
structure NumS (x : Stm) : Prop where
  expr : ∀ y ∈ x.expr, y.num ≤ 9223372036854775807
  items : ∀ i ∈ x.items, ∀ y ∈ i.expr, y.num ≤ 9223372036854775807
/-- the statement's tokens are read as it -/
def Prints (x : Stm) : Prop := ∃ T, LexW (printT x) T ∧ ∃ n0, ∀ n, n0 ≤ n → ∃ r, stmt n (mk T []) = some r ∧ ((∃ acc, r = (x, mk [] acc)) ∨ (Stuck r.2 ∧ DeepS x))

theorem wq_of {l : List Stp} (h : (l.isEmpty || rightB l) = true) (hn : ∀ y ∈ l, y.num ≤ 9223372036854775807) : ∃ w : Wq, w.l = l ∧ w.ok ∧ (¬ w.h ≤ 16 → 8 < l.length) := by
  by_cases h0 : l = []
  · exact ⟨⟨[], [], 0⟩, h0.symm, .inl ⟨rfl, rfl, rfl⟩, fun h => by simp at h⟩
  · have hr : rightB l = true := by simpa [h0] using h
    obtain ⟨⟨T, i, g⟩, hl⟩ := showE_good hr hn
    exact ⟨⟨l, T, i⟩, rfl, .inr ⟨h0, g, hl⟩, fun h => by have := g.deep; simp only at h; omega⟩
theorem iq_of : ∀ {l : List Itm}, (∀ i ∈ l, nameB i.name = true ∧ rightB i.expr = true) → (∀ i ∈ l, ∀ y ∈ i.expr, y.num ≤ 9223372036854775807) →
    ∃ qs : List Iq, qs.map Iq.i = l ∧ (∀ q ∈ qs, IqOk q) ∧ ∀ q ∈ qs, ¬ q.h ≤ 16 → 8 < q.i.expr.length
  | [], _, _ => ⟨[], rfl, by simp, by simp⟩
  | i :: l, h, hn => by
    obtain ⟨qs, h1, h2, h3⟩ := iq_of (l := l) (fun k hk => h k (by simp [hk])) fun k hk => hn k (by simp [hk])
    obtain ⟨⟨T, d, g⟩, hl⟩ := showE_good (h i (by simp)).2 (hn i (by simp))
    refine ⟨⟨i, T, d⟩ :: qs, by simp [h1], fun q hq => ?_, fun q hq hd => ?_⟩
    · rcases List.mem_cons.1 hq with rfl | hq
      · exact ⟨g, hl, (h i (by simp)).1⟩
      · exact h2 q hq
    · rcases List.mem_cons.1 hq with rfl | hq
      · have := g.deep; simp only at hd ⊢; omega
      · exact h3 q hq hd
theorem itemsB_parts {l : List Itm} (h : itemsB l = true) : (∀ i ∈ l, nameB i.name = true ∧ rightB i.expr = true) ∧ l.length ≤ 64 ∧ (l.map Itm.name).Nodup := by
  unfold itemsB apartB at h
  simp only [Bool.and_eq_true, List.all_eq_true, decide_eq_true_eq] at h
  exact ⟨h.1, h.2.1, h.2.2⟩
theorem stop_nil : StopL [] := .inl rfl
theorem nextN (acc : List Stp) (k : Nat) (x : List Txt) : (mk [] acc).next k x = false := rfl
theorem kwn {x y : Txt} (Z : List Tok) (acc : List Stp) (h : x ≠ y) : (mk (kw x :: Z) acc).next 2 [y] = false := by
  rw [mk_next]; simp [kw, h]
theorem kwy {x : Txt} (Z : List Tok) (acc : List Stp) : (mk (kw x :: Z) acc).next 2 [x] = true := by
  rw [mk_next]; simp [kw]

/-! ### the kinds -/
theorem prints1 {t : Txt} (ht : nameB t = true) : Prints { stm0 with kind := 1, table := t } := by
  refine ⟨kw kCREATE :: kw kTABLE :: [wd t], ?_, 0, fun n _ => ⟨_, ?_, .inl ⟨[], rfl⟩⟩⟩
  · have e : printT { stm0 with kind := 1, table := t } = (kCREATE ++ [32]) ++ ((kTABLE ++ [32]) ++ t) := by simp [printT, kCREATETABLEX, kCREATE, kTABLE]
    rw [e]
    exact LexH.app (LexH.key (by decide +kernel)) (LexH.app (LexH.key (by decide +kernel)) (LexW.name ht))
  · unfold stmt
    rw [if_pos (kwy _ _), mk_drop, if_pos (kwy _ _), mk_drop, (mk_name _ _ _).1, (mk_name _ _ _).2]
theorem prints2 {t f : Txt} (ht : nameB t = true) (hf : nameB f = true) : Prints { stm0 with kind := 2, table := t, field := f } := by
  refine ⟨kw kCREATE :: kw kINDEX :: kw kON :: wd t :: sg [40] :: wd f :: [sg [41]], ?_, 0, fun n _ => ⟨_, ?_, .inl ⟨[], rfl⟩⟩⟩
  · have e : printT { stm0 with kind := 2, table := t, field := f } = (kCREATE ++ [32]) ++ ((kINDEX ++ [32]) ++ ((kON ++ [32]) ++ (t ++ 32 :: ([40] ++ (f ++ 41 :: []))))) := by simp [printT, kCREATEINDEXONX, kCREATE, kINDEX, kON, kX']
    rw [e]
    refine LexH.app (LexH.key (by decide +kernel)) (LexH.app (LexH.key (by decide +kernel)) (LexH.app (LexH.key (by decide +kernel)) (LexW.app (LexW.name ht) (U := sg [40] :: wd f :: [sg [41]]) ?_ (by decide))))
    exact LexH.app (x := [32]) (T := []) LexH.one (LexH.app (x := [40]) (LexH.sign (by decide)) (LexW.app (LexW.name hf) (LexH.any (LexH.sign (by decide))) (by decide)))
  · unfold stmt
    have hk : ∀ (x y : Txt) (Z : List Tok) (acc : List Stp), (mk (kw x :: kw y :: Z) acc).keys [x, y] = mk Z acc := fun x y Z acc => by
      show ((mk (kw x :: kw y :: Z) acc).keys [x]).keys [y] = mk Z acc
      rw [mk_key, mk_key]
    rw [if_pos (kwy _ _), mk_drop, if_neg (by rw [kwn _ _ (by decide)]; decide)]
    simp only
    rw [hk, (mk_name _ _ _).1, (mk_name _ _ _).2, mk_sign, (mk_name _ _ _).1, (mk_name _ _ _).2, mk_sign]
theorem prints3 {t : Txt} {l : List Stp} (ht : nameB t = true) (hr : rightB l = true) (hn : ∀ y ∈ l, y.num ≤ 9223372036854775807) : Prints { stm0 with kind := 3, table := t, expr := l } := by
  obtain ⟨⟨T, i, g⟩, hl⟩ := showE_good hr hn
  obtain ⟨n0, he⟩ := expr_reads g hl stop_nil []
  rw [List.append_nil] at he
  refine ⟨kw kINSERT :: kw kINTO :: wd t :: T, ?_, n0, fun n hn => ?_⟩
  · have e : printT { stm0 with kind := 3, table := t, expr := l } = (kINSERT ++ [32]) ++ ((kINTO ++ [32]) ++ (t ++ 32 :: showE l)) := by simp [printT, kINSERTINTOX, kINSERT, kINTO]
    rw [e]
    exact LexH.app (LexH.key (by decide +kernel)) (LexH.app (LexH.key (by decide +kernel)) (LexW.app (LexW.name ht) (LexH.app (x := [32]) (T := []) LexH.one g.lex) (by decide)))
  · obtain ⟨s, hs, hc⟩ := he n hn
    unfold stmt
    rw [if_neg (by rw [kwn _ _ (by decide)]; decide), if_pos (kwy _ _), mk_drop, mk_key]
    simp only
    rw [(mk_name _ _ _).1, (mk_name _ _ _).2, show expr n (mk T []) = some s from hs, Option.bind_some]
    refine ⟨_, rfl, ?_⟩
    by_cases hb : i ≤ 16
    · rw [hc.1 hb]; exact .inl ⟨_, rfl⟩
    · exact .inr ⟨hc.2 hb, .inl (by have := g.deep; simp only; omega)⟩
theorem prints5 {t : Txt} {l : List Stp} (ht : nameB t = true) (hr : (l.isEmpty || rightB l) = true) (hn : ∀ y ∈ l, y.num ≤ 9223372036854775807) : Prints { stm0 with kind := 5, table := t, expr := l } := by
  obtain ⟨w, rfl, hw, hd⟩ := wq_of hr hn
  obtain ⟨n0, he⟩ := where_reads hw stop_nil (fun acc => rfl)
  rw [List.append_nil] at he
  refine ⟨kw kDELETE :: kw kFROM :: (wd t :: wheT w), ?_, n0, fun n hn => ?_⟩
  · have e : printT { stm0 with kind := 5, table := t, expr := w.l } = (kDELETE ++ [32]) ++ ((kFROM ++ [32]) ++ (t ++ wheX w.l)) := by simp [printT, kDELETEFROMX, kDELETE, kFROM, whereT, wheX]
    rw [e]
    exact LexH.app (LexH.key (by decide +kernel)) (LexH.app (LexH.key (by decide +kernel)) (lex_where hw (LexW.name ht)))
  · obtain ⟨r, hs, h1, h2⟩ := he n hn []
    unfold stmt
    rw [if_neg (by rw [kwn _ _ (by decide)]; decide), if_neg (by rw [kwn _ _ (by decide)]; decide), if_neg (by rw [kwn _ _ (by decide)]; decide), if_pos (kwy _ _), mk_drop, mk_key]
    simp only
    rw [(mk_name _ _ _).1, (mk_name _ _ _).2, hs, Option.bind_some]
    refine ⟨_, rfl, ?_⟩
    by_cases hb : w.h ≤ 16
    · obtain ⟨a, ha⟩ := h1 hb
      rw [ha]; exact .inl ⟨a, rfl⟩
    · exact .inr ⟨h2 hb, .inl (hd hb)⟩
theorem stuck_items {s : St} (h : Stuck s) : s.why ≠ 0 := by have := h.why; omega
theorem deep_items {qs : List Iq} (h3 : ∀ q ∈ qs, ¬ q.h ≤ 16 → 8 < q.i.expr.length) (hx : ∃ k ∈ qs, ¬ k.h ≤ 16) : ∃ i ∈ qs.map Iq.i, 8 < i.expr.length := by
  obtain ⟨k, hk, hd⟩ := hx
  exact ⟨k.i, List.mem_map_of_mem hk, h3 k hk hd⟩
theorem names_map (qs : List Iq) : (qs.map Iq.i).map Itm.name = qs.map fun k => k.i.name := by rw [List.map_map]; rfl
theorem prints4 {t : Txt} {its : List Itm} {l : List Stp} (ht : nameB t = true) (hi : itemsB its = true) (hne : its ≠ []) (hr : (l.isEmpty || rightB l) = true) (hn : ∀ y ∈ l, y.num ≤ 9223372036854775807)
    (hni : ∀ i ∈ its, ∀ y ∈ i.expr, y.num ≤ 9223372036854775807) : Prints { stm0 with kind := 4, table := t, items := its, expr := l } := by
  obtain ⟨w, rfl, hw, hd⟩ := wq_of hr hn
  obtain ⟨p1, p2, p3⟩ := itemsB_parts hi
  obtain ⟨qs, rfl, q2, q3⟩ := iq_of p1 hni
  rw [names_map] at p3
  rw [List.length_map] at p2
  cases qs with
  | nil => exact absurd rfl hne
  | cons q qs =>
    have hst : StopL (wheT w ++ []) := whT_stop stop_nil
    obtain ⟨n0, hit⟩ := items_reads true qs q (R := wheT w ++ []) [] q2 hst (whT_comma (by simp)) (by simpa using p2) p3
    refine ⟨kw kUPDATE :: wd t :: kw kSET :: (itT true q ++ (tailI true qs ++ (wheT w ++ []))), ?_, ?_⟩
    · have e : printT { stm0 with kind := 4, table := t, items := (q :: qs).map Iq.i, expr := w.l } = (kUPDATE ++ [32]) ++ (t ++ 32 :: ((kSET ++ [32]) ++ (Lib.join ((q :: qs).map (itX true)) [44, 32] ++ wheX w.l))) := by
        have e1 : setT ((q :: qs).map Iq.i) = Lib.join ((q :: qs).map (itX true)) [44, 32] := by
          unfold setT
          rw [List.map_map]
          rfl
        show kUPDATEX ++ t ++ kSETX ++ setT ((q :: qs).map Iq.i) ++ wheX w.l = _
        rw [e1]
        simp [kUPDATEX, kUPDATE, kSETX, kSET]
      rw [e]
      have h1 := lex_where hw (lex_join true q qs q2)
      rw [List.append_nil, ← List.append_assoc (itT true q)]
      exact LexH.app (LexH.key (by decide +kernel)) (LexW.app (LexW.name ht) (LexH.app (x := [32]) (T := []) LexH.one (LexH.app (LexH.key (by decide +kernel)) h1)) (by decide))
    · obtain ⟨n1, hwh⟩ := where_reads hw stop_nil (fun acc => rfl)
      refine ⟨n0 + n1, fun n hn => ?_⟩
      obtain ⟨r, hr1, hr2, hr3⟩ := hit n (by omega)
      unfold stmt
      rw [if_neg (by rw [kwn _ _ (by decide)]; decide), if_neg (by rw [kwn _ _ (by decide)]; decide), if_pos (kwy _ _), mk_drop]
      simp only
      rw [(mk_name _ _ _).1, (mk_name _ _ _).2, mk_key, hr1, Option.bind_some]
      by_cases hq : ∃ k ∈ q :: qs, ¬ k.h ≤ 16
      · have hs := hr3 hq
        rw [stuck_where hs, Option.bind_some]
        exact ⟨_, rfl, .inr ⟨hs, .inr (deep_items q3 hq)⟩⟩
      · obtain ⟨a, rfl⟩ := hr2 fun k hk => Decidable.byContradiction fun h => hq ⟨k, hk, h⟩
        obtain ⟨r2, hs, h1, h2⟩ := hwh n (by omega) a
        simp only
        rw [hs, Option.bind_some]
        refine ⟨_, rfl, ?_⟩
        by_cases hb : w.h ≤ 16
        · obtain ⟨b, rfl⟩ := h1 hb
          exact .inl ⟨b, rfl⟩
        · exact .inr ⟨h2 hb, .inl (hd hb)⟩

/-! ### SELECT -/
theorem stuck_order {s : St} (h : Stuck s) : orderT s = ([], false, s) := by unfold orderT; rw [h.next]; rfl
theorem stuck_from {s : St} (h : Stuck s) : (fromT s).2.2 = s := by
  unfold fromT
  rw [h.next]
  exact h.name
def ordT (f : Txt) (b : Bool) : List Tok := if f.isEmpty then [] else kw kORDER :: kw kBY :: wd f :: if b then [kw kDESC] else []
def ordX (f : Txt) (b : Bool) : Txt := (if f.isEmpty then [] else kORDERBYX ++ f) ++ (if b then kDESCX else [])
theorem orT_some {f : Txt} (h : f ≠ []) (b : Bool) : ordT f b = kw kORDER :: kw kBY :: wd f :: if b then [kw kDESC] else [] := by
  unfold ordT
  rw [if_neg (by simpa using h)]
theorem orX_some {f : Txt} (h : f ≠ []) (b : Bool) : ordX f b = (kORDERBYX ++ f) ++ (if b then kDESCX else []) := by
  unfold ordX
  rw [if_neg (by simpa using h)]
theorem order_reads {f : Txt} {b : Bool} (h : (nameB f || (f.isEmpty && !b)) = true) (acc : List Stp) : orderT (mk (ordT f b) acc) = (f, b, mk [] acc) := by
  by_cases h0 : f = []
  · subst h0
    have hb : b = false := by
      have : nameB [] = false := by decide +kernel
      rw [this] at h
      simpa using h
    subst hb
    rfl
  · rw [orT_some h0]
    unfold orderT
    rw [if_pos (kwy _ _), mk_drop, mk_key]
    simp only
    rw [(mk_name _ _ _).1, (mk_name _ _ _).2]
    cases b with
    | true =>
      unfold St.after
      rw [if_pos rfl, kwy, if_pos rfl]
      rfl
    | false =>
      unfold St.after
      rw [if_neg (by decide), nextN]
      rfl
theorem lex_order {f : Txt} {b : Bool} (h : (nameB f || (f.isEmpty && !b)) = true) {x : Txt} {T : List Tok} (hx : LexW x T) : LexW (x ++ ordX f b) (T ++ ordT f b) := by
  by_cases h0 : f = []
  · subst h0
    have hb : b = false := by
      have : nameB [] = false := by decide +kernel
      rw [this] at h
      simpa using h
    subst hb
    simpa [ordX, ordT] using hx
  · have hf : nameB f = true := by simpa [h0] using h
    rw [orX_some h0, orT_some h0]
    have e0 : x ++ (kORDERBYX ++ f) = x ++ 32 :: ((kORDER ++ [32]) ++ ((kBY ++ [32]) ++ f)) := by simp [kORDERBYX, kORDER, kBY]
    have h1 : LexW (x ++ (kORDERBYX ++ f)) (T ++ ([kw kORDER] ++ ([kw kBY] ++ [wd f]))) := by
      rw [e0]
      exact LexW.app hx (LexH.app (x := [32]) (T := []) LexH.one (LexH.app (LexH.key (by decide +kernel)) (LexH.app (LexH.key (by decide +kernel)) (LexW.name hf)))) (by decide)
    cases b with
    | true =>
      have e : x ++ (kORDERBYX ++ f ++ kDESCX) = x ++ (kORDERBYX ++ f) ++ 32 :: kDESC := by simp [kDESCX, kDESC]
      have e2 : T ++ kw kORDER :: kw kBY :: wd f :: [kw kDESC] = T ++ ([kw kORDER] ++ ([kw kBY] ++ [wd f])) ++ ([] ++ [kw kDESC]) := by simp
      simp only [if_true]
      rw [e, e2]
      exact LexW.app h1 (LexH.app (x := [32]) (T := []) LexH.one (LexW.key (by decide +kernel))) (by decide)
    | false =>
      simp only [Bool.false_eq_true, if_false, List.append_nil]
      exact h1
theorem orT_stop (f : Txt) (b : Bool) : StopL (ordT f b) := by
  unfold ordT
  split
  · exact .inl rfl
  · exact .inr ⟨_, _, rfl, by decide⟩
theorem orT_where (f : Txt) (b : Bool) (acc : List Stp) : (mk (ordT f b) acc).next 2 [kWHERE] = false := by
  unfold ordT
  split
  · rfl
  · exact kwn _ _ (by decide)
def froT (t : Txt) (b : Bool) : List Tok := if b then kw kHISTORY :: sg [40] :: wd t :: [sg [41]] else [wd t]
def froX (t : Txt) (b : Bool) : Txt := if b then kHISTORYX ++ t ++ [41] else t
theorem from_reads (t : Txt) (b : Bool) (R : List Tok) (acc : List Stp) : fromT (mk (froT t b ++ R) acc) = (b, t, mk R acc) := by
  cases b with
  | true =>
    have e : froT t true ++ R = kw kHISTORY :: sg [40] :: wd t :: sg [41] :: R := rfl
    unfold fromT
    rw [e, if_pos (kwy _ _), mk_drop, mk_sign]
    simp only
    rw [(mk_name _ _ _).1, (mk_name _ _ _).2, mk_sign]
  | false =>
    have e : froT t false ++ R = wd t :: R := rfl
    unfold fromT
    rw [e, if_neg (by rw [mk_next]; simp [wd]), (mk_name _ _ _).1, (mk_name _ _ _).2]
theorem lex_from {t : Txt} (ht : nameB t = true) (b : Bool) : LexW (froX t b) (froT t b) := by
  cases b with
  | true =>
    have e : froX t true = kHISTORY ++ 40 :: (t ++ 41 :: []) := by simp [froX, kHISTORYX, kHISTORY]
    rw [e]
    exact LexW.app (LexW.key (by decide +kernel)) (LexH.app (x := [40]) (T := [sg [40]]) (LexH.sign (by decide)) (LexW.app (LexW.name ht) (LexH.any (LexH.sign (by decide))) (by decide))) (by decide)
  | false => exact LexW.name ht
def whatT (qs : List Iq) : List Tok := match qs with
  | [] => [sg [42]]
  | q :: qs => itT false q ++ tailI false qs
def whatX (its : List Itm) : Txt := if its.isEmpty then [42] else asT its
theorem what_reads {qs : List Iq} (h : ∀ k ∈ qs, IqOk k) (h64 : qs.length ≤ 64) (hnd : (qs.map fun k => k.i.name).Nodup) (R : List Tok) :
    ∃ n0, ∀ n, n0 ≤ n → ∃ r, what n (mk (whatT qs ++ kw kFROM :: R) []) = some r ∧ ((∀ k ∈ qs, k.h ≤ 16) → ∃ acc', r = (qs.map Iq.i, mk (kw kFROM :: R) acc')) ∧ ((∃ k ∈ qs, ¬ k.h ≤ 16) → Stuck r.2) := by
  cases qs with
  | nil =>
    refine ⟨0, fun n _ => ⟨([], mk (kw kFROM :: R) []), ?_, fun _ => ⟨[], rfl⟩, fun ⟨k, hk, _⟩ => by simp at hk⟩⟩
    unfold what
    rw [show whatT [] ++ kw kFROM :: R = sg [42] :: kw kFROM :: R from rfl, if_pos (by rw [mk_next]; decide), mk_drop]
  | cons q qs =>
    obtain ⟨n0, hr⟩ := items_reads false qs q (R := kw kFROM :: R) [] h (.inr ⟨_, _, rfl, by decide⟩) (fun r e => by rw [List.cons.injEq] at e; exact absurd e.1 (by decide)) (by simpa using h64) hnd
    refine ⟨n0, fun n hn => ?_⟩
    obtain ⟨r, h1, h2, h3⟩ := hr n hn
    refine ⟨r, ?_, h2, h3⟩
    have e : whatT (q :: qs) ++ kw kFROM :: R = itT false q ++ (tailI false qs ++ kw kFROM :: R) := by simp [whatT]
    have hf : (mk (itT false q ++ (tailI false qs ++ kw kFROM :: R)) []).next 5 [[42]] = false := by
      have e2 : itT false q ++ (tailI false qs ++ kw kFROM :: R) = q.T ++ ([kw kAS, wd q.i.name] ++ (tailI false qs ++ kw kFROM :: R)) := by simp [itT]
      rw [e2]
      exact (h q (by simp)).good.starts.next _ _ (.inr ⟨rfl, by decide⟩)
    unfold what
    rw [e, hf]
    exact h1
theorem lex_what {qs : List Iq} (h : ∀ k ∈ qs, IqOk k) : LexW (whatX (qs.map Iq.i)) (whatT qs) := by
  cases qs with
  | nil => exact LexH.any (LexH.sign (by decide))
  | cons q qs =>
    have e : whatX ((q :: qs).map Iq.i) = Lib.join ((q :: qs).map (itX false)) [44, 32] := by
      unfold whatX asT
      rw [if_neg (by simp), List.map_map]
      rfl
    rw [e]
    exact lex_join false q qs h
theorem prints6 {t f : Txt} {its : List Itm} {l : List Stp} {hi de : Bool} (ht : nameB t = true) (hits : itemsB its = true) (hr : (l.isEmpty || rightB l) = true) (ho : (nameB f || (f.isEmpty && !de)) = true)
    (hn : ∀ y ∈ l, y.num ≤ 9223372036854775807) (hni : ∀ i ∈ its, ∀ y ∈ i.expr, y.num ≤ 9223372036854775807) : Prints ⟨6, t, f, its, l, hi, de⟩ := by
  obtain ⟨w, rfl, hw, hd⟩ := wq_of hr hn
  obtain ⟨p1, p2, p3⟩ := itemsB_parts hits
  obtain ⟨qs, rfl, q2, q3⟩ := iq_of p1 hni
  rw [names_map] at p3
  rw [List.length_map] at p2
  obtain ⟨n0, hit⟩ := what_reads q2 p2 p3 (froT t hi ++ (wheT w ++ ordT f de))
  obtain ⟨n1, hwh⟩ := where_reads hw (orT_stop f de) (orT_where f de)
  refine ⟨kw kSELECT :: (whatT qs ++ kw kFROM :: (froT t hi ++ (wheT w ++ ordT f de))), ?_, n0 + n1, fun n hn => ?_⟩
  · have e : printT ⟨6, t, f, qs.map Iq.i, w.l, hi, de⟩ = (kSELECT ++ [32]) ++ (whatX (qs.map Iq.i) ++ 32 :: ((kFROM ++ [32]) ++ (froX t hi ++ wheX w.l ++ ordX f de))) := by
      have e1 : printT ⟨6, t, f, qs.map Iq.i, w.l, hi, de⟩ = kSELECTX ++ whatX (qs.map Iq.i) ++ kFROMX ++ froX t hi ++ wheX w.l ++ ordX f de := rfl
      rw [e1]
      simp [kSELECTX, kSELECT, kFROMX, kFROM]
    rw [e, ← List.append_assoc (froT t hi)]
    exact LexH.app (LexH.key (by decide +kernel)) (LexW.app (lex_what q2) (LexH.app (x := [32]) (T := []) LexH.one (LexH.app (LexH.key (by decide +kernel)) (lex_order ho (lex_where hw (lex_from ht hi))))) (by decide))
  · obtain ⟨r, hr1, hr2, hr3⟩ := hit n (by omega)
    unfold stmt
    rw [if_neg (by rw [kwn _ _ (by decide)]; decide), if_neg (by rw [kwn _ _ (by decide)]; decide), if_neg (by rw [kwn _ _ (by decide)]; decide), if_neg (by rw [kwn _ _ (by decide)]; decide), if_pos (kwy _ _), mk_drop]
    unfold picked
    rw [hr1, Option.bind_some]
    by_cases hq : ∃ k ∈ qs, ¬ k.h ≤ 16
    · have hs := hr3 hq
      simp only [hs.keys, stuck_from hs, stuck_where hs, stuck_order hs, Option.bind_some]
      exact ⟨_, rfl, .inr ⟨hs, .inr (deep_items q3 hq)⟩⟩
    · obtain ⟨a, rfl⟩ := hr2 fun k hk => Decidable.byContradiction fun h => hq ⟨k, hk, h⟩
      simp only
      rw [mk_key, from_reads]
      simp only
      obtain ⟨r2, hs, h1, h2⟩ := hwh n (by omega) a
      rw [hs, Option.bind_some]
      refine ⟨_, rfl, ?_⟩
      by_cases hb : w.h ≤ 16
      · obtain ⟨b, rfl⟩ := h1 hb
        simp only
        rw [order_reads ho]
        exact .inl ⟨b, rfl⟩
      · have h3 := h2 hb
        rw [stuck_order h3]
        exact .inr ⟨h3, .inl (hd hb)⟩

/-- A RIGHT STATEMENT IS PRINTED SO THAT IT IS READ AS IT WAS -/
theorem check_prints {x : Stm} (h : checkB x = true) (hn : NumS x) : Prints x := by
  unfold checkB at h
  rw [Bool.and_eq_true] at h
  obtain ⟨ht, h⟩ := h
  obtain ⟨kind, t, f, its, l, hi, de⟩ := x
  simp only at h ht
  have hne := hn.expr
  have hni := hn.items
  simp only at hne hni
  split at h
  · rename_i hk
    subst hk
    simp only [Bool.and_eq_true, List.isEmpty_iff, Bool.not_eq_true'] at h
    obtain ⟨rfl, rfl, rfl, rfl, rfl⟩ := h
    exact prints1 ht
  · split at h
    · rename_i hk
      subst hk
      simp only [Bool.and_eq_true, List.isEmpty_iff, Bool.not_eq_true'] at h
      obtain ⟨hf, rfl, rfl, rfl, rfl⟩ := h
      exact prints2 ht hf
    · split at h
      · rename_i hk
        subst hk
        simp only [Bool.and_eq_true, List.isEmpty_iff, Bool.not_eq_true'] at h
        obtain ⟨⟨hr, hc⟩, rfl, rfl, rfl, rfl⟩ := h
        exact prints3 ht hr hne
      · split at h
        · rename_i hk
          subst hk
          rw [Bool.and_eq_true, Bool.and_eq_true, Bool.and_eq_true] at h
          obtain ⟨⟨hr, hits, h2⟩, h3⟩ := h
          simp only [Bool.and_eq_true, List.isEmpty_iff, Bool.not_eq_true'] at h3
          obtain ⟨rfl, rfl, rfl⟩ := h3
          exact prints4 ht hits (by simpa using h2) hr hne hni
        · split at h
          · rename_i hk
            subst hk
            rw [Bool.and_eq_true] at h
            obtain ⟨hr, h3⟩ := h
            simp only [Bool.and_eq_true, List.isEmpty_iff, Bool.not_eq_true'] at h3
            obtain ⟨rfl, rfl, rfl, rfl⟩ := h3
            exact prints5 ht hr hne
          · split at h
            · rename_i hk
              subst hk
              rw [Bool.and_eq_true, Bool.and_eq_true] at h
              exact prints6 ht h.2.1 h.1 h.2.2 hne hni
            · cases h

/-- what stands behind the reading -/
theorem readT_of {n : Nat} {x : Stm} {T : List Tok} {r : Stm × St} (hr : stmt n (mk T []) = some r) (h : (∃ acc, r = (x, mk [] acc)) ∨ (Stuck r.2 ∧ DeepS x)) (hc : checkB x = true) :
    readT n T 0 = some (.ok x) ∨ ((∃ a, readT n T 0 = some (.err 10 a)) ∧ DeepS x) := by
  unfold readT
  rw [show st0 T 0 = mk T [] from rfl, hr, Option.bind_some]
  rcases h with ⟨acc, rfl⟩ | ⟨hs, hd⟩
  · left
    rw [show (mk [] acc).ended = mk [] acc from rfl]
    unfold finish
    rw [if_neg (by simp [mk]), if_pos hc]
  · right
    refine ⟨⟨r.2.at_, ?_⟩, hd⟩
    have e : r.2.ended = r.2 := by unfold St.ended; rw [hs.left]; rfl
    rw [e]
    unfold finish
    rw [if_pos (by have := hs.why; omega), hs.why]
/-- THERE AND BACK -/
theorem print_parse {x : Stm} (h : checkB x = true) (hn : NumS x) (hl : (printT x).length ≤ 16384) :
    ∃ n0, ∀ n, n0 ≤ n → ∃ r, parseF n (printT x) = some r ∧ (r = .ok x ∨ ((∃ a, r = .err 10 a) ∧ DeepS x)) := by
  obtain ⟨T, hT, n0, hs⟩ := check_prints h hn
  obtain ⟨toks, ht, he⟩ := hT.lex hl
  refine ⟨n0, fun n hn => ?_⟩
  obtain ⟨r, hr, h2⟩ := hs n hn
  rw [parseF_ok ht]
  have h3 := readT_er n toks (printT x).length
  rw [he] at h3
  rcases readT_of hr h2 h with h4 | ⟨⟨a, h4⟩, hd⟩
  · rw [h4] at h3
    cases hq : readT n toks (printT x).length with
    | none => rw [hq] at h3; cases h3
    | some q =>
      rw [hq, Option.map_some, Option.some.injEq] at h3
      exact ⟨q, rfl, .inl (er_ok h3.symm)⟩
  · rw [h4] at h3
    cases hq : readT n toks (printT x).length with
    | none => rw [hq] at h3; cases h3
    | some q =>
      rw [hq, Option.map_some, Option.some.injEq] at h3
      cases q with
      | ok y => cases h3
      | err c b =>
        simp only [Rs.er, Rs.err.injEq] at h3
        rw [← h3.1]
        exact ⟨_, rfl, .inr ⟨⟨_, rfl⟩, hd⟩⟩

end Go.Proofs.YtghnkgeaocpmaaaGreatDoor.Pa
