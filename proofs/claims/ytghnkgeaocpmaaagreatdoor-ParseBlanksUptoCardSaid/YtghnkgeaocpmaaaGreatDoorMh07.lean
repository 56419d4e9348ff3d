/- Parts: PeF. -/
import Derived.Test.YtghnkgeaocpmaaaGreatDoorMh06

/- parse: what is printed is read as the statement. Plain. -/
namespace Go.Proofs.YtghnkgeaocpmaaaGreatDoor.Pa
open Go.Proofs.YtghnkgeaocpmaaaGreatDoor.Lx

/-- what an expression of a statement is followed by -/
def stopToks : List Tok := [sg [44], kw kAS, kw kWHERE, kw kFROM, kw kORDER, sg [41]]
def StopL (R : List Tok) : Prop := R = [] ∨ ∃ t r, R = t :: r ∧ t ∈ stopToks
theorem stopL_stop {R : List Tok} (h : StopL R) (acc : List Stp) : Stop (mk R acc) ∧ (mk R acc).next 5 [[46]] = false := by
  rcases h with rfl | ⟨t, r, rfl, h⟩
  · exact ⟨⟨rfl, rfl, rfl, rfl, rfl, rfl⟩, rfl⟩
  · have e : ∀ (k : Nat) (x : List Txt), (mk (t :: r) acc).next k x = (t.kind == k && (x.isEmpty || x.contains t.text)) := fun k x => mk_next _ _ _ _ _
    refine ⟨⟨?_, ?_, ?_, ?_, ?_, ?_⟩, ?_⟩ <;> (try unfold mulB) <;> (try unfold addB) <;> (try unfold relB) <;> (try unfold isB) <;> (try unfold andB) <;> (try unfold orB) <;> rw [e] <;> (clear e; revert h; revert t; decide)
/-- an expression -/
theorem expr_reads {l : List Stp} {x : Txt} {T : List Tok} {h : Nat} (g : GoodT l x T h) (hl : l.length ≤ 128) {R : List Tok} (hR : StopL R) (acc : List Stp) :
    Ends (fun n => expr n (mk (T ++ R) acc)) (h ≤ 16) (mk R l) := by
  obtain ⟨hs, _⟩ := stopL_stop hR ([] ++ l)
  have := or_orF (prim_or (g.reads 0 R [] (by omega) (by simpa using hl) (stopL_stop hR []).2) (g.starts.plain _ _) hs)
  rw [Nat.zero_add, List.nil_append] at this
  exact this

/-- an item as it is read -/
structure Iq where
  i : Itm
  T : List Tok
  h : Nat
structure IqOk (q : Iq) : Prop where
  good : GoodT q.i.expr (showE q.i.expr) q.T q.h
  few : q.i.expr.length ≤ 128
  name : nameB q.i.name = true
def itT (set : Bool) (q : Iq) : List Tok := if set then wd q.i.name :: sg [61] :: q.T else q.T ++ [kw kAS, wd q.i.name]
def itX (set : Bool) (q : Iq) : Txt := if set then q.i.name ++ kX ++ showE q.i.expr else showE q.i.expr ++ kASX ++ q.i.name
def tailI (set : Bool) (qs : List Iq) : List Tok := qs.flatMap fun q => sg [44] :: itT set q

theorem itemF_reads {q : Iq} (h : IqOk q) (set : Bool) (names : List Txt) (hn : (names ++ [q.i.name]).Nodup) {R : List Tok} (hR : StopL R) (acc : List Stp) :
    ∃ n0, ∀ n, n0 ≤ n → ∃ r, itemF n set names (mk (itT set q ++ R) acc) = some r ∧ (q.h ≤ 16 → r = (q.i, mk R q.i.expr)) ∧ (¬ q.h ≤ 16 → Stuck r.2) := by
  cases set with
  | true =>
    obtain ⟨n0, he⟩ := expr_reads h.good h.few hR acc
    refine ⟨n0, fun n hn2 => ?_⟩
    obtain ⟨s, hs, hc⟩ := he n hn2
    have e : itT true q ++ R = wd q.i.name :: sg [61] :: (q.T ++ R) := rfl
    unfold itemF
    simp only [if_true]
    rw [e, (mk_name _ _ _).1, (mk_name _ _ _).2, if_pos hn, mk_sign, show expr n (mk (q.T ++ R) acc) = some s from hs, Option.bind_some]
    refine ⟨_, rfl, fun hb => ?_, fun hb => hc.2 hb⟩
    rw [hc.1 hb]
    rfl
  | false =>
    have hR2 : StopL (kw kAS :: wd q.i.name :: R) := .inr ⟨_, _, rfl, by decide⟩
    obtain ⟨n0, he⟩ := expr_reads h.good h.few hR2 acc
    refine ⟨n0, fun n hn2 => ?_⟩
    obtain ⟨s, hs, hc⟩ := he n hn2
    have e : itT false q ++ R = q.T ++ kw kAS :: wd q.i.name :: R := by simp [itT]
    unfold itemF
    simp only [Bool.false_eq_true, if_false]
    rw [e, show expr n (mk (q.T ++ kw kAS :: wd q.i.name :: R) acc) = some s from hs, Option.bind_some]
    refine ⟨_, rfl, fun hb => ?_, fun hb => ?_⟩
    · rw [hc.1 hb, mk_key, (mk_name _ _ _).1, (mk_name _ _ _).2, if_pos hn]
      rfl
    · have h1 := hc.2 hb
      simp only [h1.keys, h1.name, h1.fail]
      split <;> exact h1

theorem itemsL_reads (set : Bool) : ∀ (qs : List Iq) (q : Iq) (out : List Itm) (R : List Tok) (acc : List Stp), (∀ k ∈ q :: qs, IqOk k) → StopL R → (∀ r, R ≠ sg [44] :: r) → out.length + qs.length + 1 ≤ 64 →
    (out.map Itm.name ++ (q :: qs).map fun k => k.i.name).Nodup →
    ∃ n0, ∀ n, n0 ≤ n → ∀ m, qs.length < m → ∃ r, itemsL n set m out (mk (itT set q ++ (tailI set qs ++ R)) acc) = some r ∧
      ((∀ k ∈ q :: qs, k.h ≤ 16) → ∃ acc', r = (out ++ (q :: qs).map Iq.i, mk R acc')) ∧ ((∃ k ∈ q :: qs, ¬ k.h ≤ 16) → Stuck r.2)
  | [], q, out, R, acc, hg, hR, hc, h64, hnd => by
    have hcn : (mk R q.i.expr).next 5 [[44]] = false := by
      rcases hR with rfl | ⟨t, r, rfl, ht⟩
      · rfl
      · rw [mk_next]
        have hne : t ≠ sg [44] := fun e => hc r (by rw [e])
        clear hc
        revert hne ht
        revert t
        decide
    obtain ⟨n0, hr⟩ := itemF_reads (hg q (by simp)) set (out.map Itm.name) (by simpa using hnd) hR acc
    refine ⟨n0, fun n hn m hm => ?_⟩
    obtain ⟨k, rfl⟩ : ∃ k, m = k + 1 := ⟨m - 1, by simp at hm; omega⟩
    obtain ⟨r, hr1, hr2, hr3⟩ := hr n hn
    rw [itemsL, if_pos (show (mk _ acc).why = 0 from rfl), if_neg (by simp at h64; omega), show tailI set [] ++ R = R from rfl, hr1, Option.bind_some]
    by_cases hb : q.h ≤ 16
    · rw [hr2 hb, hcn]
      exact ⟨_, rfl, fun _ => ⟨q.i.expr, by simp⟩, fun ⟨k, hk, hn⟩ => by simp at hk; rw [hk] at hn; exact absurd hb hn⟩
    · have h1 := hr3 hb
      rw [h1.next]
      exact ⟨_, rfl, fun h => absurd (h q (by simp)) hb, fun _ => h1⟩
  | p :: qs, q, out, R, acc, hg, hR, hc, h64, hnd => by
    have hR2 : StopL (tailI set (p :: qs) ++ R) := .inr ⟨sg [44], itT set p ++ tailI set qs ++ R, by simp [tailI], by decide⟩
    obtain ⟨n0, hr⟩ := itemF_reads (hg q (by simp)) set (out.map Itm.name) (by rw [show (q :: p :: qs).map (fun k => k.i.name) = [q.i.name] ++ (p :: qs).map (fun k => k.i.name) from rfl, ← List.append_assoc] at hnd; exact (List.nodup_append.1 hnd).1) hR2 acc
    obtain ⟨n1, ih⟩ := itemsL_reads set qs p (out ++ [q.i]) R q.i.expr (fun k hk => hg k (by simp [List.mem_cons.1 hk])) hR hc (by simp at h64 ⊢; omega) (by simpa using hnd)
    refine ⟨n0 + n1, fun n hn m hm => ?_⟩
    obtain ⟨k, rfl⟩ : ∃ k, m = k + 1 := ⟨m - 1, by simp at hm; omega⟩
    obtain ⟨r, hr1, hr2, hr3⟩ := hr n (by omega)
    rw [itemsL, if_pos (show (mk _ acc).why = 0 from rfl), if_neg (by simp at h64; omega), hr1, Option.bind_some]
    by_cases hb : q.h ≤ 16
    · have e : tailI set (p :: qs) ++ R = sg [44] :: (itT set p ++ (tailI set qs ++ R)) := by simp [tailI]
      rw [hr2 hb]
      simp only
      rw [e, if_pos (by rw [mk_next]; decide), mk_drop]
      obtain ⟨s, hs1, hs2, hs3⟩ := ih n (by omega) k (by simp at hm; omega)
      refine ⟨s, hs1, fun h => ?_, fun ⟨z, hz, hzn⟩ => hs3 ?_⟩
      · obtain ⟨a, ha⟩ := hs2 fun z hz => h z (by simp [List.mem_cons.1 hz])
        exact ⟨a, by rw [ha]; simp⟩
      · rcases List.mem_cons.1 hz with rfl | hz
        · exact absurd hb hzn
        · exact ⟨z, hz, hzn⟩
    · have h1 := hr3 hb
      rw [h1.next]
      exact ⟨_, rfl, fun h => absurd (h q (by simp)) hb, fun _ => h1⟩
theorem items_reads (set : Bool) (qs : List Iq) (q : Iq) {R : List Tok} (acc : List Stp) (hg : ∀ k ∈ q :: qs, IqOk k) (hR : StopL R) (hc : ∀ r, R ≠ sg [44] :: r) (h64 : qs.length + 1 ≤ 64)
    (hnd : ((q :: qs).map fun k => k.i.name).Nodup) :
    ∃ n0, ∀ n, n0 ≤ n → ∃ r, items n set (mk (itT set q ++ (tailI set qs ++ R)) acc) = some r ∧
      ((∀ k ∈ q :: qs, k.h ≤ 16) → ∃ acc', r = ((q :: qs).map Iq.i, mk R acc')) ∧ ((∃ k ∈ q :: qs, ¬ k.h ≤ 16) → Stuck r.2) := by
  obtain ⟨n0, h⟩ := itemsL_reads set qs q [] R acc hg hR hc (by simpa using h64) (by simpa using hnd)
  exact ⟨n0 + qs.length + 1, fun n hn => h n (by omega) n (by omega)⟩

/-! ### a condition -/
/-- an expression that may be missing -/
structure Wq where
  l : List Stp
  T : List Tok
  h : Nat
def Wq.ok (w : Wq) : Prop := (w.l = [] ∧ w.T = [] ∧ w.h = 0) ∨ (w.l ≠ [] ∧ GoodT w.l (showE w.l) w.T w.h ∧ w.l.length ≤ 128)
def wheT (w : Wq) : List Tok := if w.l.isEmpty then [] else kw kWHERE :: w.T
def wheX (l : List Stp) : Txt := if l.isEmpty then [] else kWHEREX ++ showE l
theorem where_reads {w : Wq} (h : w.ok) {R : List Tok} (hR : StopL R) (hw : ∀ acc, (mk R acc).next 2 [kWHERE] = false) :
    ∃ n0, ∀ n, n0 ≤ n → ∀ acc, ∃ r, where_ n (mk (wheT w ++ R) acc) = some r ∧ (w.h ≤ 16 → ∃ acc', r = (w.l, mk R acc')) ∧ (¬ w.h ≤ 16 → Stuck r.2) := by
  rcases h with ⟨h1, h2, h3⟩ | ⟨h1, h2, h3⟩
  · refine ⟨0, fun n _ acc => ?_⟩
    have e : wheT w ++ R = R := by unfold wheT; rw [h1]; rfl
    unfold where_
    rw [e, hw acc, h1]
    exact ⟨_, rfl, fun _ => ⟨acc, rfl⟩, fun hb => by omega⟩
  · obtain ⟨n0, he⟩ := expr_reads h2 h3 hR []
    refine ⟨n0, fun n hn acc => ?_⟩
    obtain ⟨s, hs, hc⟩ := he n hn
    have e : wheT w ++ R = kw kWHERE :: (w.T ++ R) := by unfold wheT; rw [if_neg (by simpa using h1)]; rfl
    unfold where_
    rw [e, if_pos (by rw [mk_next]; decide), mk_drop, show expr n (mk (w.T ++ R) acc) = some s from hs, Option.bind_some]
    refine ⟨_, rfl, fun hb => ⟨w.l, by rw [hc.1 hb]; rfl⟩, fun hb => hc.2 hb⟩
theorem stuck_where {s : St} (h : Stuck s) (n : Nat) : where_ n s = some ([], s) := by unfold where_; rw [h.next]; rfl
theorem whT_stop {w : Wq} {R : List Tok} (hR : StopL R) : StopL (wheT w ++ R) := by
  unfold wheT
  split
  · exact hR
  · exact .inr ⟨_, _, rfl, by decide⟩
theorem whT_comma {w : Wq} {R : List Tok} (hR : ∀ r, R ≠ sg [44] :: r) : ∀ r, wheT w ++ R ≠ sg [44] :: r := by
  unfold wheT
  split
  · exact hR
  · intro r e
    rw [List.cons_append, List.cons.injEq] at e
    exact absurd e.1 (by decide)
theorem lex_where {w : Wq} (h : w.ok) {x : Txt} {T : List Tok} (hx : LexW x T) : LexW (x ++ wheX w.l) (T ++ wheT w) := by
  rcases h with ⟨h1, h2, h3⟩ | ⟨h1, h2, h3⟩
  · unfold wheX wheT
    rw [h1]
    simpa using hx
  · unfold wheX wheT
    rw [if_neg (by simpa using h1), if_neg (by simpa using h1)]
    have e : x ++ (kWHEREX ++ showE w.l) = x ++ 32 :: ((kWHERE ++ [32]) ++ showE w.l) := by simp [kWHEREX, kWHERE]
    rw [e]
    exact LexW.app hx (LexH.app (x := [32]) (T := []) LexH.one (LexH.app (LexH.key (by decide +kernel)) h2.lex)) (by decide)

/-! ### items as texts -/
theorem lex_item {q : Iq} (h : IqOk q) (set : Bool) : LexW (itX set q) (itT set q) := by
  cases set with
  | true =>
    have e : itX true q = q.i.name ++ 32 :: (([61] ++ [32]) ++ showE q.i.expr) := by simp [itX, kX]
    rw [e]
    exact LexW.app (LexW.name h.name) (LexH.app (x := [32]) (T := []) LexH.one (LexH.app (LexH.op (x := [61]) (by decide)) h.good.lex)) (by decide)
  | false =>
    have e : itX false q = showE q.i.expr ++ 32 :: ((kAS ++ [32]) ++ q.i.name) := by simp [itX, kASX, kAS]
    have e2 : itT false q = q.T ++ ([] ++ ([kw kAS] ++ [wd q.i.name])) := by simp [itT]
    rw [e, e2]
    exact LexW.app h.good.lex (LexH.app (x := [32]) (T := []) LexH.one (LexH.app (LexH.key (by decide +kernel)) (LexW.name h.name))) (by decide)
theorem lex_items (set : Bool) : ∀ (qs : List Iq) {x : Txt} {T : List Tok}, LexW x T → (∀ q ∈ qs, IqOk q) → LexW (x ++ Lib.joinTail [44, 32] (qs.map (itX set))) (T ++ tailI set qs)
  | [], x, T, h, _ => by simpa [Lib.joinTail, tailI] using h
  | p :: qs, x, T, h, hp => by
    have h1 : LexW (x ++ 44 :: (32 :: itX set p)) (T ++ sg [44] :: itT set p) :=
      LexW.app h (LexH.app (x := [44]) (T := [sg [44]]) (LexH.sign (by decide)) (LexH.app (x := [32]) (T := []) LexH.one (lex_item (hp p (by simp)) set))) (by decide)
    have h2 := lex_items set qs h1 fun q hq => hp q (by simp [hq])
    have e1 : x ++ 44 :: (32 :: itX set p) ++ Lib.joinTail [44, 32] (qs.map (itX set)) = x ++ Lib.joinTail [44, 32] ((p :: qs).map (itX set)) := by simp [Lib.joinTail]
    have e2 : T ++ sg [44] :: itT set p ++ tailI set qs = T ++ tailI set (p :: qs) := by simp [tailI]
    rw [e1, e2] at h2
    exact h2
theorem lex_join (set : Bool) (q : Iq) (qs : List Iq) (h : ∀ k ∈ q :: qs, IqOk k) : LexW (Lib.join ((q :: qs).map (itX set)) [44, 32]) (itT set q ++ tailI set qs) := by
  rw [List.map_cons, Lib.join_cons]
  exact lex_items set qs (lex_item (h q (by simp)) set) fun k hk => h k (by simp [hk])

end Go.Proofs.YtghnkgeaocpmaaaGreatDoor.Pa
