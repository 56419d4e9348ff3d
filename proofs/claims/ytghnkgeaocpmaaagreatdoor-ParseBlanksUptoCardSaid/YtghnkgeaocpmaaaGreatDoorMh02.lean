/- Parts: PeA. -/
import Derived.Test.YtghnkgeaocpmaaaGreatDoorMh01

/- parse: places are no matter for what is read. Plain. -/
namespace Go.Proofs.YtghnkgeaocpmaaaGreatDoor.Pa
open Go.Proofs.YtghnkgeaocpmaaaGreatDoor.Lx

/-- a token without its place -/
def Tok.er (t : Tok) : Tok := ⟨t.kind, t.text, t.num, 0⟩
/-- a state without places -/
def St.er (s : St) : St := ⟨s.left.map Tok.er, 0, s.why, 0, s.steps⟩
/-- the places turned -/
def Tok.mp (g : Nat → Nat) (t : Tok) : Tok := ⟨t.kind, t.text, t.num, g t.pos⟩
def St.mp (s : St) (g : Nat → Nat) : St := ⟨s.left.map (Tok.mp g), g s.fin, s.why, g s.at_, s.steps⟩

section
variable {g : Nat → Nat}

theorem er_why (s : St) : (s.mp g).why = s.why := rfl
theorem er_steps (s : St) : (s.mp g).steps = s.steps := rfl
theorem er_left (s : St) : (s.mp g).left = s.left.map (Tok.mp g) := rfl
theorem er_place (s : St) : (s.mp g).place = g s.place := by
  unfold St.place St.mp
  cases s.left <;> rfl
theorem er_fail (s : St) (y a : Nat) : ((s.fail y a).mp g) = (s.mp g).fail y (g a) := by
  unfold St.fail
  rw [er_why]
  split <;> rfl
theorem er_next (s : St) (k : Nat) (x : List Txt) : (s.mp g).next k x = s.next k x := by
  unfold St.next
  rw [er_left]
  cases s.left <;> rfl
theorem er_drop (s : St) : (s.drop.mp g) = (s.mp g).drop := by
  unfold St.drop St.mp
  simp [List.map_tail]
theorem er_headT (s : St) : (s.mp g).head.text = s.head.text := by
  unfold St.head
  rw [er_left]
  cases s.left <;> rfl
theorem er_headN (s : St) : (s.mp g).head.num = s.head.num := by
  unfold St.head
  rw [er_left]
  cases s.left <;> rfl
theorem er_nameT (s : St) : (s.mp g).nameT = s.nameT := by
  unfold St.nameT St.taken
  rw [er_next]
  split
  · rw [er_headT]
  · rfl
theorem er_after (s : St) (k : Nat) (x : List Txt) : ((s.after k x).mp g) = (s.mp g).after k x := by
  unfold St.after
  rw [er_next]
  split
  · exact er_drop s
  · rfl
theorem er_bad (s : St) : (s.bad.mp g) = (s.mp g).bad := by unfold St.bad; rw [er_fail, er_place]
theorem er_deep (s : St) : (s.deep.mp g) = (s.mp g).deep := by unfold St.deep; rw [er_fail, er_place]
theorem er_need (s : St) (k : Nat) (x : List Txt) : ((s.need k x).mp g) = (s.mp g).need k x := by
  unfold St.need
  rw [er_next]
  split
  · exact er_drop s
  · exact er_bad s
theorem er_sign (s : St) (x : Txt) : ((s.sign x).mp g) = (s.mp g).sign x := er_need _ _ _
theorem er_name (s : St) : (s.name.mp g) = (s.mp g).name := er_need _ _ _
theorem er_keys : ∀ (xs : List Txt) (s : St), ((s.keys xs).mp g) = (s.mp g).keys xs
  | [], _ => rfl
  | x :: xs, s => by
    show (((s.need 2 [x]).keys xs).mp g) = ((s.mp g).need 2 [x]).keys xs
    rw [er_keys xs, er_need]
theorem er_many (s : St) : (s.many.mp g) = (s.mp g).many := by
  unfold St.many
  rw [er_why, er_steps]
  split
  · rw [er_fail, er_place]
  · rfl
theorem er_put (s : St) (x : Stp) : ((s.put x).mp g) = (s.mp g).put x := by
  unfold St.put
  rw [← er_many, er_why]
  split <;> rfl
theorem er_ite {c : Prop} [Decidable c] (a b : St) : ((if c then a else b).mp g) = if c then (a.mp g) else (b.mp g) := by split <;> rfl

/-- a reader that looks at no place -/
def Blind (g : Nat → Nat) (f : St → Option St) : Prop := ∀ s, f (s.mp g) = (f s).map (fun s : St => s.mp g)

theorem rowL_blind {one : St → Option St} (h : Blind g one) (k : Nat) (texts : List Txt) : ∀ m : Nat, Blind g (rowL one k texts m)
  | 0, _ => rfl
  | m + 1, s => by
    rw [rowL, rowL, er_next]
    split
    · rw [← er_drop, h, Option.bind_map, Option.map_bind]
      congr 1
      funext s'
      simp only [Function.comp_apply]
      rw [er_headT, ← er_put, rowL_blind h k texts m]
    · rfl
theorem row_blind {one : St → Option St} (h : Blind g one) (k : Nat) (texts : List Txt) (n : Nat) : Blind g (row one k texts n) := fun s => by
  unfold row
  rw [h, Option.bind_map, Option.map_bind]
  congr 1
  funext s'
  exact rowL_blind h k texts n s'
theorem aheadF_blind {other : Nat → St → Option St} (h : ∀ d, Blind g (other d)) (k : Nat) (text : Txt) (step : Nat) : ∀ m d : Nat, Blind g (aheadF k text step other m d)
  | 0, _, _ => rfl
  | m + 1, d, s => by
    rw [aheadF, aheadF, er_next]
    split
    · split
      · rw [← er_deep]; rfl
      · rw [← er_drop, aheadF_blind h k text step m (d + 1), Option.bind_map, Option.map_bind]
        congr 1
        funext s'
        simp only [Function.comp_apply, Option.map_some, ← er_put]
    · exact h d s
theorem partN_er (x : Stp) (l : List Txt) (s : St) : partN x l (s.mp g) = ((partN x l s).1, (partN x l s).2.mp g) := by
  unfold partN
  split
  · simp only [er_nameT]
    congr 1
    rw [er_sign, er_ite, er_name, er_fail, er_name, er_place]
  · rfl
theorem partsL_blind {or_ : St → Option St} (h : Blind g or_) (end_ : Txt) : ∀ (m : Nat) (x : Stp) (l : List Txt), Blind g (partsL or_ end_ m x l)
  | 0, _, _, _ => rfl
  | m + 1, x, l, s => by
    rw [partsL, partsL, er_why]
    split
    · split
      · rw [er_place, ← er_fail s 3 s.place]; rfl
      · rw [partN_er]
        simp only
        rw [h, Option.bind_map, Option.map_bind]
        congr 1
        funext s'
        simp only [Function.comp_apply]
        unfold partsB
        rw [er_why, er_next]
        split
        · split
          · rw [← er_drop, ← er_put]; rfl
          · rw [← er_sign]
            exact partsL_blind h end_ m _ _ _
        · rfl
    · rfl
theorem parts_blind {or_ : St → Option St} (h : Blind g or_) (n : Nat) (x : Stp) (end_ : Txt) : Blind g (parts or_ n x end_) := fun s => by
  unfold parts
  rw [er_next]
  split
  · rw [← er_drop, ← er_put]; rfl
  · exact partsL_blind h end_ n x [] s
theorem pathL_er : ∀ (m : Nat) (x : Txt) (s : St), pathL m x (s.mp g) = (pathL m x s).map fun r => (r.1, (r.2.mp g))
  | 0, _, _ => rfl
  | m + 1, x, s => by
    rw [pathL, pathL, er_next]
    split
    · rw [← er_drop, er_next]
      split
      · rw [er_headN, ← er_drop, pathL_er m]
      · rw [er_nameT, ← er_name, pathL_er m]
    · rfl
theorem path_blind (n : Nat) : Blind g (path n) := fun s => by
  unfold path
  rw [er_nameT, ← er_name, pathL_er, Option.map_map, Option.map_map]
  congr 1
  funext r
  simp only [Function.comp_apply, ← er_put]
theorem nestThen_er {d : Nat} {go : St → Option St} (h : Blind g go) (s : St) : nestThen d (s.mp g) go = (nestThen d s go).map (fun s : St => s.mp g) := by
  unfold nestThen
  split
  · rw [← er_deep]; rfl
  · rw [← er_drop, h]
theorem primary_blind {or_ : Nat → St → Option St} (h : ∀ d, Blind g (or_ d)) (n d : Nat) : Blind g (primary or_ n d) := fun s => by
  unfold primary
  simp only [er_next]
  split
  · rw [er_headN, ← er_drop, ← er_put]; rfl
  · split
    · rw [er_headT, ← er_drop, ← er_put]; rfl
    · split
      · exact path_blind n s
      · split
        · rw [er_headT, ← er_drop, ← er_put]; rfl
        · split
          · refine nestThen_er (fun s => ?_) s
            simp only [h (d + 1) s, Option.bind_map, Option.map_bind]
            congr 1
            funext s'
            simp only [Function.comp_apply, Option.map_some, ← er_sign]
          · split
            · exact nestThen_er (parts_blind (h (d + 1)) n _ _) s
            · split
              · exact nestThen_er (parts_blind (h (d + 1)) n _ _) s
              · rw [← er_bad]; rfl
theorem isNull_er (s : St) : isNull (s.mp g) = ((isNull s).mp g) := by
  unfold isNull
  simp only [er_next, ← er_drop, ← er_after, ← er_keys, ← er_put, er_ite]
theorem orE_blind {or_ : Nat → St → Option St} (h : ∀ d, Blind g (or_ d)) (n d : Nat) : Blind g (orE or_ n d) := by
  refine row_blind (row_blind (aheadF_blind (fun d => ?_) _ _ _ _ _) _ _ _) _ _ _
  have hs : Blind g (sum or_ n d) := row_blind (row_blind (aheadF_blind (fun d => primary_blind h n d) _ _ _ _ _) _ _ _) _ _ _
  intro s
  unfold compared
  rw [hs, Option.bind_map, Option.map_bind]
  congr 1
  funext s'
  simp only [Function.comp_apply, er_next]
  split
  · rw [← er_drop, hs, Option.bind_map, Option.map_bind]
    congr 1
    funext s''
    simp only [Function.comp_apply, Option.map_some, er_headT, ← er_put]
  · rw [isNull_er]; rfl
theorem orF_blind : ∀ n d : Nat, Blind g (orF n d)
  | 0, _, _ => rfl
  | n + 1, d, s => orE_blind (orF_blind n) n d s
theorem expr_blind (n : Nat) : Blind g (expr n) := fun s => orF_blind n 0 { s with steps := [] }

theorem itemF_er (n : Nat) (set : Bool) (names : List Txt) (s : St) : itemF n set names (s.mp g) = (itemF n set names s).map fun r => (r.1, (r.2.mp g)) := by
  unfold itemF
  split
  · simp only [er_nameT]
    have e : (if (names ++ [s.nameT]).Nodup then (s.mp g).name else (s.mp g).name.fail 18 (s.mp g).place) = ((if (names ++ [s.nameT]).Nodup then s.name else s.name.fail 18 s.place).mp g) := by
      rw [er_ite, er_name, er_fail, er_name, er_place]
    rw [e, ← er_sign, expr_blind, Option.bind_map, Option.map_bind]
    rfl
  · rw [expr_blind, Option.bind_map, Option.map_bind]
    congr 1
    funext s1
    simp only [Function.comp_apply, Option.map_some, ← er_keys, er_nameT, er_steps]
    rw [er_ite, er_name, er_fail, er_name, er_place]
theorem itemsL_er (m : Nat) (set : Bool) : ∀ (n : Nat) (out : List Itm) (s : St), itemsL m set n out (s.mp g) = (itemsL m set n out s).map fun r => (r.1, (r.2.mp g))
  | 0, _, _ => rfl
  | n + 1, out, s => by
    rw [itemsL, itemsL, er_why]
    split
    · split
      · rw [er_place, ← er_fail s 3 s.place]; rfl
      · rw [itemF_er, Option.bind_map, Option.map_bind]
        congr 1
        funext r
        simp only [Function.comp_apply, er_next]
        split
        · rw [← er_drop, itemsL_er m set n]
        · rfl
    · rfl
theorem items_er (n : Nat) (set : Bool) (s : St) : items n set (s.mp g) = (items n set s).map fun r => (r.1, (r.2.mp g)) := itemsL_er n set n [] s
theorem where_er (n : Nat) (s : St) : where_ n (s.mp g) = (where_ n s).map fun r => (r.1, (r.2.mp g)) := by
  unfold where_
  rw [er_next]
  split
  · rw [← er_drop, expr_blind, Option.bind_map, Option.map_bind]
    rfl
  · rfl
theorem fromT_er (s : St) : fromT (s.mp g) = ((fromT s).1, (fromT s).2.1, (fromT s).2.2.mp g) := by
  unfold fromT
  rw [er_next]
  split
  · simp only [← er_drop, ← er_sign, er_nameT, ← er_name]
  · simp only [er_nameT, ← er_name]
theorem orderT_er (s : St) : orderT (s.mp g) = ((orderT s).1, (orderT s).2.1, (orderT s).2.2.mp g) := by
  unfold orderT
  rw [er_next]
  split
  · simp only [← er_drop, ← er_keys, er_nameT, ← er_name, er_next, ← er_after]
  · rfl
theorem what_er (n : Nat) (s : St) : what n (s.mp g) = (what n s).map fun r => (r.1, (r.2.mp g)) := by
  unfold what
  rw [er_next]
  split
  · rw [← er_drop]; rfl
  · exact items_er n false s
theorem picked_er (n : Nat) (s : St) : picked n (s.mp g) = (picked n s).map fun r => (r.1, (r.2.mp g)) := by
  unfold picked
  rw [what_er, Option.bind_map, Option.map_bind]
  congr 1
  funext r
  simp only [Function.comp_apply, ← er_keys, fromT_er]
  rw [where_er, Option.bind_map, Option.map_bind]
  congr 1
  funext w
  simp only [Function.comp_apply, orderT_er, Option.map_some]
theorem stmt_er (n : Nat) (s : St) : stmt n (s.mp g) = (stmt n s).map fun r => (r.1, (r.2.mp g)) := by
  unfold stmt
  simp only [er_next, ← er_drop]
  split
  · split
    · simp only [er_nameT, ← er_name, Option.map_some]
    · simp only [er_nameT, ← er_name, ← er_keys, ← er_sign, Option.map_some]
  · split
    · simp only [← er_keys, er_nameT, ← er_name, expr_blind _ _, Option.bind_map, Option.map_bind]
      rfl
    · split
      · simp only [er_nameT, ← er_name, ← er_keys, items_er, Option.bind_map, Option.map_bind]
        congr 1
        funext r
        simp only [Function.comp_apply, where_er, Option.bind_map, Option.map_bind]
        rfl
      · split
        · simp only [← er_keys, er_nameT, ← er_name, where_er, Option.bind_map, Option.map_bind]
          rfl
        · split
          · exact picked_er n s.drop
          · rw [← er_bad]; rfl
theorem ended_er (s : St) : (s.mp g).ended = (s.ended.mp g) := by
  unfold St.ended
  rw [er_ite, er_bad, er_left]
  simp

end

/-- what is read, the places turned -/
def Rs.mp (r : Rs) (g : Nat → Nat) : Rs := match r with
  | .ok x => .ok x
  | .err e a => .err e (g a)
theorem finish_mp {g : Nat → Nat} (h0 : g 0 = 0) (x : Stm) (s : St) : finish x (s.mp g) = (finish x s).mp g := by
  unfold finish
  rw [er_why]
  split
  · rfl
  · split
    · rfl
    · simp only [Rs.mp, h0]
/-- what tokens are read as -/
def readT (n : Nat) (toks : List Tok) (fin : Nat) : Option Rs := (stmt n (st0 toks fin)).bind fun r => some (finish r.1 r.2.ended)
theorem readT_mp {g : Nat → Nat} (h0 : g 0 = 0) (n : Nat) (toks : List Tok) (fin : Nat) : readT n (toks.map (Tok.mp g)) (g fin) = (readT n toks fin).map fun r => r.mp g := by
  unfold readT
  have e : st0 (toks.map (Tok.mp g)) (g fin) = (st0 toks fin).mp g := by unfold st0 St.mp; simp only [h0]
  rw [e, stmt_er, Option.bind_map, Option.map_bind]
  congr 1
  funext r
  simp only [Function.comp_apply, Option.map_some, ended_er, finish_mp h0]
/-- what is read, without places -/
def Rs.er : Rs → Rs
  | .ok x => .ok x
  | .err e _ => .err e 0
theorem Rs.er_mp (r : Rs) : r.er = r.mp fun _ => 0 := by cases r <;> rfl
theorem readT_er (n : Nat) (toks : List Tok) (fin : Nat) : readT n (toks.map Tok.er) 0 = (readT n toks fin).map Rs.er := by
  have h := readT_mp (g := fun _ => 0) rfl n toks fin
  rw [show (fun r : Rs => r.mp fun _ => 0) = Rs.er from funext fun r => (Rs.er_mp r).symm] at h
  exact h
theorem parseF_ok {n : Nat} {l : Txt} {toks : List Tok} (h : lexL l = .ok toks) : parseF n l = readT n toks l.length := by
  unfold parseF readT; rw [h]
/-- the same tokens, at other places: the same is read -/
theorem parseF_same {n : Nat} {l m : Txt} {a b : List Tok} (hl : lexL l = .ok a) (hm : lexL m = .ok b) (he : a.map Tok.er = b.map Tok.er) : (parseF n l).map Rs.er = (parseF n m).map Rs.er := by
  rw [parseF_ok hl, parseF_ok hm, ← readT_er, ← readT_er, he]
theorem er_ok {r : Rs} {x : Stm} (h : r.er = .ok x) : r = .ok x := by
  cases r with
  | ok y => exact h
  | err _ _ => cases h
theorem er_err {r : Rs} {e : Nat} (h : r.er = .err e 0) : ∃ a, r = .err e a := by
  cases r with
  | ok y => cases h
  | err c a =>
    simp only [Rs.er, Rs.err.injEq, and_true] at h
    exact ⟨a, by rw [h]⟩

/-- an error's place is one of the text -/
theorem readT_place {n N : Nat} {toks : List Tok} {fin e a : Nat} (ht : ∀ t ∈ toks, t.pos ≤ N) (hf : fin ≤ N) (h : readT n toks fin = some (.err e a)) : a ≤ N := by
  have hm := readT_mp (g := fun p => min p N) (by simp) n toks fin
  have e1 : toks.map (Tok.mp fun p => min p N) = toks := by
    conv => rhs; rw [← List.map_id toks]
    exact List.map_congr_left fun t h => by
      have := ht t h
      unfold Tok.mp
      simp only [Nat.min_eq_left this]
      rfl
  simp only [Nat.min_eq_left hf] at hm
  rw [e1, h, Option.map_some, Option.some.injEq] at hm
  simp only [Rs.mp, Rs.err.injEq, true_and] at hm
  omega
theorem lexF_err_place : ∀ (k a : Nat) (l : List UInt8) {e p : Nat}, lexF k a l = .err e p → p ≤ a + l.length
  | 0, _, _, _, _, h => by simp [lexF] at h
  | k + 1, a, l, e, p, h => by
    have hr := runN_le blankB l
    rw [lexF] at h
    cases hd : l.drop (Lx.runN blankB l) with
    | nil => rw [hd] at h; simp at h
    | cons c r =>
      have hlen : (c :: r).length = l.length - Lx.runN blankB l := by rw [← hd, List.length_drop]
      rw [hd] at h
      simp only at h
      cases hn : nextR (c :: r) with
      | err e' =>
        rw [hn] at h
        simp only [Lx.err.injEq] at h
        omega
      | ok t n =>
        have hn' := nextR_le hn
        rw [hn] at h
        simp only at h
        cases hf : lexF k (a + Lx.runN blankB l + n) ((c :: r).drop n) with
        | ok l' => rw [hf] at h; simp [Lx.cons] at h
        | err e' p' =>
          have := lexF_err_place k _ _ hf
          rw [hf] at h
          simp only [Lx.cons, Lx.err.injEq] at h
          rw [List.length_drop] at this
          omega
theorem lexL_err_place {l : List UInt8} {e p : Nat} (h : lexL l = .err e p) : p ≤ l.length := by
  unfold lexL at h
  split at h
  · simp only [Lx.err.injEq] at h; omega
  · have := lexF_err_place _ _ _ h; omega
theorem parseF_place {n : Nat} {l : Txt} {e a : Nat} (h : parseF n l = some (.err e a)) : a ≤ l.length := by
  cases hl : lexL l with
  | err c p =>
    unfold parseF at h
    rw [hl] at h
    simp only [Option.some.injEq, Rs.err.injEq] at h
    rw [← h.2]
    exact lexL_err_place hl
  | ok toks =>
    rw [parseF_ok hl] at h
    refine readT_place (fun t ht => ?_) (Nat.le_refl _) h
    obtain ⟨i, hi, rfl⟩ := List.getElem_of_mem ht
    have := (places hl i hi).lt
    omega

end Go.Proofs.YtghnkgeaocpmaaaGreatDoor.Pa
