/- Parts: PhQ PeA PhP PeB PfH. -/
import Derived.Test.YtcjmhmmjfgjcnaaGreatDoorMh10
import Derived.Test.YtcjmhmmjfgjcnaaGreatDoorMh11
import Derived.Test.YtcjmhmmjfgjcnaaGreatDoorMh12
import Derived.Test.YtcjmhmmjfgjcnaaGreatDoorMh13

/- begins. -/
namespace Go.Proofs.YtcjmhmmjfgjcnaaGreatDoor.Sh
open Go.RowKit Go.Proofs.YtcjmhmmjfgjcnaaGreatDoor.Lx

theorem hex_bytes : hex (sum []) = [101, 51, 98, 48, 99, 52, 52, 50, 57, 56, 102, 99, 49, 99, 49, 52, 57, 97, 102, 98, 102, 52, 99, 56, 57, 57, 54, 102, 98, 57, 50, 52, 50, 55, 97, 101, 52, 49, 101, 52, 54, 52, 57, 98, 57, 51, 52, 99, 97, 52, 57, 53, 57, 57, 49, 98, 55, 56, 53, 50, 98, 56, 53, 53] := by rw [sum_nil]; decide +kernel
theorem sum_size : (sum []).length = 32 := by rw [sum_nil]; rfl
set_option maxHeartbeats 1000000 in
set_option maxRecDepth 100000 in
theorem begins_calls (w : World) (hc : KC w) : Calls Tryz.prog 11 #[] w fun e w' => e = .returned (.bool true) ∧ Below w.heap.size w w' := by
  have HS := Lib.hid (Sum_calls ⟨#[]⟩ w (by decide) hc)
  have eL : L ⟨#[]⟩ = [] := rfl
  rw [eL] at HS
  have Hx := Lib.hid (fun w2 => Hex_calls ⟨(sum []).toArray⟩ w2 (by rw [size_mk, sum_size]; decide) (by rw [size_mk, sum_size]; decide))
  rw [L_mk, hex_bytes] at Hx
  have Hc := Lib.hid (fun w2 => Count_zero w2)
  clear hc eL
  generalize sum [] = d at *
  go_enter Tryz.func11, Tryz.ntmps11
  go_wp2_with fail
  refine HS.out.mono ?_
  rintro e w2 ⟨rfl, hb2⟩
  have Hb2 := Lib.hid hb2
  clear hb2
  go_wp2_with fail
  refine (Hx.out _).mono ?_
  rintro e w3 ⟨rfl, hb3⟩
  have Hb3 := Lib.hid (Hb2.out.trans (hb3.mono Hb2.out.size))
  clear hb3
  go_wp2_with fail
  refine (Hc.out _).mono ?_
  rintro e w4 ⟨rfl, hb4⟩
  have Hb4 := Lib.hid (Hb3.out.trans (hb4.mono Hb3.out.size))
  clear hb4
  go_wp2_with fail
  go_ret
  exact ⟨rfl, Hb4.out⟩

end Go.Proofs.YtcjmhmmjfgjcnaaGreatDoor.Sh

/- parse: places are no matter for what is read. Plain. -/
namespace Go.Proofs.YtcjmhmmjfgjcnaaGreatDoor.Pa
open Go.Proofs.YtcjmhmmjfgjcnaaGreatDoor.Lx

def Tok.er (t : Tok) : Tok := ⟨t.kind, t.text, t.num, 0⟩
def St.er (s : St) : St := ⟨s.left.map Tok.er, 0, s.why, 0, s.steps⟩
def Tok.mp (g : Nat → Nat) (t : Tok) : Tok := ⟨t.kind, t.text, t.num, g t.pos⟩
def St.mp (s : St) (g : Nat → Nat) : St := ⟨s.left.map (Tok.mp g), g s.fin, s.why, g s.at_, s.steps⟩

section
variable {g : Nat → Nat}

theorem er_why (s : St) : (s.mp g).why = s.why := rfl
theorem er_steps (s : St) : (s.mp g).steps = s.steps := rfl
theorem er_left (s : St) : (s.mp g).left = s.left.map (Tok.mp g) := rfl
theorem er_place (s : St) : (s.mp g).place = g s.place := by
  unfold St.place St.mp
  cases s.left <;> rfl
theorem er_fail (s : St) (y a : Nat) : ((s.fail y a).mp g) = (s.mp g).fail y (g a) := by
  unfold St.fail
  rw [er_why]
  split <;> rfl
theorem er_next (s : St) (k : Nat) (x : List Txt) : (s.mp g).next k x = s.next k x := by
  unfold St.next
  rw [er_left]
  cases s.left <;> rfl
theorem er_drop (s : St) : (s.drop.mp g) = (s.mp g).drop := by
  unfold St.drop St.mp
  simp [List.map_tail]
theorem er_headT (s : St) : (s.mp g).head.text = s.head.text := by
  unfold St.head
  rw [er_left]
  cases s.left <;> rfl
theorem er_headN (s : St) : (s.mp g).head.num = s.head.num := by
  unfold St.head
  rw [er_left]
  cases s.left <;> rfl
theorem er_nameT (s : St) : (s.mp g).nameT = s.nameT := by
  unfold St.nameT St.taken
  rw [er_next]
  split
  · rw [er_headT]
  · rfl
theorem er_after (s : St) (k : Nat) (x : List Txt) : ((s.after k x).mp g) = (s.mp g).after k x := by
  unfold St.after
  rw [er_next]
  split
  · exact er_drop s
  · rfl
theorem er_bad (s : St) : (s.bad.mp g) = (s.mp g).bad := by unfold St.bad; rw [er_fail, er_place]
theorem er_deep (s : St) : (s.deep.mp g) = (s.mp g).deep := by unfold St.deep; rw [er_fail, er_place]
theorem er_need (s : St) (k : Nat) (x : List Txt) : ((s.need k x).mp g) = (s.mp g).need k x := by
  unfold St.need
  rw [er_next]
  split
  · exact er_drop s
  · exact er_bad s
theorem er_sign (s : St) (x : Txt) : ((s.sign x).mp g) = (s.mp g).sign x := er_need _ _ _
theorem er_name (s : St) : (s.name.mp g) = (s.mp g).name := er_need _ _ _
theorem er_keys : ∀ (xs : List Txt) (s : St), ((s.keys xs).mp g) = (s.mp g).keys xs
  | [], _ => rfl
  | x :: xs, s => by
    show (((s.need 2 [x]).keys xs).mp g) = ((s.mp g).need 2 [x]).keys xs
    rw [er_keys xs, er_need]
theorem er_many (s : St) : (s.many.mp g) = (s.mp g).many := by
  unfold St.many
  rw [er_why, er_steps]
  split
  · rw [er_fail, er_place]
  · rfl
theorem er_put (s : St) (x : Stp) : ((s.put x).mp g) = (s.mp g).put x := by
  unfold St.put
  rw [← er_many, er_why]
  split <;> rfl
theorem er_ite {c : Prop} [Decidable c] (a b : St) : ((if c then a else b).mp g) = if c then (a.mp g) else (b.mp g) := by split <;> rfl

def Blind (g : Nat → Nat) (f : St → Option St) : Prop := ∀ s, f (s.mp g) = (f s).map (fun s : St => s.mp g)

theorem rowL_blind {one : St → Option St} (h : Blind g one) (k : Nat) (texts : List Txt) : ∀ m : Nat, Blind g (rowL one k texts m)
  | 0, _ => rfl
  | m + 1, s => by
    rw [rowL, rowL, er_next]
    split
    · rw [← er_drop, h, Option.bind_map, Option.map_bind]
      congr 1
      funext s'
      simp only [Function.comp_apply]
      rw [er_headT, ← er_put, rowL_blind h k texts m]
    · rfl
theorem row_blind {one : St → Option St} (h : Blind g one) (k : Nat) (texts : List Txt) (n : Nat) : Blind g (row one k texts n) := fun s => by
  unfold row
  rw [h, Option.bind_map, Option.map_bind]
  congr 1
  funext s'
  exact rowL_blind h k texts n s'
theorem aheadF_blind {other : Nat → St → Option St} (h : ∀ d, Blind g (other d)) (k : Nat) (text : Txt) (step : Nat) : ∀ m d : Nat, Blind g (aheadF k text step other m d)
  | 0, _, _ => rfl
  | m + 1, d, s => by
    rw [aheadF, aheadF, er_next]
    split
    · split
      · rw [← er_deep]; rfl
      · rw [← er_drop, aheadF_blind h k text step m (d + 1), Option.bind_map, Option.map_bind]
        congr 1
        funext s'
        simp only [Function.comp_apply, Option.map_some, ← er_put]
    · exact h d s
theorem partN_er (x : Stp) (l : List Txt) (s : St) : partN x l (s.mp g) = ((partN x l s).1, (partN x l s).2.mp g) := by
  unfold partN
  split
  · simp only [er_nameT]
    congr 1
    rw [er_sign, er_ite, er_name, er_fail, er_name, er_place]
  · rfl
theorem partsL_blind {or_ : St → Option St} (h : Blind g or_) (end_ : Txt) : ∀ (m : Nat) (x : Stp) (l : List Txt), Blind g (partsL or_ end_ m x l)
  | 0, _, _, _ => rfl
  | m + 1, x, l, s => by
    rw [partsL, partsL, er_why]
    split
    · split
      · rw [er_place, ← er_fail s 3 s.place]; rfl
      · rw [partN_er]
        simp only
        rw [h, Option.bind_map, Option.map_bind]
        congr 1
        funext s'
        simp only [Function.comp_apply]
        unfold partsB
        rw [er_why, er_next]
        split
        · split
          · rw [← er_drop, ← er_put]; rfl
          · rw [← er_sign]
            exact partsL_blind h end_ m _ _ _
        · rfl
    · rfl
theorem parts_blind {or_ : St → Option St} (h : Blind g or_) (n : Nat) (x : Stp) (end_ : Txt) : Blind g (parts or_ n x end_) := fun s => by
  unfold parts
  rw [er_next]
  split
  · rw [← er_drop, ← er_put]; rfl
  · exact partsL_blind h end_ n x [] s
theorem pathL_er : ∀ (m : Nat) (x : Txt) (s : St), pathL m x (s.mp g) = (pathL m x s).map fun r => (r.1, (r.2.mp g))
  | 0, _, _ => rfl
  | m + 1, x, s => by
    rw [pathL, pathL, er_next]
    split
    · rw [← er_drop, er_next]
      split
      · rw [er_headN, ← er_drop, pathL_er m]
      · rw [er_nameT, ← er_name, pathL_er m]
    · rfl
theorem path_blind (n : Nat) : Blind g (path n) := fun s => by
  unfold path
  rw [er_nameT, ← er_name, pathL_er, Option.map_map, Option.map_map]
  congr 1
  funext r
  simp only [Function.comp_apply, ← er_put]
theorem nestThen_er {d : Nat} {go : St → Option St} (h : Blind g go) (s : St) : nestThen d (s.mp g) go = (nestThen d s go).map (fun s : St => s.mp g) := by
  unfold nestThen
  split
  · rw [← er_deep]; rfl
  · rw [← er_drop, h]
theorem primary_blind {or_ : Nat → St → Option St} (h : ∀ d, Blind g (or_ d)) (n d : Nat) : Blind g (primary or_ n d) := fun s => by
  unfold primary
  simp only [er_next]
  split
  · rw [er_headN, ← er_drop, ← er_put]; rfl
  · split
    · rw [er_headT, ← er_drop, ← er_put]; rfl
    · split
      · exact path_blind n s
      · split
        · rw [er_headT, ← er_drop, ← er_put]; rfl
        · split
          · refine nestThen_er (fun s => ?_) s
            simp only [h (d + 1) s, Option.bind_map, Option.map_bind]
            congr 1
            funext s'
            simp only [Function.comp_apply, Option.map_some, ← er_sign]
          · split
            · exact nestThen_er (parts_blind (h (d + 1)) n _ _) s
            · split
              · exact nestThen_er (parts_blind (h (d + 1)) n _ _) s
              · rw [← er_bad]; rfl
theorem isNull_er (s : St) : isNull (s.mp g) = ((isNull s).mp g) := by
  unfold isNull
  simp only [er_next, ← er_drop, ← er_after, ← er_keys, ← er_put, er_ite]
theorem orE_blind {or_ : Nat → St → Option St} (h : ∀ d, Blind g (or_ d)) (n d : Nat) : Blind g (orE or_ n d) := by
  refine row_blind (row_blind (aheadF_blind (fun d => ?_) _ _ _ _ _) _ _ _) _ _ _
  have hs : Blind g (sum or_ n d) := row_blind (row_blind (aheadF_blind (fun d => primary_blind h n d) _ _ _ _ _) _ _ _) _ _ _
  intro s
  unfold compared
  rw [hs, Option.bind_map, Option.map_bind]
  congr 1
  funext s'
  simp only [Function.comp_apply, er_next]
  split
  · rw [← er_drop, hs, Option.bind_map, Option.map_bind]
    congr 1
    funext s''
    simp only [Function.comp_apply, Option.map_some, er_headT, ← er_put]
  · rw [isNull_er]; rfl
theorem orF_blind : ∀ n d : Nat, Blind g (orF n d)
  | 0, _, _ => rfl
  | n + 1, d, s => orE_blind (orF_blind n) n d s
theorem expr_blind (n : Nat) : Blind g (expr n) := fun s => orF_blind n 0 { s with steps := [] }

theorem itemF_er (n : Nat) (set : Bool) (names : List Txt) (s : St) : itemF n set names (s.mp g) = (itemF n set names s).map fun r => (r.1, (r.2.mp g)) := by
  unfold itemF
  split
  · simp only [er_nameT]
    have e : (if (names ++ [s.nameT]).Nodup then (s.mp g).name else (s.mp g).name.fail 18 (s.mp g).place) = ((if (names ++ [s.nameT]).Nodup then s.name else s.name.fail 18 s.place).mp g) := by
      rw [er_ite, er_name, er_fail, er_name, er_place]
    rw [e, ← er_sign, expr_blind, Option.bind_map, Option.map_bind]
    rfl
  · rw [expr_blind, Option.bind_map, Option.map_bind]
    congr 1
    funext s1
    simp only [Function.comp_apply, Option.map_some, ← er_keys, er_nameT, er_steps]
    rw [er_ite, er_name, er_fail, er_name, er_place]
theorem itemsL_er (m : Nat) (set : Bool) : ∀ (n : Nat) (out : List Itm) (s : St), itemsL m set n out (s.mp g) = (itemsL m set n out s).map fun r => (r.1, (r.2.mp g))
  | 0, _, _ => rfl
  | n + 1, out, s => by
    rw [itemsL, itemsL, er_why]
    split
    · split
      · rw [er_place, ← er_fail s 3 s.place]; rfl
      · rw [itemF_er, Option.bind_map, Option.map_bind]
        congr 1
        funext r
        simp only [Function.comp_apply, er_next]
        split
        · rw [← er_drop, itemsL_er m set n]
        · rfl
    · rfl
theorem items_er (n : Nat) (set : Bool) (s : St) : items n set (s.mp g) = (items n set s).map fun r => (r.1, (r.2.mp g)) := itemsL_er n set n [] s
theorem where_er (n : Nat) (s : St) : where_ n (s.mp g) = (where_ n s).map fun r => (r.1, (r.2.mp g)) := by
  unfold where_
  rw [er_next]
  split
  · rw [← er_drop, expr_blind, Option.bind_map, Option.map_bind]
    rfl
  · rfl
theorem fromT_er (s : St) : fromT (s.mp g) = ((fromT s).1, (fromT s).2.1, (fromT s).2.2.mp g) := by
  unfold fromT
  rw [er_next]
  split
  · simp only [← er_drop, ← er_sign, er_nameT, ← er_name]
  · simp only [er_nameT, ← er_name]
theorem orderT_er (s : St) : orderT (s.mp g) = ((orderT s).1, (orderT s).2.1, (orderT s).2.2.mp g) := by
  unfold orderT
  rw [er_next]
  split
  · simp only [← er_drop, ← er_keys, er_nameT, ← er_name, er_next, ← er_after]
  · rfl
theorem what_er (n : Nat) (s : St) : what n (s.mp g) = (what n s).map fun r => (r.1, (r.2.mp g)) := by
  unfold what
  rw [er_next]
  split
  · rw [← er_drop]; rfl
  · exact items_er n false s
theorem picked_er (n : Nat) (s : St) : picked n (s.mp g) = (picked n s).map fun r => (r.1, (r.2.mp g)) := by
  unfold picked
  rw [what_er, Option.bind_map, Option.map_bind]
  congr 1
  funext r
  simp only [Function.comp_apply, ← er_keys, fromT_er]
  rw [where_er, Option.bind_map, Option.map_bind]
  congr 1
  funext w
  simp only [Function.comp_apply, orderT_er, Option.map_some]
theorem stmt_er (n : Nat) (s : St) : stmt n (s.mp g) = (stmt n s).map fun r => (r.1, (r.2.mp g)) := by
  unfold stmt
  simp only [er_next, ← er_drop]
  split
  · split
    · simp only [er_nameT, ← er_name, Option.map_some]
    · simp only [er_nameT, ← er_name, ← er_keys, ← er_sign, Option.map_some]
  · split
    · simp only [← er_keys, er_nameT, ← er_name, expr_blind _ _, Option.bind_map, Option.map_bind]
      rfl
    · split
      · simp only [er_nameT, ← er_name, ← er_keys, items_er, Option.bind_map, Option.map_bind]
        congr 1
        funext r
        simp only [Function.comp_apply, where_er, Option.bind_map, Option.map_bind]
        rfl
      · split
        · simp only [← er_keys, er_nameT, ← er_name, where_er, Option.bind_map, Option.map_bind]
          rfl
        · split
          · exact picked_er n s.drop
          · rw [← er_bad]; rfl
theorem ended_er (s : St) : (s.mp g).ended = (s.ended.mp g) := by
  unfold St.ended
  rw [er_ite, er_bad, er_left]
  simp

end

def Rs.mp (r : Rs) (g : Nat → Nat) : Rs := match r with
  | .ok x => .ok x
  | .err e a => .err e (g a)
theorem finish_mp {g : Nat → Nat} (h0 : g 0 = 0) (x : Stm) (s : St) : finish x (s.mp g) = (finish x s).mp g := by
  unfold finish
  rw [er_why]
  split
  · rfl
  · split
    · rfl
    · simp only [Rs.mp, h0]
def readT (n : Nat) (toks : List Tok) (fin : Nat) : Option Rs := (stmt n (st0 toks fin)).bind fun r => some (finish r.1 r.2.ended)
theorem readT_mp {g : Nat → Nat} (h0 : g 0 = 0) (n : Nat) (toks : List Tok) (fin : Nat) : readT n (toks.map (Tok.mp g)) (g fin) = (readT n toks fin).map fun r => r.mp g := by
  unfold readT
  have e : st0 (toks.map (Tok.mp g)) (g fin) = (st0 toks fin).mp g := by unfold st0 St.mp; simp only [h0]
  rw [e, stmt_er, Option.bind_map, Option.map_bind]
  congr 1
  funext r
  simp only [Function.comp_apply, Option.map_some, ended_er, finish_mp h0]
def Rs.er : Rs → Rs
  | .ok x => .ok x
  | .err e _ => .err e 0
theorem Rs.er_mp (r : Rs) : r.er = r.mp fun _ => 0 := by cases r <;> rfl
theorem readT_er (n : Nat) (toks : List Tok) (fin : Nat) : readT n (toks.map Tok.er) 0 = (readT n toks fin).map Rs.er := by
  have h := readT_mp (g := fun _ => 0) rfl n toks fin
  rw [show (fun r : Rs => r.mp fun _ => 0) = Rs.er from funext fun r => (Rs.er_mp r).symm] at h
  exact h
theorem parseF_ok {n : Nat} {l : Txt} {toks : List Tok} (h : lexL l = .ok toks) : parseF n l = readT n toks l.length := by
  unfold parseF readT; rw [h]
theorem parseF_same {n : Nat} {l m : Txt} {a b : List Tok} (hl : lexL l = .ok a) (hm : lexL m = .ok b) (he : a.map Tok.er = b.map Tok.er) : (parseF n l).map Rs.er = (parseF n m).map Rs.er := by
  rw [parseF_ok hl, parseF_ok hm, ← readT_er, ← readT_er, he]
theorem er_ok {r : Rs} {x : Stm} (h : r.er = .ok x) : r = .ok x := by
  cases r with
  | ok y => exact h
  | err _ _ => cases h
end Go.Proofs.YtcjmhmmjfgjcnaaGreatDoor.Pa

/- TopReads, plain: the tokens of a text, shown with blanks between, are read as the same statement. -/
namespace Go.Proofs.YtcjmhmmjfgjcnaaGreatDoor.Pa
open Go.Proofs.YtcjmhmmjfgjcnaaGreatDoor.Lx

theorem toks_few {s : List UInt8} {toks : List Tok} (h : lexL s = .ok toks) : toks.length ≤ 16384 := by
  have hp : ∀ (i : Nat) (hi : i < toks.length), i ≤ toks[i].pos := by
    intro i
    induction i with
    | zero => exact fun _ => Nat.zero_le _
    | succ i ih =>
      intro hi
      have h1 := (places h (i + 1) hi).rise (Nat.succ_pos i)
      have h2 := ih (by omega)
      simp only [Nat.add_sub_cancel] at h1
      omega
  have hl := (lexL_len h).1
  by_cases h0 : toks.length = 0
  · omega
  · have h1 := hp (toks.length - 1) (by omega)
    have h2 := (places h (toks.length - 1) (by omega)).lt
    omega
theorem reads_law {n : Nat} {l m : Txt} {toks want : List Tok} {x : Stm} (hl : lexL l = .ok toks) (hm : Trail m want) (hlen : m.length ≤ 16384) (he : want.map Tok.er = toks.map Tok.er) (h : parseF n l = some (.ok x)) : parseF n m = some (.ok x) := by
  have hs := parseF_same (n := n) hl (hm.lex hlen) he.symm
  rw [h] at hs
  cases hp : parseF n m with
  | none => rw [hp] at hs; cases hs
  | some r =>
    rw [hp] at hs
    simp only [Option.map_some, Option.some.injEq] at hs
    rw [er_ok hs.symm]

end Go.Proofs.YtcjmhmmjfgjcnaaGreatDoor.Pa

/- parse: how the pieces of a printed text are read as tokens. Plain. -/
namespace Go.Proofs.YtcjmhmmjfgjcnaaGreatDoor.Pa
open Go.Proofs.YtcjmhmmjfgjcnaaGreatDoor.Lx

def kw (x : Txt) : Tok := ⟨2, x, 0, 0⟩
def sg (x : Txt) : Tok := ⟨5, x, 0, 0⟩
def wd (x : Txt) : Tok := ⟨1, x, 0, 0⟩
def nm (n : Int) : Tok := ⟨3, [], n, 0⟩
def tx (x : Txt) : Tok := ⟨4, x, 0, 0⟩

def softL : List UInt8 := [32, 40, 41, 93, 125, 44, 58, 46]
def Soft (y : Txt) : Prop := y = [] ∨ ∃ c r, y = c :: r ∧ c ∈ softL
theorem soft_word : ∀ c ∈ softL, wordB c = false := by decide +kernel
theorem soft_letter : ∀ c ∈ softL, letterB c = false := by decide +kernel
theorem soft_digit : ∀ c ∈ softL, digitB c = false := by decide +kernel
theorem soft_quote : ∀ c ∈ softL, c ≠ 39 := by decide +kernel
theorem Soft.cons {c : UInt8} (h : c ∈ softL) (r z : Txt) : Soft (c :: r ++ z) := .inr ⟨c, r ++ z, rfl, h⟩
theorem Soft.run {p : UInt8 → Bool} (hp : ∀ c ∈ softL, p c = false) {y : Txt} (h : Soft y) : Lx.runN p y = 0 := by
  rcases h with rfl | ⟨c, r, rfl, hc⟩
  · rfl
  · exact runN_zero p c r (hp c hc)

def LexP (P : Txt → Prop) (x : Txt) (T : List Tok) : Prop := ∀ (p : Nat) (y : Txt), P y → ∃ T', T'.map Tok.er = T ∧ lexS p (x ++ y) = (lexS (p + x.length) y).app T'
abbrev LexH (x : Txt) (T : List Tok) : Prop := LexP (fun _ => True) x T
abbrev LexW (x : Txt) (T : List Tok) : Prop := LexP Soft x T
theorem LexP.app {P Q : Txt → Prop} {x y : Txt} {T U : List Tok} (h : LexP P x T) (h2 : LexP Q y U) (hs : ∀ z, Q z → P (y ++ z)) : LexP Q (x ++ y) (T ++ U) := by
  intro p z hz
  obtain ⟨U', hU, e2⟩ := h2 (p + x.length) z hz
  obtain ⟨T', hT, e1⟩ := h p (y ++ z) (hs z hz)
  refine ⟨T' ++ U', by rw [List.map_append, hT, hU], ?_⟩
  rw [List.append_assoc, e1, e2, Lx.app_app, List.length_append, Nat.add_assoc]
theorem LexP.to {P Q : Txt → Prop} {x : Txt} {T : List Tok} (h : LexP P x T) (hq : ∀ z, Q z → P z) : LexP Q x T := fun p y hy => h p y (hq y hy)
theorem LexH.any {P : Txt → Prop} {x : Txt} {T : List Tok} (h : LexH x T) : LexP P x T := h.to fun _ _ => trivial
theorem LexH.app {Q : Txt → Prop} {x y : Txt} {T U : List Tok} (h : LexH x T) (h2 : LexP Q y U) : LexP Q (x ++ y) (T ++ U) := LexP.app h h2 fun _ _ => trivial
theorem LexW.app {Q : Txt → Prop} {x r : Txt} {c : UInt8} {T U : List Tok} (h : LexW x T) (h2 : LexP Q (c :: r) U) (hc : c ∈ softL) : LexP Q (x ++ c :: r) (T ++ U) :=
  LexP.app h h2 fun z _ => Soft.cons hc r z
theorem LexP.nil (P : Txt → Prop) : LexP P [] [] := fun p y _ => ⟨[], rfl, by simp only [List.nil_append, List.length_nil, Nat.add_zero]; cases lexS p y <;> rfl⟩
theorem LexH.blank {b : Txt} (hb : ∀ c ∈ b, blankB c = true) : LexH b [] := fun p y _ => ⟨[], rfl, by rw [blank_run hb]; cases lexS (p + b.length) y <;> rfl⟩
theorem LexH.one : LexH [32] [] := LexH.blank (by decide)
theorem LexP.lex {x : Txt} {T : List Tok} (h : LexW x T) (hl : x.length ≤ 16384) : ∃ toks, lexL x = .ok toks ∧ toks.map Tok.er = T := by
  obtain ⟨T', hT, e⟩ := h 0 [] (.inl rfl)
  rw [List.append_nil] at e
  refine ⟨T', ?_, hT⟩
  rw [lexL_small hl, e, lexS_blank (by rfl)]
  simp [Lx.app]

theorem er_pos {t : Tok} (h : t.pos = 0) : Tok.er t = t := by
  cases t; simp only at h; subst h; rfl
theorem er_at (t : Tok) (p : Nat) : Tok.er { t with pos := p } = Tok.er t := rfl
theorem LexP.tok {P : Txt → Prop} {x : Txt} {t : Tok} (h : ∀ y, P y → nextR (x ++ y) = .ok t x.length) : LexP P x [t] := by
  intro p y hy
  have hn := h y hy
  refine ⟨[{ t with pos := p }], by rw [List.map_cons, er_at, er_pos (next_pos hn)]; rfl, ?_⟩
  cases hx : x ++ y with
  | nil => rw [hx] at hn; simp [nextR] at hn
  | cons c r =>
    rw [hx] at hn
    have hb : blankB c = false := by
      cases hb : blankB c with
      | false => rfl
      | true => rw [blank_next hb] at hn; cases hn
    have h0 : Lx.runN blankB (c :: r) = 0 := runN_zero _ _ _ hb
    have hd : (c :: r).drop (Lx.runN blankB (c :: r)) = c :: r := by rw [h0]; rfl
    rw [lexS_ok hd hn, h0, Nat.add_zero, ← hx, List.drop_left' rfl]
    cases lexS (p + x.length) y <;> rfl
theorem LexH.gap {x : Txt} {t : Tok} (h : nextR x = .ok t x.length) : LexH (x ++ [32]) [t] := by
  have h1 : LexP (fun y => ∃ r, y = 32 :: r) x [t] := LexP.tok fun y hy => by obtain ⟨r, rfl⟩ := hy; exact nextR_app h
  have := LexP.app h1 LexH.one (fun z _ => ⟨z, rfl⟩)
  simpa using this

/-! ### words -/
structure WordOk (w : Txt) : Prop where
  first : ∃ c r, w = c :: r ∧ letterB c = true
  all : ∀ c ∈ w, wordB c = true
theorem word_run {w y : Txt} (h : WordOk w) (hy : Soft y) : Lx.runN wordB (w ++ y) = w.length ∧ nextR (w ++ y) = wordR (w ++ y) := by
  constructor
  · rw [runN_app_all (runN_all h.all), hy.run soft_word]; rfl
  · obtain ⟨c, r, rfl, hc⟩ := h.first
    rw [List.cons_append, nextR]
    simp only [hc, if_true]
theorem next_word {w y : Txt} (h : WordOk w) (hk : keywordB w = false) (hl : w.length ≤ 64) (hy : Soft y) : nextR (w ++ y) = .ok (wd w) w.length := by
  obtain ⟨h1, h2⟩ := word_run h hy
  rw [h2, wordR, h1, List.take_left' rfl, hk]
  simp only [Bool.false_eq_true, if_false]
  rw [if_neg (by omega)]
  rfl
theorem next_key {w y : Txt} (h : WordOk w) (hk : keywordB w = true) (hy : Soft y) : nextR (w ++ y) = .ok (kw (great w)) w.length := by
  obtain ⟨h1, h2⟩ := word_run h hy
  rw [h2, wordR, h1, List.take_left' rfl, hk]
  rfl
theorem word_key : ∀ x ∈ kws, (x.all wordB && (x.head?.map letterB == some true) && (great x == x)) = true := by decide +kernel
theorem kws_word {x : Txt} (h : x ∈ kws) : WordOk x ∧ keywordB x = true ∧ great x = x := by
  have := word_key x h
  simp only [Bool.and_eq_true, beq_iff_eq, List.all_eq_true] at this
  obtain ⟨⟨h1, h2⟩, h3⟩ := this
  refine ⟨⟨?_, h1⟩, ?_, h3⟩
  · cases x with
    | nil => simp at h2
    | cons c r => exact ⟨c, r, rfl, by simpa using h2⟩
  · unfold keywordB; rw [h3]; exact decide_eq_true h
theorem LexW.key {x : Txt} (h : x ∈ kws) : LexW x [kw x] := by
  obtain ⟨h1, h2, h3⟩ := kws_word h
  refine LexP.tok fun y hy => ?_
  rw [next_key h1 h2 hy, h3]
theorem LexH.key {x : Txt} (h : x ∈ kws) : LexH (x ++ [32]) [kw x] := LexH.gap (kws_next x h).1
theorem LexH.op {x : Txt} (h : x ∈ signs) : LexH (x ++ [32]) [sg x] := LexH.gap (signs_next x h).1

theorem next_one {c : UInt8} {r : Txt} {t : Tok} {n : Nat} (h : nextR (c :: r) = .ok t n) (hk : t.kind = 1) : letterB c = true ∧ n = Lx.runN wordB (c :: r) ∧ t.text = (c :: r).take n ∧ keywordB t.text = false ∧ n ≤ 64 := by
  unfold nextR at h
  simp only at h
  split at h
  · rename_i hc
    unfold wordR at h
    split at h
    · simp only [Rd.ok.injEq] at h; rw [← h.1] at hk; cases hk
    · rename_i hkw
      split at h
      · cases h
      · rename_i hl
        simp only [Rd.ok.injEq] at h
        obtain ⟨rfl, rfl⟩ := h
        exact ⟨hc, rfl, rfl, by simpa using hkw, by omega⟩
  · split at h
    · unfold numberR at h
      split at h
      · split at h
        · cases h
        · split at h
          · cases h
          · split at h
            · simp only [Rd.ok.injEq] at h; rw [← h.1] at hk; cases hk
            · cases h
      · cases h
    · split at h
      · unfold textR at h
        split at h
        · cases h
        · split at h
          · cases h
          · split at h
            · simp only [Rd.ok.injEq] at h; rw [← h.1] at hk; cases hk
            · cases h
      · unfold signR at h
        split at h
        · simp only [Rd.ok.injEq] at h; rw [← h.1] at hk; cases hk
        · cases h
theorem name_word {w : Txt} (h : nameB w = true) : WordOk w ∧ keywordB w = false ∧ w.length ≤ 64 := by
  unfold nameB showOk at h
  have h1 := of_decide_eq_true h
  rw [show showS ⟨1, w, 0, 0⟩ = w from rfl] at h1
  obtain ⟨_, h2⟩ := lexL_len h1
  cases hd : w.drop (Lx.runN blankB w) with
  | nil => rw [lexS_blank hd] at h2; cases h2
  | cons c r =>
    cases hn : nextR (c :: r) with
    | err e => rw [lexS_err hd hn] at h2; cases h2
    | ok t n =>
      rw [lexS_ok hd hn] at h2
      have ht : t.kind = 1 ∧ t.text = w := by
        cases hf : lexS (0 + Lx.runN blankB w + n) ((c :: r).drop n) with
        | err e p => rw [hf] at h2; cases h2
        | ok l =>
          rw [hf] at h2
          simp only [Lx.cons, Lx.ok.injEq, List.cons.injEq, Tok.mk.injEq] at h2
          exact ⟨h2.1.1, h2.1.2.1⟩
      obtain ⟨hc, hr, htx, hk, hl⟩ := next_one hn ht.1
      rw [ht.2] at htx hk
      have hlen : (c :: r).length = w.length - Lx.runN blankB w := by rw [← hd, List.length_drop]
      have hlt := congrArg List.length htx
      rw [List.length_take, hlen] at hlt
      have hle := runN_le blankB w
      have hpos : 0 < w.length := by
        cases w with
        | nil => simp at hd
        | cons _ _ => simp
      have h0 : Lx.runN blankB w = 0 := by omega
      rw [h0, List.drop_zero] at hd
      subst hd
      refine ⟨⟨⟨c, r, rfl, hc⟩, ?_⟩, hk, by omega⟩
      rw [htx, hr]
      exact runN_take_all wordB (c :: r)
theorem LexW.name {w : Txt} (h : nameB w = true) : LexW w [wd w] := by
  obtain ⟨h1, h2, h3⟩ := name_word h
  exact LexP.tok fun y hy => next_word h1 h2 h3 hy
/-! ### numbers, texts, signs -/
theorem next_num {n : Int} (h0 : 0 ≤ n) (h1 : n ≤ 9223372036854775807) {y : Txt} (hy : Soft y) : nextR (Lib.itoa n ++ y) = .ok (nm n) (Lib.itoa n).length := by
  obtain ⟨u, rfl⟩ : ∃ u : Nat, n = u := ⟨n.toNat, by omega⟩
  rw [Lib.itoa_nonneg]
  have hr : Lx.runN digitB (Lib.decDigits u ++ y) = (Lib.decDigits u).length := by rw [runN_app_all (runN_all (dec_digit u)), hy.run soft_digit]; rfl
  have hp := parse_dec u (by omega)
  have h10 : (Lib.decDigits u).length = 1 ∨ (Lib.decDigits u).head? ≠ some 48 := by
    by_cases hu : u < 10
    · left; rw [Lib.decDigits_length, Lib.nDigits_small hu]
    · right; exact dec_lead u (by omega)
  have hdg := dec_digit u
  have hne := decDigits_ne u
  generalize Lib.decDigits u = D at *
  cases D with
  | nil => exact absurd rfl hne
  | cons d D =>
    have hd := hdg d (by simp)
    have hd2 := digit_letter d hd
    rw [List.cons_append, nextR]
    simp only [hd2, hd, Bool.false_eq_true, if_false, if_true]
    rw [← List.cons_append]
    unfold numberR
    rw [hr, List.take_left' rfl]
    have e : Lib.parseUintB 64 (d :: D) = .ok u := by unfold Lib.parseUintB; rw [if_neg (by simp)]; exact hp
    rw [e]
    simp only
    rw [if_neg (by omega), if_neg (by rintro ⟨h1, h2⟩; rcases h10 with h3 | h3; · omega
                                      · exact h3 h2)]
    have e2 : endsB (d :: D ++ y) (d :: D).length = true := by
      unfold endsB
      rw [List.drop_left' rfl]
      rcases hy with rfl | ⟨c, r, rfl, hc⟩
      · rfl
      · simp only [soft_letter c hc, Bool.not_false]
    rw [if_pos e2]
    rfl
theorem LexW.num {n : Int} (h0 : 0 ≤ n) (h1 : n ≤ 9223372036854775807) : LexW (Lib.itoa n) [nm n] := LexP.tok fun _ hy => next_num h0 h1 hy
theorem Soft.quote {y : Txt} (h : Soft y) : y.head? ≠ some 39 := by
  rcases h with rfl | ⟨c, r, rfl, hc⟩
  · simp
  · simp only [List.head?_cons, ne_eq, Option.some.injEq]
    exact soft_quote c hc
theorem next_quote {x : Txt} (hl : x.length ≤ 1024) (hv : Lib.validD x = true) {y : Txt} (hy : Soft y) : nextR (39 :: (dbl x ++ [39]) ++ y) = .ok (tx x) (39 :: (dbl x ++ [39])).length := by
  have e1 : letterB 39 = false := by decide
  have e2 : digitB 39 = false := by decide
  have e3 : quoteB 39 = true := by decide
  rw [List.cons_append, nextR]
  simp only [e1, e2, e3, Bool.false_eq_true, if_false, if_true]
  unfold textR
  simp only [List.drop_succ_cons, List.drop_zero]
  rw [textL_app hy.quote _ (textL_dbl x)]
  simp only
  rw [if_neg (by omega), if_pos hv]
  simp [tx]
theorem textS_eq {x : Txt} (hl : x.length ≤ 1024) (hv : Lib.validD x = true) : textS x = 39 :: (dbl x ++ [39]) := by
  have hs : showS ⟨4, x, 0, 0⟩ = 39 :: (dbl x ++ [39]) := by unfold showS; simp [replaceAll_dbl]
  have hd := dbl_length x
  have hn := next_quote hl hv (y := []) (.inl rfl)
  rw [List.append_nil] at hn
  have hok : showOk ⟨4, x, 0, 0⟩ = true := by
    unfold showOk
    rw [hs, lex_one hn (by simp only [List.length_cons, List.length_append, List.length_nil]; omega)]
    exact decide_eq_true rfl
  unfold textS
  rw [if_pos hok, hs]
theorem LexW.text {x : Txt} (hl : x.length ≤ 1024) (hv : Lib.validD x = true) : LexW (textS x) [tx x] := by
  rw [textS_eq hl hv]
  exact LexP.tok fun _ hy => next_quote hl hv hy
def hardL : List UInt8 := [43, 45, 42, 40, 41, 91, 93, 123, 125, 44, 58, 46, 61]
theorem hard_none : ∀ c ∈ hardL, letterB c = false ∧ digitB c = false ∧ quoteB c = false := by decide +kernel
theorem hard_sign {c : UInt8} (h : c ∈ hardL) (y : Txt) : signR (c :: y) = .ok (sg [c]) 1 := by
  simp only [hardL, List.mem_cons, List.mem_nil_iff, or_false] at h
  rcases h with rfl | rfl | rfl | rfl | rfl | rfl | rfl | rfl | rfl | rfl | rfl | rfl | rfl <;> simp [signR, signs, Lib.hasPrefix, List.isPrefixOf, sg]
theorem LexH.sign {c : UInt8} (h : c ∈ hardL) : LexH [c] [sg [c]] := by
  refine LexP.tok fun y _ => ?_
  obtain ⟨h1, h2, h3⟩ := hard_none c h
  rw [List.cons_append, nextR]
  simp only [h1, h2, h3, Bool.false_eq_true, if_false]
  exact hard_sign h y

end Go.Proofs.YtcjmhmmjfgjcnaaGreatDoor.Pa

/- What is read is right; no error has the code 0. -/
namespace Go.Proofs.YtcjmhmmjfgjcnaaGreatDoor.Pa
open Go.RowKit Go.Proofs.YtcjmhmmjfgjcnaaGreatDoor.Lx

theorem parseF_right {n : Nat} {l : Txt} {x : Stm} (h : parseF n l = some (.ok x)) : checkB x = true := by
  cases hl : lexL l with
  | err c p => unfold parseF at h; rw [hl] at h; cases h
  | ok toks =>
    rw [parseF_ok hl] at h
    unfold readT at h
    rw [Option.bind_eq_some_iff] at h
    obtain ⟨r, _, h⟩ := h
    simp only [Option.some.injEq] at h
    unfold finish at h
    split at h
    · cases h
    · split at h
      · rename_i hc
        simp only [Rs.ok.injEq] at h
        rw [← h]; exact hc
      · cases h
end Go.Proofs.YtcjmhmmjfgjcnaaGreatDoor.Pa
