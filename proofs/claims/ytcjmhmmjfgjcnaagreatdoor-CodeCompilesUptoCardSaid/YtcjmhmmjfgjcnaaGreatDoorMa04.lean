/- Parts: QaA QaB QaD. -/
import Derived.Test.YtcjmhmmjfgjcnaaGreatDoorMa03

/- Expressions as programs over lists: plain definitions; nothing here speaks of the program. -/
namespace Go.Proofs.YtcjmhmmjfgjcnaaGreatDoor.Cd
open Go.Proofs.YtcjmhmmjfgjcnaaGreatDoor.Lx Go.Proofs.YtcjmhmmjfgjcnaaGreatDoor.Pa

/-- an instruction -/
structure Ins where
  op : Nat
  st : Stp
  to : Int
  deriving DecidableEq, Repr
def stp0 : Stp := ⟨0, [], 0⟩
def ins0 (op : Nat) : Ins := ⟨op, stp0, 0⟩
/-- an instruction whose place is counted from elsewhere -/
def shift (b : Nat) (x : Ins) : Ins := if 0 < x.to then { x with to := x.to + b } else x
def joinOne (out p : List Ins) : List Ins := out ++ p.map (shift out.length)
/-- programs behind one another -/
def joinI (ps : List (List Ins)) : List Ins := ps.foldl joinOne []
def logicI (j b : Nat) (p q : List Ins) : List Ins := joinI [p, [⟨j, stp0, q.length + 2⟩], q, [ins0 b]]
/-- the program of a step, of those of what it takes -/
def partC (s : Stp) (parts : List (List Ins)) : List Ins :=
  if s.kind = 21 then logicI 2 3 (parts.getD 0 []) (parts.getD 1 [])
  else if s.kind = 22 then logicI 4 5 (parts.getD 0 []) (parts.getD 1 [])
  else joinI parts ++ [⟨1, s, 0⟩]
def stepC (stk : List (List Ins)) (s : Stp) : List (List Ins) :=
  stk.take (stk.length - takesN s) ++ [partC s (stk.drop (stk.length - takesN s))]
/-- a right expression's program -/
def compileL (l : List Stp) : List Ins := (l.foldl stepC []).headD []

/-! ### whether one is right: how high the stack is at places that are come to -/
abbrev Hts := Nat → Option Nat
def Hts.come (hs : Hts) (i h : Nat) : Option Hts :=
  if hs i = none ∨ hs i = some h then some (fun j => if j = i then some h else hs j) else none
/-- an instruction at a place, of a program of some size -/
def stepK (N i : Nat) (x : Ins) (hs : Hts) : Option Hts :=
  match hs i with
  | none => none
  | some h =>
    if x.op = 1 then match takes x.st with
      | none => none
      | some k => if x.st.kind < 21 ∧ x.to = 0 ∧ k ≤ h then hs.come (i + 1) (h - k + 1) else none
    else if x.op = 2 ∨ x.op = 4 then
      if (i : Int) < x.to ∧ x.to ≤ (N : Int) then
        (hs.come x.to.toNat h).bind fun hs' => if x.st = stp0 ∧ 1 ≤ h then hs'.come (i + 1) (if x.op = 2 then h - 1 else h) else none
      else none
    else if x.op = 3 then if x.st = stp0 ∧ x.to = 0 ∧ 1 ≤ h then hs.come (i + 1) h else none
    else if x.op = 5 then if x.st = stp0 ∧ x.to = 0 ∧ 2 ≤ h then hs.come (i + 1) (h - 1) else none
    else none
def runK (N : Nat) : Nat → List Ins → Hts → Option Hts
  | _, [], hs => some hs
  | i, x :: r, hs => (stepK N i x hs).bind (runK N (i + 1) r)
def hs0 : Hts := fun i => if i = 0 then some 0 else none
/-- whether a program is right -/
def checkI (p : List Ins) : Bool := decide (1 ≤ p.length ∧ p.length ≤ 256) && (match runK p.length 0 p hs0 with
  | none => false
  | some hs => decide (hs p.length = some 1))

/-! ### small laws -/
theorem shift_zero (x : Ins) : shift 0 x = x := by
  unfold shift
  split
  · simp
  · rfl
theorem shift_shift (b c : Nat) (x : Ins) : shift b (shift c x) = shift (b + c) x := by
  unfold shift
  by_cases h : 0 < x.to
  · rw [if_pos h, if_pos h, if_pos (by simp only; omega)]
    simp only [Ins.mk.injEq, true_and]
    push_cast
    omega
  · rw [if_neg h, if_neg h, if_neg h]
theorem map_shift_zero (p : List Ins) : p.map (shift 0) = p := by
  rw [show shift 0 = id from funext shift_zero, List.map_id]
theorem map_shift_shift (b c : Nat) (p : List Ins) : (p.map (shift c)).map (shift b) = p.map (shift (b + c)) := by
  rw [List.map_map]
  exact List.map_congr_left fun x _ => shift_shift b c x
theorem join_from (ps : List (List Ins)) (out : List Ins) : ps.foldl joinOne out = out ++ (joinI ps).map (shift out.length) := by
  induction ps generalizing out with
  | nil => simp [joinI]
  | cons p ps ih =>
    unfold joinI
    rw [List.foldl_cons, List.foldl_cons, ih, ih (joinOne [] p)]
    unfold joinOne
    simp only [List.length_nil, List.nil_append, map_shift_zero, List.map_append, map_shift_shift, List.length_append, List.length_map, List.append_assoc]
theorem joinI_cons (p : List Ins) (ps : List (List Ins)) : joinI (p :: ps) = p ++ (joinI ps).map (shift p.length) := by
  show ps.foldl joinOne (joinOne [] p) = _
  rw [join_from]
  unfold joinOne
  simp [map_shift_zero]
theorem joinI_nil : joinI [] = [] := rfl
theorem joinI_length : ∀ ps : List (List Ins), (joinI ps).length = (ps.map List.length).sum
  | [] => rfl
  | p :: ps => by rw [joinI_cons, List.length_append, List.length_map, joinI_length ps]; simp
theorem logicI_length (j b : Nat) (p q : List Ins) : (logicI j b p q).length = p.length + q.length + 2 := by
  unfold logicI
  rw [joinI_length]
  simp
  omega
theorem runK_app (N : Nat) : ∀ (p q : List Ins) (i : Nat) (hs : Hts), runK N i (p ++ q) hs = (runK N i p hs).bind (runK N (i + p.length) q)
  | [], q, i, hs => by simp [runK]
  | x :: p, q, i, hs => by
    rw [List.cons_append, runK, runK]
    cases stepK N i x hs with
    | none => rfl
    | some hs' =>
      rw [Option.bind_some, Option.bind_some, runK_app N p q, List.length_cons]
      congr 2
      omega

/-! ### what is compiled is right -/
/-- a piece that puts some values -/
def Seg (k : Nat) (p : List Ins) : Prop := ∀ (N b h : Nat) (hs : Hts), b + p.length ≤ N → hs b = some h → (∀ i, b < i → i ≤ b + p.length → hs i = none) →
  ∃ hs', runK N b (p.map (shift b)) hs = some hs' ∧ hs' (b + p.length) = some (h + k) ∧ ∀ i, b + p.length < i → hs' i = hs i
theorem come_new {hs : Hts} {i : Nat} (h : hs i = none) (v : Nat) : hs.come i v = some (fun j => if j = i then some v else hs j) := by
  unfold Hts.come
  rw [if_pos (.inl h)]
theorem Seg.nil : Seg 0 [] := fun _ _ _ hs _ hb _ => ⟨hs, rfl, hb, fun _ _ => rfl⟩
theorem Seg.app {k m : Nat} {p q : List Ins} (hp : Seg k p) (hq : Seg m q) : Seg (k + m) (p ++ q.map (shift p.length)) := by
  intro N b h hs hN hb hfree
  simp only [List.length_append, List.length_map] at hN hfree ⊢
  obtain ⟨h1, r1, e1, f1⟩ := hp N b h hs (by omega) hb fun i h1 h2 => hfree i h1 (by omega)
  obtain ⟨h2, r2, e2, f2⟩ := hq N (b + p.length) (h + k) h1 (by omega) e1 fun i hi hi2 => by rw [f1 i hi]; exact hfree i (by omega) (by omega)
  refine ⟨h2, ?_, ?_, fun i hi => ?_⟩
  · rw [List.map_append, runK_app, r1, Option.bind_some, map_shift_shift, List.length_map]
    exact r2
  · rw [show b + (p.length + q.length) = b + p.length + q.length by omega, e2]
    congr 1
    omega
  · rw [f2 i (by omega), f1 i (by omega)]
theorem Seg.join : ∀ ps : List (List Ins), (∀ p ∈ ps, Seg 1 p) → Seg ps.length (joinI ps)
  | [], _ => Seg.nil
  | p :: ps, h => by
    rw [joinI_cons, List.length_cons, Nat.add_comm]
    exact (h p (by simp)).app (Seg.join ps fun q hq => h q (by simp [hq]))
/-- a step behind what it takes -/
theorem Seg.step {k : Nat} {p : List Ins} (hp : Seg k p) {s : Stp} (ht : takes s = some k) (hk : s.kind < 21) : Seg 1 (p ++ [⟨1, s, 0⟩]) := by
  intro N b h hs hN hb hfree
  simp only [List.length_append, List.length_cons, List.length_nil] at hN hfree ⊢
  obtain ⟨h1, r1, e1, f1⟩ := hp N b h hs (by omega) hb fun i h1 h2 => hfree i h1 (by omega)
  have hf : h1 (b + p.length + 1) = none := by rw [f1 _ (by omega)]; exact hfree _ (by omega) (by omega)
  refine ⟨fun j => if j = b + p.length + 1 then some (h + 1) else h1 j, ?_, ?_, fun i hi => ?_⟩
  · have hst : stepK N (b + p.length) ⟨1, s, 0⟩ h1 = some (fun j => if j = b + p.length + 1 then some (h + 1) else h1 j) := by
      unfold stepK
      rw [e1]
      simp only [ht, if_true]
      rw [if_pos ⟨hk, trivial, by omega⟩, come_new hf, show h + k - k + 1 = h + 1 by omega]
    rw [List.map_append, runK_app, r1, Option.bind_some, List.length_map]
    show runK N (b + p.length) [shift b ⟨1, s, 0⟩] h1 = _
    rw [show shift b ⟨1, s, 0⟩ = ⟨1, s, 0⟩ from rfl, runK, hst]
    rfl
  · simp only
    rw [if_pos (by omega)]
  · simp only
    rw [if_neg (by omega), f1 _ (by omega)]
theorem stepK_jump {N i h t : Nat} {j : Nat} (hj : j = 2 ∨ j = 4) {hs : Hts} (he : hs i = some (h + 1)) (ht : i + 1 < t) (hN : t ≤ N) (h1 : hs t = none) (h2 : hs (i + 1) = none) :
    stepK N i ⟨j, stp0, (t : Int)⟩ hs = some (fun m => if m = i + 1 then some (if j = 2 then h else h + 1) else if m = t then some (h + 1) else hs m) := by
  unfold stepK
  rw [he]
  simp only
  rw [if_neg (by omega), if_pos hj, if_pos ⟨by omega, by omega⟩, Int.toNat_natCast, come_new h1, Option.bind_some, if_pos ⟨trivial, by omega⟩, come_new]
  · congr 2
  · rw [if_neg (by omega)]
    exact h2
/-- two with a jump over the second one -/
theorem Seg.logic {p q : List Ins} (hp : Seg 1 p) (hq : Seg 1 q) {j c : Nat} (hj : j = 2 ∧ c = 3 ∨ j = 4 ∧ c = 5) : Seg 1 (logicI j c p q) := by
  intro N b h hs hN hb hfree
  rw [logicI_length] at hN hfree ⊢
  obtain ⟨h1, r1, e1, f1⟩ := hp N b h hs (by omega) hb fun i h1 h2 => hfree i h1 (by omega)
  have g1 : h1 (b + p.length + 1) = none := by rw [f1 _ (by omega)]; exact hfree _ (by omega) (by omega)
  have g2 : h1 (b + p.length + q.length + 2) = none := by rw [f1 _ (by omega)]; exact hfree _ (by omega) (by omega)
  have s2 := stepK_jump (N := N) (i := b + p.length) (h := h) (t := b + p.length + q.length + 2) (j := j) (by omega) e1 (by omega) (by omega) g2 g1
  obtain ⟨h3, r3, e3, f3⟩ := hq N (b + p.length + 1) (if j = 2 then h else h + 1) (fun m => if m = b + p.length + 1 then some (if j = 2 then h else h + 1) else if m = b + p.length + q.length + 2 then some (h + 1) else h1 m) (by omega) (if_pos rfl) (fun i hi hi2 => by
    rw [if_neg (by omega), if_neg (by omega), f1 _ (by omega)]
    exact hfree _ (by omega) (by omega))
  have e4 : h3 (b + p.length + q.length + 2) = some (h + 1) := by
    rw [f3 _ (by omega), if_neg (by omega), if_pos rfl]
  have s4 : stepK N (b + p.length + 1 + q.length) (ins0 c) h3 = some (fun m => if m = b + p.length + 1 + q.length + 1 then some (h + 1) else h3 m) := by
    unfold stepK ins0
    rw [e3]
    simp only
    have hc : h3.come (b + p.length + 1 + q.length + 1) (h + 1) = some (fun m => if m = b + p.length + 1 + q.length + 1 then some (h + 1) else h3 m) := by
      unfold Hts.come
      rw [if_pos]
      right
      rw [← e4]
      congr 1
      omega
    rcases hj with ⟨rfl, rfl⟩ | ⟨rfl, rfl⟩
    · rw [if_neg (by omega), if_neg (by omega), if_pos rfl, if_pos ⟨trivial, trivial, by simp⟩, if_pos rfl, hc]
    · rw [if_neg (by omega), if_neg (by omega), if_neg (by omega), if_pos rfl, if_pos ⟨trivial, trivial, by simp⟩, if_neg (by omega)]
      exact hc
  refine ⟨fun m => if m = b + p.length + 1 + q.length + 1 then some (h + 1) else h3 m, ?_, ?_, fun i hi => ?_⟩
  · unfold logicI
    rw [joinI_cons, joinI_cons, joinI_cons, joinI_cons, joinI_nil]
    simp only [List.map_append, map_shift_shift, List.map_cons, List.map_nil, List.append_nil]
    rw [runK_app, r1, Option.bind_some, List.length_map, runK_app]
    have es : shift (b + p.length) ⟨j, stp0, q.length + 2⟩ = ⟨j, stp0, ((b + p.length + q.length + 2 : Nat) : Int)⟩ := by
      unfold shift
      rw [if_pos (by simp only; omega)]
      simp only [Ins.mk.injEq, true_and]
      omega
    rw [shift_shift, es, runK, s2]
    simp only [Option.bind_some, runK, List.length_cons, List.length_nil]
    rw [show b + (p.length + (0 + 1)) = b + p.length + 1 by omega, show b + p.length + (0 + 1) = b + p.length + 1 by omega, runK_app, r3, Option.bind_some, List.length_map]
    rw [show shift b (shift p.length (shift (0 + 1) (shift q.length (ins0 c)))) = ins0 c from rfl, runK, s4]
    rfl
  · simp only
    rw [if_pos (by omega)]
  · simp only
    rw [if_neg (by omega), f3 _ (by omega), if_neg (by omega), if_neg (by omega), f1 _ (by omega)]

/-! ### the stack -/
theorem takes_logic {s : Stp} {k : Nat} (ht : takes s = some k) (hk : s.kind = 21 ∨ s.kind = 22) : k = 2 := by
  unfold takes at ht
  rw [if_neg (by omega), if_neg (by omega), if_neg (by omega), if_neg (by omega), if_neg (by omega), if_neg (by omega), if_neg (by omega), if_pos (by omega)] at ht
  split at ht
  · exact (Option.some.inj ht).symm
  · cases ht
theorem takes_kind {s : Stp} {k : Nat} (ht : takes s = some k) : 1 ≤ s.kind ∧ s.kind < 23 := by
  unfold takes at ht
  repeat' split at ht
  all_goals first | (cases ht; done) | omega
theorem two_parts {parts : List (List Ins)} (h : parts.length = 2) : ∃ p q, parts = [p, q] := by
  match parts, h with
  | [p, q], _ => exact ⟨p, q, rfl⟩
theorem partC_seg {s : Stp} {k : Nat} (ht : takes s = some k) {parts : List (List Ins)} (hl : parts.length = k) (h : ∀ p ∈ parts, Seg 1 p) : Seg 1 (partC s parts) := by
  unfold partC
  have hk := takes_kind ht
  split
  · rename_i e
    obtain ⟨p, q, rfl⟩ := two_parts (hl.trans (takes_logic ht (.inl e)))
    exact Seg.logic (h p (by simp)) (h q (by simp)) (.inl ⟨rfl, rfl⟩)
  · split
    · rename_i e
      obtain ⟨p, q, rfl⟩ := two_parts (hl.trans (takes_logic ht (.inr e)))
      exact Seg.logic (h p (by simp)) (h q (by simp)) (.inr ⟨rfl, rfl⟩)
    · have := Seg.join parts h
      rw [hl] at this
      exact this.step ht (by omega)
/-- how long -/
def isLogic (s : Stp) : Nat := if 21 ≤ s.kind then 1 else 0
def total (stk : List (List Ins)) : Nat := (stk.map List.length).sum
theorem total_app (a b : List (List Ins)) : total (a ++ b) = total a + total b := by unfold total; simp
theorem partC_len {s : Stp} {k : Nat} (ht : takes s = some k) {parts : List (List Ins)} (hl : parts.length = k) : (partC s parts).length = total parts + 1 + isLogic s := by
  unfold partC isLogic
  have hk := takes_kind ht
  split
  · rename_i e
    obtain ⟨p, q, rfl⟩ := two_parts (hl.trans (takes_logic ht (.inl e)))
    rw [logicI_length, if_pos (by omega)]
    simp [total]
  · split
    · rename_i e
      obtain ⟨p, q, rfl⟩ := two_parts (hl.trans (takes_logic ht (.inr e)))
      rw [logicI_length, if_pos (by omega)]
      simp [total]
    · rw [if_neg (by omega), List.length_append, joinI_length]
      rfl
/-- how many steps' instructions -/
def steps (p : List Ins) : Nat := (p.filter fun x => x.op == 1).length
theorem steps_app (a b : List Ins) : steps (a ++ b) = steps a + steps b := by unfold steps; simp
theorem steps_shift (b : Nat) (p : List Ins) : steps (p.map (shift b)) = steps p := by
  unfold steps
  rw [List.filter_map, List.length_map]
  congr 2
  funext x
  simp only [Function.comp, shift]
  split <;> rfl
theorem steps_join : ∀ ps : List (List Ins), steps (joinI ps) = (ps.map steps).sum
  | [] => rfl
  | p :: ps => by rw [joinI_cons, steps_app, steps_shift, steps_join ps]; simp
def totalS (stk : List (List Ins)) : Nat := (stk.map steps).sum
theorem totalS_app (a b : List (List Ins)) : totalS (a ++ b) = totalS a + totalS b := by unfold totalS; simp
theorem partC_steps {s : Stp} {k : Nat} (ht : takes s = some k) {parts : List (List Ins)} (hl : parts.length = k) : steps (partC s parts) + isLogic s = totalS parts + 1 := by
  unfold partC isLogic
  have hk := takes_kind ht
  split
  · rename_i e
    obtain ⟨p, q, rfl⟩ := two_parts (hl.trans (takes_logic ht (.inl e)))
    rw [if_pos (by omega)]
    unfold logicI
    rw [steps_join]
    simp [totalS]
    simp [steps, ins0]
  · split
    · rename_i e
      obtain ⟨p, q, rfl⟩ := two_parts (hl.trans (takes_logic ht (.inr e)))
      rw [if_pos (by omega)]
      unfold logicI
      rw [steps_join]
      simp [totalS]
      simp [steps, ins0]
    · rw [if_neg (by omega), steps_app, steps_join]
      rfl

/-- what the stack is behind some steps -/
structure StkOk (stk : List (List Ins)) (n : Nat) (l : List Stp) : Prop where
  len : stk.length = n
  seg : ∀ p ∈ stk, Seg 1 p
  size : total stk = l.length + (l.map isLogic).sum
  steps : totalS stk + (l.map isLogic).sum = l.length
theorem StkOk.nil : StkOk [] 0 [] := ⟨rfl, fun _ h => (nomatch h), rfl, rfl⟩
theorem stepC_len {stk : List (List Ins)} {s : Stp} {k : Nat} (ht : takes s = some k) : (stepC stk s).length = stk.length - k + 1 := by
  unfold stepC takesN
  rw [ht, Option.getD_some, List.length_append, List.length_take]
  simp
theorem StkOk.step {stk : List (List Ins)} {n k : Nat} {l : List Stp} {s : Stp} (h : StkOk stk n l) (ht : takes s = some k) (hn : k ≤ n) : StkOk (stepC stk s) (n - k + 1) (l ++ [s]) := by
  have hlen := h.len
  have hl : (stk.drop (stk.length - k)).length = k := by rw [List.length_drop]; omega
  have e1 : total (stk.take (stk.length - k)) + total (stk.drop (stk.length - k)) = total stk := by rw [← total_app, List.take_append_drop]
  have e2 : totalS (stk.take (stk.length - k)) + totalS (stk.drop (stk.length - k)) = totalS stk := by rw [← totalS_app, List.take_append_drop]
  have e3 := partC_len ht hl
  have e4 := partC_steps ht hl
  have hs := h.size
  have hst := h.steps
  refine ⟨by rw [stepC_len ht, hlen], ?_, ?_, ?_⟩
  · unfold stepC takesN
    rw [ht, Option.getD_some]
    intro p hp
    rcases List.mem_append.1 hp with hp | hp
    · exact h.seg p (List.mem_of_mem_take hp)
    · rw [List.mem_singleton.1 hp]
      exact partC_seg ht hl fun q hq => h.seg q (List.mem_of_mem_drop hq)
  · unfold stepC takesN
    rw [ht, Option.getD_some, total_app, List.map_append, List.sum_append, List.length_append]
    simp only [total, List.map_cons, List.map_nil, List.sum_cons, List.sum_nil, List.length_cons, List.length_nil] at e1 e3 hs ⊢
    omega
  · unfold stepC takesN
    rw [ht, Option.getD_some, totalS_app, List.map_append, List.sum_append, List.length_append]
    simp only [totalS, List.map_cons, List.map_nil, List.sum_cons, List.sum_nil, List.length_cons, List.length_nil] at e2 e4 hst ⊢
    omega
theorem StkOk.all : ∀ (r : List Stp) {stk : List (List Ins)} {n m : Nat} {l : List Stp}, StkOk stk n l → rightL r n = some m → StkOk (r.foldl stepC stk) m (l ++ r)
  | [], stk, n, m, l, h, hr => by
    rw [rightL] at hr
    obtain rfl := Option.some.inj hr
    simpa using h
  | s :: r, stk, n, m, l, h, hr => by
    rw [rightL] at hr
    cases ht : takes s with
    | none => rw [ht] at hr; cases hr
    | some k =>
      rw [ht] at hr
      simp only at hr
      split at hr
      · cases hr
      · rename_i hk
        have := StkOk.all r (h.step ht (by omega)) hr
        rw [List.append_assoc] at this
        exact this
/-- the program of a right expression -/
theorem compile_stack {l : List Stp} (h : rightB l = true) : l.foldl stepC [] = [compileL l] ∧ StkOk [compileL l] 1 l := by
  have hr := ((right_iff l).1 h).1
  have ho := StkOk.all l StkOk.nil hr
  rw [List.nil_append] at ho
  have hl := ho.len
  unfold compileL
  match hst : l.foldl stepC [], hl with
  | [p], _ =>
    rw [hst] at ho
    exact ⟨rfl, ho⟩
theorem logic_le : ∀ l : List Stp, (l.map isLogic).sum ≤ l.length
  | [] => Nat.le_refl _
  | s :: l => by
    have := logic_le l
    have h1 : isLogic s ≤ 1 := by unfold isLogic; split <;> omega
    simp only [List.map_cons, List.sum_cons, List.length_cons]
    omega
theorem compile_len {l : List Stp} (h : rightB l = true) : (compileL l).length = l.length + (l.map isLogic).sum ∧ steps (compileL l) + (l.map isLogic).sum = l.length := by
  have ho := (compile_stack h).2
  have h1 := ho.size
  have h2 := ho.steps
  simp only [total, totalS, List.map_cons, List.map_nil, List.sum_cons, List.sum_nil, Nat.add_zero] at h1 h2
  exact ⟨h1, h2⟩
end Go.Proofs.YtcjmhmmjfgjcnaaGreatDoor.Cd

/- CodeJoins, CodeShort, CodeRight: what is compiled. Plain. -/
namespace Go.Proofs.YtcjmhmmjfgjcnaaGreatDoor.Cd
open Go.Proofs.YtcjmhmmjfgjcnaaGreatDoor.Lx Go.Proofs.YtcjmhmmjfgjcnaaGreatDoor.Pa

/-! ### two behind one another -/
theorem stepC_frame (base : List (List Ins)) {stk : List (List Ins)} {s : Stp} {k : Nat} (ht : takes s = some k) (hk : k ≤ stk.length) : stepC (base ++ stk) s = base ++ stepC stk s := by
  unfold stepC takesN
  rw [ht, Option.getD_some, List.length_append, show base.length + stk.length - k = base.length + (stk.length - k) by omega, List.take_length_add_append, List.drop_length_add_append, List.append_assoc]
theorem foldl_frame (base : List (List Ins)) : ∀ (l : List Stp) {stk : List (List Ins)} {m : Nat}, rightL l stk.length = some m → l.foldl stepC (base ++ stk) = base ++ l.foldl stepC stk
  | [], _, _, _ => rfl
  | s :: l, stk, m, h => by
    rw [rightL] at h
    cases ht : takes s with
    | none => rw [ht] at h; cases h
    | some k =>
      rw [ht] at h
      simp only at h
      split at h
      · cases h
      · rename_i hk
        rw [List.foldl_cons, List.foldl_cons, stepC_frame base ht (by omega)]
        exact foldl_frame base l (by rw [stepC_len ht]; exact h)
/-! ### cut short -/
end Go.Proofs.YtcjmhmmjfgjcnaaGreatDoor.Cd

/- An expression's parts, from its end: what the document's own compiler goes by. Plain. -/
namespace Go.Proofs.YtcjmhmmjfgjcnaaGreatDoor.Cd
open Go.Proofs.YtcjmhmmjfgjcnaaGreatDoor.Lx Go.Proofs.YtcjmhmmjfgjcnaaGreatDoor.Pa

/-- one expression -/
def OneE (l : List Stp) : Prop := rightL l 0 = some 1
theorem rightL_snoc (u : List Stp) (s : Stp) (n m : Nat) : rightL (u ++ [s]) n = some m ↔ ∃ h k, rightL u n = some h ∧ takes s = some k ∧ k ≤ h ∧ m + k = h + 1 := by
  rw [rightL_app]
  cases hu : rightL u n with
  | none => simp
  | some h =>
    rw [Option.bind_some, rightL]
    cases ht : takes s with
    | none => simp
    | some k =>
      simp only [rightL]
      constructor
      · intro e
        split at e
        · cases e
        · exact ⟨h, k, rfl, rfl, by omega, by have := Option.some.inj e; omega⟩
      · rintro ⟨h', k', e1, e2, e3, e4⟩
        obtain rfl := Option.some.inj e1
        obtain rfl := Option.some.inj e2
        rw [if_neg (by omega)]
        congr 1
        omega
theorem rightL_pos {u : List Stp} {h : Nat} (hr : rightL u 0 = some h) (hne : u ≠ []) : 1 ≤ h := by
  rw [← List.dropLast_concat_getLast hne, rightL_snoc] at hr
  obtain ⟨h', k, _, _, h1, h2⟩ := hr
  omega
theorem rightL_zero {u : List Stp} (hr : rightL u 0 = some 0) : u = [] := by
  rcases Classical.em (u = []) with h | h
  · exact h
  · have := rightL_pos hr h
    omega
/-- some expressions behind one another -/
theorem segs_of : ∀ (m : Nat) {l : List Stp}, l.length = m → ∀ {n : Nat}, rightL l 0 = some n → ∃ segs : List (List Stp), segs.length = n ∧ l = segs.flatten ∧ (∀ g ∈ segs, OneE g) ∧ l.foldl stepC [] = segs.map compileL
  | 0, l, hm, n, h => by
    obtain rfl := List.eq_nil_of_length_eq_zero hm
    obtain rfl := Option.some.inj h
    exact ⟨[], rfl, rfl, fun _ h => (nomatch h), rfl⟩
  | m + 1, l, hm, n, h => by
    have hne : l ≠ [] := by rintro rfl; simp at hm
    obtain ⟨u, s, rfl⟩ : ∃ u s, l = u ++ [s] := ⟨_, _, (List.dropLast_concat_getLast hne).symm⟩
    obtain ⟨h', k, hu, ht, h1, h2⟩ := (rightL_snoc u s 0 n).1 h
    obtain ⟨segs, g1, g2, g3, g4⟩ := segs_of m (by simpa using hm) hu
    have hlast : rightL ((segs.drop (h' - k)).flatten) 0 = some k := by
      have : ∀ gs : List (List Stp), (∀ g ∈ gs, OneE g) → ∀ n, rightL gs.flatten n = some (n + gs.length) := by
        intro gs
        induction gs with
        | nil => intro _ n; rfl
        | cons g gs ih =>
          intro hg n
          have e := rightL_up g n (hg g (by simp))
          rw [Nat.zero_add] at e
          rw [List.flatten_cons, rightL_app, e, Option.bind_some, ih (fun x hx => hg x (by simp [hx])), List.length_cons]
          congr 1
          omega
      rw [this _ (fun g hg => g3 g (List.mem_of_mem_drop hg)), List.length_drop, Nat.zero_add]
      congr 1
      omega
    have hone : OneE ((segs.drop (h' - k)).flatten ++ [s]) := (rightL_snoc _ s 0 1).2 ⟨k, k, hlast, ht, Nat.le_refl _, by omega⟩
    have hfold : ((segs.drop (h' - k)).flatten).foldl stepC [] = (segs.drop (h' - k)).map compileL := by
      have : ∀ gs : List (List Stp), (∀ g ∈ gs, OneE g ∧ g.foldl stepC [] = [compileL g]) → ∀ base, gs.flatten.foldl stepC base = base ++ gs.map compileL := by
        intro gs
        induction gs with
        | nil => intro _ base; simp
        | cons g gs ih =>
          intro hg base
          have e := foldl_frame base g (stk := []) (m := 1) (hg g (by simp)).1
          rw [List.append_nil, (hg g (by simp)).2] at e
          rw [List.flatten_cons, List.foldl_append, e, ih (fun x hx => hg x (by simp [hx]))]
          simp
      have := this (segs.drop (h' - k)) (fun g hg => ⟨g3 g (List.mem_of_mem_drop hg), by
        have ho := StkOk.all g StkOk.nil (g3 g (List.mem_of_mem_drop hg))
        have hl := ho.len
        unfold compileL
        match hst : g.foldl stepC [], hl with
        | [p], _ => rfl⟩) []
      rw [this]
      rfl
    have hcomp : compileL ((segs.drop (h' - k)).flatten ++ [s]) = partC s ((segs.drop (h' - k)).map compileL) := by
      unfold compileL
      rw [List.foldl_append, hfold]
      show (stepC _ s).headD [] = _
      unfold stepC takesN
      rw [ht, Option.getD_some, List.length_map, List.length_drop, show segs.length - (h' - k) - k = 0 by omega]
      rfl
    refine ⟨segs.take (h' - k) ++ [(segs.drop (h' - k)).flatten ++ [s]], ?_, ?_, ?_, ?_⟩
    · rw [List.length_append, List.length_take, List.length_singleton]; omega
    · rw [List.flatten_append, List.flatten_singleton, ← List.append_assoc, ← List.flatten_append, List.take_append_drop, ← g2]
    · intro g hg
      rcases List.mem_append.1 hg with hg | hg
      · exact g3 g (List.mem_of_mem_take hg)
      · rw [List.mem_singleton.1 hg]; exact hone
    · rw [List.foldl_append, g4]
      show stepC _ s = _
      unfold stepC takesN
      rw [ht, Option.getD_some, List.length_map, g1, List.map_append, List.map_take, List.map_cons, List.map_nil, hcomp, List.map_drop]
/-- an expression: its last step, and what that takes -/
theorem one_parts {l : List Stp} (h : OneE l) : ∃ (segs : List (List Stp)) (s : Stp) (k : Nat), takes s = some k ∧ segs.length = k ∧ l = segs.flatten ++ [s] ∧ (∀ g ∈ segs, OneE g) ∧ compileL l = partC s (segs.map compileL) := by
  have hne : l ≠ [] := by rintro rfl; cases h
  obtain ⟨u, s, rfl⟩ : ∃ u s, l = u ++ [s] := ⟨_, _, (List.dropLast_concat_getLast hne).symm⟩
  obtain ⟨h', k, hu, ht, h1, h2⟩ := (rightL_snoc u s 0 1).1 h
  obtain ⟨segs, g1, g2, g3, g4⟩ := segs_of _ rfl hu
  refine ⟨segs, s, k, ht, by omega, by rw [← g2], g3, ?_⟩
  unfold compileL at g4 ⊢
  rw [List.foldl_append, g4]
  show (stepC _ s).headD [] = _
  unfold stepC takesN
  rw [ht, Option.getD_some, List.length_map, g1, show h' - k = 0 by omega]
  rfl
end Go.Proofs.YtcjmhmmjfgjcnaaGreatDoor.Cd
