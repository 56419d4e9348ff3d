/- Parts: PaP PaQ PdD QaA. -/
import Derived.Test.YtcjmhmmjfgjcnaaGreatDoorMc01
import Derived.Test.YtcjmhmmjfgjcnaaGreatDoorMc02
import Derived.Lib.Split
import Derived.Lib.Join

/- Statements and their parser over lists: plain definitions; nothing here speaks of the program. -/
namespace Go.Proofs.YtcjmhmmjfgjcnaaGreatDoor.Pa
open Go.Proofs.YtcjmhmmjfgjcnaaGreatDoor.Lx

abbrev Txt := List UInt8
/-! the words of the language, and pieces of printed texts -/
def kNULL : Txt := [78, 85, 76, 76]
def kTRUE : Txt := [84, 82, 85, 69]
def kFALSE : Txt := [70, 65, 76, 83, 69]
def kIS : Txt := [73, 83]
def kNOT : Txt := [78, 79, 84]
def kAND : Txt := [65, 78, 68]
def kOR : Txt := [79, 82]
def kAS : Txt := [65, 83]
def kWHERE : Txt := [87, 72, 69, 82, 69]
def kHISTORY : Txt := [72, 73, 83, 84, 79, 82, 89]
def kORDER : Txt := [79, 82, 68, 69, 82]
def kBY : Txt := [66, 89]
def kDESC : Txt := [68, 69, 83, 67]
def kFROM : Txt := [70, 82, 79, 77]
def kCREATE : Txt := [67, 82, 69, 65, 84, 69]
def kTABLE : Txt := [84, 65, 66, 76, 69]
def kINDEX : Txt := [73, 78, 68, 69, 88]
def kON : Txt := [79, 78]
def kINSERT : Txt := [73, 78, 83, 69, 82, 84]
def kINTO : Txt := [73, 78, 84, 79]
def kUPDATE : Txt := [85, 80, 68, 65, 84, 69]
def kSET : Txt := [83, 69, 84]
def kDELETE : Txt := [68, 69, 76, 69, 84, 69]
def kSELECT : Txt := [83, 69, 76, 69, 67, 84]
def kNOTX : Txt := [40, 78, 79, 84, 32]
def kISNULLX : Txt := [32, 73, 83, 32, 78, 85, 76, 76, 41]
structure Stp where
  kind : Nat
  text : Txt
  num : Int
  deriving DecidableEq, Repr
structure Itm where
  name : Txt
  expr : List Stp
  deriving DecidableEq, Repr
structure Stm where
  kind : Nat
  table : Txt
  field : Txt
  items : List Itm
  expr : List Stp
  history : Bool
  desc : Bool
  deriving DecidableEq, Repr
def stm0 : Stm := ⟨0, [], [], [], [], false, false⟩

def operators : List Txt := [[43], [45], [42], [61], [60, 62], [60], [60, 61], [62], [62, 61], [65, 78, 68], [79, 82]]
def opKind (t : Txt) : Nat := if t ∈ operators then 12 + operators.idxOf t else 11

/-! ### the parser's state -/
structure St where
  left : List Tok
  fin : Nat
  why : Nat
  at_ : Nat
  steps : List Stp
  deriving DecidableEq, Repr
def St.place (s : St) : Nat := match s.left with
  | [] => s.fin
  | t :: _ => t.pos
def St.fail (s : St) (why at_ : Nat) : St := if s.why = 0 then { s with why := why, at_ := at_, left := [] } else s
def St.next (s : St) (k : Nat) (texts : List Txt) : Bool := match s.left with
  | [] => false
  | t :: _ => t.kind == k && (texts.isEmpty || texts.contains t.text)
def St.drop (s : St) : St := { s with left := s.left.tail }
def St.head (s : St) : Tok := s.left.headD tok0
def St.taken (s : St) (k : Nat) (texts : List Txt) : Tok := if s.next k texts then s.head else tok0
def St.after (s : St) (k : Nat) (texts : List Txt) : St := if s.next k texts then s.drop else s
def St.bad (s : St) : St := s.fail 13 s.place
def St.need (s : St) (k : Nat) (texts : List Txt) : St := if s.next k texts then s.drop else s.bad
def St.keys (s : St) (texts : List Txt) : St := texts.foldl (fun s x => s.need 2 [x]) s
def St.sign (s : St) (x : Txt) : St := s.need 5 [x]
def St.nameT (s : St) : Txt := (s.taken 1 []).text
def St.name (s : St) : St := s.need 1 []
def St.many (s : St) : St := if s.why = 0 ∧ 128 ≤ s.steps.length then s.fail 3 s.place else s
def St.put (s : St) (x : Stp) : St := if s.many.why = 0 then { s.many with steps := s.many.steps ++ [x] } else s.many
def St.deep (s : St) : St := s.fail 10 s.place

/-! ### expressions; 'none': the rounds are used up -/
def rowL (one : St → Option St) (k : Nat) (texts : List Txt) : Nat → St → Option St
  | 0, _ => none
  | n + 1, s => if s.next k texts then (one s.drop).bind fun s' => rowL one k texts n (s'.put ⟨opKind s.head.text, [], 0⟩) else some s
def row (one : St → Option St) (k : Nat) (texts : List Txt) (n : Nat) (s : St) : Option St := (one s).bind (rowL one k texts n)
def aheadF (k : Nat) (text : Txt) (step : Nat) (other : Nat → St → Option St) : Nat → Nat → St → Option St
  | 0, _, _ => none
  | n + 1, d, s => if s.next k [text] then
      if 16 ≤ d then some s.deep else (aheadF k text step other n (d + 1) s.drop).bind fun s' => some (s'.put ⟨step, [], 0⟩)
    else other d s

def commas : List Txt → Txt
  | [] => []
  | [x] => x
  | x :: r => x ++ 44 :: commas r
def partsB (end_ : Txt) (x : Stp) (l : List Txt) (go : St → Option St) (s : St) : Option St :=
  if s.why = 0 then
    if s.next 5 [end_] then some (s.drop.put { x with text := x.text ++ commas l }) else go (s.sign [44])
  else some s
def partN (x : Stp) (l : List Txt) (s : St) : List Txt × St :=
  if x.kind = 8 then
    (l ++ [s.nameT], (if (l ++ [s.nameT]).Nodup then s.name else s.name.fail 18 s.place).sign [58])
  else (l, s)
def partsL (or_ : St → Option St) (end_ : Txt) : Nat → Stp → List Txt → St → Option St
  | 0, _, _, _ => none
  | n + 1, x, l, s =>
    if s.why = 0 then
      if 64 ≤ x.num then some (s.fail 3 s.place)
      else (or_ (partN x l s).2).bind fun s' => partsB end_ { x with num := x.num + 1 } (partN x l s).1 (partsL or_ end_ n { x with num := x.num + 1 } (partN x l s).1) s'
    else some s
def parts (or_ : St → Option St) (n : Nat) (x : Stp) (end_ : Txt) (s : St) : Option St :=
  if s.next 5 [end_] then some (s.drop.put x) else partsL or_ end_ n x [] s

def pathL : Nat → Txt → St → Option (Txt × St)
  | 0, _, _ => none
  | n + 1, x, s => if s.next 5 [[46]] then
      if s.drop.next 3 [] then pathL n (x ++ (46 :: Lib.itoa s.drop.head.num)) s.drop.drop
      else pathL n (x ++ (46 :: s.drop.nameT)) s.drop.name
    else some (x, s)
def path (n : Nat) (s : St) : Option St := (pathL n s.nameT s.name).map fun r => r.2.put ⟨6, r.1, 0⟩

def constKind (t : Txt) : Nat := if t = kNULL then 1 else if t = kTRUE then 2 else if t = kFALSE then 3 else 0
def nestThen (d : Nat) (s : St) (go : St → Option St) : Option St := if 16 ≤ d then some s.deep else go s.drop
def primary (or_ : Nat → St → Option St) (n d : Nat) (s : St) : Option St :=
  if s.next 3 [] then some (s.drop.put ⟨4, [], s.head.num⟩)
  else if s.next 4 [] then some (s.drop.put ⟨5, s.head.text, 0⟩)
  else if s.next 1 [] then path n s
  else if s.next 2 [kNULL, kTRUE, kFALSE] then some (s.drop.put ⟨constKind s.head.text, [], 0⟩)
  else if s.next 5 [[40]] then nestThen d s fun s => (or_ (d + 1) s).bind fun s => some (s.sign [41])
  else if s.next 5 [[91]] then nestThen d s fun s => parts (or_ (d + 1)) n ⟨7, [], 0⟩ [93] s
  else if s.next 5 [[123]] then nestThen d s fun s => parts (or_ (d + 1)) n ⟨8, [], 0⟩ [125] s
  else some s.bad

def relOps : List Txt := [[61], [60, 62], [60], [60, 61], [62], [62, 61]]
def signed (or_ : Nat → St → Option St) (n d : Nat) (s : St) : Option St := aheadF 5 [45] 9 (primary or_ n) n d s
def product (or_ : Nat → St → Option St) (n d : Nat) (s : St) : Option St := row (signed or_ n d) 5 [[42]] n s
def sum (or_ : Nat → St → Option St) (n d : Nat) (s : St) : Option St := row (product or_ n d) 5 [[43], [45]] n s
def isNull (s : St) : St :=
  if s.next 2 [kIS] then
    let s1 := s.drop
    let s2 := s1.after 2 [kNOT]
    let s3 := (s2.keys [kNULL]).put ⟨11, [], 0⟩
    if s1.next 2 [kNOT] then s3.put ⟨10, [], 0⟩ else s3
  else s
def compared (or_ : Nat → St → Option St) (n d : Nat) (s : St) : Option St :=
  (sum or_ n d s).bind fun s => if s.next 5 relOps then (sum or_ n d s.drop).bind fun s' => some (s'.put ⟨opKind s.head.text, [], 0⟩) else some (isNull s)
def notE (or_ : Nat → St → Option St) (n d : Nat) (s : St) : Option St := aheadF 2 (kNOT) 10 (compared or_ n) n d s
def andE (or_ : Nat → St → Option St) (n d : Nat) (s : St) : Option St := row (notE or_ n d) 2 [kAND] n s
def orE (or_ : Nat → St → Option St) (n d : Nat) (s : St) : Option St := row (andE or_ n d) 2 [kOR] n s
def orF : Nat → Nat → St → Option St
  | 0, _, _ => none
  | n + 1, d, s => orE (orF n) n d s

/-! ### statements -/
def expr (n : Nat) (s : St) : Option St := orF n 0 { s with steps := [] }
def itemF (n : Nat) (set : Bool) (names : List Txt) (s : St) : Option (Itm × St) :=
  if set then
    let s1 := if (names ++ [s.nameT]).Nodup then s.name else s.name.fail 18 s.place
    (expr n (s1.sign [61])).bind fun s2 => some (⟨s.nameT, s2.steps⟩, s2)
  else (expr n s).bind fun s1 =>
    let s2 := s1.keys [kAS]
    some (⟨s2.nameT, s1.steps⟩, if (names ++ [s2.nameT]).Nodup then s2.name else s2.name.fail 18 s2.place)
def itemsL (m : Nat) (set : Bool) : Nat → List Itm → St → Option (List Itm × St)
  | 0, _, _ => none
  | n + 1, out, s =>
    if s.why = 0 then
      if 64 ≤ out.length then some (out, s.fail 3 s.place)
      else (itemF m set (out.map Itm.name) s).bind fun r =>
        if r.2.next 5 [[44]] then itemsL m set n (out ++ [r.1]) r.2.drop else some (out ++ [r.1], r.2)
    else some (out, s)
def items (n : Nat) (set : Bool) (s : St) : Option (List Itm × St) := itemsL n set n [] s
def where_ (n : Nat) (s : St) : Option (List Stp × St) :=
  if s.next 2 [kWHERE] then (expr n s.drop).bind fun s => some (s.steps, s) else some ([], s)
def fromT (s : St) : Bool × Txt × St :=
  if s.next 2 [kHISTORY] then
    let s1 := s.drop.sign [40]
    (true, s1.nameT, s1.name.sign [41])
  else (false, s.nameT, s.name)
def orderT (s : St) : Txt × Bool × St :=
  if s.next 2 [kORDER] then
    let s1 := s.drop.keys [kBY]
    (s1.nameT, s1.name.next 2 [kDESC], s1.name.after 2 [kDESC])
  else ([], false, s)
def what (n : Nat) (s : St) : Option (List Itm × St) := if s.next 5 [[42]] then some ([], s.drop) else items n false s
def picked (n : Nat) (s : St) : Option (Stm × St) :=
  (what n s).bind fun r =>
    let f := fromT (r.2.keys [kFROM])
    (where_ n f.2.2).bind fun w =>
      let o := orderT w.2
      some (⟨6, f.2.1, o.1, r.1, w.1, f.1, o.2.1⟩, o.2.2)
def stmt (n : Nat) (s : St) : Option (Stm × St) :=
  if s.next 2 [kCREATE] then
    if s.drop.next 2 [kTABLE] then some ({ stm0 with kind := 1, table := s.drop.drop.nameT }, s.drop.drop.name)
    else
      let s1 := s.drop.keys [kINDEX, kON]
      let s2 := s1.name.sign [40]
      some ({ stm0 with kind := 2, table := s1.nameT, field := s2.nameT }, s2.name.sign [41])
  else if s.next 2 [kINSERT] then
    let s1 := s.drop.keys [kINTO]
    (expr n s1.name).bind fun s2 => some ({ stm0 with kind := 3, table := s1.nameT, expr := s2.steps }, s2)
  else if s.next 2 [kUPDATE] then
    let s1 := s.drop
    (items n true (s1.name.keys [kSET])).bind fun r => (where_ n r.2).bind fun w => some ({ stm0 with kind := 4, table := s1.nameT, items := r.1, expr := w.1 }, w.2)
  else if s.next 2 [kDELETE] then
    let s1 := s.drop.keys [kFROM]
    (where_ n s1.name).bind fun w => some ({ stm0 with kind := 5, table := s1.nameT, expr := w.1 }, w.2)
  else if s.next 2 [kSELECT] then picked n s.drop
  else some (stm0, s.bad)

end Go.Proofs.YtcjmhmmjfgjcnaaGreatDoor.Pa

/- Statements: which are right, how they are printed, how a text is read: plain definitions; nothing here speaks of the program. -/
namespace Go.Proofs.YtcjmhmmjfgjcnaaGreatDoor.Pa
open Go.Proofs.YtcjmhmmjfgjcnaaGreatDoor.Lx

def nameB (s : Txt) : Bool := showOk ⟨1, s, 0, 0⟩
def numberB (s : Txt) : Bool := match Lib.parseIntB 64 s with
  | .ok n => decide (0 ≤ n) && decide (Lib.itoa n = s)
  | _ => false
def pathParts : Nat → List Txt → Bool
  | _, [] => true
  | i, p :: r => (nameB p || (i != 0 && numberB p)) && pathParts (i + 1) r
def pathB (s : Txt) : Bool := pathParts 0 (Lib.split s [46]) && decide (s.length ≤ 1024)
def apartB (l : List Txt) : Bool := decide l.Nodup
def namesB (s : Txt) (n : Int) : Bool :=
  if n = 0 then decide (s = []) else decide (((Lib.split s [44]).length : Int) = n) && (apartB (Lib.split s [44]) && (Lib.split s [44]).all nameB)

def takes (s : Stp) : Option Nat :=
  if s.kind = 1 ∨ s.kind = 2 ∨ s.kind = 3 then if s.text = [] ∧ s.num = 0 then some 0 else none
  else if s.kind = 4 then if s.text = [] ∧ 0 ≤ s.num then some 0 else none
  else if s.kind = 5 then if s.num = 0 ∧ s.text.length ≤ 1024 ∧ Lib.validD s.text = true then some 0 else none
  else if s.kind = 6 then if s.num = 0 ∧ pathB s.text = true then some 0 else none
  else if s.kind = 7 then if s.text = [] ∧ 0 ≤ s.num ∧ s.num ≤ 64 then some s.num.toNat else none
  else if s.kind = 8 then if 0 ≤ s.num ∧ s.num ≤ 64 ∧ namesB s.text s.num = true then some s.num.toNat else none
  else if s.kind = 9 ∨ s.kind = 10 ∨ s.kind = 11 then if s.text = [] ∧ s.num = 0 then some 1 else none
  else if 12 ≤ s.kind ∧ s.kind < 23 then if s.text = [] ∧ s.num = 0 then some 2 else none
  else none
def takesN (s : Stp) : Nat := (takes s).getD 0
def rightL : List Stp → Nat → Option Nat
  | [], n => some n
  | s :: r, n => match takes s with
    | none => none
    | some k => if n < k then none else rightL r (n - k + 1)
def rightB (l : List Stp) : Bool := decide (rightL l 0 = some 1) && decide (l.length ≤ 128)
def closedB (l : List Stp) : Bool := l.all fun s => s.kind != 6

def fieldsT : List Txt → List Txt → List Txt
  | x :: l, n :: r => (n ++ [58, 32] ++ x) :: fieldsT l r
  | _, _ => []
def joined (s : Stp) (l : List Txt) : Txt :=
  if s.kind = 7 then [91] ++ Lib.join l [44, 32] ++ [93]
  else [123] ++ Lib.join (fieldsT l (Lib.split s.text [44])) [44, 32] ++ [125]
def textS (x : Txt) : Txt := if showOk ⟨4, x, 0, 0⟩ then showS ⟨4, x, 0, 0⟩ else []
def shown (s : Stp) (l : List Txt) : Txt :=
  if s.kind = 1 then kNULL else if s.kind = 2 then kTRUE else if s.kind = 3 then kFALSE
  else if s.kind = 4 then Lib.itoa s.num else if s.kind = 5 then textS s.text else if s.kind = 6 then s.text
  else if s.kind = 7 ∨ s.kind = 8 then joined s l
  else if s.kind = 9 then [40, 45] ++ l.getD 0 [] ++ [41]
  else if s.kind = 10 then kNOTX ++ l.getD 0 [] ++ [41]
  else if s.kind = 11 then [40] ++ l.getD 0 [] ++ kISNULLX
  else [40] ++ l.getD 0 [] ++ [32] ++ operators.getD (s.kind - 12) [] ++ [32] ++ l.getD 1 [] ++ [41]
def showG : List Stp → List Txt → List Txt
  | [], st => st
  | s :: r, st => showG r (st.take (st.length - takesN s) ++ [shown s (st.drop (st.length - takesN s))])
def itemsB (l : List Itm) : Bool := (l.all fun x => nameB x.name && rightB x.expr) && (decide (l.length ≤ 64) && apartB (l.map Itm.name))
def checkB (x : Stm) : Bool :=
  nameB x.table && (
  if x.kind = 1 then x.field.isEmpty && (x.items.isEmpty && (x.expr.isEmpty && (!x.history && !x.desc)))
  else if x.kind = 2 then nameB x.field && (x.items.isEmpty && (x.expr.isEmpty && (!x.history && !x.desc)))
  else if x.kind = 3 then (rightB x.expr && closedB x.expr) && (x.field.isEmpty && (x.items.isEmpty && (!x.history && !x.desc)))
  else if x.kind = 4 then ((x.expr.isEmpty || rightB x.expr) && (itemsB x.items && !x.items.isEmpty)) && (x.field.isEmpty && (!x.history && !x.desc))
  else if x.kind = 5 then (x.expr.isEmpty || rightB x.expr) && (x.field.isEmpty && (x.items.isEmpty && (!x.history && !x.desc)))
  else if x.kind = 6 then (x.expr.isEmpty || rightB x.expr) && (itemsB x.items && (nameB x.field || (x.field.isEmpty && !x.desc)))
  else false)

inductive Rs where
  | ok (x : Stm)
  | err (e at_ : Nat)
  deriving DecidableEq, Repr
def st0 (l : List Tok) (n : Nat) : St := ⟨l, n, 0, 0, []⟩
def St.ended (s : St) : St := if s.left.isEmpty then s else s.bad
def finish (x : Stm) (s : St) : Rs := if s.why ≠ 0 then .err s.why s.at_ else if checkB x then .ok x else .err 13 0
def parseF (n : Nat) (l : Txt) : Option Rs := match lexL l with
  | .err e a => some (.err e a)
  | .ok toks => (stmt n (st0 toks l.length)).bind fun r => some (finish r.1 r.2.ended)

end Go.Proofs.YtcjmhmmjfgjcnaaGreatDoor.Pa

/- ParseSteps: right expressions put together. Plain. -/
namespace Go.Proofs.YtcjmhmmjfgjcnaaGreatDoor.Pa
open Go.Proofs.YtcjmhmmjfgjcnaaGreatDoor.Lx

theorem rightL_app : ∀ (l r : List Stp) (n : Nat), rightL (l ++ r) n = (rightL l n).bind (rightL r)
  | [], r, n => rfl
  | y :: l, r, n => by
    rw [List.cons_append, rightL, rightL]
    cases takes y with
    | none => rfl
    | some k =>
      simp only
      split
      · rfl
      · exact rightL_app l r _
theorem right_iff (l : List Stp) : rightB l = true ↔ rightL l 0 = some 1 ∧ l.length ≤ 128 := by
  unfold rightB; simp
end Go.Proofs.YtcjmhmmjfgjcnaaGreatDoor.Pa

/- Expressions as programs over lists: plain definitions; nothing here speaks of the program. -/
namespace Go.Proofs.YtcjmhmmjfgjcnaaGreatDoor.Cd
open Go.Proofs.YtcjmhmmjfgjcnaaGreatDoor.Lx Go.Proofs.YtcjmhmmjfgjcnaaGreatDoor.Pa

structure Ins where
  op : Nat
  st : Stp
  to : Int
  deriving DecidableEq, Repr
def stp0 : Stp := ⟨0, [], 0⟩
def ins0 (op : Nat) : Ins := ⟨op, stp0, 0⟩
def shift (b : Nat) (x : Ins) : Ins := if 0 < x.to then { x with to := x.to + b } else x
def joinOne (out p : List Ins) : List Ins := out ++ p.map (shift out.length)
def joinI (ps : List (List Ins)) : List Ins := ps.foldl joinOne []
def logicI (j b : Nat) (p q : List Ins) : List Ins := joinI [p, [⟨j, stp0, q.length + 2⟩], q, [ins0 b]]
def partC (s : Stp) (parts : List (List Ins)) : List Ins :=
  if s.kind = 21 then logicI 2 3 (parts.getD 0 []) (parts.getD 1 [])
  else if s.kind = 22 then logicI 4 5 (parts.getD 0 []) (parts.getD 1 [])
  else joinI parts ++ [⟨1, s, 0⟩]
def stepC (stk : List (List Ins)) (s : Stp) : List (List Ins) :=
  stk.take (stk.length - takesN s) ++ [partC s (stk.drop (stk.length - takesN s))]
def compileL (l : List Stp) : List Ins := (l.foldl stepC []).headD []

/-! ### whether one is right: how high the stack is at places that are come to -/
abbrev Hts := Nat → Option Nat
def Hts.come (hs : Hts) (i h : Nat) : Option Hts :=
  if hs i = none ∨ hs i = some h then some (fun j => if j = i then some h else hs j) else none
def stepK (N i : Nat) (x : Ins) (hs : Hts) : Option Hts :=
  match hs i with
  | none => none
  | some h =>
    if x.op = 1 then match takes x.st with
      | none => none
      | some k => if x.st.kind < 21 ∧ x.to = 0 ∧ k ≤ h then hs.come (i + 1) (h - k + 1) else none
    else if x.op = 2 ∨ x.op = 4 then
      if (i : Int) < x.to ∧ x.to ≤ (N : Int) then
        (hs.come x.to.toNat h).bind fun hs' => if x.st = stp0 ∧ 1 ≤ h then hs'.come (i + 1) (if x.op = 2 then h - 1 else h) else none
      else none
    else if x.op = 3 then if x.st = stp0 ∧ x.to = 0 ∧ 1 ≤ h then hs.come (i + 1) h else none
    else if x.op = 5 then if x.st = stp0 ∧ x.to = 0 ∧ 2 ≤ h then hs.come (i + 1) (h - 1) else none
    else none
def runK (N : Nat) : Nat → List Ins → Hts → Option Hts
  | _, [], hs => some hs
  | i, x :: r, hs => (stepK N i x hs).bind (runK N (i + 1) r)
def hs0 : Hts := fun i => if i = 0 then some 0 else none
def checkI (p : List Ins) : Bool := decide (1 ≤ p.length ∧ p.length ≤ 256) && (match runK p.length 0 p hs0 with
  | none => false
  | some hs => decide (hs p.length = some 1))

/-! ### small laws -/
theorem shift_zero (x : Ins) : shift 0 x = x := by
  unfold shift
  split
  · simp
  · rfl
theorem shift_shift (b c : Nat) (x : Ins) : shift b (shift c x) = shift (b + c) x := by
  unfold shift
  by_cases h : 0 < x.to
  · rw [if_pos h, if_pos h, if_pos (by simp only; omega)]
    simp only [Ins.mk.injEq, true_and]
    push_cast
    omega
  · rw [if_neg h, if_neg h, if_neg h]
theorem map_shift_zero (p : List Ins) : p.map (shift 0) = p := by
  rw [show shift 0 = id from funext shift_zero, List.map_id]
theorem map_shift_shift (b c : Nat) (p : List Ins) : (p.map (shift c)).map (shift b) = p.map (shift (b + c)) := by
  rw [List.map_map]
  exact List.map_congr_left fun x _ => shift_shift b c x
theorem join_from (ps : List (List Ins)) (out : List Ins) : ps.foldl joinOne out = out ++ (joinI ps).map (shift out.length) := by
  induction ps generalizing out with
  | nil => simp [joinI]
  | cons p ps ih =>
    unfold joinI
    rw [List.foldl_cons, List.foldl_cons, ih, ih (joinOne [] p)]
    unfold joinOne
    simp only [List.length_nil, List.nil_append, map_shift_zero, List.map_append, map_shift_shift, List.length_append, List.length_map, List.append_assoc]
theorem joinI_cons (p : List Ins) (ps : List (List Ins)) : joinI (p :: ps) = p ++ (joinI ps).map (shift p.length) := by
  show ps.foldl joinOne (joinOne [] p) = _
  rw [join_from]
  unfold joinOne
  simp [map_shift_zero]
theorem joinI_nil : joinI [] = [] := rfl
theorem joinI_length : ∀ ps : List (List Ins), (joinI ps).length = (ps.map List.length).sum
  | [] => rfl
  | p :: ps => by rw [joinI_cons, List.length_append, List.length_map, joinI_length ps]; simp
theorem logicI_length (j b : Nat) (p q : List Ins) : (logicI j b p q).length = p.length + q.length + 2 := by
  unfold logicI
  rw [joinI_length]
  simp
  omega
theorem runK_app (N : Nat) : ∀ (p q : List Ins) (i : Nat) (hs : Hts), runK N i (p ++ q) hs = (runK N i p hs).bind (runK N (i + p.length) q)
  | [], q, i, hs => by simp [runK]
  | x :: p, q, i, hs => by
    rw [List.cons_append, runK, runK]
    cases stepK N i x hs with
    | none => rfl
    | some hs' =>
      rw [Option.bind_some, Option.bind_some, runK_app N p q, List.length_cons]
      congr 2
      omega

/-! ### what is compiled is right -/
def Seg (k : Nat) (p : List Ins) : Prop := ∀ (N b h : Nat) (hs : Hts), b + p.length ≤ N → hs b = some h → (∀ i, b < i → i ≤ b + p.length → hs i = none) →
  ∃ hs', runK N b (p.map (shift b)) hs = some hs' ∧ hs' (b + p.length) = some (h + k) ∧ ∀ i, b + p.length < i → hs' i = hs i
theorem come_new {hs : Hts} {i : Nat} (h : hs i = none) (v : Nat) : hs.come i v = some (fun j => if j = i then some v else hs j) := by
  unfold Hts.come
  rw [if_pos (.inl h)]
theorem Seg.nil : Seg 0 [] := fun _ _ _ hs _ hb _ => ⟨hs, rfl, hb, fun _ _ => rfl⟩
theorem Seg.app {k m : Nat} {p q : List Ins} (hp : Seg k p) (hq : Seg m q) : Seg (k + m) (p ++ q.map (shift p.length)) := by
  intro N b h hs hN hb hfree
  simp only [List.length_append, List.length_map] at hN hfree ⊢
  obtain ⟨h1, r1, e1, f1⟩ := hp N b h hs (by omega) hb fun i h1 h2 => hfree i h1 (by omega)
  obtain ⟨h2, r2, e2, f2⟩ := hq N (b + p.length) (h + k) h1 (by omega) e1 fun i hi hi2 => by rw [f1 i hi]; exact hfree i (by omega) (by omega)
  refine ⟨h2, ?_, ?_, fun i hi => ?_⟩
  · rw [List.map_append, runK_app, r1, Option.bind_some, map_shift_shift, List.length_map]
    exact r2
  · rw [show b + (p.length + q.length) = b + p.length + q.length by omega, e2]
    congr 1
    omega
  · rw [f2 i (by omega), f1 i (by omega)]
theorem Seg.join : ∀ ps : List (List Ins), (∀ p ∈ ps, Seg 1 p) → Seg ps.length (joinI ps)
  | [], _ => Seg.nil
  | p :: ps, h => by
    rw [joinI_cons, List.length_cons, Nat.add_comm]
    exact (h p (by simp)).app (Seg.join ps fun q hq => h q (by simp [hq]))
theorem Seg.step {k : Nat} {p : List Ins} (hp : Seg k p) {s : Stp} (ht : takes s = some k) (hk : s.kind < 21) : Seg 1 (p ++ [⟨1, s, 0⟩]) := by
  intro N b h hs hN hb hfree
  simp only [List.length_append, List.length_cons, List.length_nil] at hN hfree ⊢
  obtain ⟨h1, r1, e1, f1⟩ := hp N b h hs (by omega) hb fun i h1 h2 => hfree i h1 (by omega)
  have hf : h1 (b + p.length + 1) = none := by rw [f1 _ (by omega)]; exact hfree _ (by omega) (by omega)
  refine ⟨fun j => if j = b + p.length + 1 then some (h + 1) else h1 j, ?_, ?_, fun i hi => ?_⟩
  · have hst : stepK N (b + p.length) ⟨1, s, 0⟩ h1 = some (fun j => if j = b + p.length + 1 then some (h + 1) else h1 j) := by
      unfold stepK
      rw [e1]
      simp only [ht, if_true]
      rw [if_pos ⟨hk, trivial, by omega⟩, come_new hf, show h + k - k + 1 = h + 1 by omega]
    rw [List.map_append, runK_app, r1, Option.bind_some, List.length_map]
    show runK N (b + p.length) [shift b ⟨1, s, 0⟩] h1 = _
    rw [show shift b ⟨1, s, 0⟩ = ⟨1, s, 0⟩ from rfl, runK, hst]
    rfl
  · simp only
    rw [if_pos (by omega)]
  · simp only
    rw [if_neg (by omega), f1 _ (by omega)]
theorem stepK_jump {N i h t : Nat} {j : Nat} (hj : j = 2 ∨ j = 4) {hs : Hts} (he : hs i = some (h + 1)) (ht : i + 1 < t) (hN : t ≤ N) (h1 : hs t = none) (h2 : hs (i + 1) = none) :
    stepK N i ⟨j, stp0, (t : Int)⟩ hs = some (fun m => if m = i + 1 then some (if j = 2 then h else h + 1) else if m = t then some (h + 1) else hs m) := by
  unfold stepK
  rw [he]
  simp only
  rw [if_neg (by omega), if_pos hj, if_pos ⟨by omega, by omega⟩, Int.toNat_natCast, come_new h1, Option.bind_some, if_pos ⟨trivial, by omega⟩, come_new]
  · congr 2
  · rw [if_neg (by omega)]
    exact h2
theorem Seg.logic {p q : List Ins} (hp : Seg 1 p) (hq : Seg 1 q) {j c : Nat} (hj : j = 2 ∧ c = 3 ∨ j = 4 ∧ c = 5) : Seg 1 (logicI j c p q) := by
  intro N b h hs hN hb hfree
  rw [logicI_length] at hN hfree ⊢
  obtain ⟨h1, r1, e1, f1⟩ := hp N b h hs (by omega) hb fun i h1 h2 => hfree i h1 (by omega)
  have g1 : h1 (b + p.length + 1) = none := by rw [f1 _ (by omega)]; exact hfree _ (by omega) (by omega)
  have g2 : h1 (b + p.length + q.length + 2) = none := by rw [f1 _ (by omega)]; exact hfree _ (by omega) (by omega)
  have s2 := stepK_jump (N := N) (i := b + p.length) (h := h) (t := b + p.length + q.length + 2) (j := j) (by omega) e1 (by omega) (by omega) g2 g1
  obtain ⟨h3, r3, e3, f3⟩ := hq N (b + p.length + 1) (if j = 2 then h else h + 1) (fun m => if m = b + p.length + 1 then some (if j = 2 then h else h + 1) else if m = b + p.length + q.length + 2 then some (h + 1) else h1 m) (by omega) (if_pos rfl) (fun i hi hi2 => by
    rw [if_neg (by omega), if_neg (by omega), f1 _ (by omega)]
    exact hfree _ (by omega) (by omega))
  have e4 : h3 (b + p.length + q.length + 2) = some (h + 1) := by
    rw [f3 _ (by omega), if_neg (by omega), if_pos rfl]
  have s4 : stepK N (b + p.length + 1 + q.length) (ins0 c) h3 = some (fun m => if m = b + p.length + 1 + q.length + 1 then some (h + 1) else h3 m) := by
    unfold stepK ins0
    rw [e3]
    simp only
    have hc : h3.come (b + p.length + 1 + q.length + 1) (h + 1) = some (fun m => if m = b + p.length + 1 + q.length + 1 then some (h + 1) else h3 m) := by
      unfold Hts.come
      rw [if_pos]
      right
      rw [← e4]
      congr 1
      omega
    rcases hj with ⟨rfl, rfl⟩ | ⟨rfl, rfl⟩
    · rw [if_neg (by omega), if_neg (by omega), if_pos rfl, if_pos ⟨trivial, trivial, by simp⟩, if_pos rfl, hc]
    · rw [if_neg (by omega), if_neg (by omega), if_neg (by omega), if_pos rfl, if_pos ⟨trivial, trivial, by simp⟩, if_neg (by omega)]
      exact hc
  refine ⟨fun m => if m = b + p.length + 1 + q.length + 1 then some (h + 1) else h3 m, ?_, ?_, fun i hi => ?_⟩
  · unfold logicI
    rw [joinI_cons, joinI_cons, joinI_cons, joinI_cons, joinI_nil]
    simp only [List.map_append, map_shift_shift, List.map_cons, List.map_nil, List.append_nil]
    rw [runK_app, r1, Option.bind_some, List.length_map, runK_app]
    have es : shift (b + p.length) ⟨j, stp0, q.length + 2⟩ = ⟨j, stp0, ((b + p.length + q.length + 2 : Nat) : Int)⟩ := by
      unfold shift
      rw [if_pos (by simp only; omega)]
      simp only [Ins.mk.injEq, true_and]
      omega
    rw [shift_shift, es, runK, s2]
    simp only [Option.bind_some, runK, List.length_cons, List.length_nil]
    rw [show b + (p.length + (0 + 1)) = b + p.length + 1 by omega, show b + p.length + (0 + 1) = b + p.length + 1 by omega, runK_app, r3, Option.bind_some, List.length_map]
    rw [show shift b (shift p.length (shift (0 + 1) (shift q.length (ins0 c)))) = ins0 c from rfl, runK, s4]
    rfl
  · simp only
    rw [if_pos (by omega)]
  · simp only
    rw [if_neg (by omega), f3 _ (by omega), if_neg (by omega), if_neg (by omega), f1 _ (by omega)]

/-! ### the stack -/
theorem takes_logic {s : Stp} {k : Nat} (ht : takes s = some k) (hk : s.kind = 21 ∨ s.kind = 22) : k = 2 := by
  unfold takes at ht
  rw [if_neg (by omega), if_neg (by omega), if_neg (by omega), if_neg (by omega), if_neg (by omega), if_neg (by omega), if_neg (by omega), if_pos (by omega)] at ht
  split at ht
  · exact (Option.some.inj ht).symm
  · cases ht
theorem takes_kind {s : Stp} {k : Nat} (ht : takes s = some k) : 1 ≤ s.kind ∧ s.kind < 23 := by
  unfold takes at ht
  repeat' split at ht
  all_goals first | (cases ht; done) | omega
theorem two_parts {parts : List (List Ins)} (h : parts.length = 2) : ∃ p q, parts = [p, q] := by
  match parts, h with
  | [p, q], _ => exact ⟨p, q, rfl⟩
theorem partC_seg {s : Stp} {k : Nat} (ht : takes s = some k) {parts : List (List Ins)} (hl : parts.length = k) (h : ∀ p ∈ parts, Seg 1 p) : Seg 1 (partC s parts) := by
  unfold partC
  have hk := takes_kind ht
  split
  · rename_i e
    obtain ⟨p, q, rfl⟩ := two_parts (hl.trans (takes_logic ht (.inl e)))
    exact Seg.logic (h p (by simp)) (h q (by simp)) (.inl ⟨rfl, rfl⟩)
  · split
    · rename_i e
      obtain ⟨p, q, rfl⟩ := two_parts (hl.trans (takes_logic ht (.inr e)))
      exact Seg.logic (h p (by simp)) (h q (by simp)) (.inr ⟨rfl, rfl⟩)
    · have := Seg.join parts h
      rw [hl] at this
      exact this.step ht (by omega)
def isLogic (s : Stp) : Nat := if 21 ≤ s.kind then 1 else 0
def total (stk : List (List Ins)) : Nat := (stk.map List.length).sum
theorem total_app (a b : List (List Ins)) : total (a ++ b) = total a + total b := by unfold total; simp
theorem partC_len {s : Stp} {k : Nat} (ht : takes s = some k) {parts : List (List Ins)} (hl : parts.length = k) : (partC s parts).length = total parts + 1 + isLogic s := by
  unfold partC isLogic
  have hk := takes_kind ht
  split
  · rename_i e
    obtain ⟨p, q, rfl⟩ := two_parts (hl.trans (takes_logic ht (.inl e)))
    rw [logicI_length, if_pos (by omega)]
    simp [total]
  · split
    · rename_i e
      obtain ⟨p, q, rfl⟩ := two_parts (hl.trans (takes_logic ht (.inr e)))
      rw [logicI_length, if_pos (by omega)]
      simp [total]
    · rw [if_neg (by omega), List.length_append, joinI_length]
      rfl
def steps (p : List Ins) : Nat := (p.filter fun x => x.op == 1).length
theorem steps_app (a b : List Ins) : steps (a ++ b) = steps a + steps b := by unfold steps; simp
theorem steps_shift (b : Nat) (p : List Ins) : steps (p.map (shift b)) = steps p := by
  unfold steps
  rw [List.filter_map, List.length_map]
  congr 2
  funext x
  simp only [Function.comp, shift]
  split <;> rfl
theorem steps_join : ∀ ps : List (List Ins), steps (joinI ps) = (ps.map steps).sum
  | [] => rfl
  | p :: ps => by rw [joinI_cons, steps_app, steps_shift, steps_join ps]; simp
def totalS (stk : List (List Ins)) : Nat := (stk.map steps).sum
theorem totalS_app (a b : List (List Ins)) : totalS (a ++ b) = totalS a + totalS b := by unfold totalS; simp
theorem partC_steps {s : Stp} {k : Nat} (ht : takes s = some k) {parts : List (List Ins)} (hl : parts.length = k) : steps (partC s parts) + isLogic s = totalS parts + 1 := by
  unfold partC isLogic
  have hk := takes_kind ht
  split
  · rename_i e
    obtain ⟨p, q, rfl⟩ := two_parts (hl.trans (takes_logic ht (.inl e)))
    rw [if_pos (by omega)]
    unfold logicI
    rw [steps_join]
    simp [totalS]
    simp [steps, ins0]
  · split
    · rename_i e
      obtain ⟨p, q, rfl⟩ := two_parts (hl.trans (takes_logic ht (.inr e)))
      rw [if_pos (by omega)]
      unfold logicI
      rw [steps_join]
      simp [totalS]
      simp [steps, ins0]
    · rw [if_neg (by omega), steps_app, steps_join]
      rfl

structure StkOk (stk : List (List Ins)) (n : Nat) (l : List Stp) : Prop where
  len : stk.length = n
  seg : ∀ p ∈ stk, Seg 1 p
  size : total stk = l.length + (l.map isLogic).sum
  steps : totalS stk + (l.map isLogic).sum = l.length
theorem StkOk.nil : StkOk [] 0 [] := ⟨rfl, fun _ h => (nomatch h), rfl, rfl⟩
theorem stepC_len {stk : List (List Ins)} {s : Stp} {k : Nat} (ht : takes s = some k) : (stepC stk s).length = stk.length - k + 1 := by
  unfold stepC takesN
  rw [ht, Option.getD_some, List.length_append, List.length_take]
  simp
theorem StkOk.step {stk : List (List Ins)} {n k : Nat} {l : List Stp} {s : Stp} (h : StkOk stk n l) (ht : takes s = some k) (hn : k ≤ n) : StkOk (stepC stk s) (n - k + 1) (l ++ [s]) := by
  have hlen := h.len
  have hl : (stk.drop (stk.length - k)).length = k := by rw [List.length_drop]; omega
  have e1 : total (stk.take (stk.length - k)) + total (stk.drop (stk.length - k)) = total stk := by rw [← total_app, List.take_append_drop]
  have e2 : totalS (stk.take (stk.length - k)) + totalS (stk.drop (stk.length - k)) = totalS stk := by rw [← totalS_app, List.take_append_drop]
  have e3 := partC_len ht hl
  have e4 := partC_steps ht hl
  have hs := h.size
  have hst := h.steps
  refine ⟨by rw [stepC_len ht, hlen], ?_, ?_, ?_⟩
  · unfold stepC takesN
    rw [ht, Option.getD_some]
    intro p hp
    rcases List.mem_append.1 hp with hp | hp
    · exact h.seg p (List.mem_of_mem_take hp)
    · rw [List.mem_singleton.1 hp]
      exact partC_seg ht hl fun q hq => h.seg q (List.mem_of_mem_drop hq)
  · unfold stepC takesN
    rw [ht, Option.getD_some, total_app, List.map_append, List.sum_append, List.length_append]
    simp only [total, List.map_cons, List.map_nil, List.sum_cons, List.sum_nil, List.length_cons, List.length_nil] at e1 e3 hs ⊢
    omega
  · unfold stepC takesN
    rw [ht, Option.getD_some, totalS_app, List.map_append, List.sum_append, List.length_append]
    simp only [totalS, List.map_cons, List.map_nil, List.sum_cons, List.sum_nil, List.length_cons, List.length_nil] at e2 e4 hst ⊢
    omega
theorem StkOk.all : ∀ (r : List Stp) {stk : List (List Ins)} {n m : Nat} {l : List Stp}, StkOk stk n l → rightL r n = some m → StkOk (r.foldl stepC stk) m (l ++ r)
  | [], stk, n, m, l, h, hr => by
    rw [rightL] at hr
    obtain rfl := Option.some.inj hr
    simpa using h
  | s :: r, stk, n, m, l, h, hr => by
    rw [rightL] at hr
    cases ht : takes s with
    | none => rw [ht] at hr; cases hr
    | some k =>
      rw [ht] at hr
      simp only at hr
      split at hr
      · cases hr
      · rename_i hk
        have := StkOk.all r (h.step ht (by omega)) hr
        rw [List.append_assoc] at this
        exact this
theorem compile_stack {l : List Stp} (h : rightB l = true) : l.foldl stepC [] = [compileL l] ∧ StkOk [compileL l] 1 l := by
  have hr := ((right_iff l).1 h).1
  have ho := StkOk.all l StkOk.nil hr
  rw [List.nil_append] at ho
  have hl := ho.len
  unfold compileL
  match hst : l.foldl stepC [], hl with
  | [p], _ =>
    rw [hst] at ho
    exact ⟨rfl, ho⟩
theorem logic_le : ∀ l : List Stp, (l.map isLogic).sum ≤ l.length
  | [] => Nat.le_refl _
  | s :: l => by
    have := logic_le l
    have h1 : isLogic s ≤ 1 := by unfold isLogic; split <;> omega
    simp only [List.map_cons, List.sum_cons, List.length_cons]
    omega
end Go.Proofs.YtcjmhmmjfgjcnaaGreatDoor.Cd
