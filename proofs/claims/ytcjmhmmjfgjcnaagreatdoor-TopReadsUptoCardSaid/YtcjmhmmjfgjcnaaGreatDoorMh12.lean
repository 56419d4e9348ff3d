/- Parts: PaP PaQ RaM. -/
import Derived.Test.YtcjmhmmjfgjcnaaGreatDoorMh01
import Derived.Test.YtcjmhmmjfgjcnaaGreatDoorMh10
import Derived.Lib.Split
import Derived.Lib.Join
import Derived.Test.YtcjmhmmjfgjcnaaGreatDoorProg
import Derived.Maps.AppendAt
import Derived.Deep.DeepMust
import Derived.Deep.AppendLies
import Derived.Laws.OwnMore

/- Statements and their parser over lists: plain definitions; nothing here speaks of the program. -/
namespace Go.Proofs.YtcjmhmmjfgjcnaaGreatDoor.Pa
open Go.Proofs.YtcjmhmmjfgjcnaaGreatDoor.Lx

abbrev Txt := List UInt8
/-! the words of the language, and pieces of printed texts -/
def kNULL : Txt := [78, 85, 76, 76]
def kTRUE : Txt := [84, 82, 85, 69]
def kFALSE : Txt := [70, 65, 76, 83, 69]
def kIS : Txt := [73, 83]
def kNOT : Txt := [78, 79, 84]
def kAND : Txt := [65, 78, 68]
def kOR : Txt := [79, 82]
def kAS : Txt := [65, 83]
def kWHERE : Txt := [87, 72, 69, 82, 69]
def kHISTORY : Txt := [72, 73, 83, 84, 79, 82, 89]
def kORDER : Txt := [79, 82, 68, 69, 82]
def kBY : Txt := [66, 89]
def kDESC : Txt := [68, 69, 83, 67]
def kFROM : Txt := [70, 82, 79, 77]
def kCREATE : Txt := [67, 82, 69, 65, 84, 69]
def kTABLE : Txt := [84, 65, 66, 76, 69]
def kINDEX : Txt := [73, 78, 68, 69, 88]
def kON : Txt := [79, 78]
def kINSERT : Txt := [73, 78, 83, 69, 82, 84]
def kINTO : Txt := [73, 78, 84, 79]
def kUPDATE : Txt := [85, 80, 68, 65, 84, 69]
def kSET : Txt := [83, 69, 84]
def kDELETE : Txt := [68, 69, 76, 69, 84, 69]
def kSELECT : Txt := [83, 69, 76, 69, 67, 84]
def kNOTX : Txt := [40, 78, 79, 84, 32]
def kISNULLX : Txt := [32, 73, 83, 32, 78, 85, 76, 76, 41]
def kWHEREX : Txt := [32, 87, 72, 69, 82, 69, 32]
def kX : Txt := [32, 61, 32]
def kASX : Txt := [32, 65, 83, 32]
def kCREATETABLEX : Txt := [67, 82, 69, 65, 84, 69, 32, 84, 65, 66, 76, 69, 32]
def kCREATEINDEXONX : Txt := [67, 82, 69, 65, 84, 69, 32, 73, 78, 68, 69, 88, 32, 79, 78, 32]
def kX' : Txt := [32, 40]
def kINSERTINTOX : Txt := [73, 78, 83, 69, 82, 84, 32, 73, 78, 84, 79, 32]
def kUPDATEX : Txt := [85, 80, 68, 65, 84, 69, 32]
def kSETX : Txt := [32, 83, 69, 84, 32]
def kDELETEFROMX : Txt := [68, 69, 76, 69, 84, 69, 32, 70, 82, 79, 77, 32]
def kSELECTX : Txt := [83, 69, 76, 69, 67, 84, 32]
def kFROMX : Txt := [32, 70, 82, 79, 77, 32]
def kHISTORYX : Txt := [72, 73, 83, 84, 79, 82, 89, 40]
def kORDERBYX : Txt := [32, 79, 82, 68, 69, 82, 32, 66, 89, 32]
def kDESCX : Txt := [32, 68, 69, 83, 67]

structure Stp where
  kind : Nat
  text : Txt
  num : Int
  deriving DecidableEq, Repr
structure Itm where
  name : Txt
  expr : List Stp
  deriving DecidableEq, Repr
structure Stm where
  kind : Nat
  table : Txt
  field : Txt
  items : List Itm
  expr : List Stp
  history : Bool
  desc : Bool
  deriving DecidableEq, Repr
def stm0 : Stm := ⟨0, [], [], [], [], false, false⟩

def operators : List Txt := [[43], [45], [42], [61], [60, 62], [60], [60, 61], [62], [62, 61], [65, 78, 68], [79, 82]]
def opKind (t : Txt) : Nat := if t ∈ operators then 12 + operators.idxOf t else 11

/-! ### the parser's state -/
structure St where
  left : List Tok
  fin : Nat
  why : Nat
  at_ : Nat
  steps : List Stp
  deriving DecidableEq, Repr
def St.place (s : St) : Nat := match s.left with
  | [] => s.fin
  | t :: _ => t.pos
def St.fail (s : St) (why at_ : Nat) : St := if s.why = 0 then { s with why := why, at_ := at_, left := [] } else s
def St.next (s : St) (k : Nat) (texts : List Txt) : Bool := match s.left with
  | [] => false
  | t :: _ => t.kind == k && (texts.isEmpty || texts.contains t.text)
def St.drop (s : St) : St := { s with left := s.left.tail }
def St.head (s : St) : Tok := s.left.headD tok0
def St.taken (s : St) (k : Nat) (texts : List Txt) : Tok := if s.next k texts then s.head else tok0
def St.after (s : St) (k : Nat) (texts : List Txt) : St := if s.next k texts then s.drop else s
def St.bad (s : St) : St := s.fail 13 s.place
def St.need (s : St) (k : Nat) (texts : List Txt) : St := if s.next k texts then s.drop else s.bad
def St.keys (s : St) (texts : List Txt) : St := texts.foldl (fun s x => s.need 2 [x]) s
def St.sign (s : St) (x : Txt) : St := s.need 5 [x]
def St.nameT (s : St) : Txt := (s.taken 1 []).text
def St.name (s : St) : St := s.need 1 []
def St.many (s : St) : St := if s.why = 0 ∧ 128 ≤ s.steps.length then s.fail 3 s.place else s
def St.put (s : St) (x : Stp) : St := if s.many.why = 0 then { s.many with steps := s.many.steps ++ [x] } else s.many
def St.deep (s : St) : St := s.fail 10 s.place

/-! ### expressions; 'none': the rounds are used up -/
def rowL (one : St → Option St) (k : Nat) (texts : List Txt) : Nat → St → Option St
  | 0, _ => none
  | n + 1, s => if s.next k texts then (one s.drop).bind fun s' => rowL one k texts n (s'.put ⟨opKind s.head.text, [], 0⟩) else some s
def row (one : St → Option St) (k : Nat) (texts : List Txt) (n : Nat) (s : St) : Option St := (one s).bind (rowL one k texts n)
def aheadF (k : Nat) (text : Txt) (step : Nat) (other : Nat → St → Option St) : Nat → Nat → St → Option St
  | 0, _, _ => none
  | n + 1, d, s => if s.next k [text] then
      if 16 ≤ d then some s.deep else (aheadF k text step other n (d + 1) s.drop).bind fun s' => some (s'.put ⟨step, [], 0⟩)
    else other d s

def commas : List Txt → Txt
  | [] => []
  | [x] => x
  | x :: r => x ++ 44 :: commas r
def partsB (end_ : Txt) (x : Stp) (l : List Txt) (go : St → Option St) (s : St) : Option St :=
  if s.why = 0 then
    if s.next 5 [end_] then some (s.drop.put { x with text := x.text ++ commas l }) else go (s.sign [44])
  else some s
def partN (x : Stp) (l : List Txt) (s : St) : List Txt × St :=
  if x.kind = 8 then
    (l ++ [s.nameT], (if (l ++ [s.nameT]).Nodup then s.name else s.name.fail 18 s.place).sign [58])
  else (l, s)
def partsL (or_ : St → Option St) (end_ : Txt) : Nat → Stp → List Txt → St → Option St
  | 0, _, _, _ => none
  | n + 1, x, l, s =>
    if s.why = 0 then
      if 64 ≤ x.num then some (s.fail 3 s.place)
      else (or_ (partN x l s).2).bind fun s' => partsB end_ { x with num := x.num + 1 } (partN x l s).1 (partsL or_ end_ n { x with num := x.num + 1 } (partN x l s).1) s'
    else some s
def parts (or_ : St → Option St) (n : Nat) (x : Stp) (end_ : Txt) (s : St) : Option St :=
  if s.next 5 [end_] then some (s.drop.put x) else partsL or_ end_ n x [] s

def pathL : Nat → Txt → St → Option (Txt × St)
  | 0, _, _ => none
  | n + 1, x, s => if s.next 5 [[46]] then
      if s.drop.next 3 [] then pathL n (x ++ (46 :: Lib.itoa s.drop.head.num)) s.drop.drop
      else pathL n (x ++ (46 :: s.drop.nameT)) s.drop.name
    else some (x, s)
def path (n : Nat) (s : St) : Option St := (pathL n s.nameT s.name).map fun r => r.2.put ⟨6, r.1, 0⟩

def constKind (t : Txt) : Nat := if t = kNULL then 1 else if t = kTRUE then 2 else if t = kFALSE then 3 else 0
def nestThen (d : Nat) (s : St) (go : St → Option St) : Option St := if 16 ≤ d then some s.deep else go s.drop
def primary (or_ : Nat → St → Option St) (n d : Nat) (s : St) : Option St :=
  if s.next 3 [] then some (s.drop.put ⟨4, [], s.head.num⟩)
  else if s.next 4 [] then some (s.drop.put ⟨5, s.head.text, 0⟩)
  else if s.next 1 [] then path n s
  else if s.next 2 [kNULL, kTRUE, kFALSE] then some (s.drop.put ⟨constKind s.head.text, [], 0⟩)
  else if s.next 5 [[40]] then nestThen d s fun s => (or_ (d + 1) s).bind fun s => some (s.sign [41])
  else if s.next 5 [[91]] then nestThen d s fun s => parts (or_ (d + 1)) n ⟨7, [], 0⟩ [93] s
  else if s.next 5 [[123]] then nestThen d s fun s => parts (or_ (d + 1)) n ⟨8, [], 0⟩ [125] s
  else some s.bad

def relOps : List Txt := [[61], [60, 62], [60], [60, 61], [62], [62, 61]]
def signed (or_ : Nat → St → Option St) (n d : Nat) (s : St) : Option St := aheadF 5 [45] 9 (primary or_ n) n d s
def product (or_ : Nat → St → Option St) (n d : Nat) (s : St) : Option St := row (signed or_ n d) 5 [[42]] n s
def sum (or_ : Nat → St → Option St) (n d : Nat) (s : St) : Option St := row (product or_ n d) 5 [[43], [45]] n s
def isNull (s : St) : St :=
  if s.next 2 [kIS] then
    let s1 := s.drop
    let s2 := s1.after 2 [kNOT]
    let s3 := (s2.keys [kNULL]).put ⟨11, [], 0⟩
    if s1.next 2 [kNOT] then s3.put ⟨10, [], 0⟩ else s3
  else s
def compared (or_ : Nat → St → Option St) (n d : Nat) (s : St) : Option St :=
  (sum or_ n d s).bind fun s => if s.next 5 relOps then (sum or_ n d s.drop).bind fun s' => some (s'.put ⟨opKind s.head.text, [], 0⟩) else some (isNull s)
def notE (or_ : Nat → St → Option St) (n d : Nat) (s : St) : Option St := aheadF 2 (kNOT) 10 (compared or_ n) n d s
def andE (or_ : Nat → St → Option St) (n d : Nat) (s : St) : Option St := row (notE or_ n d) 2 [kAND] n s
def orE (or_ : Nat → St → Option St) (n d : Nat) (s : St) : Option St := row (andE or_ n d) 2 [kOR] n s
def orF : Nat → Nat → St → Option St
  | 0, _, _ => none
  | n + 1, d, s => orE (orF n) n d s

/-! ### statements -/
def expr (n : Nat) (s : St) : Option St := orF n 0 { s with steps := [] }
def itemF (n : Nat) (set : Bool) (names : List Txt) (s : St) : Option (Itm × St) :=
  if set then
    let s1 := if (names ++ [s.nameT]).Nodup then s.name else s.name.fail 18 s.place
    (expr n (s1.sign [61])).bind fun s2 => some (⟨s.nameT, s2.steps⟩, s2)
  else (expr n s).bind fun s1 =>
    let s2 := s1.keys [kAS]
    some (⟨s2.nameT, s1.steps⟩, if (names ++ [s2.nameT]).Nodup then s2.name else s2.name.fail 18 s2.place)
def itemsL (m : Nat) (set : Bool) : Nat → List Itm → St → Option (List Itm × St)
  | 0, _, _ => none
  | n + 1, out, s =>
    if s.why = 0 then
      if 64 ≤ out.length then some (out, s.fail 3 s.place)
      else (itemF m set (out.map Itm.name) s).bind fun r =>
        if r.2.next 5 [[44]] then itemsL m set n (out ++ [r.1]) r.2.drop else some (out ++ [r.1], r.2)
    else some (out, s)
def items (n : Nat) (set : Bool) (s : St) : Option (List Itm × St) := itemsL n set n [] s
def where_ (n : Nat) (s : St) : Option (List Stp × St) :=
  if s.next 2 [kWHERE] then (expr n s.drop).bind fun s => some (s.steps, s) else some ([], s)
def fromT (s : St) : Bool × Txt × St :=
  if s.next 2 [kHISTORY] then
    let s1 := s.drop.sign [40]
    (true, s1.nameT, s1.name.sign [41])
  else (false, s.nameT, s.name)
def orderT (s : St) : Txt × Bool × St :=
  if s.next 2 [kORDER] then
    let s1 := s.drop.keys [kBY]
    (s1.nameT, s1.name.next 2 [kDESC], s1.name.after 2 [kDESC])
  else ([], false, s)
def what (n : Nat) (s : St) : Option (List Itm × St) := if s.next 5 [[42]] then some ([], s.drop) else items n false s
def picked (n : Nat) (s : St) : Option (Stm × St) :=
  (what n s).bind fun r =>
    let f := fromT (r.2.keys [kFROM])
    (where_ n f.2.2).bind fun w =>
      let o := orderT w.2
      some (⟨6, f.2.1, o.1, r.1, w.1, f.1, o.2.1⟩, o.2.2)
def stmt (n : Nat) (s : St) : Option (Stm × St) :=
  if s.next 2 [kCREATE] then
    if s.drop.next 2 [kTABLE] then some ({ stm0 with kind := 1, table := s.drop.drop.nameT }, s.drop.drop.name)
    else
      let s1 := s.drop.keys [kINDEX, kON]
      let s2 := s1.name.sign [40]
      some ({ stm0 with kind := 2, table := s1.nameT, field := s2.nameT }, s2.name.sign [41])
  else if s.next 2 [kINSERT] then
    let s1 := s.drop.keys [kINTO]
    (expr n s1.name).bind fun s2 => some ({ stm0 with kind := 3, table := s1.nameT, expr := s2.steps }, s2)
  else if s.next 2 [kUPDATE] then
    let s1 := s.drop
    (items n true (s1.name.keys [kSET])).bind fun r => (where_ n r.2).bind fun w => some ({ stm0 with kind := 4, table := s1.nameT, items := r.1, expr := w.1 }, w.2)
  else if s.next 2 [kDELETE] then
    let s1 := s.drop.keys [kFROM]
    (where_ n s1.name).bind fun w => some ({ stm0 with kind := 5, table := s1.nameT, expr := w.1 }, w.2)
  else if s.next 2 [kSELECT] then picked n s.drop
  else some (stm0, s.bad)

end Go.Proofs.YtcjmhmmjfgjcnaaGreatDoor.Pa

/- Statements: which are right, how they are printed, how a text is read: plain definitions; nothing here speaks of the program. -/
namespace Go.Proofs.YtcjmhmmjfgjcnaaGreatDoor.Pa
open Go.Proofs.YtcjmhmmjfgjcnaaGreatDoor.Lx

def nameB (s : Txt) : Bool := showOk ⟨1, s, 0, 0⟩
def numberB (s : Txt) : Bool := match Lib.parseIntB 64 s with
  | .ok n => decide (0 ≤ n) && decide (Lib.itoa n = s)
  | _ => false
def pathParts : Nat → List Txt → Bool
  | _, [] => true
  | i, p :: r => (nameB p || (i != 0 && numberB p)) && pathParts (i + 1) r
def pathB (s : Txt) : Bool := pathParts 0 (Lib.split s [46]) && decide (s.length ≤ 1024)
def apartB (l : List Txt) : Bool := decide l.Nodup
def namesB (s : Txt) (n : Int) : Bool :=
  if n = 0 then decide (s = []) else decide (((Lib.split s [44]).length : Int) = n) && (apartB (Lib.split s [44]) && (Lib.split s [44]).all nameB)

def takes (s : Stp) : Option Nat :=
  if s.kind = 1 ∨ s.kind = 2 ∨ s.kind = 3 then if s.text = [] ∧ s.num = 0 then some 0 else none
  else if s.kind = 4 then if s.text = [] ∧ 0 ≤ s.num then some 0 else none
  else if s.kind = 5 then if s.num = 0 ∧ s.text.length ≤ 1024 ∧ Lib.validD s.text = true then some 0 else none
  else if s.kind = 6 then if s.num = 0 ∧ pathB s.text = true then some 0 else none
  else if s.kind = 7 then if s.text = [] ∧ 0 ≤ s.num ∧ s.num ≤ 64 then some s.num.toNat else none
  else if s.kind = 8 then if 0 ≤ s.num ∧ s.num ≤ 64 ∧ namesB s.text s.num = true then some s.num.toNat else none
  else if s.kind = 9 ∨ s.kind = 10 ∨ s.kind = 11 then if s.text = [] ∧ s.num = 0 then some 1 else none
  else if 12 ≤ s.kind ∧ s.kind < 23 then if s.text = [] ∧ s.num = 0 then some 2 else none
  else none
def takesN (s : Stp) : Nat := (takes s).getD 0
def rightL : List Stp → Nat → Option Nat
  | [], n => some n
  | s :: r, n => match takes s with
    | none => none
    | some k => if n < k then none else rightL r (n - k + 1)
def rightB (l : List Stp) : Bool := decide (rightL l 0 = some 1) && decide (l.length ≤ 128)
def closedB (l : List Stp) : Bool := l.all fun s => s.kind != 6

def fieldsT : List Txt → List Txt → List Txt
  | x :: l, n :: r => (n ++ [58, 32] ++ x) :: fieldsT l r
  | _, _ => []
def joined (s : Stp) (l : List Txt) : Txt :=
  if s.kind = 7 then [91] ++ Lib.join l [44, 32] ++ [93]
  else [123] ++ Lib.join (fieldsT l (Lib.split s.text [44])) [44, 32] ++ [125]
def textS (x : Txt) : Txt := if showOk ⟨4, x, 0, 0⟩ then showS ⟨4, x, 0, 0⟩ else []
def shown (s : Stp) (l : List Txt) : Txt :=
  if s.kind = 1 then kNULL else if s.kind = 2 then kTRUE else if s.kind = 3 then kFALSE
  else if s.kind = 4 then Lib.itoa s.num else if s.kind = 5 then textS s.text else if s.kind = 6 then s.text
  else if s.kind = 7 ∨ s.kind = 8 then joined s l
  else if s.kind = 9 then [40, 45] ++ l.getD 0 [] ++ [41]
  else if s.kind = 10 then kNOTX ++ l.getD 0 [] ++ [41]
  else if s.kind = 11 then [40] ++ l.getD 0 [] ++ kISNULLX
  else [40] ++ l.getD 0 [] ++ [32] ++ operators.getD (s.kind - 12) [] ++ [32] ++ l.getD 1 [] ++ [41]
def showG : List Stp → List Txt → List Txt
  | [], st => st
  | s :: r, st => showG r (st.take (st.length - takesN s) ++ [shown s (st.drop (st.length - takesN s))])
def showE (l : List Stp) : Txt := if rightB l then (showG l []).headD [] else []

def itemsB (l : List Itm) : Bool := (l.all fun x => nameB x.name && rightB x.expr) && (decide (l.length ≤ 64) && apartB (l.map Itm.name))
def checkB (x : Stm) : Bool :=
  nameB x.table && (
  if x.kind = 1 then x.field.isEmpty && (x.items.isEmpty && (x.expr.isEmpty && (!x.history && !x.desc)))
  else if x.kind = 2 then nameB x.field && (x.items.isEmpty && (x.expr.isEmpty && (!x.history && !x.desc)))
  else if x.kind = 3 then (rightB x.expr && closedB x.expr) && (x.field.isEmpty && (x.items.isEmpty && (!x.history && !x.desc)))
  else if x.kind = 4 then ((x.expr.isEmpty || rightB x.expr) && (itemsB x.items && !x.items.isEmpty)) && (x.field.isEmpty && (!x.history && !x.desc))
  else if x.kind = 5 then (x.expr.isEmpty || rightB x.expr) && (x.field.isEmpty && (x.items.isEmpty && (!x.history && !x.desc)))
  else if x.kind = 6 then (x.expr.isEmpty || rightB x.expr) && (itemsB x.items && (nameB x.field || (x.field.isEmpty && !x.desc)))
  else false)

def whereT (x : Stm) : Txt := if x.expr.isEmpty then [] else kWHEREX ++ showE x.expr
def setT (l : List Itm) : Txt := Lib.join (l.map fun i => i.name ++ kX ++ showE i.expr) [44, 32]
def asT (l : List Itm) : Txt := Lib.join (l.map fun i => showE i.expr ++ kASX ++ i.name) [44, 32]
def printT (x : Stm) : Txt :=
  if x.kind = 1 then kCREATETABLEX ++ x.table
  else if x.kind = 2 then kCREATEINDEXONX ++ x.table ++ kX' ++ x.field ++ [41]
  else if x.kind = 3 then kINSERTINTOX ++ x.table ++ [32] ++ showE x.expr
  else if x.kind = 4 then kUPDATEX ++ x.table ++ kSETX ++ setT x.items ++ whereT x
  else if x.kind = 5 then kDELETEFROMX ++ x.table ++ whereT x
  else kSELECTX ++ (if x.items.isEmpty then [42] else asT x.items) ++ kFROMX ++ (if x.history then kHISTORYX ++ x.table ++ [41] else x.table) ++ whereT x
    ++ ((if x.field.isEmpty then [] else kORDERBYX ++ x.field) ++ (if x.desc then kDESCX else []))

inductive Rs where
  | ok (x : Stm)
  | err (e at_ : Nat)
  deriving DecidableEq, Repr
def st0 (l : List Tok) (n : Nat) : St := ⟨l, n, 0, 0, []⟩
def St.ended (s : St) : St := if s.left.isEmpty then s else s.bad
def finish (x : Stm) (s : St) : Rs := if s.why ≠ 0 then .err s.why s.at_ else if checkB x then .ok x else .err 13 0
def parseF (n : Nat) (l : Txt) : Option Rs := match lexL l with
  | .err e a => some (.err e a)
  | .ok toks => (stmt n (st0 toks l.length)).bind fun r => some (finish r.1 r.2.ended)

end Go.Proofs.YtcjmhmmjfgjcnaaGreatDoor.Pa

/- The reference's own rows in memory: bytes, texts, tokens. -/
namespace Go.Proofs.YtcjmhmmjfgjcnaaGreatDoor.Rf
open Go.RowKit Go.Proofs.YtcjmhmmjfgjcnaaGreatDoor.Lx Go.Proofs.YtcjmhmmjfgjcnaaGreatDoor.Pa

theorem rAlloc (w : World) (o : Obj) : Below w.heap.size w (w.alloc o) := (Below.refl _ _).alloc (Nat.le_refl _) _
theorem rStep {a b c : World} (h1 : Below a.heap.size a b) (h2 : Below b.heap.size b c) : Below a.heap.size a c := h1.trans (h2.mono h1.size)
theorem rSame {w w' : World} {base : Nat} {e : TypeId} {size n : Nat} {v : Value} {xs : List Value} (h : w.ownsRow base e size v n xs)
    (hb : ∀ g, v.ownBlock = some g → g < w.heap.size → w'.heap[g]? = w.heap[g]?) : w'.ownsRow base e size v n xs := by
  refine ⟨h.1, ?_⟩
  rcases h.2 with h2 | ⟨g, cap, cur, rfl, h3, h4, h5⟩
  · exact .inl h2
  · refine .inr ⟨g, cap, cur, rfl, h3, ?_, h5⟩
    rw [hb g rfl (Array.getElem?_eq_some_iff.1 h4).1]
    exact h4
theorem rForm {w : World} {base n : Nat} {e : TypeId} {size : Nat} {v : Value} {xs : List Value} (h : w.ownsRow base e size v n xs) : ∃ a c, v = .slice a n c := by
  rcases h.2 with ⟨rfl, rfl⟩ | ⟨g, cap, cur, rfl, _⟩
  · exact ⟨_, _, rfl⟩
  · exact ⟨_, _, rfl⟩

structure KeptRow (w wx : World) (T : TypeId) (size : Nat) (v : Value) (n : Nat) (cs : List Value) : Prop where
  own : wx.ownsRow w.heap.size T size v n cs
  bel : Below w.heap.size w wx
theorem KeptRow.step {w wx w' : World} {T : TypeId} {size n : Nat} {v : Value} {cs : List Value} (h : KeptRow w wx T size v n cs) (hb : Below wx.heap.size wx w') : KeptRow w w' T size v n cs :=
  ⟨rSame h.own fun g _ hg => hb.block g hg, rStep h.bel hb⟩
theorem KeptRow.nil (w : World) (T : TypeId) (size : Nat) : KeptRow w w T size (.slice none 0 0) 0 [] := ⟨World.ownsRow_nil _ _ _ _, Below.refl _ _⟩
section
variable {ops : Array Oper} {rest : List Oper} {o : Oper} {a : Act} {Q : Exit → Act → World → Prop}
theorem wpList_more {W : World} (hgd : o.guard = none) (sl y : Operand) (T S : TypeId) (ho : o.op = .call { callee := .builtin .append, args := #[sl, y], argTypes := #[S, S] })
    (hu : Tryz.prog.underlying S = some (.slice T)) (z : Value) (size bytes : Nat) (hi : (Tryz.prog.info? T).map (fun i => (i.zero, i.size, i.bytes)) = some (some z, size, bytes)) (hzs : z.cells.size = size) (hsz : 0 < size)
    (w : World) (v : Value) (n : Nat) (cs : List Value) (hs : a.eval sl = v) (B0 : Nat) (hx : a.eval y = .slice (some ⟨B0, 0, none⟩) 1 1) (news : List Value) (hl : news.length = size) (h1 : ∀ u ∈ news, u.oneCell' = true)
    (H : KeptRow w W T size v n cs) (hB0 : W.heap.size = B0) (h63 : n + 1 ≤ maxLen) (hby : (n + 1) * bytes ≤ 140737488355328)
    (h : ∀ a' n' c' w', Hid (n' = n + 1) → KeptRow w w' T size (.slice a' n' c') n' (cs ++ news) → wpList Tryz.prog ops Q rest (a.put o.dst (.slice a' n' c')) w') :
    wpList Tryz.prog ops Q (o :: rest) a (W.alloc (.cells news.toArray T)) := by
  subst hB0
  obtain ⟨i0, hi0, hzz0, hz10, hz2⟩ := info_parts hi
  have H1 := H.step (rAlloc W (.cells news.toArray T))
  refine wpList_append_own_at _ hgd sl y S ho w.heap.size T i0 _ size bytes hu hi0 hzz0 hz10 hz2 hzs hsz v n cs hs H1.own ⟨W.heap.size, 0, none⟩ 1 1 news hx (by omega) (World.news_of_block (heap_alloc_new W _)) h1 h63 hby H1.bel.size ?_
  intro v' w' hown hg _ _
  obtain ⟨a', c', rfl⟩ := rForm hown
  exact h a' _ c' w' (Lib.hid rfl) ⟨hown, H1.bel.grown hg H1.bel.size fun g e => (World.ownsRow.lt H1.own g e).1⟩
end

/-! ### bytes -/
def bytesR (l : List UInt8) : List Value := l.map fun b => Value.int .u8 b.toNat
theorem bytesR_snoc (l : List UInt8) (b : UInt8) : bytesR (l ++ [b]) = bytesR l ++ [.int .u8 b.toNat] := by simp [bytesR]
theorem u8InfoR : (Tryz.prog.info? 5).map (fun i => (i.zero, i.size, i.bytes)) = some (some (.int .u8 0), 1, 1) := by kernel_rfl
structure ByT (w wx : World) (v : Value) (l : Txt) : Prop where
  row : KeptRow w wx 5 1 v l.length (bytesR l)
theorem ByT.nil (w : World) : ByT w w (.slice none 0 0) [] := ⟨KeptRow.nil _ _ _⟩
theorem ByT.step {w wx w' : World} {v : Value} {l : Txt} (h : ByT w wx v l) (hb : Below wx.heap.size wx w') : ByT w w' v l := ⟨h.row.step hb⟩
theorem ByT.form {w wx : World} {v : Value} {l : Txt} (h : ByT w wx v l) : ∃ a c, v = .slice a l.length c := rForm h.row.own
theorem ByT.at {w wx : World} {v : Value} {l : List UInt8} (h : ByT w wx v l) (hne : l ≠ []) : ∃ g c, v = .slice (some ⟨g, 0, none⟩) l.length c ∧ BytesAt wx g l := by
  rcases h.row.own.2 with ⟨rfl, h0⟩ | ⟨g, cap, cur, e, h1, h2, h3, h4, h5, h6⟩
  · exact absurd (List.eq_nil_of_length_eq_zero h0) hne
  · subst e
    refine ⟨g, cap, rfl, fun j hj => ⟨?_, ?_⟩⟩
    · rw [World.ownsRow.cellAt h.row.own j (by omega)]
      simp [bytesR, List.getElem?_eq_getElem hj]
    · simp [World.frozen?, h2]
theorem ByT.back {w wx : World} {v : Value} {l : Txt} (h : ByT w wx v l) : (convert 104 9 v).run Tryz.prog wx = .ok (.string ⟨l.toArray⟩) wx := by
  by_cases hne : l = []
  · subst hne
    rcases h.row.own.2 with ⟨rfl, h0⟩ | ⟨g, cap, cur, e, h1, h2, h3, h4, h5, h6⟩
    · exact run_convert_bytes_nil wx 104 5 Tryz.underlying104 Tryz.underlying5 0 0 9 Tryz.underlying9
    · subst e
      have := run_convert_bytes_arg (P := Tryz.prog) wx 104 5 Tryz.underlying104 Tryz.underlying5 g 0 0 cap [] (by simp) (fun i hi => absurd hi (Nat.not_lt_zero _)) 9 Tryz.underlying9
      exact this
  · obtain ⟨g, c, rfl, hat⟩ := h.at hne
    exact conv_string Tryz.prog 104 9 5 Tryz.underlying104 Tryz.underlying9 Tryz.underlying5 wx g _ c l rfl hat

/-! ### texts -/
def strsR (l : List Txt) : List Value := l.map fun t => Value.string ⟨t.toArray⟩
structure StT (w wx : World) (v : Value) (l : List Txt) : Prop where
  row : KeptRow w wx 9 1 v l.length (strsR l)
theorem StT.nil (w : World) : StT w w (.slice none 0 0) [] := ⟨KeptRow.nil _ _ _⟩
theorem StT.step {w wx w' : World} {v : Value} {l : List Txt} (h : StT w wx v l) (hb : Below wx.heap.size wx w') : StT w w' v l := ⟨h.row.step hb⟩
theorem StT.form {w wx : World} {v : Value} {l : List Txt} (h : StT w wx v l) : ∃ a c, v = .slice a l.length c := rForm h.row.own
def TxsIn (w : World) (v : Value) (l : List Txt) : Prop := ∃ (a : Option Addr) (n c : Nat), v = .slice a n c ∧ l.length = n ∧ n ≤ c ∧ ∀ (j : Nat) (h : j < l.length), ∃ g o, a = some ⟨g, o, none⟩ ∧ w.cell? ⟨g, o + j, none⟩ = some (.string ⟨l[j].toArray⟩)
theorem TxsIn.nil (w : World) : TxsIn w (.slice none 0 0) [] := ⟨none, 0, 0, rfl, rfl, Nat.le_refl _, fun _ h => absurd h (Nat.not_lt_zero _)⟩
theorem TxsIn.below {w w' : World} {v : Value} {l : List Txt} (h : TxsIn w v l) (hb : Below w.heap.size w w') : TxsIn w' v l := by
  obtain ⟨a, n, c, rfl, hn, hc, hj⟩ := h
  refine ⟨a, n, c, rfl, hn, hc, fun j hlt => ?_⟩
  obtain ⟨g, o, e, hcell⟩ := hj j hlt
  exact ⟨g, o, e, (hb.cell (p := ⟨g, _, none⟩) (World.block_lt_of_cell? _ _ hcell)).trans hcell⟩
theorem StT.in {w wx : World} {v : Value} {l : List Txt} (h : StT w wx v l) : TxsIn wx v l := by
  rcases h.row.own.2 with ⟨rfl, h0⟩ | ⟨g, cap, cur, e, h1, h2, h3, h4, h5, h6⟩
  · exact ⟨none, 0, 0, rfl, h0, Nat.le_refl _, fun j hj => by omega⟩
  · subst e
    refine ⟨_, _, _, rfl, rfl, h3, fun j hj => ⟨g, 0, rfl, ?_⟩⟩
    rw [Nat.zero_add, World.ownsRow.cellAt h.row.own j (by omega)]
    simp [strsR, List.getElem?_eq_getElem hj]

section
variable {ops : Array Oper} {rest : List Oper} {o : Oper} {a : Act} {Q : Exit → Act → World → Prop}
theorem wpList_byte {W : World} (hgd : o.guard = none) (sl y : Operand) (ho : o.op = .call { callee := .builtin .append, args := #[sl, y], argTypes := #[104, 104] })
    (w : World) (v : Value) (l : Txt) (hs : a.eval sl = v) (B0 : Nat) (hx : a.eval y = .slice (some ⟨B0, 0, none⟩) 1 1) (z : Int) (b : UInt8) (hz : z = (b.toNat : Int)) (H : ByT w W v l) (hB0 : W.heap.size = B0) (hl : l.length + 1 ≤ 1000000000)
    (h : ∀ a' n' c' w', Hid (n' = l.length + 1) → ByT w w' (.slice a' n' c') (l ++ [b]) → wpList Tryz.prog ops Q rest (a.put o.dst (.slice a' n' c')) w') : wpList Tryz.prog ops Q (o :: rest) a (W.alloc (.cells #[.int .u8 z] 5)) := by
  subst hz
  refine wpList_more hgd sl y 5 104 ho Tryz.underlying104 _ 1 1 u8InfoR rfl (by decide) w v l.length (bytesR l) hs B0 hx [.int .u8 b.toNat] rfl (by intro u hu; rw [List.mem_singleton] at hu; subst hu; rfl) H.row hB0 (by unfold maxLen; omega) (by omega) ?_
  intro a' n' c' w' hn hr
  refine h a' n' c' w' hn ⟨?_⟩
  rw [bytesR_snoc, List.length_append, List.length_singleton, ← hn.out]
  exact hr
end

end Go.Proofs.YtcjmhmmjfgjcnaaGreatDoor.Rf
