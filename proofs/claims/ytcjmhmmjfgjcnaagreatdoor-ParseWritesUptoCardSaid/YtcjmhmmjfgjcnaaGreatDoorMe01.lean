/- Parts: LxP LxS LxA LxB. -/
import Derived.Lib.Bytealg
import Derived.Lib.IndexLaws
import Derived.Lib.ParseIntB
import Derived.Lib.ValidU
import Derived.Lib.Strings
import GoSem.Op.String
import Derived.WalkKit
import Derived.OwnWalk
import Derived.Below
import Derived.Lib.Hide
import Derived.Lib.ConvBytes
import Derived.Laws.BytesArg
import Derived.Laws.AppendOwn
import Derived.Test.YtcjmhmmjfgjcnaaGreatDoorProg
import Derived.Outline
import Derived.WalkSpells
import Derived.WalkLawsBesides

/- The lexer over lists of bytes: plain definitions and small facts; nothing here speaks of the program. -/
namespace Go.Proofs.YtcjmhmmjfgjcnaaGreatDoor.Lx

theorem all_u8 {p : UInt8 → Prop} (h : ∀ n : Fin 256, p (UInt8.ofNat n.val)) (c : UInt8) : p c := by
  have := h ⟨c.toNat, c.toNat_lt⟩
  simpa using this

def digitB (c : UInt8) : Bool := decide (48 ≤ c) && decide (c ≤ 57)
def letterB (c : UInt8) : Bool := (decide (97 ≤ c ||| 32) && decide (c ||| 32 ≤ 122)) || c == 95
def wordB (c : UInt8) : Bool := letterB c || digitB c
def blankB (c : UInt8) : Bool := c == 32 || c == 9 || c == 10 || c == 13
/-- a great letter for a small one -/
def upB (c : UInt8) : UInt8 := if 97 ≤ c ∧ c ≤ 122 then c - 32 else c

def quoteB (c : UInt8) : Bool := c == 39

/-- how many first bytes are of a kind -/
def runN (p : UInt8 → Bool) (l : List UInt8) : Nat := (l.takeWhile p).length
theorem runN_le (p : UInt8 → Bool) (l : List UInt8) : runN p l ≤ l.length := by
  unfold runN; exact (List.takeWhile_prefix p).length_le
theorem runN_stop {p : UInt8 → Bool} {l : List UInt8} {k : Nat} (hk : k ≤ l.length) (h1 : ∀ j (h : j < l.length), j < k → p l[j] = true) (h2 : ∀ h : k < l.length, p l[k] = false) : runN p l = k := by
  unfold runN
  induction l generalizing k with
  | nil => simp at hk; simp [hk]
  | cons c l ih =>
    cases k with
    | zero =>
      have h3 : p c = false := h2 (by simp)
      simp [h3]
    | succ k =>
      have hc : p c = true := h1 0 (by simp) (by omega)
      simp only [List.takeWhile_cons, hc, if_true, List.length_cons]
      congr 1
      refine ih (by simpa using hk) (fun j hj hjk => ?_) (fun h => ?_)
      · exact h1 (j + 1) (by simpa using hj) (by omega)
      · exact h2 (by simpa using h)


def great (l : List UInt8) : List UInt8 := l.map upB
/-- what great has made of the first k bytes -/
def greatTo (l : List UInt8) (k : Nat) : List UInt8 := (l.take k).map upB ++ l.drop k
theorem greatTo_length (l : List UInt8) (k : Nat) : (greatTo l k).length = l.length := by
  simp [greatTo]; omega
theorem greatTo_zero (l : List UInt8) : greatTo l 0 = l := by simp [greatTo]
theorem greatTo_all (l : List UInt8) {k : Nat} (h : l.length ≤ k) : greatTo l k = great l := by
  simp [greatTo, great, List.take_of_length_le h, List.drop_of_length_le h]
theorem greatTo_get (l : List UInt8) {k : Nat} (h : k < l.length) : (greatTo l k)[k]'(by rw [greatTo_length]; exact h) = l[k] := by
  simp [greatTo, List.getElem_append, List.length_take]
  rw [dif_neg (by omega)]
  congr 1
  omega
theorem greatTo_succ (l : List UInt8) {k : Nat} (h : k < l.length) : greatTo l (k + 1) = (greatTo l k).set k (upB l[k]) := by
  have h1 : (greatTo l k).length = l.length := greatTo_length l k
  unfold greatTo
  have e1 : l.take (k + 1) = l.take k ++ [l[k]] := by rw [List.take_succ_eq_append_getElem h]
  have e2 : l.drop k = l[k] :: l.drop (k + 1) := by rw [List.drop_eq_getElem_cons h]
  rw [e1, e2, List.set_append]
  simp only [List.length_map, List.length_take]
  rw [if_neg (by omega), show k - min k l.length = 0 by omega, List.set_cons_zero, List.map_append]
  simp
theorem greatTo_same (l : List UInt8) {k : Nat} (h : k < l.length) (hu : upB l[k] = l[k]) : greatTo l (k + 1) = greatTo l k := by
  rw [greatTo_succ l h, hu]
  conv => lhs; arg 3; rw [← greatTo_get l h]
  simp

def kws : List (List UInt8) := ["ALL", "AND", "AS", "BY", "CREATE", "DELETE", "DESC", "FALSE", "FROM", "HISTORY", "IN", "INDEX", "INSERT", "INTO", "IS", "NOT", "NULL", "ON", "OR", "ORDER", "SELECT", "SET", "TABLE", "TRUE", "UPDATE", "WHERE"].map fun s => s.toUTF8.data.toList
def kwAt (j : Nat) : List UInt8 := kws.getD j []
theorem kws_sorted : ∀ i, i < 26 → ∀ j, j < 26 → i < j → Op.bytesLess (kwAt i) (kwAt j) = true := by decide +kernel
theorem kws_length : kws.length = 26 := by decide +kernel

theorem bytesLess_irrefl (l : List UInt8) : Op.bytesLess l l = false := by
  induction l with
  | nil => rfl
  | cons c l ih => simp [Op.bytesLess, ih]

theorem kw_in {x : List UInt8} {i : Nat} (hi : i ≤ 26) (h1 : ∀ m, m < i → Op.bytesLess (kwAt m) x = true) (h2 : ∀ m, i ≤ m → m < 26 → Op.bytesLess (kwAt m) x = false) :
    x ∈ kws ↔ i < 26 ∧ kwAt i = x := by
  constructor
  · intro h
    obtain ⟨m, hm, e⟩ := List.getElem_of_mem h
    have hm' : m < 26 := by rw [← kws_length]; exact hm
    have e' : kwAt m = x := by rw [← e]; simp [kwAt, List.getD_eq_getElem?_getD, List.getElem?_eq_getElem hm]
    have hge : i ≤ m := by
      rcases Nat.lt_or_ge m i with h | h
      · have := h1 m h; rw [e', bytesLess_irrefl] at this; cases this
      · exact h
    rcases Nat.lt_or_ge i m with h | h
    · have := kws_sorted i (by omega) m hm' h
      rw [e', h2 i (Nat.le_refl _) (by omega)] at this; cases this
    · obtain rfl : i = m := by omega
      exact ⟨hm', e'⟩
  · rintro ⟨h, rfl⟩
    have hm : i < kws.length := by rw [kws_length]; exact h
    simp only [kwAt, List.getD_eq_getElem?_getD, List.getElem?_eq_getElem hm, Option.getD_some]
    exact List.getElem_mem hm

theorem bytesLess_trans : ∀ {a b c : List UInt8}, Op.bytesLess a b = true → Op.bytesLess b c = true → Op.bytesLess a c = true
  | _, [], _, h1, _ => by cases ‹List UInt8› <;> simp [Op.bytesLess] at h1
  | _, _ :: _, [], _, h2 => by simp [Op.bytesLess] at h2
  | [], _ :: _, _ :: _, _, _ => by simp [Op.bytesLess]
  | x :: xs, y :: ys, z :: zs, h1, h2 => by
    simp only [Op.bytesLess, Bool.or_eq_true, Bool.and_eq_true, decide_eq_true_eq, beq_iff_eq] at h1 h2 ⊢
    rcases h1 with h1 | ⟨rfl, h1⟩
    · rcases h2 with h2 | ⟨rfl, h2⟩
      · exact .inl (UInt8.lt_trans h1 h2)
      · exact .inl h1
    · rcases h2 with h2 | ⟨rfl, h2⟩
      · exact .inl h2
      · exact .inr ⟨rfl, bytesLess_trans h1 h2⟩
theorem kw_down {x : List UInt8} {k m : Nat} (h : Op.bytesLess (kwAt k) x = true) (hm : m ≤ k) (hk : k < 26) : Op.bytesLess (kwAt m) x = true := by
  rcases Nat.lt_or_ge m k with h' | h'
  · exact bytesLess_trans (kws_sorted m (by omega) k hk h') h
  · obtain rfl : m = k := by omega
    exact h
theorem kw_up {x : List UInt8} {k m : Nat} (h : Op.bytesLess (kwAt k) x = false) (hm : k ≤ m) (hk : m < 26) : Op.bytesLess (kwAt m) x = false := by
  cases e : Op.bytesLess (kwAt m) x with
  | false => rfl
  | true => rw [kw_down e hm hk] at h; cases h

def keywordB (l : List UInt8) : Bool := decide (great l ∈ kws)

/-- a token -/
structure Tok where
  kind : Nat
  text : List UInt8
  num : Int
  pos : Nat
  deriving DecidableEq, Repr
def tok0 : Tok := ⟨0, [], 0, 0⟩

/-- what a reader of one token says: the token and how many bytes it takes, or an error's number -/
inductive Rd where
  | ok (t : Tok) (n : Nat)
  | err (e : Nat)
  deriving DecidableEq, Repr

def wordR (l : List UInt8) : Rd :=
  if keywordB (l.take (runN wordB l)) then .ok ⟨2, great (l.take (runN wordB l)), 0, 0⟩ (runN wordB l)
  else if 64 < runN wordB l then .err 13
  else .ok ⟨1, l.take (runN wordB l), 0, 0⟩ (runN wordB l)

/-- does a number's token end well after n digits -/
def endsB (l : List UInt8) (n : Nat) : Bool := match l.drop n with
  | [] => true
  | c :: _ => !letterB c
def numberR (l : List UInt8) : Rd :=
  match Lib.parseUintB 64 (l.take (runN digitB l)) with
  | .ok u => if 9223372036854775807 < u then .err 13
    else if 1 < runN digitB l ∧ l.head? = some 48 then .err 13
    else if endsB l (runN digitB l) then .ok ⟨3, [], u, 0⟩ (runN digitB l) else .err 13
  | _ => .err 13

/-- what stands up to a closing quote, and how many bytes that takes with the quote -/
def textL : List UInt8 → Option (List UInt8 × Nat)
  | [] => none
  | c :: r => if c = 39 then match r with
      | [] => some ([], 1)
      | d :: r' => if d = 39 then (textL r').map fun x => (39 :: x.1, x.2 + 2) else some ([], 1)
    else (textL r).map fun x => (c :: x.1, x.2 + 1)
def textR (l : List UInt8) : Rd :=
  match textL (l.drop 1) with
  | none => .err 13
  | some (c, n) => if 1024 < c.length then .err 4 else if Lib.validD c then .ok ⟨4, c, 0, 0⟩ (n + 1) else .err 9

def signs : List (List UInt8) := [[60, 62], [60, 61], [62, 61], [61], [60], [62], [43], [45], [42], [40], [41], [91], [93], [123], [125], [44], [58], [46]]
def signR (l : List UInt8) : Rd :=
  match signs.find? fun t => Lib.hasPrefix l t with
  | some t => .ok ⟨5, t, 0, 0⟩ t.length
  | none => .err 13

def nextR (l : List UInt8) : Rd := match l with
  | [] => .err 13
  | c :: _ => if letterB c then wordR l else if digitB c then numberR l else if quoteB c then textR l else signR l

/-- what the lexer says: tokens, or an error's number and its place -/
inductive Lx where
  | ok (l : List Tok)
  | err (e : Nat) (at_ : Nat)
  deriving DecidableEq, Repr
def Lx.cons (t : Tok) : Lx → Lx
  | .ok l => .ok (t :: l)
  | .err e a => .err e a
def Lx.app (p : List Tok) : Lx → Lx
  | .ok l => .ok (p ++ l)
  | .err e a => .err e a

/-- from a place on, of what is left, in so many rounds -/
def lexF : Nat → Nat → List UInt8 → Lx
  | 0, _, _ => .ok []
  | k + 1, a, l => match l.drop (runN blankB l) with
    | [] => .ok []
    | c :: r => match nextR (c :: r) with
      | .err e => .err e (a + runN blankB l)
      | .ok t n => (lexF k (a + runN blankB l + n) ((c :: r).drop n)).cons { t with pos := a + runN blankB l }
def lexL (l : List UInt8) : Lx := if 16384 < l.length then .err 4 0 else lexF (l.length + 1) 0 l

end Go.Proofs.YtcjmhmmjfgjcnaaGreatDoor.Lx

/- Support: rows of bytes in memory, strings as lists of bytes; nothing here speaks of the program. -/
namespace Go.Proofs.YtcjmhmmjfgjcnaaGreatDoor.Lx
open Go.RowKit

theorem ret_bool {a b : Bool} (h : a = b) : Ending.returned (.bool a) = .returned (.bool b) := by rw [h]
theorem ret_int {k : IntKind} {a b : Int} (h : a = b) : Ending.returned (.int k a) = .returned (.int k b) := by rw [h]
theorem ret_ib {i : Int} {a b : Bool} (h : a = b) : Ending.returned (.tuple #[.int .i64 i, .bool a]) = .returned (.tuple #[.int .i64 i, .bool b]) := by rw [h]
theorem ret_str {a b : ByteArray} (h : a = b) : Ending.returned (.string a) = .returned (.string b) := by rw [h]
/-- a string's bytes -/
abbrev L (s : ByteArray) : List UInt8 := s.data.toList
theorem L_length (s : ByteArray) : (L s).length = s.size := by rw [L, Array.length_toList]; rfl
theorem L_get (s : ByteArray) (k : Nat) (h : k < s.size) : (L s)[k]'(by rw [L_length]; exact h) = s[k] := by
  rfl
theorem toList_L (s : ByteArray) : s.toList = L s := Lib.toList_data s
theorem L_mk (l : List UInt8) : L ⟨l.toArray⟩ = l := by simp [L]
theorem mk_L (s : ByteArray) : (⟨(L s).toArray⟩ : ByteArray) = s := by simp [L]
theorem size_mk (l : List UInt8) : (⟨l.toArray⟩ : ByteArray).size = l.length := by rw [← L_length, L_mk]
theorem L_extract (s : ByteArray) (a b : Nat) : L (s.extract a b) = ((L s).drop a).take (b - a) := by
  simp [L, ByteArray.data_extract, List.extract_eq_take_drop]
theorem L_drop (s : ByteArray) (a : Nat) : L (s.extract a s.size) = (L s).drop a := by
  rw [L_extract, List.take_of_length_le (by rw [List.length_drop, L_length]; omega)]
theorem L_take (s : ByteArray) (b : Nat) : L (s.extract 0 b) = (L s).take b := by
  rw [L_extract]; simp
theorem L_inj {s t : ByteArray} (h : L s = L t) : s = t := by rw [← mk_L s, ← mk_L t, h]

/-- block B of w holds, from its head on, these bytes, and none of these cells is frozen -/
def BytesAt (w : World) (B : Nat) (l : List UInt8) : Prop :=
  ∀ j (h : j < l.length), w.cell? ⟨B, j, none⟩ = some (.int .u8 (l[j].toNat)) ∧ w.frozen? ⟨B, j, none⟩ = false

theorem BytesAt.below {w w' : World} {B : Nat} {l : List UInt8} (h : BytesAt w B l) (hb : Below w.heap.size w w') (hB : B < w.heap.size) : BytesAt w' B l :=
  fun j hj => ⟨(hb.cell (p := ⟨B, j, none⟩) hB).trans (h j hj).1, (hb.frozen (p := ⟨B, j, none⟩) hB).trans (h j hj).2⟩

theorem BytesAt.set {w : World} {B : Nat} {l : List UInt8} (h : BytesAt w B l) (k : Nat) (c : UInt8) (hk : k < l.length) :
    BytesAt (w.setCell ⟨B, k, none⟩ (.int .u8 c.toNat)) B (l.set k c) := by
  intro j hj
  have hj' : j < l.length := by simpa using hj
  constructor
  · by_cases e : k = j
    · subst e
      rw [World.cell?_setCell_same _ _ _ (h k hk).1]; simp
    · have e2 : (⟨B, k, none⟩ : Addr) ≠ ⟨B, j, none⟩ := fun e' => e (congrArg Addr.off e')
      rw [World.cell?_setCell_other _ _ _ _ e2, (h j hj').1]
      simp [e]
  · rw [World.frozen?_setCell]; exact (h j hj').2


/-- what []byte(s) leaves: a new row with the string's bytes -/
theorem conv_bytes (P : Program) (src dst e : TypeId) {u : TypeDesc} (hs : P.underlying src = some u) (hd : P.underlying dst = some (.slice e)) (he : P.underlying e = some (.int .u8))
    (s : ByteArray) (W : World) : ∃ cap W1, s.size ≤ cap ∧ (convert src dst (.string s)).run P W = .ok (.slice (some ⟨W.heap.size, 0, none⟩) s.size cap) W1 ∧
      Below W.heap.size W W1 ∧ W1.heap.size = W.heap.size + 1 ∧ BytesAt W1 W.heap.size (L s) := by
  refine ⟨_, _, ?_, Lib.run_convert_string_bytes W src dst e s hs hd he, ?_, Lib.bytesWorld_size W e s, ?_⟩
  · exact grownCap_ge W s.size 0 e
  · exact ⟨rfl, rfl, rfl, by rw [Lib.bytesWorld_size]; omega, fun i hi => Lib.bytesWorld_at_old W e s i hi⟩
  · intro j hj
    have hj' : j < s.size := by rw [← L_length]; exact hj
    constructor
    · rw [Lib.bytesWorld_cell W e s j hj']
      simp [List.getD_eq_getElem?_getD, List.getElem?_eq_getElem hj]
    · have hg := grownCap_ge W s.size 0 e
      have hsz : (Lib.bytesCells W e s).size = s.data.size + (grownCap W s.size 0 e - s.size) := by simp [Lib.bytesCells]
      have hsd : s.data.size = s.size := rfl
      simp only [World.frozen?, Lib.bytesWorld_at_new]
      simp only [hsz, hsd]
      simp
      omega

/-- string(b) of such a row -/
theorem conv_string (P : Program) (src dst e : TypeId) (hs : P.underlying src = some (.slice e)) (hd : P.underlying dst = some .string) (he : P.underlying e = some (.int .u8))
    (W : World) (B n cap : Nat) (l : List UInt8) (hl : l.length = n) (h : BytesAt W B l) :
    (convert src dst (.slice (some ⟨B, 0, none⟩) n cap)).run P W = .ok (.string ⟨l.toArray⟩) W := by
  have hx := run_convert_bytes_arg (P := P) W src e hs he B 0 n cap (l.map fun c => (c.toNat : Int)) (by simpa using hl) (fun i hi => by
    have hi' : i < l.length := by omega
    rw [Nat.zero_add, (h i hi').1]
    simp [List.getD_eq_getElem?_getD, List.getElem?_eq_getElem hi']) dst hd
  rw [hx]
  have e1 : strOfNums (l.map fun c => (c.toNat : Int)) = ⟨l.toArray⟩ := by
    unfold strOfNums
    congr 1
    congr 1
    rw [List.map_map]
    conv => rhs; rw [← List.map_id l]
    exact List.map_congr_left fun c _ => by simp
  rw [e1]


end Go.Proofs.YtcjmhmmjfgjcnaaGreatDoor.Lx

/- The small functions of lex: kinds of bytes, runs of them, great letters. -/
namespace Go.Proofs.YtcjmhmmjfgjcnaaGreatDoor.Lx
open Go.RowKit

theorem digit_calls (c : UInt8) (w : World) : Calls Tryz.prog 92 #[.int .u8 c.toNat] w fun e w' => e = .returned (.bool (digitB c)) ∧ w = w' := by
  go_enter Tryz.func92, Tryz.ntmps92
  go_wp2
  all_goals go_ret
  all_goals refine ⟨ret_bool ?_, rfl⟩
  all_goals (rename_i h; revert h; revert c; refine all_u8 ?_; decide +kernel)

theorem blank_calls (c : UInt8) (w : World) : Calls Tryz.prog 46 #[.int .u8 c.toNat] w fun e w' => e = .returned (.bool (blankB c)) ∧ w = w' := by
  have H : ∀ b : Bool, ((c.toNat : Int) == 32 || (c.toNat : Int) == 9 || (c.toNat : Int) == 10 || (c.toNat : Int) == 13) = b → blankB c = b := by
    intro b; revert b; revert c; refine all_u8 ?_; decide +kernel
  go_enter Tryz.func46, Tryz.ntmps46
  go_wp2
  all_goals go_ret
  all_goals refine ⟨ret_bool ?_, rfl⟩
  all_goals (symm; apply H; simp [*])

theorem letter_calls (c : UInt8) (w : World) : Calls Tryz.prog 90 #[.int .u8 c.toNat] w fun e w' => e = .returned (.bool (letterB c)) ∧ w = w' := by
  go_enter Tryz.func90, Tryz.ntmps90
  go_wp2
  all_goals go_ret
  all_goals refine ⟨ret_bool ?_, rfl⟩
  · rename_i h1 h2; revert h1 h2; revert c; refine all_u8 ?_; decide +kernel
  · rename_i h1 h2; revert h1 h2; revert c; refine all_u8 ?_; decide +kernel
  · rename_i h1; revert h1; revert c; refine all_u8 ?_; decide +kernel

theorem wordB_calls (c : UInt8) (w : World) : Calls Tryz.prog 128 #[.int .u8 c.toNat] w fun e w' => e = .returned (.bool (wordB c)) ∧ w = w' := by
  unfold wordB
  cases h : letterB c
  all_goals
    go_enter Tryz.func128, Tryz.ntmps128
    go_wp2_with (first | (go_at_call 90; refine (letter_calls _ _).mono ?_; rintro e w' ⟨rfl, rfl⟩) | (go_at_call 92; refine (digit_calls _ _).mono ?_; rintro e w' ⟨rfl, rfl⟩))
    go_ret
    exact ⟨ret_bool (by simp), rfl⟩

theorem quote_calls (c : UInt8) (w : World) : Calls Tryz.prog 94 #[.int .u8 c.toNat] w fun e w' => e = .returned (.bool (quoteB c)) ∧ w = w' := by
  have H : ((c.toNat : Int) == 39) = quoteB c := by
    revert c; refine all_u8 ?_; decide +kernel
  go_enter Tryz.func94, Tryz.ntmps94
  go_wp2
  all_goals go_ret
  all_goals exact ⟨ret_bool (by simp), rfl⟩

theorem any_calls (c : UInt8) (w : World) : Calls Tryz.prog 96 #[.int .u8 c.toNat] w fun e w' => e = .returned (.bool true) ∧ w = w' := by
  go_enter Tryz.func96, Tryz.ntmps96
  go_wp2
  go_ret
  exact ⟨rfl, rfl⟩

structure RunTo (p : UInt8 → Bool) (s : ByteArray) (k : Nat) : Prop where
  le : k ≤ s.size
  all : ∀ j (h : j < s.size), j < k → p s[j] = true
theorem RunTo.stop {p : UInt8 → Bool} {s : ByteArray} {k : Nat} (h : RunTo p s k) (h2 : ∀ h : k < s.size, p s[k] = false) : runN p (L s) = k :=
  runN_stop (by rw [L_length]; exact h.le) (fun j hj hk => by have := h.all j (by rw [← L_length]; exact hj) hk; exact this) (fun hk => h2 (by rw [← L_length]; exact hk))
theorem RunTo.step {p : UInt8 → Bool} {s : ByteArray} {k : Nat} (h : RunTo p s k) (hk : k < s.size) (hp : p s[k] = true) : RunTo p s (k + 1) :=
  ⟨hk, fun j hj hjk => by
    by_cases e : j = k
    · subst e; exact hp
    · exact h.all j hj (by omega)⟩

theorem runN_digit (s : ByteArray) (w : World) (hs : s.size ≤ maxLen) :
    Calls Tryz.prog 45 #[.string s, .func (.func 92) #[] #[]] w fun e w' => e = .returned (.int .i64 (runN digitB (L s))) ∧ w = w' := by
  unfold maxLen at hs
  go_enter Tryz.func45, Tryz.ntmps45
  go_wp2
  go_loop [5] (fun n => ∃ k : Nat, n = .int .i64 k ∧ RunTo digitB s k) (fun n => s.size - (intOf n).toNat)
  case atStart => exact ⟨0, rfl, Nat.zero_le _, fun _ _ h => absurd h (Nat.not_lt_zero _)⟩
  case round =>
    obtain ⟨k, rfl, hp⟩ := hrel
    have hle := hp.le
    by_cases hlt : k < s.size
    · cases hd : digitB s[k]
      · have hf := Lib.hid (hp.stop fun _ => hd)
        go_wp2_with (first | (go_at_call 92; refine (digit_calls _ _).mono ?_; rintro e w' ⟨rfl, rfl⟩))
        go_ret
        exact ⟨ret_int (by rw [hf.out]), rfl⟩
      · have hn := hp.step hlt hd
        go_wp2_with (first | (go_at_call 92; refine (digit_calls _ _).mono ?_; rintro e w' ⟨rfl, rfl⟩))
        go_round
        case rel => exact ⟨k + 1, by go_num, hn⟩
        case measure => simp [intOf]; omega
    · have hf := Lib.hid (hp.stop fun h => absurd h hlt)
      go_wp2
      go_ret
      exact ⟨ret_int (by rw [hf.out]), rfl⟩

theorem runN_word (s : ByteArray) (w : World) (hs : s.size ≤ maxLen) :
    Calls Tryz.prog 45 #[.string s, .func (.func 128) #[] #[]] w fun e w' => e = .returned (.int .i64 (runN wordB (L s))) ∧ w = w' := by
  unfold maxLen at hs
  go_enter Tryz.func45, Tryz.ntmps45
  go_wp2
  go_loop [5] (fun n => ∃ k : Nat, n = .int .i64 k ∧ RunTo wordB s k) (fun n => s.size - (intOf n).toNat)
  case atStart => exact ⟨0, rfl, Nat.zero_le _, fun _ _ h => absurd h (Nat.not_lt_zero _)⟩
  case round =>
    obtain ⟨k, rfl, hp⟩ := hrel
    have hle := hp.le
    by_cases hlt : k < s.size
    · cases hd : wordB s[k]
      · have hf := Lib.hid (hp.stop fun _ => hd)
        go_wp2_with (first | (go_at_call 128; refine (wordB_calls _ _).mono ?_; rintro e w' ⟨rfl, rfl⟩))
        go_ret
        exact ⟨ret_int (by rw [hf.out]), rfl⟩
      · have hn := hp.step hlt hd
        go_wp2_with (first | (go_at_call 128; refine (wordB_calls _ _).mono ?_; rintro e w' ⟨rfl, rfl⟩))
        go_round
        case rel => exact ⟨k + 1, by go_num, hn⟩
        case measure => simp [intOf]; omega
    · have hf := Lib.hid (hp.stop fun h => absurd h hlt)
      go_wp2
      go_ret
      exact ⟨ret_int (by rw [hf.out]), rfl⟩

theorem runN_blank (s : ByteArray) (w : World) (hs : s.size ≤ maxLen) :
    Calls Tryz.prog 45 #[.string s, .func (.func 46) #[] #[]] w fun e w' => e = .returned (.int .i64 (runN blankB (L s))) ∧ w = w' := by
  unfold maxLen at hs
  go_enter Tryz.func45, Tryz.ntmps45
  go_wp2
  go_loop [5] (fun n => ∃ k : Nat, n = .int .i64 k ∧ RunTo blankB s k) (fun n => s.size - (intOf n).toNat)
  case atStart => exact ⟨0, rfl, Nat.zero_le _, fun _ _ h => absurd h (Nat.not_lt_zero _)⟩
  case round =>
    obtain ⟨k, rfl, hp⟩ := hrel
    have hle := hp.le
    by_cases hlt : k < s.size
    · cases hd : blankB s[k]
      · have hf := Lib.hid (hp.stop fun _ => hd)
        go_wp2_with (first | (go_at_call 46; refine (blank_calls _ _).mono ?_; rintro e w' ⟨rfl, rfl⟩))
        go_ret
        exact ⟨ret_int (by rw [hf.out]), rfl⟩
      · have hn := hp.step hlt hd
        go_wp2_with (first | (go_at_call 46; refine (blank_calls _ _).mono ?_; rintro e w' ⟨rfl, rfl⟩))
        go_round
        case rel => exact ⟨k + 1, by go_num, hn⟩
        case measure => simp [intOf]; omega
    · have hf := Lib.hid (hp.stop fun h => absurd h hlt)
      go_wp2
      go_ret
      exact ⟨ret_int (by rw [hf.out]), rfl⟩

end Go.Proofs.YtcjmhmmjfgjcnaaGreatDoor.Lx

/- great and Keyword of lex. -/
namespace Go.Proofs.YtcjmhmmjfgjcnaaGreatDoor.Lx
open Go.RowKit

theorem upB_yes (c : UInt8) (h1 : 97 ≤ (c.toNat : Int)) (h2 : (c.toNat : Int) ≤ 122) : (upB c).toNat = bits .andNot .u8 c.toNat 32 := by
  revert h1 h2; revert c; refine all_u8 ?_; decide +kernel
theorem upB_no (c : UInt8) (h : ¬ (97 ≤ (c.toNat : Int) ∧ (c.toNat : Int) ≤ 122)) : upB c = c := by
  revert h; revert c; refine all_u8 ?_; decide +kernel

set_option maxRecDepth 100000 in
theorem great_calls (s : ByteArray) (w : World) (hs : s.size ≤ maxLen) :
    Calls Tryz.prog 130 #[.string s] w fun e w' => e = .returned (.string ⟨(great (L s)).toArray⟩) ∧ Below w.heap.size w w' := by
  unfold maxLen at hs
  obtain ⟨cap, w1, hcap, hconv, hb0, hsz0, hrow0⟩ := conv_bytes Tryz.prog 9 104 5 Tryz.underlying9 Tryz.underlying104 Tryz.underlying5 s w
  have hb1 := Lib.hid hb0
  have hrow := Lib.hid hrow0
  have hsz := Lib.hid hsz0
  clear hb0 hrow0 hsz0
  go_enter Tryz.func130, Tryz.ntmps130
  go_wp2
  go_loopw [10] (fun i wr => ∃ k : Nat, k ≤ s.size ∧ i = .int .i64 k ∧ Hid (Below w.heap.size w wr ∧ w.heap.size < wr.heap.size) ∧ Hid (BytesAt wr w.heap.size (greatTo (L s) k))) (fun i _ => s.size - (intOf i).toNat)
  case atStart => exact ⟨0, Nat.zero_le _, rfl, ⟨hb1.out, by rw [hsz.out]; omega⟩, by rw [greatTo_zero]; exact hrow.out⟩
  case round =>
    obtain ⟨k, hk, rfl, hb, hr⟩ := hrel
    by_cases hlt : k < s.size
    · have hlt' : k < (L s).length := by rw [L_length]; exact hlt
      have hck := (hr.out k (by rw [greatTo_length]; exact hlt')).1
      have hcz := (hr.out k (by rw [greatTo_length]; exact hlt')).2
      rw [greatTo_get _ hlt'] at hck
      generalize hc : (L s)[k] = c at hck
      have Hc := Lib.hid hc
      clear hc
      have hb' := hb.out.1
      have hz' := hb.out.2
      have hup := fun h1 h2 => (show BytesAt (wr.setCell ⟨w.heap.size, k, none⟩ (.int .u8 (bits .andNot .u8 c.toNat 32))) w.heap.size (greatTo (L s) (k + 1)) by
        rw [greatTo_succ _ hlt', Hc.out, ← upB_yes c h1 h2]
        exact hr.out.set k (upB c) (by rw [greatTo_length]; exact hlt'))
      have hno := fun h => (show BytesAt wr w.heap.size (greatTo (L s) (k + 1)) by
        rw [greatTo_same _ hlt' (by rw [Hc.out]; exact upB_no c h)]
        exact hr.out)
      have Hup := Lib.hid hup
      have Hno := Lib.hid hno
      clear hup hno
      have Hb := Lib.hid hb'
      clear hb'
      go_wp2
      · rename_i h1 h2
        go_roundw
        case rel => exact ⟨k + 1, by omega, by go_num, ⟨Hb.out.setCell (Nat.le_refl _) _, by simpa using hz'⟩, Hup.out h1 h2⟩
        case measure => simp [intOf]; omega
      · rename_i h1 h2
        go_roundw
        case rel => exact ⟨k + 1, by omega, by go_num, ⟨Hb.out, hz'⟩, Hno.out (by omega)⟩
        case measure => simp [intOf]; omega
      · rename_i h1
        go_roundw
        case rel => exact ⟨k + 1, by omega, by go_num, ⟨Hb.out, hz'⟩, Hno.out (by omega)⟩
        case measure => simp [intOf]; omega
    · have hback := conv_string Tryz.prog 104 9 5 Tryz.underlying104 Tryz.underlying9 Tryz.underlying5 wr w.heap.size s.size cap (greatTo (L s) k) (by rw [greatTo_length, L_length]) hr.out
      go_wp2
      go_ret
      exact ⟨ret_str (by rw [greatTo_all]; rw [L_length]; omega), hb.out.1⟩

theorem nan_calls (a : ByteArray) (w : World) : Calls Tryz.prog 198 #[.string a] w fun e w' => e = .returned (.bool false) ∧ w = w' := by
  go_enter Tryz.func198, Tryz.ntmps198
  go_wp2
  go_ret
  exact ⟨ret_bool (by simp), rfl⟩
theorem nan2_calls (a : ByteArray) (w : World) : Calls Tryz.prog 177 #[.string a] w fun e w' => e = .returned (.bool false) ∧ w = w' := by
  go_enter Tryz.func177, Tryz.ntmps177
  go_wp2
  go_ret
  exact ⟨ret_bool (by simp), rfl⟩
theorem less_calls (a b : ByteArray) (w : World) : Calls Tryz.prog 176 #[.string a, .string b] w fun e w' => e = .returned (.bool (Op.bytesLess (L a) (L b))) ∧ w = w' := by
  go_enter Tryz.func176, Tryz.ntmps176
  go_wp2_with (go_at_call 198; refine (nan_calls _ _).mono ?_; rintro e w' ⟨rfl, rfl⟩)
  go_ret
  exact ⟨ret_bool (by simp [toList_L]), rfl⟩

/-- the keywords in memory -/
def KwsAt (w : World) (B : Nat) : Prop := ∀ j, j < 26 → w.cell? ⟨B, j, none⟩ = some (.string ⟨(kwAt j).toArray⟩)
theorem KwsAt.below {w w' : World} {B : Nat} (h : KwsAt w B) (hb : Below w.heap.size w w') (hB : B < w.heap.size) : KwsAt w' B :=
  fun j hj => (hb.cell (p := ⟨B, j, none⟩) hB).trans (h j hj)

set_option maxRecDepth 100000 in
theorem keywords_calls (w : World) : Calls Tryz.prog 152 #[] w fun e w' => e = .returned (.slice (some ⟨w.heap.size, 0, none⟩) 26 26) ∧ Below w.heap.size w w' ∧ w.heap.size < w'.heap.size ∧ KwsAt w' w.heap.size := by
  go_enter Tryz.func152, Tryz.ntmps152
  go_wp2
  go_ret
  refine ⟨rfl, (Below.refl _ _).alloc (Nat.le_refl _) _, by simp, ?_⟩
  intro j hj
  rw [World.cell?_alloc_new]
  match j, hj with
  | 0, _ => rfl
  | 1, _ => rfl
  | 2, _ => rfl
  | 3, _ => rfl
  | 4, _ => rfl
  | 5, _ => rfl
  | 6, _ => rfl
  | 7, _ => rfl
  | 8, _ => rfl
  | 9, _ => rfl
  | 10, _ => rfl
  | 11, _ => rfl
  | 12, _ => rfl
  | 13, _ => rfl
  | 14, _ => rfl
  | 15, _ => rfl
  | 16, _ => rfl
  | 17, _ => rfl
  | 18, _ => rfl
  | 19, _ => rfl
  | 20, _ => rfl
  | 21, _ => rfl
  | 22, _ => rfl
  | 23, _ => rfl
  | 24, _ => rfl
  | 25, _ => rfl
  | n + 26, h => exact absurd h (by omega)

set_option maxRecDepth 100000 in
theorem search_calls (B : Nat) (x : ByteArray) (w : World) (hk : KwsAt w B) :
    Calls Tryz.prog 151 #[.slice (some ⟨B, 0, none⟩) 26 26, .string x] w fun e w' => (∃ i : Int, e = .returned (.tuple #[.int .i64 i, .bool (decide (L x ∈ kws))])) ∧ w = w' := by
  have Hk := Lib.hid hk
  clear hk
  go_enter Tryz.func151, Tryz.ntmps151
  go_wp2
  go_loop [7, 8] (fun a b => ∃ i j : Nat, i ≤ j ∧ j ≤ 26 ∧ a = .int .i64 i ∧ b = .int .i64 j ∧ Hid (∀ m, m < i → Op.bytesLess (kwAt m) (L x) = true) ∧ Hid (∀ m, j ≤ m → m < 26 → Op.bytesLess (kwAt m) (L x) = false)) (fun a b => ((intOf b).toNat - (intOf a).toNat))
  case atStart => exact ⟨0, 26, by omega, by omega, rfl, rfl, fun m h => absurd h (Nat.not_lt_zero _), fun m h1 h2 => by omega⟩
  case round =>
    obtain ⟨i, j, hij, hj, rfl, rfl, hlo, hhi⟩ := hrel
    by_cases hlt : i < j
    · have hc := Hk.out ((i + j) / 2) (by omega)
      have Hlo := Lib.hid (show Op.bytesLess (kwAt ((i + j) / 2)) (L x) = true → ∀ m, m < (i + j) / 2 + 1 → Op.bytesLess (kwAt m) (L x) = true from fun h m hm => by
        rcases Nat.lt_or_ge m i with h' | h'
        · exact hlo.out m h'
        · exact kw_down h (by omega) (by omega))
      have Hhi := Lib.hid (show Op.bytesLess (kwAt ((i + j) / 2)) (L x) = false → ∀ m, (i + j) / 2 ≤ m → m < 26 → Op.bytesLess (kwAt m) (L x) = false from fun h m h1 h2 => kw_up h (by omega) (by omega))
      go_wp2_with (go_at_call 176; refine (less_calls _ _ _).mono ?_; rintro e w' ⟨rfl, rfl⟩)
      · rename_i h1
        go_round
        case rel => exact ⟨(i + j) / 2 + 1, j, by omega, by omega, by go_num, rfl, Hlo.out (by rw [← h1, L_mk]), hhi⟩
        case measure => simp [intOf]; omega
      · rename_i h1
        go_round
        case rel => exact ⟨i, (i + j) / 2, by omega, by omega, rfl, by go_num, hlo, Hhi.out (by rw [← h1, L_mk])⟩
        case measure => simp [intOf]; omega
    · obtain rfl : i = j := by omega
      have hkw := Lib.hid (kw_in hj hlo.out hhi.out)
      by_cases h26 : i < 26
      · have hc := Hk.out i h26
        go_wp2_with (go_at_call 177; refine (nan2_calls _ _).mono ?_; rintro e w' ⟨rfl, rfl⟩)
        · have h2 : kwAt i = x.toList := by assumption
          go_ret2
          exact ⟨⟨(i : Int), ret_ib (decide_eq_true (hkw.out.2 ⟨h26, by rw [h2, toList_L]⟩)).symm⟩, rfl⟩
        · have h2 : ¬ kwAt i = x.toList := by assumption
          go_ret2
          exact ⟨⟨(i : Int), ret_ib ((beq_eq_false_iff_ne.2 h2).trans (decide_eq_false (fun h => h2 (by rw [(hkw.out.1 h).2, toList_L]))).symm)⟩, rfl⟩
      · go_wp2_with (go_at_call 177; refine (nan2_calls _ _).mono ?_; rintro e w' ⟨rfl, rfl⟩)
        go_ret2
        exact ⟨⟨(i : Int), ret_ib (decide_eq_false (fun h => h26 (hkw.out.1 h).1)).symm⟩, rfl⟩

set_option maxRecDepth 100000 in
theorem Keyword_calls (s : ByteArray) (w : World) (hs : s.size ≤ maxLen) :
    Calls Tryz.prog 129 #[.string s] w fun e w' => e = .returned (.bool (keywordB (L s))) ∧ Below w.heap.size w w' := by
  go_enter Tryz.func129, Tryz.ntmps129
  go_wp2_with fail
  refine (keywords_calls _).mono ?_
  rintro e w1 ⟨rfl, hb1, hz1, hk⟩
  have Hb1 := Lib.hid hb1
  have Hk := Lib.hid hk
  clear hb1 hk
  go_wp2_with fail
  refine (great_calls _ _ hs).mono ?_
  rintro e w2 ⟨rfl, hb2⟩
  have Hb2 := Lib.hid hb2
  clear hb2
  go_wp2_with fail
  refine (search_calls _ _ _ (Hk.out.below Hb2.out hz1)).mono ?_
  rintro e w3 ⟨⟨i, rfl⟩, rfl⟩
  go_wp2_with fail
  go_ret
  exact ⟨ret_bool (by rw [L_mk]; rfl), Hb1.out.trans (Hb2.out.mono (by omega))⟩

end Go.Proofs.YtcjmhmmjfgjcnaaGreatDoor.Lx
