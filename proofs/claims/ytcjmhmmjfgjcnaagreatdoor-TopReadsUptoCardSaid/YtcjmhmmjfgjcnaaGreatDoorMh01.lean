/- Parts: LxP LxS. -/
import Derived.Lib.Bytealg
import Derived.Lib.IndexLaws
import Derived.Lib.ParseIntB
import Derived.Lib.ValidU
import Derived.Lib.Strings
import GoSem.Op.String
import Derived.WalkKit
import Derived.OwnWalk
import Derived.Below
import Derived.Lib.Hide
import Derived.Lib.ConvBytes
import Derived.Laws.BytesArg
import Derived.Laws.AppendOwn

/- The lexer over lists of bytes: plain definitions and small facts; nothing here speaks of the program. -/
namespace Go.Proofs.YtcjmhmmjfgjcnaaGreatDoor.Lx

theorem all_u8 {p : UInt8 → Prop} (h : ∀ n : Fin 256, p (UInt8.ofNat n.val)) (c : UInt8) : p c := by
  have := h ⟨c.toNat, c.toNat_lt⟩
  simpa using this

def digitB (c : UInt8) : Bool := decide (48 ≤ c) && decide (c ≤ 57)
def letterB (c : UInt8) : Bool := (decide (97 ≤ c ||| 32) && decide (c ||| 32 ≤ 122)) || c == 95
def wordB (c : UInt8) : Bool := letterB c || digitB c
def blankB (c : UInt8) : Bool := c == 32 || c == 9 || c == 10 || c == 13
def upB (c : UInt8) : UInt8 := if 97 ≤ c ∧ c ≤ 122 then c - 32 else c

def quoteB (c : UInt8) : Bool := c == 39

def runN (p : UInt8 → Bool) (l : List UInt8) : Nat := (l.takeWhile p).length
theorem runN_le (p : UInt8 → Bool) (l : List UInt8) : runN p l ≤ l.length := by
  unfold runN; exact (List.takeWhile_prefix p).length_le
theorem runN_stop {p : UInt8 → Bool} {l : List UInt8} {k : Nat} (hk : k ≤ l.length) (h1 : ∀ j (h : j < l.length), j < k → p l[j] = true) (h2 : ∀ h : k < l.length, p l[k] = false) : runN p l = k := by
  unfold runN
  induction l generalizing k with
  | nil => simp at hk; simp [hk]
  | cons c l ih =>
    cases k with
    | zero =>
      have h3 : p c = false := h2 (by simp)
      simp [h3]
    | succ k =>
      have hc : p c = true := h1 0 (by simp) (by omega)
      simp only [List.takeWhile_cons, hc, if_true, List.length_cons]
      congr 1
      refine ih (by simpa using hk) (fun j hj hjk => ?_) (fun h => ?_)
      · exact h1 (j + 1) (by simpa using hj) (by omega)
      · exact h2 (by simpa using h)


def great (l : List UInt8) : List UInt8 := l.map upB
def greatTo (l : List UInt8) (k : Nat) : List UInt8 := (l.take k).map upB ++ l.drop k
theorem greatTo_length (l : List UInt8) (k : Nat) : (greatTo l k).length = l.length := by
  simp [greatTo]; omega
theorem greatTo_zero (l : List UInt8) : greatTo l 0 = l := by simp [greatTo]
theorem greatTo_all (l : List UInt8) {k : Nat} (h : l.length ≤ k) : greatTo l k = great l := by
  simp [greatTo, great, List.take_of_length_le h, List.drop_of_length_le h]
theorem greatTo_get (l : List UInt8) {k : Nat} (h : k < l.length) : (greatTo l k)[k]'(by rw [greatTo_length]; exact h) = l[k] := by
  simp [greatTo, List.getElem_append, List.length_take]
  rw [dif_neg (by omega)]
  congr 1
  omega
theorem greatTo_succ (l : List UInt8) {k : Nat} (h : k < l.length) : greatTo l (k + 1) = (greatTo l k).set k (upB l[k]) := by
  have h1 : (greatTo l k).length = l.length := greatTo_length l k
  unfold greatTo
  have e1 : l.take (k + 1) = l.take k ++ [l[k]] := by rw [List.take_succ_eq_append_getElem h]
  have e2 : l.drop k = l[k] :: l.drop (k + 1) := by rw [List.drop_eq_getElem_cons h]
  rw [e1, e2, List.set_append]
  simp only [List.length_map, List.length_take]
  rw [if_neg (by omega), show k - min k l.length = 0 by omega, List.set_cons_zero, List.map_append]
  simp
theorem greatTo_same (l : List UInt8) {k : Nat} (h : k < l.length) (hu : upB l[k] = l[k]) : greatTo l (k + 1) = greatTo l k := by
  rw [greatTo_succ l h, hu]
  conv => lhs; arg 3; rw [← greatTo_get l h]
  simp

def kws : List (List UInt8) := ["ALL", "AND", "AS", "BY", "CREATE", "DELETE", "DESC", "FALSE", "FROM", "HISTORY", "IN", "INDEX", "INSERT", "INTO", "IS", "NOT", "NULL", "ON", "OR", "ORDER", "SELECT", "SET", "TABLE", "TRUE", "UPDATE", "WHERE"].map fun s => s.toUTF8.data.toList
def kwAt (j : Nat) : List UInt8 := kws.getD j []
theorem kws_sorted : ∀ i, i < 26 → ∀ j, j < 26 → i < j → Op.bytesLess (kwAt i) (kwAt j) = true := by decide +kernel
theorem kws_length : kws.length = 26 := by decide +kernel

theorem bytesLess_irrefl (l : List UInt8) : Op.bytesLess l l = false := by
  induction l with
  | nil => rfl
  | cons c l ih => simp [Op.bytesLess, ih]

theorem kw_in {x : List UInt8} {i : Nat} (hi : i ≤ 26) (h1 : ∀ m, m < i → Op.bytesLess (kwAt m) x = true) (h2 : ∀ m, i ≤ m → m < 26 → Op.bytesLess (kwAt m) x = false) :
    x ∈ kws ↔ i < 26 ∧ kwAt i = x := by
  constructor
  · intro h
    obtain ⟨m, hm, e⟩ := List.getElem_of_mem h
    have hm' : m < 26 := by rw [← kws_length]; exact hm
    have e' : kwAt m = x := by rw [← e]; simp [kwAt, List.getD_eq_getElem?_getD, List.getElem?_eq_getElem hm]
    have hge : i ≤ m := by
      rcases Nat.lt_or_ge m i with h | h
      · have := h1 m h; rw [e', bytesLess_irrefl] at this; cases this
      · exact h
    rcases Nat.lt_or_ge i m with h | h
    · have := kws_sorted i (by omega) m hm' h
      rw [e', h2 i (Nat.le_refl _) (by omega)] at this; cases this
    · obtain rfl : i = m := by omega
      exact ⟨hm', e'⟩
  · rintro ⟨h, rfl⟩
    have hm : i < kws.length := by rw [kws_length]; exact h
    simp only [kwAt, List.getD_eq_getElem?_getD, List.getElem?_eq_getElem hm, Option.getD_some]
    exact List.getElem_mem hm

theorem bytesLess_trans : ∀ {a b c : List UInt8}, Op.bytesLess a b = true → Op.bytesLess b c = true → Op.bytesLess a c = true
  | _, [], _, h1, _ => by cases ‹List UInt8› <;> simp [Op.bytesLess] at h1
  | _, _ :: _, [], _, h2 => by simp [Op.bytesLess] at h2
  | [], _ :: _, _ :: _, _, _ => by simp [Op.bytesLess]
  | x :: xs, y :: ys, z :: zs, h1, h2 => by
    simp only [Op.bytesLess, Bool.or_eq_true, Bool.and_eq_true, decide_eq_true_eq, beq_iff_eq] at h1 h2 ⊢
    rcases h1 with h1 | ⟨rfl, h1⟩
    · rcases h2 with h2 | ⟨rfl, h2⟩
      · exact .inl (UInt8.lt_trans h1 h2)
      · exact .inl h1
    · rcases h2 with h2 | ⟨rfl, h2⟩
      · exact .inl h2
      · exact .inr ⟨rfl, bytesLess_trans h1 h2⟩
theorem kw_down {x : List UInt8} {k m : Nat} (h : Op.bytesLess (kwAt k) x = true) (hm : m ≤ k) (hk : k < 26) : Op.bytesLess (kwAt m) x = true := by
  rcases Nat.lt_or_ge m k with h' | h'
  · exact bytesLess_trans (kws_sorted m (by omega) k hk h') h
  · obtain rfl : m = k := by omega
    exact h
theorem kw_up {x : List UInt8} {k m : Nat} (h : Op.bytesLess (kwAt k) x = false) (hm : k ≤ m) (hk : m < 26) : Op.bytesLess (kwAt m) x = false := by
  cases e : Op.bytesLess (kwAt m) x with
  | false => rfl
  | true => rw [kw_down e hm hk] at h; cases h

def keywordB (l : List UInt8) : Bool := decide (great l ∈ kws)

structure Tok where
  kind : Nat
  text : List UInt8
  num : Int
  pos : Nat
  deriving DecidableEq, Repr
def tok0 : Tok := ⟨0, [], 0, 0⟩

inductive Rd where
  | ok (t : Tok) (n : Nat)
  | err (e : Nat)
  deriving DecidableEq, Repr

def wordR (l : List UInt8) : Rd :=
  if keywordB (l.take (runN wordB l)) then .ok ⟨2, great (l.take (runN wordB l)), 0, 0⟩ (runN wordB l)
  else if 64 < runN wordB l then .err 13
  else .ok ⟨1, l.take (runN wordB l), 0, 0⟩ (runN wordB l)

def endsB (l : List UInt8) (n : Nat) : Bool := match l.drop n with
  | [] => true
  | c :: _ => !letterB c
def numberR (l : List UInt8) : Rd :=
  match Lib.parseUintB 64 (l.take (runN digitB l)) with
  | .ok u => if 9223372036854775807 < u then .err 13
    else if 1 < runN digitB l ∧ l.head? = some 48 then .err 13
    else if endsB l (runN digitB l) then .ok ⟨3, [], u, 0⟩ (runN digitB l) else .err 13
  | _ => .err 13

def textL : List UInt8 → Option (List UInt8 × Nat)
  | [] => none
  | c :: r => if c = 39 then match r with
      | [] => some ([], 1)
      | d :: r' => if d = 39 then (textL r').map fun x => (39 :: x.1, x.2 + 2) else some ([], 1)
    else (textL r).map fun x => (c :: x.1, x.2 + 1)
def textR (l : List UInt8) : Rd :=
  match textL (l.drop 1) with
  | none => .err 13
  | some (c, n) => if 1024 < c.length then .err 4 else if Lib.validD c then .ok ⟨4, c, 0, 0⟩ (n + 1) else .err 9

def signs : List (List UInt8) := [[60, 62], [60, 61], [62, 61], [61], [60], [62], [43], [45], [42], [40], [41], [91], [93], [123], [125], [44], [58], [46]]
def signR (l : List UInt8) : Rd :=
  match signs.find? fun t => Lib.hasPrefix l t with
  | some t => .ok ⟨5, t, 0, 0⟩ t.length
  | none => .err 13

def nextR (l : List UInt8) : Rd := match l with
  | [] => .err 13
  | c :: _ => if letterB c then wordR l else if digitB c then numberR l else if quoteB c then textR l else signR l

inductive Lx where
  | ok (l : List Tok)
  | err (e : Nat) (at_ : Nat)
  deriving DecidableEq, Repr
def Lx.cons (t : Tok) : Lx → Lx
  | .ok l => .ok (t :: l)
  | .err e a => .err e a
def Lx.app (p : List Tok) : Lx → Lx
  | .ok l => .ok (p ++ l)
  | .err e a => .err e a

def lexF : Nat → Nat → List UInt8 → Lx
  | 0, _, _ => .ok []
  | k + 1, a, l => match l.drop (runN blankB l) with
    | [] => .ok []
    | c :: r => match nextR (c :: r) with
      | .err e => .err e (a + runN blankB l)
      | .ok t n => (lexF k (a + runN blankB l + n) ((c :: r).drop n)).cons { t with pos := a + runN blankB l }
def lexL (l : List UInt8) : Lx := if 16384 < l.length then .err 4 0 else lexF (l.length + 1) 0 l

end Go.Proofs.YtcjmhmmjfgjcnaaGreatDoor.Lx

/- Support: rows of bytes in memory, strings as lists of bytes; nothing here speaks of the program. -/
namespace Go.Proofs.YtcjmhmmjfgjcnaaGreatDoor.Lx
open Go.RowKit

theorem ret_bool {a b : Bool} (h : a = b) : Ending.returned (.bool a) = .returned (.bool b) := by rw [h]
theorem ret_int {k : IntKind} {a b : Int} (h : a = b) : Ending.returned (.int k a) = .returned (.int k b) := by rw [h]
theorem ret_ib {i : Int} {a b : Bool} (h : a = b) : Ending.returned (.tuple #[.int .i64 i, .bool a]) = .returned (.tuple #[.int .i64 i, .bool b]) := by rw [h]
theorem ret_str {a b : ByteArray} (h : a = b) : Ending.returned (.string a) = .returned (.string b) := by rw [h]
abbrev L (s : ByteArray) : List UInt8 := s.data.toList
theorem L_length (s : ByteArray) : (L s).length = s.size := by rw [L, Array.length_toList]; rfl
theorem toList_L (s : ByteArray) : s.toList = L s := Lib.toList_data s
theorem L_mk (l : List UInt8) : L ⟨l.toArray⟩ = l := by simp [L]
theorem mk_L (s : ByteArray) : (⟨(L s).toArray⟩ : ByteArray) = s := by simp [L]
theorem size_mk (l : List UInt8) : (⟨l.toArray⟩ : ByteArray).size = l.length := by rw [← L_length, L_mk]
theorem L_extract (s : ByteArray) (a b : Nat) : L (s.extract a b) = ((L s).drop a).take (b - a) := by
  simp [L, ByteArray.data_extract, List.extract_eq_take_drop]
theorem L_drop (s : ByteArray) (a : Nat) : L (s.extract a s.size) = (L s).drop a := by
  rw [L_extract, List.take_of_length_le (by rw [List.length_drop, L_length]; omega)]
theorem L_take (s : ByteArray) (b : Nat) : L (s.extract 0 b) = (L s).take b := by
  rw [L_extract]; simp
theorem L_inj {s t : ByteArray} (h : L s = L t) : s = t := by rw [← mk_L s, ← mk_L t, h]

def BytesAt (w : World) (B : Nat) (l : List UInt8) : Prop :=
  ∀ j (h : j < l.length), w.cell? ⟨B, j, none⟩ = some (.int .u8 (l[j].toNat)) ∧ w.frozen? ⟨B, j, none⟩ = false

theorem BytesAt.below {w w' : World} {B : Nat} {l : List UInt8} (h : BytesAt w B l) (hb : Below w.heap.size w w') (hB : B < w.heap.size) : BytesAt w' B l :=
  fun j hj => ⟨(hb.cell (p := ⟨B, j, none⟩) hB).trans (h j hj).1, (hb.frozen (p := ⟨B, j, none⟩) hB).trans (h j hj).2⟩

theorem BytesAt.set {w : World} {B : Nat} {l : List UInt8} (h : BytesAt w B l) (k : Nat) (c : UInt8) (hk : k < l.length) :
    BytesAt (w.setCell ⟨B, k, none⟩ (.int .u8 c.toNat)) B (l.set k c) := by
  intro j hj
  have hj' : j < l.length := by simpa using hj
  constructor
  · by_cases e : k = j
    · subst e
      rw [World.cell?_setCell_same _ _ _ (h k hk).1]; simp
    · have e2 : (⟨B, k, none⟩ : Addr) ≠ ⟨B, j, none⟩ := fun e' => e (congrArg Addr.off e')
      rw [World.cell?_setCell_other _ _ _ _ e2, (h j hj').1]
      simp [e]
  · rw [World.frozen?_setCell]; exact (h j hj').2


theorem conv_bytes (P : Program) (src dst e : TypeId) {u : TypeDesc} (hs : P.underlying src = some u) (hd : P.underlying dst = some (.slice e)) (he : P.underlying e = some (.int .u8))
    (s : ByteArray) (W : World) : ∃ cap W1, s.size ≤ cap ∧ (convert src dst (.string s)).run P W = .ok (.slice (some ⟨W.heap.size, 0, none⟩) s.size cap) W1 ∧
      Below W.heap.size W W1 ∧ W1.heap.size = W.heap.size + 1 ∧ BytesAt W1 W.heap.size (L s) := by
  refine ⟨_, _, ?_, Lib.run_convert_string_bytes W src dst e s hs hd he, ?_, Lib.bytesWorld_size W e s, ?_⟩
  · exact grownCap_ge W s.size 0 e
  · exact ⟨rfl, rfl, rfl, by rw [Lib.bytesWorld_size]; omega, fun i hi => Lib.bytesWorld_at_old W e s i hi⟩
  · intro j hj
    have hj' : j < s.size := by rw [← L_length]; exact hj
    constructor
    · rw [Lib.bytesWorld_cell W e s j hj']
      simp [List.getD_eq_getElem?_getD, List.getElem?_eq_getElem hj]
    · have hg := grownCap_ge W s.size 0 e
      have hsz : (Lib.bytesCells W e s).size = s.data.size + (grownCap W s.size 0 e - s.size) := by simp [Lib.bytesCells]
      have hsd : s.data.size = s.size := rfl
      simp only [World.frozen?, Lib.bytesWorld_at_new]
      simp only [hsz, hsd]
      simp
      omega

theorem conv_string (P : Program) (src dst e : TypeId) (hs : P.underlying src = some (.slice e)) (hd : P.underlying dst = some .string) (he : P.underlying e = some (.int .u8))
    (W : World) (B n cap : Nat) (l : List UInt8) (hl : l.length = n) (h : BytesAt W B l) :
    (convert src dst (.slice (some ⟨B, 0, none⟩) n cap)).run P W = .ok (.string ⟨l.toArray⟩) W := by
  have hx := run_convert_bytes_arg (P := P) W src e hs he B 0 n cap (l.map fun c => (c.toNat : Int)) (by simpa using hl) (fun i hi => by
    have hi' : i < l.length := by omega
    rw [Nat.zero_add, (h i hi').1]
    simp [List.getD_eq_getElem?_getD, List.getElem?_eq_getElem hi']) dst hd
  rw [hx]
  have e1 : strOfNums (l.map fun c => (c.toNat : Int)) = ⟨l.toArray⟩ := by
    unfold strOfNums
    congr 1
    congr 1
    rw [List.map_map]
    conv => rhs; rw [← List.map_id l]
    exact List.map_congr_left fun c _ => by simp
  rw [e1]


end Go.Proofs.YtcjmhmmjfgjcnaaGreatDoor.Lx
