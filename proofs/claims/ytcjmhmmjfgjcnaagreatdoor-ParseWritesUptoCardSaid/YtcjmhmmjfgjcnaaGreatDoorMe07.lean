/- Parts: LxC LxF PaP PaQ. -/
import Derived.Test.YtcjmhmmjfgjcnaaGreatDoorMe01
import Derived.Test.YtcjmhmmjfgjcnaaGreatDoorMe03
import Derived.Test.YtcjmhmmjfgjcnaaGreatDoorMe05
import Derived.Test.YtcjmhmmjfgjcnaaGreatDoorMe06
import Derived.Lib.Split
import Derived.Lib.Join

/- The readers of single tokens: word, number, sign, text. -/
namespace Go.Proofs.YtcjmhmmjfgjcnaaGreatDoor.Lx
open Go.RowKit

/-- a token's four cells -/
def Tok.val (t : Tok) : Value := .agg #[.int .u8 t.kind, .string ⟨t.text.toArray⟩, .int .i64 t.num, .int .i64 t.pos]
def Rd.val : Rd → Value
  | .ok t n => .tuple #[t.val, .int .i64 n, .int .i64 0]
  | .err e => .tuple #[tok0.val, .int .i64 0, .int .i64 e]

/-- a block of four cells behind a call -/
theorem four {w : World} {B : Nat} {a b c d : Value} {T : TypeId} (h : w.heap[B]? = some (.cells #[a, b, c, d] T)) :
    (w.cell? ⟨B, 0, none⟩ = some a ∧ w.cell? ⟨B, 1, none⟩ = some b ∧ w.cell? ⟨B, 2, none⟩ = some c ∧ w.cell? ⟨B, 3, none⟩ = some d) ∧
    (w.frozen? ⟨B, 0, none⟩ = false ∧ w.frozen? ⟨B, 1, none⟩ = false ∧ w.frozen? ⟨B, 2, none⟩ = false ∧ w.frozen? ⟨B, 3, none⟩ = false) := by
  simp [World.cell?, World.frozen?, h]
theorem new_block (w : World) (o : Obj) {w' : World} (hb : Below (w.alloc o).heap.size (w.alloc o) w') : w'.heap[w.heap.size]? = some o := by
  rw [hb.block w.heap.size (by simp)]
  simp [World.alloc, -World.alloc_eq]
theorem below_new {w w' : World} {o : Obj} (hb : Below (w.alloc o).heap.size (w.alloc o) w') : Below w.heap.size w w' :=
  ((Below.refl _ _).alloc (Nat.le_refl _) o).trans (hb.mono (by simp))

theorem ext_le (s : ByteArray) (n : Nat) (h : s.size ≤ maxLen) : (s.extract 0 n).size ≤ maxLen := by
  rw [← L_length, L_take, List.length_take]; exact Nat.le_trans (Nat.min_le_right _ _) (by rw [L_length]; exact h)

theorem below_set4 {w w1 : World} (h : Below w.heap.size w w1) (a b c d : Value) (i j k l : Nat) :
    Below w.heap.size w ((((w1.setCell ⟨w.heap.size, i, none⟩ a).setCell ⟨w.heap.size, j, none⟩ b).setCell ⟨w.heap.size, k, none⟩ c).setCell ⟨w.heap.size, l, none⟩ d) :=
  (((h.setCell (Nat.le_refl _) _).setCell (Nat.le_refl _) _).setCell (Nat.le_refl _) _).setCell (Nat.le_refl _) _

set_option maxRecDepth 100000 in
theorem word_calls (s : ByteArray) (w : World) (hs : s.size ≤ maxLen) :
    Calls Tryz.prog 91 #[.string s] w fun e w' => e = .returned (wordR (L s)).val ∧ Below w.heap.size w w' := by
  have hle := runN_le wordB (L s)
  rw [L_length] at hle
  have Hs := Lib.hid hs
  unfold maxLen at hs
  unfold wordR
  cases hk : keywordB ((L s).take (runN wordB (L s)))
  · rw [if_neg (by simp)]
    have hk' : keywordB (L (s.extract 0 (runN wordB (L s)))) = false := by rw [L_take]; exact hk
    have Hk := Lib.hid hk
    clear hk
    by_cases h64 : 64 < runN wordB (L s)
    · rw [if_pos h64]
      go_enter Tryz.func91, Tryz.ntmps91
      go_wp2_with fail
      refine (runN_word _ _ Hs.out).mono ?_
      rintro e w1 ⟨rfl, rfl⟩
      go_wp2_with fail
      refine (Keyword_calls _ _ (ext_le _ _ Hs.out)).mono ?_
      rintro e w1 ⟨rfl, hb1⟩
      have hw1 := new_block _ _ hb1
      have Hb1 := Lib.hid (below_new hb1)
      have hz1 : w.heap.size < w1.heap.size := by have := hb1.size; simp at this; omega
      have Hw1 := Lib.hid hw1
      clear hb1 hw1
      obtain ⟨⟨c0, c1, c2, c3⟩, f0, f1, f2, f3⟩ := four Hw1.out
      go_wp2_with fail
      refine bodyPost_ret (v := (Rd.err 13).val) (by simp [results, Tryz.results91, go_sem, Rd.val, tok0, Tok.val, c0, c1, c2, c3]) rfl ⟨rfl, below_set4 Hb1.out _ _ _ _ _ _ _ _⟩
    · rw [if_neg h64]
      go_enter Tryz.func91, Tryz.ntmps91
      go_wp2_with fail
      refine (runN_word _ _ Hs.out).mono ?_
      rintro e w1 ⟨rfl, rfl⟩
      go_wp2_with fail
      refine (Keyword_calls _ _ (ext_le _ _ Hs.out)).mono ?_
      rintro e w1 ⟨rfl, hb1⟩
      have hw1 := new_block _ _ hb1
      have Hb1 := Lib.hid (below_new hb1)
      have hz1 : w.heap.size < w1.heap.size := by have := hb1.size; simp at this; omega
      have Hw1 := Lib.hid hw1
      clear hb1 hw1
      obtain ⟨⟨c0, c1, c2, c3⟩, f0, f1, f2, f3⟩ := four Hw1.out
      go_wp2_with fail
      refine bodyPost_ret (v := .tuple #[.agg #[.int .u8 1, .string (s.extract 0 (runN wordB (L s))), .int .i64 0, .int .i64 0], .int .i64 (runN wordB (L s)), .int .i64 0]) (by simp [results, Tryz.results91, go_sem, c0, c1, c2, c3]) rfl ⟨?_, below_set4 Hb1.out _ _ _ _ _ _ _ _⟩
      simp only [Rd.val, Tok.val]
      rw [← L_take, mk_L]
      rfl
  · rw [if_pos rfl]
    have hk' : keywordB (L (s.extract 0 (runN wordB (L s)))) = true := by rw [L_take]; exact hk
    have Hk := Lib.hid hk
    clear hk
    go_enter Tryz.func91, Tryz.ntmps91
    go_wp2_with fail
    refine (runN_word _ _ Hs.out).mono ?_
    rintro e w1 ⟨rfl, rfl⟩
    go_wp2_with fail
    refine (Keyword_calls _ _ (ext_le _ _ Hs.out)).mono ?_
    rintro e w1 ⟨rfl, hb1⟩
    have hw1 := new_block _ _ hb1
    have Hb1 := Lib.hid (below_new hb1)
    have hz1 : w.heap.size < w1.heap.size := by have := hb1.size; simp at this; omega
    have Hw1 := Lib.hid hw1
    clear hb1 hw1
    go_wp2_with fail
    refine (great_calls _ _ (ext_le _ _ Hs.out)).mono ?_
    rintro e w2 ⟨rfl, hb2⟩
    have hw2 : w2.heap[w.heap.size]? = _ := (hb2.block _ hz1).trans Hw1.out
    have Hb2 := Lib.hid (Hb1.out.trans (hb2.mono (by omega)))
    have hz2 : w.heap.size < w2.heap.size := Nat.lt_of_lt_of_le hz1 hb2.size
    obtain ⟨⟨c0, c1, c2, c3⟩, f0, f1, f2, f3⟩ := four hw2
    clear hb2 hw2
    go_wp2_with fail
    refine bodyPost_ret (v := (Rd.ok ⟨2, great ((L s).take (runN wordB (L s))), 0, 0⟩ (runN wordB (L s))).val) (by rw [← L_take]; simp [results, Tryz.results91, go_sem, Rd.val, Tok.val, c0, c1, c2, c3]) rfl ⟨rfl, below_set4 Hb2.out _ _ _ _ _ _ _ _⟩

end Go.Proofs.YtcjmhmmjfgjcnaaGreatDoor.Lx

/- The reader of signs. -/
namespace Go.Proofs.YtcjmhmmjfgjcnaaGreatDoor.Lx
open Go.RowKit

theorem find_at {α : Type} {p : α → Bool} : ∀ {l : List α} {k : Nat} (hk : k < l.length), (∀ j (h : j < l.length), j < k → p l[j] = false) → p l[k] = true → l.find? p = some l[k]
  | [], _, hk, _, _ => absurd hk (by simp)
  | a :: l, 0, _, _, h => by
    have h' : p a = true := h
    simp [h']
  | a :: l, k + 1, hk, h0, h => by
    have ha : p a = false := h0 0 (by simp) (by omega)
    have hk' : k < l.length := by simpa using hk
    simp only [List.find?_cons, ha, List.getElem_cons_succ]
    exact find_at hk' (fun j hj hjk => h0 (j + 1) (by simpa using hj) (by omega)) (by simpa using h)

def SignsAt (w : World) (B : Nat) : Prop := ∀ j (h : j < signs.length), w.cell? ⟨B, j, none⟩ = some (.string ⟨signs[j].toArray⟩)
theorem signs_length : signs.length = 18 := rfl

abbrev tokObj : Obj := .cells #[.int .u8 0, .string ⟨#[]⟩, .int .i64 0, .int .i64 0] 41
abbrev signsObj : Obj := .cells #[.string ⟨#[60, 62]⟩, .string ⟨#[60, 61]⟩, .string ⟨#[62, 61]⟩, .string ⟨#[61]⟩, .string ⟨#[60]⟩, .string ⟨#[62]⟩, .string ⟨#[43]⟩, .string ⟨#[45]⟩, .string ⟨#[42]⟩, .string ⟨#[40]⟩, .string ⟨#[41]⟩, .string ⟨#[91]⟩, .string ⟨#[93]⟩, .string ⟨#[123]⟩, .string ⟨#[125]⟩, .string ⟨#[44]⟩, .string ⟨#[58]⟩, .string ⟨#[46]⟩] 9
theorem signs_at (w : World) : SignsAt (w.alloc signsObj) w.heap.size := by
  intro j hj
  rw [World.cell?_alloc_new]
  match j, hj with
  | 0, _ => rfl
  | 1, _ => rfl
  | 2, _ => rfl
  | 3, _ => rfl
  | 4, _ => rfl
  | 5, _ => rfl
  | 6, _ => rfl
  | 7, _ => rfl
  | 8, _ => rfl
  | 9, _ => rfl
  | 10, _ => rfl
  | 11, _ => rfl
  | 12, _ => rfl
  | 13, _ => rfl
  | 14, _ => rfl
  | 15, _ => rfl
  | 16, _ => rfl
  | 17, _ => rfl
  | n + 18, h => exact absurd h (by rw [signs_length]; omega)
theorem sign_world (w : World) : Below w.heap.size w ((w.alloc tokObj).alloc signsObj) ∧ ((w.alloc tokObj).alloc signsObj).heap[w.heap.size]? = some tokObj ∧ SignsAt ((w.alloc tokObj).alloc signsObj) (w.heap.size + 1) := by
  refine ⟨((Below.refl _ _).alloc (Nat.le_refl _) _).alloc (by simp) _, ?_, ?_⟩
  · rw [Below.heap_alloc _ _ _ (by simp)]
    simp [World.alloc, -World.alloc_eq]
  · have := signs_at (w.alloc tokObj)
    simpa using this

/-- none of the first k signs begins the text -/
def NoSign (l : List UInt8) (k : Nat) : Prop := ∀ j (h : j < signs.length), j < k → Lib.hasPrefix l signs[j] = false
theorem NoSign.end_ {l : List UInt8} {k : Nat} (h : NoSign l k) (hk : 18 ≤ k) : signR l = .err 13 := by
  unfold signR
  have : (signs.find? fun t => Lib.hasPrefix l t) = none := by
    rw [List.find?_eq_none]
    intro t ht
    obtain ⟨j, hj, rfl⟩ := List.getElem_of_mem ht
    simp [h j hj (by rw [signs_length] at hj; omega)]
  rw [this]
theorem NoSign.hit {l : List UInt8} {k : Nat} (h : NoSign l k) (hk : k < signs.length) (hp : Lib.hasPrefix l signs[k] = true) : signR l = .ok ⟨5, signs[k], 0, 0⟩ signs[k].length := by
  unfold signR
  rw [find_at hk h hp]
theorem NoSign.step {l : List UInt8} {k : Nat} (h : NoSign l k) (hp : ∀ hk : k < signs.length, Lib.hasPrefix l signs[k] = false) : NoSign l (k + 1) := by
  intro j hj hjk
  by_cases e : j = k
  · subst e; exact hp hj
  · exact h j hj (by omega)

set_option maxRecDepth 100000 in
theorem sign_calls (s : ByteArray) (w : World) :
    Calls Tryz.prog 97 #[.string s] w fun e w' => e = .returned (signR (L s)).val ∧ Below w.heap.size w w' := by
  go_enter Tryz.func97, Tryz.ntmps97
  go_wp2
  obtain ⟨hb, ht, hS⟩ := sign_world w
  generalize hW : (w.alloc tokObj).alloc signsObj = W at hb ht hS ⊢
  clear hW
  have Hb := Lib.hid hb
  have HS := Lib.hid hS
  obtain ⟨⟨c0, c1, c2, c3⟩, f0, f1, f2, f3⟩ := four ht
  have Ht := Lib.hid ht
  clear hb hS ht
  go_loop [9] (fun i => ∃ k : Nat, k ≤ 18 ∧ i = .int .i64 k ∧ Hid (NoSign (L s) k)) (fun i => 18 - (intOf i).toNat)
  case atStart => exact ⟨0, Nat.zero_le _, rfl, fun j _ h => absurd h (Nat.not_lt_zero _)⟩
  case round =>
    obtain ⟨k, hk, rfl, hn⟩ := hrel
    by_cases hlt : k < 18
    · have hlt' : k < signs.length := hlt
      have hc := HS.out k hlt'
      generalize hg : signs[k] = g at hc
      have Hg := Lib.hid hg
      clear hg
      cases hp : Lib.hasPrefix (L s) (L ⟨g.toArray⟩)
      · have Hp := Lib.hid (hn.out.step fun h => by rw [Hg.out, ← L_mk g]; exact hp)
        go_wp2_with (first | (go_at_call 133; refine (Tryz.strings_HasPrefix _ _ _).mono ?_; rintro e w' ⟨rfl, rfl⟩))
        go_round
        case rel => exact ⟨k + 1, by omega, by go_num, Hp⟩
        case measure => simp [intOf]; omega
      · have Hp := Lib.hid (hn.out.hit hlt' (by rw [Hg.out, ← L_mk g]; exact hp))
        go_wp2_with (first | (go_at_call 133; refine (Tryz.strings_HasPrefix _ _ _).mono ?_; rintro e w' ⟨rfl, rfl⟩))
        have hv : (signR (L s)).val = .tuple #[.agg #[.int .u8 5, .string ⟨g.toArray⟩, .int .i64 0, .int .i64 0], .int .i64 g.length, .int .i64 0] := by
          rw [Hp.out, Hg.out]; rfl
        rw [hv]
        exact bodyPost_ret (v := .tuple #[.agg #[.int .u8 5, .string ⟨g.toArray⟩, .int .i64 0, .int .i64 0], .int .i64 g.length, .int .i64 0]) (by simp [results, Tryz.results97, go_sem, c0, c1, c2, c3]) rfl ⟨rfl, below_set4 Hb.out _ _ _ _ _ _ _ _⟩
    · have Hn := Lib.hid (hn.out.end_ (by omega))
      go_wp2
      rw [Hn.out]
      exact bodyPost_ret (v := (Rd.err 13).val) (by simp [results, Tryz.results97, go_sem, Rd.val, tok0, Tok.val, c0, c1, c2, c3]) rfl ⟨rfl, below_set4 Hb.out _ _ _ _ _ _ _ _⟩

end Go.Proofs.YtcjmhmmjfgjcnaaGreatDoor.Lx

/- Statements and their parser over lists: plain definitions; nothing here speaks of the program. -/
namespace Go.Proofs.YtcjmhmmjfgjcnaaGreatDoor.Pa
open Go.Proofs.YtcjmhmmjfgjcnaaGreatDoor.Lx

abbrev Txt := List UInt8
/-! the words of the language, and pieces of printed texts -/
def kNULL : Txt := [78, 85, 76, 76]
def kTRUE : Txt := [84, 82, 85, 69]
def kFALSE : Txt := [70, 65, 76, 83, 69]
def kIS : Txt := [73, 83]
def kNOT : Txt := [78, 79, 84]
def kAND : Txt := [65, 78, 68]
def kOR : Txt := [79, 82]
def kAS : Txt := [65, 83]
def kWHERE : Txt := [87, 72, 69, 82, 69]
def kHISTORY : Txt := [72, 73, 83, 84, 79, 82, 89]
def kORDER : Txt := [79, 82, 68, 69, 82]
def kBY : Txt := [66, 89]
def kDESC : Txt := [68, 69, 83, 67]
def kFROM : Txt := [70, 82, 79, 77]
def kCREATE : Txt := [67, 82, 69, 65, 84, 69]
def kTABLE : Txt := [84, 65, 66, 76, 69]
def kINDEX : Txt := [73, 78, 68, 69, 88]
def kON : Txt := [79, 78]
def kINSERT : Txt := [73, 78, 83, 69, 82, 84]
def kINTO : Txt := [73, 78, 84, 79]
def kUPDATE : Txt := [85, 80, 68, 65, 84, 69]
def kSET : Txt := [83, 69, 84]
def kDELETE : Txt := [68, 69, 76, 69, 84, 69]
def kSELECT : Txt := [83, 69, 76, 69, 67, 84]
def kNOTX : Txt := [40, 78, 79, 84, 32]
def kISNULLX : Txt := [32, 73, 83, 32, 78, 85, 76, 76, 41]
def kWHEREX : Txt := [32, 87, 72, 69, 82, 69, 32]
def kX : Txt := [32, 61, 32]
def kASX : Txt := [32, 65, 83, 32]
def kCREATETABLEX : Txt := [67, 82, 69, 65, 84, 69, 32, 84, 65, 66, 76, 69, 32]
def kCREATEINDEXONX : Txt := [67, 82, 69, 65, 84, 69, 32, 73, 78, 68, 69, 88, 32, 79, 78, 32]
def kX' : Txt := [32, 40]
def kINSERTINTOX : Txt := [73, 78, 83, 69, 82, 84, 32, 73, 78, 84, 79, 32]
def kUPDATEX : Txt := [85, 80, 68, 65, 84, 69, 32]
def kSETX : Txt := [32, 83, 69, 84, 32]
def kDELETEFROMX : Txt := [68, 69, 76, 69, 84, 69, 32, 70, 82, 79, 77, 32]
def kSELECTX : Txt := [83, 69, 76, 69, 67, 84, 32]
def kFROMX : Txt := [32, 70, 82, 79, 77, 32]
def kHISTORYX : Txt := [72, 73, 83, 84, 79, 82, 89, 40]
def kORDERBYX : Txt := [32, 79, 82, 68, 69, 82, 32, 66, 89, 32]
def kDESCX : Txt := [32, 68, 69, 83, 67]

/-- a step of an expression -/
structure Stp where
  kind : Nat
  text : Txt
  num : Int
  deriving DecidableEq, Repr
/-- an item -/
structure Itm where
  name : Txt
  expr : List Stp
  deriving DecidableEq, Repr
/-- a statement -/
structure Stm where
  kind : Nat
  table : Txt
  field : Txt
  items : List Itm
  expr : List Stp
  history : Bool
  desc : Bool
  deriving DecidableEq, Repr
def stm0 : Stm := ⟨0, [], [], [], [], false, false⟩

def operators : List Txt := [[43], [45], [42], [61], [60, 62], [60], [60, 61], [62], [62, 61], [65, 78, 68], [79, 82]]
/-- the kind of the step of an operator -/
def opKind (t : Txt) : Nat := if t ∈ operators then 12 + operators.idxOf t else 11

/-! ### the parser's state -/
structure St where
  left : List Tok
  fin : Nat
  why : Nat
  at_ : Nat
  steps : List Stp
  deriving DecidableEq, Repr
def St.place (s : St) : Nat := match s.left with
  | [] => s.fin
  | t :: _ => t.pos
def St.fail (s : St) (why at_ : Nat) : St := if s.why = 0 then { s with why := why, at_ := at_, left := [] } else s
def St.next (s : St) (k : Nat) (texts : List Txt) : Bool := match s.left with
  | [] => false
  | t :: _ => t.kind == k && (texts.isEmpty || texts.contains t.text)
def St.drop (s : St) : St := { s with left := s.left.tail }
def St.head (s : St) : Tok := s.left.headD tok0
/-- the token that is taken, if one is; and the state behind -/
def St.taken (s : St) (k : Nat) (texts : List Txt) : Tok := if s.next k texts then s.head else tok0
def St.after (s : St) (k : Nat) (texts : List Txt) : St := if s.next k texts then s.drop else s
def St.bad (s : St) : St := s.fail 13 s.place
def St.need (s : St) (k : Nat) (texts : List Txt) : St := if s.next k texts then s.drop else s.bad
def St.keys (s : St) (texts : List Txt) : St := texts.foldl (fun s x => s.need 2 [x]) s
def St.sign (s : St) (x : Txt) : St := s.need 5 [x]
def St.nameT (s : St) : Txt := (s.taken 1 []).text
def St.name (s : St) : St := s.need 1 []
def St.many (s : St) : St := if s.why = 0 ∧ 128 ≤ s.steps.length then s.fail 3 s.place else s
def St.put (s : St) (x : Stp) : St := if s.many.why = 0 then { s.many with steps := s.many.steps ++ [x] } else s.many
def St.deep (s : St) : St := s.fail 10 s.place

/-! ### expressions; 'none': the rounds are used up -/
def rowL (one : St → Option St) (k : Nat) (texts : List Txt) : Nat → St → Option St
  | 0, _ => none
  | n + 1, s => if s.next k texts then (one s.drop).bind fun s' => rowL one k texts n (s'.put ⟨opKind s.head.text, [], 0⟩) else some s
def row (one : St → Option St) (k : Nat) (texts : List Txt) (n : Nat) (s : St) : Option St := (one s).bind (rowL one k texts n)
def aheadF (k : Nat) (text : Txt) (step : Nat) (other : Nat → St → Option St) : Nat → Nat → St → Option St
  | 0, _, _ => none
  | n + 1, d, s => if s.next k [text] then
      if 16 ≤ d then some s.deep else (aheadF k text step other n (d + 1) s.drop).bind fun s' => some (s'.put ⟨step, [], 0⟩)
    else other d s

def commas : List Txt → Txt
  | [] => []
  | [x] => x
  | x :: r => x ++ 44 :: commas r
/-- what stands behind the expression of a part -/
def partsB (end_ : Txt) (x : Stp) (l : List Txt) (go : St → Option St) (s : St) : Option St :=
  if s.why = 0 then
    if s.next 5 [end_] then some (s.drop.put { x with text := x.text ++ commas l }) else go (s.sign [44])
  else some s
/-- the name of a part, and the colon -/
def partN (x : Stp) (l : List Txt) (s : St) : List Txt × St :=
  if x.kind = 8 then
    (l ++ [s.nameT], (if (l ++ [s.nameT]).Nodup then s.name else s.name.fail 18 s.place).sign [58])
  else (l, s)
def partsL (or_ : St → Option St) (end_ : Txt) : Nat → Stp → List Txt → St → Option St
  | 0, _, _, _ => none
  | n + 1, x, l, s =>
    if s.why = 0 then
      if 64 ≤ x.num then some (s.fail 3 s.place)
      else (or_ (partN x l s).2).bind fun s' => partsB end_ { x with num := x.num + 1 } (partN x l s).1 (partsL or_ end_ n { x with num := x.num + 1 } (partN x l s).1) s'
    else some s
def parts (or_ : St → Option St) (n : Nat) (x : Stp) (end_ : Txt) (s : St) : Option St :=
  if s.next 5 [end_] then some (s.drop.put x) else partsL or_ end_ n x [] s

/-- names behind full stops -/
def pathL : Nat → Txt → St → Option (Txt × St)
  | 0, _, _ => none
  | n + 1, x, s => if s.next 5 [[46]] then
      if s.drop.next 3 [] then pathL n (x ++ (46 :: Lib.itoa s.drop.head.num)) s.drop.drop
      else pathL n (x ++ (46 :: s.drop.nameT)) s.drop.name
    else some (x, s)
def path (n : Nat) (s : St) : Option St := (pathL n s.nameT s.name).map fun r => r.2.put ⟨6, r.1, 0⟩

def constKind (t : Txt) : Nat := if t = kNULL then 1 else if t = kTRUE then 2 else if t = kFALSE then 3 else 0
def nestThen (d : Nat) (s : St) (go : St → Option St) : Option St := if 16 ≤ d then some s.deep else go s.drop
def primary (or_ : Nat → St → Option St) (n d : Nat) (s : St) : Option St :=
  if s.next 3 [] then some (s.drop.put ⟨4, [], s.head.num⟩)
  else if s.next 4 [] then some (s.drop.put ⟨5, s.head.text, 0⟩)
  else if s.next 1 [] then path n s
  else if s.next 2 [kNULL, kTRUE, kFALSE] then some (s.drop.put ⟨constKind s.head.text, [], 0⟩)
  else if s.next 5 [[40]] then nestThen d s fun s => (or_ (d + 1) s).bind fun s => some (s.sign [41])
  else if s.next 5 [[91]] then nestThen d s fun s => parts (or_ (d + 1)) n ⟨7, [], 0⟩ [93] s
  else if s.next 5 [[123]] then nestThen d s fun s => parts (or_ (d + 1)) n ⟨8, [], 0⟩ [125] s
  else some s.bad

def relOps : List Txt := [[61], [60, 62], [60], [60, 61], [62], [62, 61]]
def signed (or_ : Nat → St → Option St) (n d : Nat) (s : St) : Option St := aheadF 5 [45] 9 (primary or_ n) n d s
def product (or_ : Nat → St → Option St) (n d : Nat) (s : St) : Option St := row (signed or_ n d) 5 [[42]] n s
def sum (or_ : Nat → St → Option St) (n d : Nat) (s : St) : Option St := row (product or_ n d) 5 [[43], [45]] n s
/-- IS NULL, IS NOT NULL -/
def isNull (s : St) : St :=
  if s.next 2 [kIS] then
    let s1 := s.drop
    let s2 := s1.after 2 [kNOT]
    let s3 := (s2.keys [kNULL]).put ⟨11, [], 0⟩
    if s1.next 2 [kNOT] then s3.put ⟨10, [], 0⟩ else s3
  else s
def compared (or_ : Nat → St → Option St) (n d : Nat) (s : St) : Option St :=
  (sum or_ n d s).bind fun s => if s.next 5 relOps then (sum or_ n d s.drop).bind fun s' => some (s'.put ⟨opKind s.head.text, [], 0⟩) else some (isNull s)
def notE (or_ : Nat → St → Option St) (n d : Nat) (s : St) : Option St := aheadF 2 (kNOT) 10 (compared or_ n) n d s
def andE (or_ : Nat → St → Option St) (n d : Nat) (s : St) : Option St := row (notE or_ n d) 2 [kAND] n s
def orE (or_ : Nat → St → Option St) (n d : Nat) (s : St) : Option St := row (andE or_ n d) 2 [kOR] n s
def orF : Nat → Nat → St → Option St
  | 0, _, _ => none
  | n + 1, d, s => orE (orF n) n d s

/-! ### statements -/
def expr (n : Nat) (s : St) : Option St := orF n 0 { s with steps := [] }
/-- one item -/
def itemF (n : Nat) (set : Bool) (names : List Txt) (s : St) : Option (Itm × St) :=
  if set then
    let s1 := if (names ++ [s.nameT]).Nodup then s.name else s.name.fail 18 s.place
    (expr n (s1.sign [61])).bind fun s2 => some (⟨s.nameT, s2.steps⟩, s2)
  else (expr n s).bind fun s1 =>
    let s2 := s1.keys [kAS]
    some (⟨s2.nameT, s1.steps⟩, if (names ++ [s2.nameT]).Nodup then s2.name else s2.name.fail 18 s2.place)
def itemsL (m : Nat) (set : Bool) : Nat → List Itm → St → Option (List Itm × St)
  | 0, _, _ => none
  | n + 1, out, s =>
    if s.why = 0 then
      if 64 ≤ out.length then some (out, s.fail 3 s.place)
      else (itemF m set (out.map Itm.name) s).bind fun r =>
        if r.2.next 5 [[44]] then itemsL m set n (out ++ [r.1]) r.2.drop else some (out ++ [r.1], r.2)
    else some (out, s)
def items (n : Nat) (set : Bool) (s : St) : Option (List Itm × St) := itemsL n set n [] s
def where_ (n : Nat) (s : St) : Option (List Stp × St) :=
  if s.next 2 [kWHERE] then (expr n s.drop).bind fun s => some (s.steps, s) else some ([], s)
/-- HISTORY(t), or t -/
def fromT (s : St) : Bool × Txt × St :=
  if s.next 2 [kHISTORY] then
    let s1 := s.drop.sign [40]
    (true, s1.nameT, s1.name.sign [41])
  else (false, s.nameT, s.name)
def orderT (s : St) : Txt × Bool × St :=
  if s.next 2 [kORDER] then
    let s1 := s.drop.keys [kBY]
    (s1.nameT, s1.name.next 2 [kDESC], s1.name.after 2 [kDESC])
  else ([], false, s)
def what (n : Nat) (s : St) : Option (List Itm × St) := if s.next 5 [[42]] then some ([], s.drop) else items n false s
def picked (n : Nat) (s : St) : Option (Stm × St) :=
  (what n s).bind fun r =>
    let f := fromT (r.2.keys [kFROM])
    (where_ n f.2.2).bind fun w =>
      let o := orderT w.2
      some (⟨6, f.2.1, o.1, r.1, w.1, f.1, o.2.1⟩, o.2.2)
def stmt (n : Nat) (s : St) : Option (Stm × St) :=
  if s.next 2 [kCREATE] then
    if s.drop.next 2 [kTABLE] then some ({ stm0 with kind := 1, table := s.drop.drop.nameT }, s.drop.drop.name)
    else
      let s1 := s.drop.keys [kINDEX, kON]
      let s2 := s1.name.sign [40]
      some ({ stm0 with kind := 2, table := s1.nameT, field := s2.nameT }, s2.name.sign [41])
  else if s.next 2 [kINSERT] then
    let s1 := s.drop.keys [kINTO]
    (expr n s1.name).bind fun s2 => some ({ stm0 with kind := 3, table := s1.nameT, expr := s2.steps }, s2)
  else if s.next 2 [kUPDATE] then
    let s1 := s.drop
    (items n true (s1.name.keys [kSET])).bind fun r => (where_ n r.2).bind fun w => some ({ stm0 with kind := 4, table := s1.nameT, items := r.1, expr := w.1 }, w.2)
  else if s.next 2 [kDELETE] then
    let s1 := s.drop.keys [kFROM]
    (where_ n s1.name).bind fun w => some ({ stm0 with kind := 5, table := s1.nameT, expr := w.1 }, w.2)
  else if s.next 2 [kSELECT] then picked n s.drop
  else some (stm0, s.bad)

end Go.Proofs.YtcjmhmmjfgjcnaaGreatDoor.Pa

/- Statements: which are right, how they are printed, how a text is read: plain definitions; nothing here speaks of the program. -/
namespace Go.Proofs.YtcjmhmmjfgjcnaaGreatDoor.Pa
open Go.Proofs.YtcjmhmmjfgjcnaaGreatDoor.Lx

def nameB (s : Txt) : Bool := showOk ⟨1, s, 0, 0⟩
def numberB (s : Txt) : Bool := match Lib.parseIntB 64 s with
  | .ok n => decide (0 ≤ n) && decide (Lib.itoa n = s)
  | _ => false
/-- the parts of a path, from a place on -/
def pathParts : Nat → List Txt → Bool
  | _, [] => true
  | i, p :: r => (nameB p || (i != 0 && numberB p)) && pathParts (i + 1) r
def pathB (s : Txt) : Bool := pathParts 0 (Lib.split s [46]) && decide (s.length ≤ 1024)
def apartB (l : List Txt) : Bool := decide l.Nodup
def namesB (s : Txt) (n : Int) : Bool :=
  if n = 0 then decide (s = []) else decide (((Lib.split s [44]).length : Int) = n) && (apartB (Lib.split s [44]) && (Lib.split s [44]).all nameB)

/-- how many values a step takes; 'none': it is not right -/
def takes (s : Stp) : Option Nat :=
  if s.kind = 1 ∨ s.kind = 2 ∨ s.kind = 3 then if s.text = [] ∧ s.num = 0 then some 0 else none
  else if s.kind = 4 then if s.text = [] ∧ 0 ≤ s.num then some 0 else none
  else if s.kind = 5 then if s.num = 0 ∧ s.text.length ≤ 1024 ∧ Lib.validD s.text = true then some 0 else none
  else if s.kind = 6 then if s.num = 0 ∧ pathB s.text = true then some 0 else none
  else if s.kind = 7 then if s.text = [] ∧ 0 ≤ s.num ∧ s.num ≤ 64 then some s.num.toNat else none
  else if s.kind = 8 then if 0 ≤ s.num ∧ s.num ≤ 64 ∧ namesB s.text s.num = true then some s.num.toNat else none
  else if s.kind = 9 ∨ s.kind = 10 ∨ s.kind = 11 then if s.text = [] ∧ s.num = 0 then some 1 else none
  else if 12 ≤ s.kind ∧ s.kind < 23 then if s.text = [] ∧ s.num = 0 then some 2 else none
  else none
def takesN (s : Stp) : Nat := (takes s).getD 0
/-- how high the stack is behind a step -/
def rightL : List Stp → Nat → Option Nat
  | [], n => some n
  | s :: r, n => match takes s with
    | none => none
    | some k => if n < k then none else rightL r (n - k + 1)
def rightB (l : List Stp) : Bool := decide (rightL l 0 = some 1) && decide (l.length ≤ 128)
def closedB (l : List Stp) : Bool := l.all fun s => s.kind != 6

def fieldsT : List Txt → List Txt → List Txt
  | x :: l, n :: r => (n ++ [58, 32] ++ x) :: fieldsT l r
  | _, _ => []
def joined (s : Stp) (l : List Txt) : Txt :=
  if s.kind = 7 then [91] ++ Lib.join l [44, 32] ++ [93]
  else [123] ++ Lib.join (fieldsT l (Lib.split s.text [44])) [44, 32] ++ [125]
def textS (x : Txt) : Txt := if showOk ⟨4, x, 0, 0⟩ then showS ⟨4, x, 0, 0⟩ else []
def shown (s : Stp) (l : List Txt) : Txt :=
  if s.kind = 1 then kNULL else if s.kind = 2 then kTRUE else if s.kind = 3 then kFALSE
  else if s.kind = 4 then Lib.itoa s.num else if s.kind = 5 then textS s.text else if s.kind = 6 then s.text
  else if s.kind = 7 ∨ s.kind = 8 then joined s l
  else if s.kind = 9 then [40, 45] ++ l.getD 0 [] ++ [41]
  else if s.kind = 10 then kNOTX ++ l.getD 0 [] ++ [41]
  else if s.kind = 11 then [40] ++ l.getD 0 [] ++ kISNULLX
  else [40] ++ l.getD 0 [] ++ [32] ++ operators.getD (s.kind - 12) [] ++ [32] ++ l.getD 1 [] ++ [41]
def showG : List Stp → List Txt → List Txt
  | [], st => st
  | s :: r, st => showG r (st.take (st.length - takesN s) ++ [shown s (st.drop (st.length - takesN s))])
/-- an expression's text, where it is right -/
def showE (l : List Stp) : Txt := if rightB l then (showG l []).headD [] else []

def itemsB (l : List Itm) : Bool := (l.all fun x => nameB x.name && rightB x.expr) && (decide (l.length ≤ 64) && apartB (l.map Itm.name))
/-- whether one is right -/
def checkB (x : Stm) : Bool :=
  nameB x.table && (
  if x.kind = 1 then x.field.isEmpty && (x.items.isEmpty && (x.expr.isEmpty && (!x.history && !x.desc)))
  else if x.kind = 2 then nameB x.field && (x.items.isEmpty && (x.expr.isEmpty && (!x.history && !x.desc)))
  else if x.kind = 3 then (rightB x.expr && closedB x.expr) && (x.field.isEmpty && (x.items.isEmpty && (!x.history && !x.desc)))
  else if x.kind = 4 then ((x.expr.isEmpty || rightB x.expr) && (itemsB x.items && !x.items.isEmpty)) && (x.field.isEmpty && (!x.history && !x.desc))
  else if x.kind = 5 then (x.expr.isEmpty || rightB x.expr) && (x.field.isEmpty && (x.items.isEmpty && (!x.history && !x.desc)))
  else if x.kind = 6 then (x.expr.isEmpty || rightB x.expr) && (itemsB x.items && (nameB x.field || (x.field.isEmpty && !x.desc)))
  else false)

def whereT (x : Stm) : Txt := if x.expr.isEmpty then [] else kWHEREX ++ showE x.expr
def setT (l : List Itm) : Txt := Lib.join (l.map fun i => i.name ++ kX ++ showE i.expr) [44, 32]
def asT (l : List Itm) : Txt := Lib.join (l.map fun i => showE i.expr ++ kASX ++ i.name) [44, 32]
/-- a right statement's text -/
def printT (x : Stm) : Txt :=
  if x.kind = 1 then kCREATETABLEX ++ x.table
  else if x.kind = 2 then kCREATEINDEXONX ++ x.table ++ kX' ++ x.field ++ [41]
  else if x.kind = 3 then kINSERTINTOX ++ x.table ++ [32] ++ showE x.expr
  else if x.kind = 4 then kUPDATEX ++ x.table ++ kSETX ++ setT x.items ++ whereT x
  else if x.kind = 5 then kDELETEFROMX ++ x.table ++ whereT x
  else kSELECTX ++ (if x.items.isEmpty then [42] else asT x.items) ++ kFROMX ++ (if x.history then kHISTORYX ++ x.table ++ [41] else x.table) ++ whereT x
    ++ ((if x.field.isEmpty then [] else kORDERBYX ++ x.field) ++ (if x.desc then kDESCX else []))

/-- what a text is read as: a statement, or why not, and where -/
inductive Rs where
  | ok (x : Stm)
  | err (e at_ : Nat)
  deriving DecidableEq, Repr
def st0 (l : List Tok) (n : Nat) : St := ⟨l, n, 0, 0, []⟩
/-- behind the statement nothing may stand -/
def St.ended (s : St) : St := if s.left.isEmpty then s else s.bad
def finish (x : Stm) (s : St) : Rs := if s.why ≠ 0 then .err s.why s.at_ else if checkB x then .ok x else .err 13 0
def parseF (n : Nat) (l : Txt) : Option Rs := match lexL l with
  | .err e a => some (.err e a)
  | .ok toks => (stmt n (st0 toks l.length)).bind fun r => some (finish r.1 r.2.ended)

end Go.Proofs.YtcjmhmmjfgjcnaaGreatDoor.Pa
