/- Parts: QaM QaC QaX. -/
import Derived.Test.YtcjmhmmjfgjcnaaGreatDoorMc01
import Derived.Test.YtcjmhmmjfgjcnaaGreatDoorMc03
import Derived.Test.YtcjmhmmjfgjcnaaGreatDoorProg
import Derived.Maps.AppendAt
import Derived.Deep.DeepMust
import Derived.Laws.OwnMore
import Derived.Deep.AppendLies
import Derived.Laws.StructEq
import Derived.Lib.AppendStr
import Derived.Laws.BitsAllLaws

/- Instructions in memory. -/
namespace Go.Proofs.YtcjmhmmjfgjcnaaGreatDoor.Cd
open Go.RowKit Go.Proofs.YtcjmhmmjfgjcnaaGreatDoor.Lx Go.Proofs.YtcjmhmmjfgjcnaaGreatDoor.Pa

/-! ### blocks -/
theorem ltH {w : World} {b : Nat} {o : Obj} (h : w.heap[b]? = some o) : b < w.heap.size := (Array.getElem?_eq_some_iff.1 h).1
theorem allocB (w : World) (o : Obj) : Below w.heap.size w (w.alloc o) := (Below.refl _ _).alloc (Nat.le_refl _) _
theorem stepH {a b c : World} (h1 : Below a.heap.size a b) (h2 : Below b.heap.size b c) : Below a.heap.size a c := h1.trans (h2.mono h1.size)
theorem ownSame {w w' : World} {base : Nat} {e : TypeId} {size n : Nat} {v : Value} {xs : List Value} (h : w.ownsRow base e size v n xs)
    (hb : ∀ g, v.ownBlock = some g → g < w.heap.size → w'.heap[g]? = w.heap[g]?) : w'.ownsRow base e size v n xs := by
  refine ⟨h.1, ?_⟩
  rcases h.2 with h2 | ⟨g, cap, cur, rfl, h3, h4, h5⟩
  · exact .inl h2
  · refine .inr ⟨g, cap, cur, rfl, h3, ?_, h5⟩
    rw [hb g rfl (Array.getElem?_eq_some_iff.1 h4).1]
    exact h4
theorem ownForm {w : World} {base n : Nat} {e : TypeId} {size : Nat} {v : Value} {xs : List Value} (h : w.ownsRow base e size v n xs) : ∃ a c, v = .slice a n c := by
  rcases h.2 with ⟨rfl, rfl⟩ | ⟨g, cap, cur, rfl, _⟩
  · exact ⟨_, _, rfl⟩
  · exact ⟨_, _, rfl⟩
theorem ownBase {w : World} {base base' n size : Nat} {e : TypeId} {v : Value} {xs : List Value} (h : w.ownsRow base e size v n xs) (hb : base' ≤ base) : w.ownsRow base' e size v n xs := by
  refine ⟨h.1, ?_⟩
  rcases h.2 with h2 | ⟨g, cap, cur, e, h1, h2⟩
  · exact .inl h2
  · exact .inr ⟨g, cap, cur, e, by omega, h2⟩

/-! ### instructions -/
def Ins.cells (x : Ins) : List Value := [.int .u8 x.op, .int .u8 x.st.kind, .string ⟨x.st.text.toArray⟩, .int .i64 x.st.num, .int .i64 x.to]
def insC (l : List Ins) : List Value := l.flatMap Ins.cells
theorem insC_snoc (l : List Ins) (x : Ins) : insC (l ++ [x]) = insC l ++ x.cells := by simp [insC]
theorem insC_length (l : List Ins) : (insC l).length = l.length * 5 := by
  induction l with
  | nil => rfl
  | cons x l ih =>
    show (x.cells ++ insC l).length = _
    rw [List.length_append, ih, List.length_cons, Nat.add_mul, Nat.add_comm]
    rfl
theorem insC_get : ∀ (l : List Ins) (i : Nat) (h : i < l.length), (insC l)[i * 5]? = some (.int .u8 l[i].op) ∧ (insC l)[i * 5 + 1]? = some (.int .u8 l[i].st.kind) ∧ (insC l)[i * 5 + 2]? = some (.string ⟨l[i].st.text.toArray⟩) ∧ (insC l)[i * 5 + 3]? = some (.int .i64 l[i].st.num) ∧ (insC l)[i * 5 + 4]? = some (.int .i64 l[i].to)
  | [], i, h => absurd h (Nat.not_lt_zero _)
  | t :: l, 0, _ => ⟨rfl, rfl, rfl, rfl, rfl⟩
  | t :: l, i + 1, h => by
    have hi := insC_get l i (by simpa using h)
    have e : insC (t :: l) = t.cells ++ insC l := rfl
    have hl : t.cells.length = 5 := rfl
    rw [e]
    refine ⟨?_, ?_, ?_, ?_, ?_⟩
    · rw [List.getElem?_append_right (by omega), hl, show (i + 1) * 5 - 5 = i * 5 by omega]; exact hi.1
    · rw [List.getElem?_append_right (by omega), hl, show (i + 1) * 5 + 1 - 5 = i * 5 + 1 by omega]; exact hi.2.1
    · rw [List.getElem?_append_right (by omega), hl, show (i + 1) * 5 + 2 - 5 = i * 5 + 2 by omega]; exact hi.2.2.1
    · rw [List.getElem?_append_right (by omega), hl, show (i + 1) * 5 + 3 - 5 = i * 5 + 3 by omega]; exact hi.2.2.2.1
    · rw [List.getElem?_append_right (by omega), hl, show (i + 1) * 5 + 4 - 5 = i * 5 + 4 by omega]; exact hi.2.2.2.2
structure InsCells (w : World) (g o : Nat) (x : Ins) : Prop where
  c0 : w.cell? ⟨g, o, none⟩ = some (.int .u8 x.op)
  c1 : w.cell? ⟨g, o + 1, none⟩ = some (.int .u8 x.st.kind)
  c2 : w.cell? ⟨g, o + 2, none⟩ = some (.string ⟨x.st.text.toArray⟩)
  c3 : w.cell? ⟨g, o + 3, none⟩ = some (.int .i64 x.st.num)
  c4 : w.cell? ⟨g, o + 4, none⟩ = some (.int .i64 x.to)
theorem InsCells.keep {w w' : World} {g o : Nat} {x : Ins} (h : InsCells w g o x) (hb : w'.heap[g]? = w.heap[g]?) : InsCells w' g o x :=
  ⟨(World.cell?_of_block (w := w) (a := ⟨g, _, none⟩) hb).trans h.c0, (World.cell?_of_block (w := w) (a := ⟨g, _, none⟩) hb).trans h.c1, (World.cell?_of_block (w := w) (a := ⟨g, _, none⟩) hb).trans h.c2, (World.cell?_of_block (w := w) (a := ⟨g, _, none⟩) hb).trans h.c3, (World.cell?_of_block (w := w) (a := ⟨g, _, none⟩) hb).trans h.c4⟩
theorem InsCells.lt {w : World} {g o : Nat} {x : Ins} (h : InsCells w g o x) : g < w.heap.size := World.block_lt_of_cell? _ _ h.c0
theorem InsCells.below {w w' : World} {g o : Nat} {x : Ins} (h : InsCells w g o x) (hb : Below w.heap.size w w') : InsCells w' g o x := h.keep (hb.block g h.lt)
def InsIn (w : World) (v : Value) (l : List Ins) : Prop := ∃ (a : Option Addr) (n c : Nat), v = .slice a n c ∧ l.length = n ∧ n ≤ c ∧ ∀ (i : Nat) (h : i < l.length), ∃ g o, a = some ⟨g, o, none⟩ ∧ InsCells w g (o + i * 5) l[i]
theorem InsIn.keep {w w' : World} {v : Value} {l : List Ins} (h : InsIn w v l) (hb : ∀ g, v.ownBlock = some g → g < w.heap.size → w'.heap[g]? = w.heap[g]?) : InsIn w' v l := by
  obtain ⟨a, n, c, rfl, hn, hc, hj⟩ := h
  refine ⟨a, n, c, rfl, hn, hc, fun i hi => ?_⟩
  obtain ⟨g, o, rfl, hcl⟩ := hj i hi
  exact ⟨g, o, rfl, hcl.keep (hb g rfl hcl.lt)⟩
theorem InsIn.below {w w' : World} {v : Value} {l : List Ins} (h : InsIn w v l) (hb : Below w.heap.size w w') : InsIn w' v l := h.keep fun g _ hg => hb.block g hg
theorem InsIn.own {w : World} {base n : Nat} {v : Value} {l : List Ins} (h : w.ownsRow base 63 5 v n (insC l)) (hn : n = l.length) : InsIn w v l := by
  subst hn
  rcases h.2 with ⟨rfl, h0⟩ | ⟨g, cap, cur, e, _, h2, h3, _⟩
  · exact ⟨none, 0, 0, rfl, h0, Nat.le_refl _, fun i hi => by omega⟩
  · subst e
    refine ⟨_, _, _, rfl, rfl, h3, fun i hi => ⟨g, 0, rfl, ?_⟩⟩
    obtain ⟨k0, k1, k2, k3, k4⟩ := insC_get l i hi
    refine ⟨?_, ?_, ?_, ?_, ?_⟩
    · rw [World.ownsRow.cellAt h _ (by omega), Nat.zero_add]; exact k0
    · rw [World.ownsRow.cellAt h _ (by omega), Nat.zero_add]; exact k1
    · rw [World.ownsRow.cellAt h _ (by omega), Nat.zero_add]; exact k2
    · rw [World.ownsRow.cellAt h _ (by omega), Nat.zero_add]; exact k3
    · rw [World.ownsRow.cellAt h _ (by omega), Nat.zero_add]; exact k4
theorem insInfo : (Tryz.prog.info? 63).map (fun i => (i.zero, i.size, i.bytes)) = some (some (.agg #[.int .u8 0, .int .u8 0, .string ⟨#[]⟩, .int .i64 0, .int .i64 0]), 5, 48) := by kernel_rfl
def ProgsIn (w : World) (v : Value) (ps : List (List Ins)) : Prop := ∃ (a : Option Addr) (n c : Nat), v = .slice a n c ∧ ps.length = n ∧ n ≤ c ∧ ∀ (i : Nat) (h : i < ps.length), ∃ g o ve, a = some ⟨g, o, none⟩ ∧ w.cell? ⟨g, o + i, none⟩ = some ve ∧ InsIn w ve ps[i]
theorem ProgsIn.below {w w' : World} {v : Value} {ps : List (List Ins)} (h : ProgsIn w v ps) (hb : Below w.heap.size w w') : ProgsIn w' v ps := by
  obtain ⟨a, n, c, rfl, hn, hc, hj⟩ := h
  refine ⟨a, n, c, rfl, hn, hc, fun i hi => ?_⟩
  obtain ⟨g, o, ve, e, h0, h1⟩ := hj i hi
  have hg : g < w.heap.size := World.block_lt_of_cell? _ _ h0
  exact ⟨g, o, ve, e, (hb.cell (p := ⟨g, _, none⟩) hg).trans h0, h1.below hb⟩
theorem fiveB {w : World} {B : Nat} {a b c d e : Value} {T : TypeId} (h : w.heap[B]? = some (.cells #[a, b, c, d, e] T)) :
    (w.cell? ⟨B, 0, none⟩ = some a ∧ w.cell? ⟨B, 1, none⟩ = some b ∧ w.cell? ⟨B, 2, none⟩ = some c ∧ w.cell? ⟨B, 3, none⟩ = some d ∧ w.cell? ⟨B, 4, none⟩ = some e) ∧
    (w.frozen? ⟨B, 0, none⟩ = false ∧ w.frozen? ⟨B, 1, none⟩ = false ∧ w.frozen? ⟨B, 2, none⟩ = false ∧ w.frozen? ⟨B, 3, none⟩ = false ∧ w.frozen? ⟨B, 4, none⟩ = false) := by
  simp [World.cell?, World.frozen?, h]

/-! ### two instructions compared -/
section
variable {P : Program} {w : World} {d : Nat} {xs ys : Array Value} {f : Field} {fs : List Field} {a b : Value} {r s : Bool}
theorem fieldsLast (hn : (f.name == "_") = false) (ha : (part f.type xs f.offset).run P w = .ok a w) (hb : (part f.type ys f.offset).run P w = .ok b w) (he : (Op.equalIn d f.type a b).run P w = .ok r w) : (Op.eqFields d xs ys [f]).run P w = .ok r w := by
  have hn' : f.name ≠ "_" := by simpa using hn
  simp only [Op.eqFields, if_pos hn', Sem.run_bind, ha, hb, he, Result.andThen_ok]
  cases r <;> simp
theorem fieldsCons (hn : (f.name == "_") = false) (ha : (part f.type xs f.offset).run P w = .ok a w) (hb : (part f.type ys f.offset).run P w = .ok b w) (he : (Op.equalIn d f.type a b).run P w = .ok r w) (hr : (Op.eqFields d xs ys fs).run P w = .ok s w) : (Op.eqFields d xs ys (f :: fs)).run P w = .ok (r && s) w := by
  have hn' : f.name ≠ "_" := by simpa using hn
  rw [Op.eqFields]
  simp only [if_pos hn', Sem.run_bind, ha, hb, he, Result.andThen_ok]
  cases r
  · simp
  · simpa using hr
theorem aggOf {t : TypeId} {fs : Array Field} (hu : P.underlying t = some (.struct fs)) (hp : P.stoodInHeld t = false) (h : (Op.eqFields d xs ys fs.toList).run P w = .ok r w) : (Op.equalIn (d + 1) t (.agg xs) (.agg ys)).run P w = .ok r w := by
  have hf : P.fieldsOf t = fs := by simp [Program.fieldsOf, hu]
  rw [run_equalIn_struct (P := P) w d t xs ys (by rw [hf]; exact hu) hp, hf]
  exact h
end
def stpQ (x0 y0 : Int) (x1 y1 : ByteArray) (x2 y2 : Int) : Bool := (x0 == y0) && ((x1.toList == y1.toList) && (x2 == y2))
theorem stpQ_equal (d : Nat) (w : World) (x0 y0 : Int) (x1 y1 : ByteArray) (x2 y2 : Int) :
    (Op.equalIn (d + 2) 48 (.agg #[.int .u8 x0, .string x1, .int .i64 x2]) (.agg #[.int .u8 y0, .string y1, .int .i64 y2])).run Tryz.prog w = .ok (stpQ x0 y0 x1 y1 x2 y2) w := by
  refine aggOf Tryz.underlying48 (by kernel_rfl) ?_
  refine fieldsCons (by rfl) (by go_simp; rfl) (by go_simp; rfl) (by go_simp) ?_
  refine fieldsCons (by rfl) (by go_simp; rfl) (by go_simp; rfl) (by go_simp) ?_
  exact fieldsLast (by rfl) (by go_simp; rfl) (by go_simp; rfl) (by go_simp)
def insQ (o o' k k' : Int) (t t' : ByteArray) (n n' m m' : Int) : Bool := (o == o') && (stpQ k k' t t' n n' && (m == m'))
attribute [local go_sem high] stpQ_equal in
theorem ins_equal (d : Nat) (w : World) (o o' k k' : Int) (t t' : ByteArray) (n n' m m' : Int) :
    (Op.equalIn (d + 3) 63 (.agg #[.int .u8 o, .int .u8 k, .string t, .int .i64 n, .int .i64 m]) (.agg #[.int .u8 o', .int .u8 k', .string t', .int .i64 n', .int .i64 m'])).run Tryz.prog w = .ok (insQ o o' k k' t t' n n' m m') w := by
  refine aggOf Tryz.underlying63 (by kernel_rfl) ?_
  refine fieldsCons (by rfl) (by go_simp; rfl) (by go_simp; rfl) (by go_simp) ?_
  refine fieldsCons (by rfl) (by go_simp) (by go_simp) (stpQ_equal _ _ _ _ _ _ _ _) ?_
  exact fieldsLast (by rfl) (by go_simp; rfl) (by go_simp; rfl) (by go_simp)
theorem insQ_eq (x y : Ins) : insQ x.op y.op x.st.kind y.st.kind ⟨x.st.text.toArray⟩ ⟨y.st.text.toArray⟩ x.st.num y.st.num x.to y.to = decide (x = y) := by
  rw [Bool.eq_iff_iff, decide_eq_true_iff]
  obtain ⟨o, ⟨k, t, n⟩, m⟩ := x
  obtain ⟨o', ⟨k', t', n'⟩, m'⟩ := y
  unfold insQ stpQ
  simp only [Bool.and_eq_true, beq_iff_eq, ByteArray.toList_eq, Ins.mk.injEq, Stp.mk.injEq, Int.natCast_inj, and_assoc]

end Go.Proofs.YtcjmhmmjfgjcnaaGreatDoor.Cd

/- Programs as bytes: there and back. Plain. -/
namespace Go.Proofs.YtcjmhmmjfgjcnaaGreatDoor.Cd
open Go.Proofs.YtcjmhmmjfgjcnaaGreatDoor.Lx Go.Proofs.YtcjmhmmjfgjcnaaGreatDoor.Pa

/-! ### numbers -/
def numB : Nat → Nat → Txt
  | 0, n => [UInt8.ofNat n]
  | f + 1, n => if 127 < n then UInt8.ofNat (n % 128 + 128) :: numB f (n / 128) else [UInt8.ofNat n]
def numT (n : Nat) : Txt := numB 9 n
def readG : Nat → Nat → Txt → Option (Nat × Nat)
  | _, _, [] => none
  | i, acc, b :: r => if 10 ≤ i then none else
      if b.toNat < 128 then if i = 9 ∧ 1 < b.toNat ∨ 0 < i ∧ b.toNat = 0 then none else some (acc + b.toNat * 128 ^ i, i + 1)
      else readG (i + 1) (acc + (b.toNat - 128) * 128 ^ i) r
def readN (l : Txt) : Option (Nat × Nat) := readG 0 0 l
theorem numB_length : ∀ f n, 1 ≤ (numB f n).length ∧ (numB f n).length ≤ f + 1
  | 0, n => by simp [numB]
  | f + 1, n => by
    unfold numB
    split
    · have := numB_length f (n / 128)
      simp only [List.length_cons]
      omega
    · simp
theorem byte_toNat {n : Nat} (h : n < 256) : (UInt8.ofNat n).toNat = n := by
  rw [UInt8.toNat_ofNat']
  exact Nat.mod_eq_of_lt h
theorem pow_step (i : Nat) : 128 ^ (i + 1) = 128 * 128 ^ i := by rw [Nat.pow_succ, Nat.mul_comm]
theorem read_num : ∀ (f i acc n : Nat) (r : Txt), f + i = 9 → n < 2 * 128 ^ f → (0 < i → 0 < n) → readG i acc (numB f n ++ r) = some (acc + n * 128 ^ i, i + (numB f n).length)
  | 0, i, acc, n, r, hi, hn, hp => by
    have h1 : n < 2 := by simpa using hn
    unfold numB
    show readG i acc (UInt8.ofNat n :: r) = _
    rw [readG, byte_toNat (by omega), if_neg (by omega), if_pos (by omega), if_neg (by omega)]
    rfl
  | f + 1, i, acc, n, r, hi, hn, hp => by
    unfold numB
    split
    · rename_i h
      rw [List.cons_append, readG, byte_toNat (by omega), if_neg (by omega), if_neg (by omega), read_num f (i + 1) _ (n / 128) r (by omega) (by rw [pow_step] at hn; omega) (by omega), List.length_cons]
      have e : n * 128 ^ i = (n % 128) * 128 ^ i + n / 128 * (128 * 128 ^ i) := by
        have h1 : (n % 128 + n / 128 * 128) * 128 ^ i = n * 128 ^ i := by rw [show n % 128 + n / 128 * 128 = n by omega]
        rw [← h1, Nat.add_mul, Nat.mul_assoc]
      rw [pow_step, e, Nat.add_sub_cancel, Nat.add_assoc, show i + 1 + (numB f (n / 128)).length = i + ((numB f (n / 128)).length + 1) by omega]
    · rename_i h
      show readG i acc (UInt8.ofNat n :: r) = _
      rw [readG, byte_toNat (by omega), if_neg (by omega), if_pos (by omega), if_neg (by omega)]
      rfl
theorem pow9 : 2 * 128 ^ 9 = 18446744073709551616 := by simp
theorem readN_num {n : Nat} (h : n < 18446744073709551616) (r : Txt) : readN (numT n ++ r) = some (n, (numT n).length) := by
  have h9 := read_num 9 0 0 n r (Nat.add_zero 9) (Nat.lt_of_lt_of_eq h pow9.symm) (fun h => absurd h (Nat.lt_irrefl 0))
  rw [Nat.zero_add, Nat.pow_zero, Nat.mul_one, Nat.zero_add] at h9
  exact h9
theorem read_back : ∀ (l : Txt) (i acc v k : Nat), i ≤ 9 → readG i acc l = some (v, k) → ∃ n, v = acc + n * 128 ^ i ∧ n < 2 * 128 ^ (9 - i) ∧ (0 < i → 0 < n) ∧ i + (numB (9 - i) n).length = k ∧ ∃ r, l = numB (9 - i) n ++ r
  | [], i, acc, v, k, _, h => by rw [readG] at h; cases h
  | b :: l, i, acc, v, k, hi, h => by
    rw [readG, if_neg (by omega)] at h
    have hb : b.toNat < 256 := b.toNat_lt
    split at h
    · rename_i hlt
      split at h
      · cases h
      · rename_i hno
        simp only [Option.some.injEq, Prod.mk.injEq] at h
        have e : numB (9 - i) b.toNat = [b] := by
          cases h9 : 9 - i with
          | zero => unfold numB; rw [UInt8.ofNat_toNat]
          | succ f => unfold numB; rw [if_neg (by omega), UInt8.ofNat_toNat]
        refine ⟨b.toNat, h.1.symm, ?_, by omega, by rw [e]; exact h.2, l, by rw [e]; rfl⟩
        cases h9 : 9 - i with
        | zero => simp; omega
        | succ f => have := Nat.one_le_pow f 128 (by omega); rw [pow_step]; omega
    · rename_i hge
      by_cases h9 : i = 9
      · subst h9
        cases l with
        | nil => rw [readG] at h; cases h
        | cons c l => rw [readG, if_pos (by omega)] at h; cases h
      · obtain ⟨n, h1, h2, h3, h4, r, h5⟩ := read_back l (i + 1) _ v k (by omega) h
        have hn0 := h3 (by omega)
        have e : numB (9 - i) (b.toNat - 128 + 128 * n) = b :: numB (9 - (i + 1)) n := by
          rw [show 9 - i = (9 - (i + 1)) + 1 by omega, numB, if_pos (by omega), show (b.toNat - 128 + 128 * n) / 128 = n by omega, show (b.toNat - 128 + 128 * n) % 128 + 128 = b.toNat by omega, UInt8.ofNat_toNat]
        refine ⟨b.toNat - 128 + 128 * n, ?_, ?_, by omega, ?_, r, ?_⟩
        · rw [h1, pow_step, Nat.add_mul, ← Nat.mul_assoc, Nat.mul_comm n 128, Nat.add_assoc]
        · rw [show 9 - i = (9 - (i + 1)) + 1 by omega, pow_step]; omega
        · rw [e, List.length_cons]; omega
        · rw [e, List.cons_append, ← h5]
theorem readN_back {l : Txt} {n k : Nat} (h : readN l = some (n, k)) : n < 18446744073709551616 ∧ (numT n).length = k ∧ ∃ r, l = numT n ++ r := by
  obtain ⟨m, h1, h2, _, h4, r, h5⟩ := read_back l 0 0 n k (by omega) h
  simp only [Nat.pow_zero, Nat.mul_one, Nat.zero_add] at h1 h4
  subst h1
  exact ⟨Nat.lt_of_lt_of_eq h2 pow9, h4, r, h5⟩

/-! ### texts -/
def u64 (n : Int) : Nat := (n % 18446744073709551616).toNat
def i64 (n : Nat) : Int := if n < 9223372036854775808 then n else (n : Int) - 18446744073709551616
def textI (x : Ins) : Txt := UInt8.ofNat x.op :: (
  if x.op = 1 then UInt8.ofNat x.st.kind :: (numT (u64 x.st.num) ++ (numT x.st.text.length ++ x.st.text))
  else if x.op = 2 ∨ x.op = 4 then numT (u64 x.to) else [])
def textL (p : List Ins) : Txt := p.flatMap textI
structure Cu where
  left : Txt
  bad : Bool
  deriving DecidableEq, Repr
def Cu.take (c : Cu) (n : Nat) : Txt × Cu := if c.bad = true ∨ c.left.length < n then ([], ⟨c.left, true⟩) else (c.left.take n, ⟨c.left.drop n, false⟩)
def Cu.byte (c : Cu) : UInt8 × Cu := ((c.take 1).1.headD 0, (c.take 1).2)
def Cu.number (c : Cu) : Nat × Cu := match readN c.left with
  | none => (0, ⟨c.left, true⟩)
  | some r => (r.1, (c.take r.2).2)
def insF (c : Cu) : Ins × Cu :=
  if c.byte.1.toNat = 1 then
    let k := c.byte.2.byte
    let n := k.2.number
    let m := n.2.number
    let t := m.2.take m.1
    (⟨1, ⟨k.1.toNat, t.1, i64 n.1⟩, 0⟩, t.2)
  else if c.byte.1.toNat = 2 ∨ c.byte.1.toNat = 4 then
    let n := c.byte.2.number
    (⟨c.byte.1.toNat, stp0, (min n.1 257 : Nat)⟩, n.2)
  else (⟨c.byte.1.toNat, stp0, 0⟩, c.byte.2)
def readF : Nat → List Ins → Cu → List Ins × Cu
  | 0, out, c => (out, c)
  | n + 1, out, c => if c.left ≠ [] ∧ c.bad = false then readF n (out ++ [(insF c).1]) (insF c).2 else (out, c)

theorem take_good (a r : Txt) : (⟨a ++ r, false⟩ : Cu).take a.length = (a, ⟨r, false⟩) := by
  unfold Cu.take
  rw [if_neg (by simp), List.take_left, List.drop_left]
theorem byte_good (b : UInt8) (r : Txt) : (⟨b :: r, false⟩ : Cu).byte = (b, ⟨r, false⟩) := by
  unfold Cu.byte
  have := take_good [b] r
  rw [show ([b] ++ r : Txt) = b :: r from rfl, show ([b] : Txt).length = 1 from rfl] at this
  rw [this]
  rfl
theorem take_bad (l : Txt) (n : Nat) : (⟨l, true⟩ : Cu).take n = ([], ⟨l, true⟩) := by
  unfold Cu.take
  rw [if_pos (.inl rfl)]
theorem take_ok {c : Cu} {n : Nat} (h : (c.take n).2.bad = false) : c.bad = false ∧ c.left = (c.take n).1 ++ (c.take n).2.left ∧ (c.take n).1.length = n := by
  unfold Cu.take at h ⊢
  split at h
  · cases h
  · rename_i hn
    rw [if_neg hn]
    simp only [not_or, Bool.not_eq_true, Nat.not_lt] at hn
    exact ⟨hn.1, (List.take_append_drop n c.left).symm, by simp only [List.length_take]; omega⟩
theorem byte_ok {c : Cu} (h : c.byte.2.bad = false) : c.bad = false ∧ c.left = c.byte.1 :: c.byte.2.left := by
  obtain ⟨h1, h2, h3⟩ := take_ok (n := 1) h
  refine ⟨h1, ?_⟩
  unfold Cu.byte
  match e : (c.take 1).1, h3 with
  | [b], _ =>
    rw [e] at h2
    exact h2
theorem number_ok {c : Cu} (h : c.number.2.bad = false) : c.bad = false ∧ c.left = numT c.number.1 ++ c.number.2.left ∧ c.number.1 < 18446744073709551616 := by
  unfold Cu.number at h ⊢
  cases hr : readN c.left with
  | none => rw [hr] at h; cases h
  | some r =>
    rw [hr] at h
    simp only at h ⊢
    obtain ⟨n, k⟩ := r
    obtain ⟨h1, h2, r', h3⟩ := readN_back hr
    obtain ⟨g1, g2, g3⟩ := take_ok h
    refine ⟨g1, ?_, h1⟩
    simp only at g2 g3 ⊢
    have : (c.take k).1 = numT n := by
      rw [g2] at h3
      exact (List.append_inj h3 (by rw [g3]; exact h2.symm)).1
    rw [← this]
    exact g2

structure InsOk (x : Ins) : Prop where
  op : x.op = 1 ∨ x.op = 2 ∨ x.op = 3 ∨ x.op = 4 ∨ x.op = 5
  step : x.op = 1 → x.to = 0 ∧ x.st.kind < 23 ∧ 0 ≤ x.st.num ∧ ∃ k, takes x.st = some k
  jump : x.op = 2 ∨ x.op = 4 → x.st = stp0 ∧ 0 < x.to ∧ x.to ≤ 256
  bare : x.op = 3 ∨ x.op = 5 → x.st = stp0 ∧ x.to = 0
theorem takes_num {s : Stp} {k : Nat} (h : takes s = some k) : 0 ≤ s.num := by
  unfold takes at h
  repeat' split at h
  all_goals first | (cases h; done) | omega
theorem stepK_ok {N i : Nat} {x : Ins} {hs hs' : Hts} (hN : N ≤ 256) (h : stepK N i x hs = some hs') : InsOk x := by
  unfold stepK at h
  split at h
  · cases h
  · split at h
    · rename_i h1
      split at h
      · cases h
      · rename_i k ht
        split at h
        · rename_i hc
          exact ⟨.inl h1, fun _ => ⟨hc.2.1, (takes_kind ht).2, takes_num ht, k, ht⟩, fun h' => by omega, fun h' => by omega⟩
        · cases h
    · split at h
      · rename_i h1 h2
        split at h
        · rename_i h3
          cases hc : hs.come x.to.toNat _ with
          | none => rw [hc] at h; cases h
          | some h4 =>
            rw [hc, Option.bind_some] at h
            split at h
            · rename_i h5
              exact ⟨by omega, fun h' => by omega, fun _ => ⟨h5.1, by omega, by omega⟩, fun h' => by omega⟩
            · cases h
        · cases h
      · split at h
        · rename_i h1 h2 h3
          split at h
          · rename_i h4
            exact ⟨by omega, fun h' => by omega, fun h' => by omega, fun _ => ⟨h4.1, h4.2.1⟩⟩
          · cases h
        · split at h
          · rename_i h1 h2 h3 h4
            split at h
            · rename_i h5
              exact ⟨by omega, fun h' => by omega, fun h' => by omega, fun _ => ⟨h5.1, h5.2.1⟩⟩
            · cases h
          · cases h
theorem runK_ok {N : Nat} (hN : N ≤ 256) : ∀ (p : List Ins) (i : Nat) (hs hs' : Hts), runK N i p hs = some hs' → ∀ x ∈ p, InsOk x
  | [], _, _, _, _ => fun _ h => (nomatch h)
  | y :: p, i, hs, hs', h => by
    rw [runK] at h
    cases hc : stepK N i y hs with
    | none => rw [hc] at h; cases h
    | some h1 =>
      rw [hc, Option.bind_some] at h
      intro x hx
      rcases List.mem_cons.1 hx with rfl | hx
      · exact stepK_ok hN hc
      · exact runK_ok hN p _ _ _ h x hx
theorem check_ok {p : List Ins} (h : checkI p = true) : (∀ x ∈ p, InsOk x) ∧ 1 ≤ p.length ∧ p.length ≤ 256 := by
  unfold checkI at h
  rw [Bool.and_eq_true, decide_eq_true_eq] at h
  refine ⟨?_, h.1⟩
  cases hr : runK p.length 0 p hs0 with
  | none => rw [hr] at h; cases h.2
  | some hs => exact runK_ok h.1.2 p 0 _ _ hr
theorem u64_small {n : Int} (h0 : 0 ≤ n) (h : n < 9223372036854775808) : u64 n = n.toNat := by unfold u64; rw [Int.emod_eq_of_lt h0 (by omega)]
theorem text_pos (x : Ins) : 1 ≤ (textI x).length := by unfold textI; simp
theorem readF_bad : ∀ (n : Nat) (out : List Ins) (c : Cu), c.bad = true → readF n out c = (out, c)
  | 0, _, _, _ => rfl
  | n + 1, out, c, h => by rw [readF, if_neg (by rw [h]; simp)]
theorem ins_short (c : Cu) : (insF c).2.bad = true ∨ (insF c).2.left.length < c.left.length := by
  cases hbad : (insF c).2.bad with
  | true => exact .inl rfl
  | false =>
    right
    unfold insF at hbad ⊢
    by_cases h1 : c.byte.1.toNat = 1
    · rw [if_pos h1] at hbad ⊢
      simp only at hbad ⊢
      obtain ⟨a1, a2, a3⟩ := take_ok hbad
      obtain ⟨b1, b2, b3⟩ := number_ok a1
      obtain ⟨c1, c2, c3⟩ := number_ok b1
      obtain ⟨d1, d2⟩ := byte_ok c1
      obtain ⟨e1, e2⟩ := byte_ok d1
      have f1 := congrArg List.length e2
      have f2 := congrArg List.length d2
      have f3 := congrArg List.length c2
      have f4 := congrArg List.length b2
      have f5 := congrArg List.length a2
      simp only [List.length_cons, List.length_append] at f1 f2 f3 f4 f5
      omega
    · rw [if_neg h1] at hbad ⊢
      by_cases h2 : c.byte.1.toNat = 2 ∨ c.byte.1.toNat = 4
      · rw [if_pos h2] at hbad ⊢
        simp only at hbad ⊢
        obtain ⟨b1, b2, b3⟩ := number_ok hbad
        obtain ⟨e1, e2⟩ := byte_ok b1
        have f1 := congrArg List.length e2
        have f4 := congrArg List.length b2
        simp only [List.length_cons, List.length_append] at f1 f4
        omega
      · rw [if_neg h2] at hbad ⊢
        simp only at hbad ⊢
        obtain ⟨e1, e2⟩ := byte_ok hbad
        have f1 := congrArg List.length e2
        simp only [List.length_cons] at f1
        omega
end Go.Proofs.YtcjmhmmjfgjcnaaGreatDoor.Cd

/- bin: Number. -/
namespace Go.Proofs.YtcjmhmmjfgjcnaaGreatDoor.Cd
open Go.RowKit Go.Proofs.YtcjmhmmjfgjcnaaGreatDoor.Lx Go.Proofs.YtcjmhmmjfgjcnaaGreatDoor.Pa

/-! ### rows of bytes -/
def bytesC (l : List UInt8) : List Value := l.map fun b => Value.int .u8 b.toNat
theorem bytesC_snoc (l : List UInt8) (b : UInt8) : bytesC (l ++ [b]) = bytesC l ++ [.int .u8 b.toNat] := by simp [bytesC]
def OwnB (w : World) (base : Nat) (v : Value) (l : List UInt8) : Prop := w.ownsRow base 5 1 v l.length (bytesC l)
theorem OwnB.nil (w : World) (base : Nat) : OwnB w base (.slice none 0 0) [] := World.ownsRow_nil _ _ _ _
theorem OwnB.form {w : World} {base : Nat} {v : Value} {l : List UInt8} (h : OwnB w base v l) : ∃ a c, v = .slice a l.length c := ownForm h
theorem OwnB.at {w : World} {base : Nat} {v : Value} {l : List UInt8} (h : OwnB w base v l) (hne : l ≠ []) : ∃ g c, v = .slice (some ⟨g, 0, none⟩) l.length c ∧ BytesAt w g l ∧ base ≤ g ∧ g < w.heap.size := by
  rcases h.2 with ⟨rfl, h0⟩ | ⟨g, cap, cur, e, h1, h2, h3, h4, h5, h6⟩
  · exact absurd (List.eq_nil_of_length_eq_zero h0) hne
  · subst e
    refine ⟨g, cap, rfl, fun j hj => ⟨?_, ?_⟩, h1, ltH h2⟩
    · rw [World.ownsRow.cellAt h j (by omega)]
      simp [bytesC, List.getElem?_eq_getElem hj]
    · simp [World.frozen?, h2]
theorem u8Info : (Tryz.prog.info? 5).map (fun i => (i.zero, i.size, i.bytes)) = some (some (.int .u8 0), 1, 1) := by kernel_rfl
theorem or128 (n : Nat) : bits .or .u8 ((n : Int) % 256) 128 = (((UInt8.ofNat (n % 128 + 128)).toNat : Nat) : Int) := by
  rw [show (n : Int) % 256 = ((n % 256 : Nat) : Int) by omega]
  rw [show (128 : Int) = ((128 : Nat) : Int) from rfl, u8_or_nat _ _ (Nat.mod_lt _ (by decide)) (by decide), byte_toNat (by omega)]
  have h : ∀ x, x < 256 → x ||| 128 = x % 128 + 128 := by decide +kernel
  rw [h _ (Nat.mod_lt _ (by decide))]
  congr 1
  omega

structure BufM (w0 w : World) (B : Nat) (v : Value) (l : List UInt8) : Prop where
  blk : w.heap[B]? = some (.cells #[v] 163)
  own : OwnB w (B + 1) v l
  bel : Below w0.heap.size w0 w
  low : w0.heap.size ≤ B
theorem BufM.step {w0 w w' : World} {B : Nat} {v : Value} {l : List UInt8} (h : BufM w0 w B v l) (hb : Below w.heap.size w w') : BufM w0 w' B v l :=
  ⟨(hb.block _ (ltH h.blk)).trans h.blk, ownSame h.own fun g _ hg => hb.block g hg, stepH h.bel hb, h.low⟩
theorem oneB {w : World} {B : Nat} {a : Value} {T : TypeId} (h : w.heap[B]? = some (.cells #[a] T)) : w.cell? ⟨B, 0, none⟩ = some a ∧ w.frozen? ⟨B, 0, none⟩ = false := by
  simp [World.cell?, World.frozen?, h]
theorem BufM.more {w0 w w1 : World} {B n : Nat} {v v1 : Value} {l : List UInt8} {b : UInt8} {cs : List Value} (h : BufM w0 w B v l) (hown : w1.ownsRow (B + 1) 5 1 v1 n cs) (hg : w.grownBy w1 v.ownBlock) (hn : n = l.length + 1) (hc : cs = bytesC l ++ [.int .u8 b.toNat]) :
    BufM w0 (w1.setCell ⟨B, 0, none⟩ v1) B v1 (l ++ [b]) := by
  have hlt : ∀ g, v.ownBlock = some g → B + 1 ≤ g := fun g e => (World.ownsRow.lt h.own g e).1
  have hlt1 : ∀ g, v1.ownBlock = some g → B + 1 ≤ g := fun g e => (World.ownsRow.lt hown g e).1
  have hB1 : w1.heap[B]? = some (.cells #[v] 163) := (hg.block B (ltH h.blk) fun e => by have := hlt B e.symm; omega).trans h.blk
  have hlow := h.low
  have hb1 : Below w0.heap.size w0 w1 := h.bel.grown hg h.bel.size fun g e => by have := hlt g e; omega
  refine ⟨?_, ?_, hb1.setCell hlow _, hlow⟩
  · simp only [World.setCell, Array.getElem?_modify, if_true, hB1, Option.map_some]
    rfl
  · unfold OwnB
    rw [bytesC_snoc, ← hc, List.length_append, List.length_singleton, ← hn]
    exact ownSame hown fun g hg' _ => Below.heap_setCell _ _ _ _ (fun (e : g = B) => by have := hlt1 g hg'; omega)

set_option maxHeartbeats 1000000 in
set_option maxRecDepth 100000 in
theorem number_calls (w0 w : World) (B : Nat) (v : Value) (n : Nat) (h : BufM w0 w B v []) (hn : n < 18446744073709551616) :
    Calls Tryz.prog 118 #[.pointer (some ⟨B, 0, none⟩), .int .u64 n] w fun e w' => e = .returned (.tuple #[]) ∧ ∃ v', BufM w0 w' B v' (numT n) := by
  have HB := Lib.hid h
  obtain ⟨i0, hi0, hz0, hz1, hz2⟩ := info_parts u8Info
  have Hi0 := Lib.hid hi0
  have Hz0 := Lib.hid hz0
  have Hz1 := Lib.hid hz1
  have Hz2 := Lib.hid hz2
  clear hi0 hz0 hz1 hz2 h
  go_enter Tryz.func118, Tryz.ntmps118
  go_wp2_with fail
  go_loopw [1] (fun s1 wr => ∃ (m f : Nat) (l : List UInt8) (v' : Value), s1 = .int .u64 m ∧ f ≤ 9 ∧ m < 2 * 128 ^ f ∧ m < 18446744073709551616 ∧ l.length + f = 9 ∧ Hid (l ++ numB f m = numT n ∧ BufM w0 wr B v' l)) (fun s1 _ => (intOf s1).toNat)
  case atStart => exact ⟨n, 9, [], v, rfl, Nat.le_refl _, by rw [pow9]; exact hn, hn, rfl, rfl, HB.out⟩
  case round =>
    obtain ⟨m, f, l, v', rfl, hf, hm, hm2, hlf, hst⟩ := hrel
    have Hst := Lib.hid hst.out
    obtain ⟨k0, f0⟩ := oneB hst.out.2.blk
    have hB := ltH hst.out.2.blk
    obtain ⟨av, cv, rfl⟩ := hst.out.2.own.form
    by_cases hgt : 127 < m
    · obtain ⟨f, rfl⟩ : ∃ f', f = f' + 1 := by
        cases f with
        | zero => simp at hm; omega
        | succ f' => exact ⟨f', rfl⟩
      have Hnum := Lib.hid (show numB (f + 1) m = UInt8.ofNat (m % 128 + 128) :: numB f (m / 128) by rw [numB, if_pos hgt])
      have hgt2 : (127 : Int) < m := by omega
      have Hor := Lib.hid (or128 m)
      have Hpow := Lib.hid (show m / 128 < 2 * 128 ^ f by rw [pow_step] at hm; omega)
      clear hst hm
      have Hst1 := Lib.hid (Hst.out.2.step (allocB wr (.cells #[.int .u8 (bits .or .u8 ((m : Int) % 256) 128)] 5)))
      have Hown := Lib.hid (show (wr.alloc (.cells #[.int .u8 (bits .or .u8 ((m : Int) % 256) 128)] 5)).ownsRow (B + 1) 5 1 (.slice av l.length cv) l.length (bytesC l) from Hst1.out.own)
      have hB1 := Hst1.out.blk
      have hBlt := fun e : some B = (Value.slice av l.length cv).ownBlock => (by have := (World.ownsRow.lt Hown.out B e.symm).1; omega : False)
      have HB1 := Lib.hid (And.intro hB1 hBlt)
      clear hB1 hBlt
      have Hbase := Lib.hid (show B + 1 ≤ (wr.alloc (.cells #[.int .u8 (bits .or .u8 ((m : Int) % 256) 128)] 5)).heap.size from by have := (allocB wr (.cells #[.int .u8 (bits .or .u8 ((m : Int) % 256) 128)] 5)).size; omega)
      have Hnews := Lib.hid (cell_one_new wr (.int .u8 (bits .or .u8 ((m : Int) % 256) 128)) 5)
      have Hone := Lib.hid (show ∀ u ∈ [(.int .u8 (bits .or .u8 ((m : Int) % 256) 128) : Value)], u.oneCell' = true from by intro u hu; rw [List.mem_singleton] at hu; subst hu; rfl)
      have Hlt := Lib.hid (show l.length + 1 ≤ maxLen ∧ (l.length + 1) * 1 ≤ 140737488355328 from by unfold maxLen; omega)
      go_wp2_with (at_builtin; go_must (refine wpList_append_own_at _ rfl _ _ 104 rfl (B + 1) 5 i0 _ 1 1 Tryz.underlying104 Hi0.out Hz0.out Hz1.out Hz2.out rfl (by decide) (.slice av l.length cv) l.length (bytesC l) rfl Hown.out ⟨wr.heap.size, 0, none⟩ 1 1 [.int .u8 (bits .or .u8 ((m : Int) % 256) 128)] rfl rfl Hnews.out Hone.out Hlt.out.1 Hlt.out.2 Hbase.out ?_); intro v7 w7 hown7 hg7 _ hat7; have hB7 := oneB ((hg7.block B (ltH HB1.out.1) (fun e => HB1.out.2 e)).trans HB1.out.1); obtain ⟨k7, f7⟩ := hB7; clear hat7; obtain ⟨a7, c7, rfl⟩ := ownForm hown7)
      have HM7 := Lib.hid (Hst1.out.more (b := (UInt8.ofNat (m % 128 + 128))) hown7 hg7 rfl (by rw [← Hor.out]))
      clear hown7 hg7
      go_roundw
      case rel => exact ⟨m / 128, f, l ++ [UInt8.ofNat (m % 128 + 128)], _, by go_num, by omega, Hpow.out, by omega, by rw [List.length_append, List.length_singleton]; omega, by rw [List.append_assoc, ← Hst.out.1, Hnum.out]; rfl, HM7.out⟩
      case measure => simp [intOf]; omega
    · have Hnum := Lib.hid (show numB f m = [UInt8.ofNat m] by
        cases f with
        | zero => rfl
        | succ f' => rw [numB, if_neg hgt])
      have hgt2 : ¬ (127 : Int) < m := by omega
      have Hor := Lib.hid (show (m : Int) = (((UInt8.ofNat m).toNat : Nat) : Int) by rw [byte_toNat (by omega)])
      clear hst hm
      have Hst1 := Lib.hid (Hst.out.2.step (allocB wr (.cells #[.int .u8 (m : Int)] 5)))
      have Hown := Lib.hid (show (wr.alloc (.cells #[.int .u8 (m : Int)] 5)).ownsRow (B + 1) 5 1 (.slice av l.length cv) l.length (bytesC l) from Hst1.out.own)
      have hB1 := Hst1.out.blk
      have hBlt := fun e : some B = (Value.slice av l.length cv).ownBlock => (by have := (World.ownsRow.lt Hown.out B e.symm).1; omega : False)
      have HB1 := Lib.hid (And.intro hB1 hBlt)
      clear hB1 hBlt
      have Hbase := Lib.hid (show B + 1 ≤ (wr.alloc (.cells #[.int .u8 (m : Int)] 5)).heap.size from by have := (allocB wr (.cells #[.int .u8 (m : Int)] 5)).size; omega)
      have Hnews := Lib.hid (cell_one_new wr (.int .u8 (m : Int)) 5)
      have Hone := Lib.hid (show ∀ u ∈ [(.int .u8 (m : Int) : Value)], u.oneCell' = true from by intro u hu; rw [List.mem_singleton] at hu; subst hu; rfl)
      have Hlt := Lib.hid (show l.length + 1 ≤ maxLen ∧ (l.length + 1) * 1 ≤ 140737488355328 from by unfold maxLen; omega)
      go_wp2_with (at_builtin; go_must (refine wpList_append_own_at _ rfl _ _ 104 rfl (B + 1) 5 i0 _ 1 1 Tryz.underlying104 Hi0.out Hz0.out Hz1.out Hz2.out rfl (by decide) (.slice av l.length cv) l.length (bytesC l) rfl Hown.out ⟨wr.heap.size, 0, none⟩ 1 1 [.int .u8 (m : Int)] rfl rfl Hnews.out Hone.out Hlt.out.1 Hlt.out.2 Hbase.out ?_); intro v7 w7 hown7 hg7 _ hat7; have hB7 := oneB ((hg7.block B (ltH HB1.out.1) (fun e => HB1.out.2 e)).trans HB1.out.1); obtain ⟨k7, f7⟩ := hB7; clear hat7; obtain ⟨a7, c7, rfl⟩ := ownForm hown7)
      have HM7 := Lib.hid (Hst1.out.more (b := (UInt8.ofNat m)) hown7 hg7 rfl (by rw [← Hor.out]))
      clear hown7 hg7
      go_end0
      exact ⟨rfl, _, by rw [← Hst.out.1, Hnum.out]; exact HM7.out⟩

end Go.Proofs.YtcjmhmmjfgjcnaaGreatDoor.Cd
