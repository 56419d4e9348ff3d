/- Parts: RaQ QaM RcB. -/
import Derived.Test.YtcjmhmmjfgjcnaaGreatDoorMa03
import Derived.Test.YtcjmhmmjfgjcnaaGreatDoorMa04
import Derived.Test.YtcjmhmmjfgjcnaaGreatDoorMa05
import Derived.Test.YtcjmhmmjfgjcnaaGreatDoorMa22
import Derived.Test.YtcjmhmmjfgjcnaaGreatDoorMa25
import Derived.Test.YtcjmhmmjfgjcnaaGreatDoorProg
import Derived.Maps.AppendAt
import Derived.Deep.DeepMust
import Derived.Laws.OwnMore
import Derived.Deep.AppendLies
import Derived.Laws.StructEq

/- codicilref10: Right, Closed. -/
namespace Go.Proofs.YtcjmhmmjfgjcnaaGreatDoor.Rf
open Go.RowKit Go.Proofs.YtcjmhmmjfgjcnaaGreatDoor.Lx Go.Proofs.YtcjmhmmjfgjcnaaGreatDoor.Pa

set_option maxHeartbeats 1000000 in
set_option maxRecDepth 100000 in
theorem RightR_calls (w : World) (v : Value) (l : List Stp) (h : StpsIn w v l) (hl : l.length ≤ 1048576) (ht : ∀ y ∈ l, y.text.length ≤ 1048576) :
    Calls Tryz.prog 25 #[v] w fun e w' => e = .returned (.bool (rightB l)) ∧ Below w.heap.size w w' := by
  obtain ⟨a, n, c, rfl, hn, hc, hj⟩ := h
  subst hn
  have Hj := Lib.hid hj
  have HR := Lib.hid (show rightB l = (decide (rightL l 0 = some 1) && decide (l.length ≤ 128)) from rfl)
  clear hj
  go_enter Tryz.func25, Tryz.ntmps25
  go_wp2_with fail
  go_loopw [3, 10] (fun s3 s10 wr => ∃ k m : Nat, s10 = .int .i64 k ∧ s3 = .int .i64 m ∧ k ≤ l.length ∧ m ≤ k ∧ Hid (Below w.heap.size w wr) ∧ Hid (rightL l 0 = rightL (l.drop k) m)) (fun _ s10 _ => l.length - (intOf s10).toNat)
  case atStart => exact ⟨0, 0, rfl, rfl, Nat.zero_le _, Nat.le_refl _, Lib.hid (Below.refl _ _), Lib.hid (by rw [List.drop_zero])⟩
  case round =>
    obtain ⟨k, m, rfl, rfl, hk, hmk, hbr, hr⟩ := hrel
    have Hbr := Lib.hid hbr.out
    clear hbr
    by_cases hlt : k < l.length
    · obtain ⟨g, o, ha, hcl0⟩ := Hj.out k hlt
      subst ha
      obtain ⟨q0, q1, q2⟩ := hcl0.below Hbr.out
      have hq := hr.out
      rw [List.drop_eq_getElem_cons hlt, rightL_cons] at hq
      have hyt := ht _ (List.getElem_mem hlt)
      generalize l[k] = y at q0 q1 q2 hq hyt
      have HT := Lib.hid (fun W => TakesR_calls y W hyt)
      clear hr hcl0
      unfold Stp.val takesV at HT
      cases htk : takes y with
      | none =>
        rw [htk] at HT hq
        have Hv := Lib.hid (show rightB l = false by rw [HR.out, hq]; rfl)
        clear hq htk
        go_wp2_with fail
        refine (HT.out _).mono ?_
        rintro e w1 ⟨rfl, hb1⟩
        have Hb1 := Lib.hid (rStep (rStep Hbr.out (rAlloc _ _)) hb1)
        clear hb1
        simp only [Option.getD_none, Option.isSome_none]
        go_wp2_with fail
        go_ret
        exact ⟨by rw [Hv.out]; rfl, Hb1.out⟩
      | some j =>
        have hj64 := takes_le htk
        rw [htk] at HT hq
        simp only at hq
        by_cases hmj : m < j
        · rw [if_pos hmj] at hq
          have Hv := Lib.hid (show rightB l = false by rw [HR.out, hq]; rfl)
          have hmj2 : (m : Int) < j := by omega
          clear hq htk
          go_wp2_with fail
          refine (HT.out _).mono ?_
          rintro e w1 ⟨rfl, hb1⟩
          have Hb1 := Lib.hid (rStep (rStep Hbr.out (rAlloc _ _)) hb1)
          clear hb1
          simp only [Option.getD_some, Option.isSome_some]
          go_wp2_with fail
          go_ret
          exact ⟨by rw [Hv.out]; rfl, Hb1.out⟩
        · rw [if_neg hmj] at hq
          have Hv := Lib.hid hq
          have hmj2 : ¬ (m : Int) < j := by omega
          clear hq htk
          go_wp2_with fail
          refine (HT.out _).mono ?_
          rintro e w1 ⟨rfl, hb1⟩
          have Hb1 := Lib.hid (rStep (rStep Hbr.out (rAlloc _ _)) hb1)
          clear hb1
          simp only [Option.getD_some, Option.isSome_some]
          go_wp2_with fail
          go_roundw
          case rel => exact ⟨k + 1, m - j + 1, by go_num, by congr 1; omega, by omega, by omega, Hb1, Hv⟩
          case measure => simp [intOf]; omega
    · have hq := hr.out
      rw [List.drop_of_length_le (by omega), rightL] at hq
      by_cases h1 : m = 1
      · have e1 : ((m : Int) == 1) = true := by rw [h1]; rfl
        have Hv := Lib.hid (show rightB l = decide ((l.length : Int) ≤ 128) by rw [HR.out, hq, h1, decide_eq_true rfl, Bool.true_and]; exact decide_eq_decide.2 (by omega))
        clear hq hr h1
        go_wp2_with fail
        go_ret
        exact ⟨by rw [Hv.out]; rfl, Hbr.out⟩
      · have e1 : ((m : Int) == 1) = false := by rw [beq_eq_false_iff_ne]; omega
        have Hv := Lib.hid (show rightB l = false by rw [HR.out, hq]; simp [h1])
        clear hq hr h1
        go_wp2_with fail
        go_ret
        exact ⟨by rw [Hv.out]; rfl, Hbr.out⟩

end Go.Proofs.YtcjmhmmjfgjcnaaGreatDoor.Rf

/- Instructions in memory. -/
namespace Go.Proofs.YtcjmhmmjfgjcnaaGreatDoor.Cd
open Go.RowKit Go.Proofs.YtcjmhmmjfgjcnaaGreatDoor.Lx Go.Proofs.YtcjmhmmjfgjcnaaGreatDoor.Pa

/-! ### blocks -/
theorem ltH {w : World} {b : Nat} {o : Obj} (h : w.heap[b]? = some o) : b < w.heap.size := (Array.getElem?_eq_some_iff.1 h).1
theorem allocB (w : World) (o : Obj) : Below w.heap.size w (w.alloc o) := (Below.refl _ _).alloc (Nat.le_refl _) _
theorem stepH {a b c : World} (h1 : Below a.heap.size a b) (h2 : Below b.heap.size b c) : Below a.heap.size a c := h1.trans (h2.mono h1.size)
theorem ownSame {w w' : World} {base : Nat} {e : TypeId} {size n : Nat} {v : Value} {xs : List Value} (h : w.ownsRow base e size v n xs)
    (hb : ∀ g, v.ownBlock = some g → g < w.heap.size → w'.heap[g]? = w.heap[g]?) : w'.ownsRow base e size v n xs := by
  refine ⟨h.1, ?_⟩
  rcases h.2 with h2 | ⟨g, cap, cur, rfl, h3, h4, h5⟩
  · exact .inl h2
  · refine .inr ⟨g, cap, cur, rfl, h3, ?_, h5⟩
    rw [hb g rfl (Array.getElem?_eq_some_iff.1 h4).1]
    exact h4
theorem ownForm {w : World} {base n : Nat} {e : TypeId} {size : Nat} {v : Value} {xs : List Value} (h : w.ownsRow base e size v n xs) : ∃ a c, v = .slice a n c := by
  rcases h.2 with ⟨rfl, rfl⟩ | ⟨g, cap, cur, rfl, _⟩
  · exact ⟨_, _, rfl⟩
  · exact ⟨_, _, rfl⟩
theorem ownBase {w : World} {base base' n size : Nat} {e : TypeId} {v : Value} {xs : List Value} (h : w.ownsRow base e size v n xs) (hb : base' ≤ base) : w.ownsRow base' e size v n xs := by
  refine ⟨h.1, ?_⟩
  rcases h.2 with h2 | ⟨g, cap, cur, e, h1, h2⟩
  · exact .inl h2
  · exact .inr ⟨g, cap, cur, e, by omega, h2⟩

/-! ### instructions -/
def Ins.cells (x : Ins) : List Value := [.int .u8 x.op, .int .u8 x.st.kind, .string ⟨x.st.text.toArray⟩, .int .i64 x.st.num, .int .i64 x.to]
def insC (l : List Ins) : List Value := l.flatMap Ins.cells
theorem insC_snoc (l : List Ins) (x : Ins) : insC (l ++ [x]) = insC l ++ x.cells := by simp [insC]
theorem insC_get : ∀ (l : List Ins) (i : Nat) (h : i < l.length), (insC l)[i * 5]? = some (.int .u8 l[i].op) ∧ (insC l)[i * 5 + 1]? = some (.int .u8 l[i].st.kind) ∧ (insC l)[i * 5 + 2]? = some (.string ⟨l[i].st.text.toArray⟩) ∧ (insC l)[i * 5 + 3]? = some (.int .i64 l[i].st.num) ∧ (insC l)[i * 5 + 4]? = some (.int .i64 l[i].to)
  | [], i, h => absurd h (Nat.not_lt_zero _)
  | t :: l, 0, _ => ⟨rfl, rfl, rfl, rfl, rfl⟩
  | t :: l, i + 1, h => by
    have hi := insC_get l i (by simpa using h)
    have e : insC (t :: l) = t.cells ++ insC l := rfl
    have hl : t.cells.length = 5 := rfl
    rw [e]
    refine ⟨?_, ?_, ?_, ?_, ?_⟩
    · rw [List.getElem?_append_right (by omega), hl, show (i + 1) * 5 - 5 = i * 5 by omega]; exact hi.1
    · rw [List.getElem?_append_right (by omega), hl, show (i + 1) * 5 + 1 - 5 = i * 5 + 1 by omega]; exact hi.2.1
    · rw [List.getElem?_append_right (by omega), hl, show (i + 1) * 5 + 2 - 5 = i * 5 + 2 by omega]; exact hi.2.2.1
    · rw [List.getElem?_append_right (by omega), hl, show (i + 1) * 5 + 3 - 5 = i * 5 + 3 by omega]; exact hi.2.2.2.1
    · rw [List.getElem?_append_right (by omega), hl, show (i + 1) * 5 + 4 - 5 = i * 5 + 4 by omega]; exact hi.2.2.2.2
structure InsCells (w : World) (g o : Nat) (x : Ins) : Prop where
  c0 : w.cell? ⟨g, o, none⟩ = some (.int .u8 x.op)
  c1 : w.cell? ⟨g, o + 1, none⟩ = some (.int .u8 x.st.kind)
  c2 : w.cell? ⟨g, o + 2, none⟩ = some (.string ⟨x.st.text.toArray⟩)
  c3 : w.cell? ⟨g, o + 3, none⟩ = some (.int .i64 x.st.num)
  c4 : w.cell? ⟨g, o + 4, none⟩ = some (.int .i64 x.to)
theorem InsCells.keep {w w' : World} {g o : Nat} {x : Ins} (h : InsCells w g o x) (hb : w'.heap[g]? = w.heap[g]?) : InsCells w' g o x :=
  ⟨(World.cell?_of_block (w := w) (a := ⟨g, _, none⟩) hb).trans h.c0, (World.cell?_of_block (w := w) (a := ⟨g, _, none⟩) hb).trans h.c1, (World.cell?_of_block (w := w) (a := ⟨g, _, none⟩) hb).trans h.c2, (World.cell?_of_block (w := w) (a := ⟨g, _, none⟩) hb).trans h.c3, (World.cell?_of_block (w := w) (a := ⟨g, _, none⟩) hb).trans h.c4⟩
theorem InsCells.lt {w : World} {g o : Nat} {x : Ins} (h : InsCells w g o x) : g < w.heap.size := World.block_lt_of_cell? _ _ h.c0
theorem InsCells.below {w w' : World} {g o : Nat} {x : Ins} (h : InsCells w g o x) (hb : Below w.heap.size w w') : InsCells w' g o x := h.keep (hb.block g h.lt)
/-- a slice that reads as instructions, wherever it begins -/
def InsIn (w : World) (v : Value) (l : List Ins) : Prop := ∃ (a : Option Addr) (n c : Nat), v = .slice a n c ∧ l.length = n ∧ n ≤ c ∧ ∀ (i : Nat) (h : i < l.length), ∃ g o, a = some ⟨g, o, none⟩ ∧ InsCells w g (o + i * 5) l[i]
/-- the block stays -/
theorem InsIn.keep {w w' : World} {v : Value} {l : List Ins} (h : InsIn w v l) (hb : ∀ g, v.ownBlock = some g → g < w.heap.size → w'.heap[g]? = w.heap[g]?) : InsIn w' v l := by
  obtain ⟨a, n, c, rfl, hn, hc, hj⟩ := h
  refine ⟨a, n, c, rfl, hn, hc, fun i hi => ?_⟩
  obtain ⟨g, o, rfl, hcl⟩ := hj i hi
  exact ⟨g, o, rfl, hcl.keep (hb g rfl hcl.lt)⟩
theorem InsIn.below {w w' : World} {v : Value} {l : List Ins} (h : InsIn w v l) (hb : Below w.heap.size w w') : InsIn w' v l := h.keep fun g _ hg => hb.block g hg
theorem InsIn.own {w : World} {base n : Nat} {v : Value} {l : List Ins} (h : w.ownsRow base 63 5 v n (insC l)) (hn : n = l.length) : InsIn w v l := by
  subst hn
  rcases h.2 with ⟨rfl, h0⟩ | ⟨g, cap, cur, e, _, h2, h3, _⟩
  · exact ⟨none, 0, 0, rfl, h0, Nat.le_refl _, fun i hi => by omega⟩
  · subst e
    refine ⟨_, _, _, rfl, rfl, h3, fun i hi => ⟨g, 0, rfl, ?_⟩⟩
    obtain ⟨k0, k1, k2, k3, k4⟩ := insC_get l i hi
    refine ⟨?_, ?_, ?_, ?_, ?_⟩
    · rw [World.ownsRow.cellAt h _ (by omega), Nat.zero_add]; exact k0
    · rw [World.ownsRow.cellAt h _ (by omega), Nat.zero_add]; exact k1
    · rw [World.ownsRow.cellAt h _ (by omega), Nat.zero_add]; exact k2
    · rw [World.ownsRow.cellAt h _ (by omega), Nat.zero_add]; exact k3
    · rw [World.ownsRow.cellAt h _ (by omega), Nat.zero_add]; exact k4
theorem insInfo : (Tryz.prog.info? 63).map (fun i => (i.zero, i.size, i.bytes)) = some (some (.agg #[.int .u8 0, .int .u8 0, .string ⟨#[]⟩, .int .i64 0, .int .i64 0]), 5, 48) := by kernel_rfl
/-- a slice of programs -/
def ProgsIn (w : World) (v : Value) (ps : List (List Ins)) : Prop := ∃ (a : Option Addr) (n c : Nat), v = .slice a n c ∧ ps.length = n ∧ n ≤ c ∧ ∀ (i : Nat) (h : i < ps.length), ∃ g o ve, a = some ⟨g, o, none⟩ ∧ w.cell? ⟨g, o + i, none⟩ = some ve ∧ InsIn w ve ps[i]
theorem ProgsIn.below {w w' : World} {v : Value} {ps : List (List Ins)} (h : ProgsIn w v ps) (hb : Below w.heap.size w w') : ProgsIn w' v ps := by
  obtain ⟨a, n, c, rfl, hn, hc, hj⟩ := h
  refine ⟨a, n, c, rfl, hn, hc, fun i hi => ?_⟩
  obtain ⟨g, o, ve, e, h0, h1⟩ := hj i hi
  have hg : g < w.heap.size := World.block_lt_of_cell? _ _ h0
  exact ⟨g, o, ve, e, (hb.cell (p := ⟨g, _, none⟩) hg).trans h0, h1.below hb⟩
theorem fiveB {w : World} {B : Nat} {a b c d e : Value} {T : TypeId} (h : w.heap[B]? = some (.cells #[a, b, c, d, e] T)) :
    (w.cell? ⟨B, 0, none⟩ = some a ∧ w.cell? ⟨B, 1, none⟩ = some b ∧ w.cell? ⟨B, 2, none⟩ = some c ∧ w.cell? ⟨B, 3, none⟩ = some d ∧ w.cell? ⟨B, 4, none⟩ = some e) ∧
    (w.frozen? ⟨B, 0, none⟩ = false ∧ w.frozen? ⟨B, 1, none⟩ = false ∧ w.frozen? ⟨B, 2, none⟩ = false ∧ w.frozen? ⟨B, 3, none⟩ = false ∧ w.frozen? ⟨B, 4, none⟩ = false) := by
  simp [World.cell?, World.frozen?, h]

/-! ### two instructions compared -/
section
variable {P : Program} {w : World} {d : Nat} {xs ys : Array Value} {f : Field} {fs : List Field} {a b : Value} {r s : Bool}
theorem fieldsLast (hn : (f.name == "_") = false) (ha : (part f.type xs f.offset).run P w = .ok a w) (hb : (part f.type ys f.offset).run P w = .ok b w) (he : (Op.equalIn d f.type a b).run P w = .ok r w) : (Op.eqFields d xs ys [f]).run P w = .ok r w := by
  have hn' : f.name ≠ "_" := by simpa using hn
  simp only [Op.eqFields, if_pos hn', Sem.run_bind, ha, hb, he, Result.andThen_ok]
  cases r <;> simp
theorem fieldsCons (hn : (f.name == "_") = false) (ha : (part f.type xs f.offset).run P w = .ok a w) (hb : (part f.type ys f.offset).run P w = .ok b w) (he : (Op.equalIn d f.type a b).run P w = .ok r w) (hr : (Op.eqFields d xs ys fs).run P w = .ok s w) : (Op.eqFields d xs ys (f :: fs)).run P w = .ok (r && s) w := by
  have hn' : f.name ≠ "_" := by simpa using hn
  rw [Op.eqFields]
  simp only [if_pos hn', Sem.run_bind, ha, hb, he, Result.andThen_ok]
  cases r
  · simp
  · simpa using hr
theorem aggOf {t : TypeId} {fs : Array Field} (hu : P.underlying t = some (.struct fs)) (hp : P.stoodInHeld t = false) (h : (Op.eqFields d xs ys fs.toList).run P w = .ok r w) : (Op.equalIn (d + 1) t (.agg xs) (.agg ys)).run P w = .ok r w := by
  have hf : P.fieldsOf t = fs := by simp [Program.fieldsOf, hu]
  rw [run_equalIn_struct (P := P) w d t xs ys (by rw [hf]; exact hu) hp, hf]
  exact h
end
def stpQ (x0 y0 : Int) (x1 y1 : ByteArray) (x2 y2 : Int) : Bool := (x0 == y0) && ((x1.toList == y1.toList) && (x2 == y2))
theorem stpQ_equal (d : Nat) (w : World) (x0 y0 : Int) (x1 y1 : ByteArray) (x2 y2 : Int) :
    (Op.equalIn (d + 2) 48 (.agg #[.int .u8 x0, .string x1, .int .i64 x2]) (.agg #[.int .u8 y0, .string y1, .int .i64 y2])).run Tryz.prog w = .ok (stpQ x0 y0 x1 y1 x2 y2) w := by
  refine aggOf Tryz.underlying48 (by kernel_rfl) ?_
  refine fieldsCons (by rfl) (by go_simp; rfl) (by go_simp; rfl) (by go_simp) ?_
  refine fieldsCons (by rfl) (by go_simp; rfl) (by go_simp; rfl) (by go_simp) ?_
  exact fieldsLast (by rfl) (by go_simp; rfl) (by go_simp; rfl) (by go_simp)
def insQ (o o' k k' : Int) (t t' : ByteArray) (n n' m m' : Int) : Bool := (o == o') && (stpQ k k' t t' n n' && (m == m'))
attribute [local go_sem high] stpQ_equal in
theorem ins_equal (d : Nat) (w : World) (o o' k k' : Int) (t t' : ByteArray) (n n' m m' : Int) :
    (Op.equalIn (d + 3) 63 (.agg #[.int .u8 o, .int .u8 k, .string t, .int .i64 n, .int .i64 m]) (.agg #[.int .u8 o', .int .u8 k', .string t', .int .i64 n', .int .i64 m'])).run Tryz.prog w = .ok (insQ o o' k k' t t' n n' m m') w := by
  refine aggOf Tryz.underlying63 (by kernel_rfl) ?_
  refine fieldsCons (by rfl) (by go_simp; rfl) (by go_simp; rfl) (by go_simp) ?_
  refine fieldsCons (by rfl) (by go_simp) (by go_simp) (stpQ_equal _ _ _ _ _ _ _ _) ?_
  exact fieldsLast (by rfl) (by go_simp; rfl) (by go_simp; rfl) (by go_simp)
theorem insQ_eq (x y : Ins) : insQ x.op y.op x.st.kind y.st.kind ⟨x.st.text.toArray⟩ ⟨y.st.text.toArray⟩ x.st.num y.st.num x.to y.to = decide (x = y) := by
  rw [Bool.eq_iff_iff, decide_eq_true_iff]
  obtain ⟨o, ⟨k, t, n⟩, m⟩ := x
  obtain ⟨o', ⟨k', t', n'⟩, m'⟩ := y
  unfold insQ stpQ
  simp only [Bool.and_eq_true, beq_iff_eq, ByteArray.toList_eq, Ins.mk.injEq, Stp.mk.injEq, Int.natCast_inj, and_assoc]

end Go.Proofs.YtcjmhmmjfgjcnaaGreatDoor.Cd

/- codicilref13: start; rows that are put behind rows. -/
namespace Go.Proofs.YtcjmhmmjfgjcnaaGreatDoor.Cd
open Go.RowKit Go.Proofs.YtcjmhmmjfgjcnaaGreatDoor.Lx Go.Proofs.YtcjmhmmjfgjcnaaGreatDoor.Pa Go.Proofs.YtcjmhmmjfgjcnaaGreatDoor.Rf

set_option maxHeartbeats 1000000 in
set_option maxRecDepth 100000 in
theorem start_calls (w : World) (v : Value) (pre g : List Stp) (h : StpsIn w v (pre ++ g)) (hg : OneE g) (hl : (pre ++ g).length ≤ 1048576) (ht : ∀ y ∈ pre ++ g, y.text.length ≤ 1048576) :
    Calls Tryz.prog 76 #[v] w fun e w' => e = .returned (.int .i64 pre.length) ∧ Below w.heap.size w w' := by
  have HS := Lib.hid (BackTo.start (pre := pre) hg)
  generalize pre ++ g = l at *
  obtain ⟨a, n, c, rfl, hn, hc, hj⟩ := h
  subst hn
  have Hj := Lib.hid hj
  clear hj
  go_enter Tryz.func76, Tryz.ntmps76
  go_wp2_with fail
  go_loopw [3, 4] (fun s3 s4 wr => ∃ i m : Nat, s4 = .int .i64 i ∧ s3 = .int .i64 m ∧ i ≤ l.length ∧ Hid (Below w.heap.size w wr) ∧ Hid (BackTo pre l i m)) (fun _ s4 _ => (intOf s4).toNat)
  case atStart => exact ⟨_, 1, rfl, rfl, Nat.le_refl _, Lib.hid (Below.refl _ _), HS⟩
  case round =>
    obtain ⟨i, m, rfl, rfl, hi, hbr, hb⟩ := hrel
    have Hbr := Lib.hid hbr.out
    clear hbr
    by_cases hm : m = 0
    · subst hm
      have Hv := Lib.hid hb.out.stop
      clear hb
      go_wp2_with fail
      go_ret
      exact ⟨by rw [← Hv.out]; rfl, Hbr.out⟩
    · obtain ⟨j, x, k, rfl, hx, htk, hk1, hk2, hnx⟩ := hb.out.step hm
      have Hnx := Lib.hid hnx
      obtain ⟨hjl, hxe⟩ := List.getElem?_eq_some_iff.1 hx
      obtain ⟨gb, o, ha, hcl0⟩ := Hj.out j hjl
      subst ha
      obtain ⟨q0, q1, q2⟩ := hcl0.below Hbr.out
      have hxt := ht x (by rw [← hxe]; exact List.getElem_mem hjl)
      rw [hxe] at q0 q1 q2
      have hm0 : (0 : Int) < m := by omega
      have HT := Lib.hid (fun W => TakesR_calls x W hxt)
      unfold Stp.val takesV at HT
      rw [htk] at HT
      clear hb hnx hx hxe hcl0 htk
      go_wp2_with fail
      refine (HT.out _).mono ?_
      rintro e w1 ⟨rfl, hb1⟩
      have Hb1 := Lib.hid (rStep Hbr.out hb1)
      clear hb1
      simp only [Option.getD_some, Option.isSome_some]
      go_wp2_with fail
      go_roundw
      case rel => exact ⟨j, m + k - 1, by go_num, by congr 1; omega, by omega, Hb1, Hnx⟩
      case measure => simp [intOf]

section
variable {ops : Array Oper} {rest : List Oper} {o : Oper} {a : Act} {Q : Exit → Act → World → Prop}
/-- append(s, x), and what else has not turned -/
theorem wpList_moreG {W : World} (hgd : o.guard = none) (sl y : Operand) (T S : TypeId) (ho : o.op = .call { callee := .builtin .append, args := #[sl, y], argTypes := #[S, S] })
    (hu : Tryz.prog.underlying S = some (.slice T)) (z : Value) (size bytes : Nat) (hi : (Tryz.prog.info? T).map (fun i => (i.zero, i.size, i.bytes)) = some (some z, size, bytes)) (hzs : z.cells.size = size) (hsz : 0 < size)
    (w : World) (v : Value) (n : Nat) (cs : List Value) (hs : a.eval sl = v) (B0 : Nat) (hx : a.eval y = .slice (some ⟨B0, 0, none⟩) 1 1) (news : List Value) (hl : news.length = size) (h1 : ∀ u ∈ news, u.oneCell' = true)
    (H : KeptRow w W T size v n cs) (hB0 : W.heap.size = B0) (h63 : n + 1 ≤ maxLen) (hby : (n + 1) * bytes ≤ 140737488355328)
    (h : ∀ a' n' c' w', Hid (n' = n + 1) → KeptRow w w' T size (.slice a' n' c') n' (cs ++ news) → Hid ((W.alloc (.cells news.toArray T)).grownBy w' v.ownBlock) → wpList Tryz.prog ops Q rest (a.put o.dst (.slice a' n' c')) w') :
    wpList Tryz.prog ops Q (o :: rest) a (W.alloc (.cells news.toArray T)) := by
  subst hB0
  obtain ⟨i0, hi0, hzz0, hz10, hz2⟩ := info_parts hi
  have H1 := H.step (rAlloc W (.cells news.toArray T))
  refine wpList_append_own_at _ hgd sl y S ho w.heap.size T i0 _ size bytes hu hi0 hzz0 hz10 hz2 hzs hsz v n cs hs H1.own ⟨W.heap.size, 0, none⟩ 1 1 news hx (by omega) (World.news_of_block (heap_alloc_new W _)) h1 h63 hby H1.bel.size ?_
  intro v' w' hown hg _ _
  obtain ⟨a', c', rfl⟩ := rForm hown
  exact h a' _ c' w' (Lib.hid rfl) ⟨hown, H1.bel.grown hg H1.bel.size fun g e => (World.ownsRow.lt H1.own g e).1⟩ (Lib.hid hg)
/-- append(s, x...) of rows of one's own -/
theorem wpList_cat {W : World} (hgd : o.guard = none) (sl y : Operand) (T S : TypeId) (ho : o.op = .call { callee := .builtin .append, args := #[sl, y], argTypes := #[S, S] })
    (hu : Tryz.prog.underlying S = some (.slice T)) (z : Value) (size bytes : Nat) (hi : (Tryz.prog.info? T).map (fun i => (i.zero, i.size, i.bytes)) = some (some z, size, bytes)) (hzs : z.cells.size = size) (hsz : 0 < size)
    (w : World) (v : Value) (n : Nat) (cs : List Value) (hs : a.eval sl = v) (g m c : Nat) (hx : a.eval y = .slice (some ⟨g, 0, none⟩) m c) (base : Nat) (news : List Value) (X : W.ownsRow base T size (.slice (some ⟨g, 0, none⟩) m c) m news) (h1 : ∀ u ∈ news, u.oneCell' = true)
    (H : KeptRow w W T size v n cs) (h63 : n + m ≤ maxLen) (hby : (n + m) * bytes ≤ 140737488355328)
    (h : ∀ a' n' c' w', Hid (n' = n + m) → KeptRow w w' T size (.slice a' n' c') n' (cs ++ news) → wpList Tryz.prog ops Q rest (a.put o.dst (.slice a' n' c')) w') :
    wpList Tryz.prog ops Q (o :: rest) a W := by
  obtain ⟨i0, hi0, hzz0, hz10, hz2⟩ := info_parts hi
  have hxl : news.length = m * size := X.1
  refine wpList_append_own_at _ hgd sl y S ho w.heap.size T i0 _ size bytes hu hi0 hzz0 hz10 hz2 hzs hsz v n cs hs H.own ⟨g, 0, none⟩ m c news hx hxl ?_ h1 h63 hby H.bel.size ?_
  · intro j u hj
    have hjl : j < m * size := by rw [← hxl]; exact (List.getElem?_eq_some_iff.1 hj).1
    have := World.ownsRow.cellAt X j hjl
    rw [hj] at this
    rw [Addr.add_lit, Nat.zero_add]
    exact this
  · intro v' w' hown hg _ _
    obtain ⟨a', c', rfl⟩ := rForm hown
    exact h a' _ c' w' (Lib.hid rfl) ⟨hown, H.bel.grown hg H.bel.size fun g e => (World.ownsRow.lt H.own g e).1⟩
end

/-! ### a block of cells that are stored one by one -/
structure ArrAt (w : World) (B : Nat) (T : TypeId) (vs : List Value) : Prop where
  blk : w.heap[B]? = some (.cells vs.toArray T)
theorem ArrAt.lt {w : World} {B : Nat} {T : TypeId} {vs : List Value} (h : ArrAt w B T vs) : B < w.heap.size := rLt h.blk
theorem ArrAt.get {w : World} {B : Nat} {T : TypeId} {vs : List Value} (h : ArrAt w B T vs) {j : Nat} (hj : j < vs.length) : w.cell? ⟨B, j, none⟩ = some vs[j] ∧ w.frozen? ⟨B, j, none⟩ = false := by
  constructor
  · simp [World.cell?, h.blk, hj]
  · simp [World.frozen?, h.blk]
theorem ArrAt.below {w w' : World} {B : Nat} {T : TypeId} {vs : List Value} (h : ArrAt w B T vs) (hb : Below w.heap.size w w') : ArrAt w' B T vs := ⟨(hb.block _ h.lt).trans h.blk⟩
theorem ArrAt.set {w : World} {B : Nat} {T : TypeId} {vs : List Value} (h : ArrAt w B T vs) (j : Nat) (v : Value) : ArrAt (w.setCell ⟨B, j, none⟩ v) B T (vs.set j v) := ⟨by
  have e : (vs.set j v).toArray = vs.toArray.setIfInBounds j v := by simp
  rw [e]
  simp only [World.setCell, Array.getElem?_modify, if_true, h.blk, Option.map_some]
  rfl⟩
theorem ArrAt.made (w : World) (T : TypeId) (z : Value) (n : Nat) : ArrAt (w.alloc (.cells (madeCells #[z] n) T)) w.heap.size T (List.replicate n z) := ⟨by
  have e : (List.replicate n z).toArray = madeCells #[z] n := by rw [← toList_madeCells_one]
  rw [e]
  exact heap_alloc_new _ _⟩

end Go.Proofs.YtcjmhmmjfgjcnaaGreatDoor.Cd
