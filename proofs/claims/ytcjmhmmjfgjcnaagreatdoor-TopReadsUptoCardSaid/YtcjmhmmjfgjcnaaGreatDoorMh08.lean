/- Parts: LxI. -/
import Derived.Test.YtcjmhmmjfgjcnaaGreatDoorMh07
import Derived.Deep.RegionHeld3
import Derived.Maps.AppendAt

/- Lex: what its loop keeps in memory, and what it says. -/
namespace Go.Proofs.YtcjmhmmjfgjcnaaGreatDoor.Lx
open Go.RowKit

def Tok.cells (t : Tok) : List Value := [.int .u8 t.kind, .string ⟨t.text.toArray⟩, .int .i64 t.num, .int .i64 t.pos]
def toksC (l : List Tok) : List Value := l.flatMap Tok.cells
theorem toksC_snoc (l : List Tok) (t : Tok) : toksC (l ++ [t]) = toksC l ++ t.cells := by simp [toksC]

theorem own_same {w w' : World} {base : Nat} {e : TypeId} {size n : Nat} {v : Value} {xs : List Value} (h : w.ownsRow base e size v n xs)
    (hb : ∀ g, v.ownBlock = some g → g < w.heap.size → w'.heap[g]? = w.heap[g]?) : w'.ownsRow base e size v n xs := by
  refine ⟨h.1, ?_⟩
  rcases h.2 with h2 | ⟨g, cap, cur, rfl, h3, h4, h5⟩
  · exact .inl h2
  · refine .inr ⟨g, cap, cur, rfl, h3, ?_, h5⟩
    rw [hb g rfl (Array.getElem?_eq_some_iff.1 h4).1]
    exact h4

structure LexMem (s : ByteArray) (w wr : World) (at_ pa B : Nat) (out : Value) (toks : List Tok) : Prop where
  pos : wr.heap[pa]? = some (.cells #[.int .i64 at_] 3)
  paB : w.heap.size < pa
  paB2 : B ≠ pa
  own : wr.ownsRow w.heap.size 41 4 out toks.length (toksC toks)
  ownN : out.ownBlock ≠ some pa ∧ out.ownBlock ≠ some w.heap.size ∧ out.ownBlock ≠ some B
  bel : Below w.heap.size w wr
  str : wr.heap[w.heap.size]? = some (.cells #[.string s] 9)
  frm : FormsAt wr B
  big : w.heap.size < B
  big2 : B < wr.heap.size
  env : Env w

theorem lt_of_heap {w : World} {b : Nat} {o : Obj} (h : w.heap[b]? = some o) : b < w.heap.size := (Array.getElem?_eq_some_iff.1 h).1
theorem LexMem.sz {s : ByteArray} {w wr : World} {at_ pa B : Nat} {out : Value} {toks : List Tok} (h : LexMem s w wr at_ pa B out toks) : w.heap.size < wr.heap.size ∧ pa < wr.heap.size := ⟨Nat.lt_trans h.paB (lt_of_heap h.pos), lt_of_heap h.pos⟩
theorem LexMem.envr {s : ByteArray} {w wr : World} {at_ pa B : Nat} {out : Value} {toks : List Tok} (h : LexMem s w wr at_ pa B out toks) : Env wr := h.env.below h.bel

theorem LexMem.step {s : ByteArray} {w wr w' : World} {at_ pa B : Nat} {out : Value} {toks : List Tok} (h : LexMem s w wr at_ pa B out toks) (hb : Below wr.heap.size wr w') : LexMem s w w' at_ pa B out toks :=
  ⟨(hb.block _ h.sz.2).trans h.pos, h.paB, h.paB2, own_same h.own fun g _ hg => hb.block g hg, h.ownN, h.bel.trans (hb.mono h.bel.size), (hb.block _ h.sz.1).trans h.str, h.frm.below hb h.big2, h.big, Nat.lt_of_lt_of_le h.big2 hb.size, h.env⟩
theorem LexMem.set {s : ByteArray} {w wr : World} {at_ pa B : Nat} {out : Value} {toks : List Tok} (h : LexMem s w wr at_ pa B out toks) (n : Nat) : LexMem s w (wr.setCell ⟨pa, 0, none⟩ (.int .i64 n)) n pa B out toks := by
  have hne : ∀ g, g ≠ pa → (wr.setCell ⟨pa, 0, none⟩ (.int .i64 n)).heap[g]? = wr.heap[g]? := fun g hg => Below.heap_setCell _ _ _ _ hg
  have hc : ∀ i, (wr.setCell ⟨pa, 0, none⟩ (.int .i64 n)).cell? ⟨B, i, none⟩ = wr.cell? ⟨B, i, none⟩ := fun i => World.cell?_of_block (w := wr) (a := ⟨B, i, none⟩) (hne B h.paB2)
  refine ⟨?_, h.paB, h.paB2, own_same h.own fun g hg _ => hne g (fun e => h.ownN.1 (by rw [hg, e])), h.ownN, h.bel.setCell (Nat.le_of_lt h.paB) _, (hne _ (Nat.ne_of_lt h.paB)).trans h.str, ?_, h.big, by simpa using h.big2, h.env⟩
  · have hp := h.pos
    simp only [World.setCell, Array.getElem?_modify, if_true, hp, Option.map_some]
    rfl
  · exact ⟨(hc 0).trans h.frm.c0, (hc 1).trans h.frm.c1, (hc 2).trans h.frm.c2, (hc 3).trans h.frm.c3, (hc 4).trans h.frm.c4, (hc 5).trans h.frm.c5, (hc 6).trans h.frm.c6, (hc 7).trans h.frm.c7⟩
theorem LexMem.renew {s : ByteArray} {w wr : World} {at_ pa B : Nat} {out : Value} {toks : List Tok} (h : LexMem s w wr at_ pa B out toks) (n : Nat) : LexMem s w (wr.alloc (.cells #[.int .i64 n] 3)) n wr.heap.size B out toks := by
  have h1 := h.step ((Below.refl _ _).alloc (Nat.le_refl _) (.cells #[.int .i64 n] 3))
  exact ⟨by simp [World.alloc, -World.alloc_eq], h.sz.1, by have := h.big2; omega, h1.own, ⟨fun e => by have := (h.own.lt _ e).2; omega, h.ownN.2⟩, h1.bel, h1.str, h1.frm, h1.big, h1.big2, h.env⟩
theorem LexMem.more {s : ByteArray} {w wr w' : World} {at_ pa B : Nat} {out out' : Value} {toks : List Tok} (h : LexMem s w wr at_ pa B out toks) (t : Tok) (hown : w'.ownsRow w.heap.size 41 4 out' (toks.length + 1) (toksC toks ++ t.cells))
    (hg : wr.grownBy w' out.ownBlock) (hat : out'.ownBlock = out.ownBlock ∨ out'.ownBlock = some wr.heap.size) : LexMem s w w' at_ pa B out' (toks ++ [t]) := by
  have hne : ∀ g, g < wr.heap.size → out.ownBlock ≠ some g → w'.heap[g]? = wr.heap[g]? := fun g hlt hn => hg.block g hlt (fun e => hn e.symm)
  have hc : ∀ i, w'.cell? ⟨B, i, none⟩ = wr.cell? ⟨B, i, none⟩ := fun i => World.cell?_of_block (w := wr) (a := ⟨B, i, none⟩) (hne B h.big2 h.ownN.2.2)
  refine ⟨(hne _ h.sz.2 h.ownN.1).trans h.pos, h.paB, h.paB2, ?_, ?_, ?_, (hne _ h.sz.1 h.ownN.2.1).trans h.str, ?_, h.big, Nat.lt_of_lt_of_le h.big2 hg.size, h.env⟩
  · rw [toksC_snoc, List.length_append]; exact hown
  · rcases hat with e | e
    · rw [e]; exact h.ownN
    · rw [e]
      have h1 := h.sz
      have h2 := h.big2
      refine ⟨fun e => ?_, fun e => ?_, fun e => ?_⟩ <;> (have := Option.some.inj e; omega)
  · exact h.bel.grown hg h.bel.size fun k hk => (h.own.lt k hk).1
  · exact ⟨(hc 0).trans h.frm.c0, (hc 1).trans h.frm.c1, (hc 2).trans h.frm.c2, (hc 3).trans h.frm.c3, (hc 4).trans h.frm.c4, (hc 5).trans h.frm.c5, (hc 6).trans h.frm.c6, (hc 7).trans h.frm.c7⟩
theorem LexMem.cells {s : ByteArray} {w wr : World} {at_ pa B : Nat} {out : Value} {toks : List Tok} (h : LexMem s w wr at_ pa B out toks) :
    wr.cell? ⟨pa, 0, none⟩ = some (.int .i64 at_) ∧ wr.frozen? ⟨pa, 0, none⟩ = false ∧ wr.cell? ⟨w.heap.size, 0, none⟩ = some (.string s) := by
  have h1 := h.pos
  have h2 := h.str
  simp [World.cell?, World.frozen?, h1, h2]
theorem LexMem.drew {s : ByteArray} {w wr : World} {at_ pa B : Nat} {out : Value} {toks : List Tok} (h : LexMem s w wr at_ pa B out toks) : LexMem s w wr.drew at_ pa B out toks :=
  h.step ((Below.refl _ _).drew)
theorem LexMem.drewN {s : ByteArray} {w wr : World} {at_ pa B : Nat} {out : Value} {toks : List Tok} (h : LexMem s w wr at_ pa B out toks) (n : Nat) : LexMem s w (wr.drewN n) at_ pa B out toks :=
  h.step (below_drewN (Below.refl _ _) n)
theorem LexMem.idx {s : ByteArray} {w wr : World} {at_ pa B : Nat} {out : Value} {toks : List Tok} (h : LexMem s w wr at_ pa B out toks) : IdxSt s at_ B ⟨w.heap.size, 0, none⟩ ⟨pa, 0, none⟩ wr wr :=
  ⟨Below.refl _ _, h.frm, h.big2, h.cells.2.2, h.cells.1⟩

theorem lex_start (s : ByteArray) (w w1 : World) (he : Env w) (hb : Below w.heap.size w w1) (hs : w1.heap[w.heap.size]? = some (.cells #[.string s] 9))
    (hf : FormsAt w1 (w.heap.size + 1)) (hz : w.heap.size + 1 < w1.heap.size) :
    LexMem s w (w1.alloc (.cells #[.int .i64 0] 3)) 0 w1.heap.size (w.heap.size + 1) (.slice none 0 0) [] where
  pos := by simp [World.alloc, -World.alloc_eq]
  paB := by omega
  paB2 := by omega
  own := ⟨by simp [toksC], .inl ⟨rfl, rfl⟩⟩
  ownN := by simp [Value.ownBlock]
  bel := hb.alloc hb.size _
  str := (Below.heap_alloc _ _ _ (by omega)).trans hs
  frm := hf.below ((Below.refl _ _).alloc (Nat.le_refl _) _) hz
  big := by omega
  big2 := by simp; omega
  env := he

def lexG (k a : Nat) : List UInt8 → Lx
  | [] => .ok []
  | c :: r => match nextR (c :: r) with
    | .err e => .err e a
    | .ok t n => (lexF k (a + n) ((c :: r).drop n)).cons { t with pos := a }
theorem lexF_succ (k a : Nat) (l : List UInt8) : lexF (k + 1) a l = lexG k (a + runN blankB l) (l.drop (runN blankB l)) := by
  rw [lexF]
  cases l.drop (runN blankB l) with
  | nil => rfl
  | cons c r =>
    simp only [lexG]
    cases nextR (c :: r) <;> rfl
theorem Lx.app_cons (p : List Tok) (t : Tok) (r : Lx) : (r.cons t).app p = r.app (p ++ [t]) := by cases r <;> simp [Lx.app, Lx.cons]

structure LexEq (s : ByteArray) (at_ : Nat) (toks : List Tok) (k : Nat) : Prop where
  le : at_ ≤ s.size
  eq : lexL (L s) = (lexF k at_ ((L s).drop at_)).app toks
  fuel : s.size - at_ < k
  cnt : toks.length ≤ at_
theorem lexEq_start (s : ByteArray) (hl : ¬ 16384 < s.size) : LexEq s 0 [] (s.size + 1) where
  le := Nat.zero_le _
  eq := by
    unfold lexL
    rw [L_length, if_neg hl, List.drop_zero]
    generalize lexF (s.size + 1) 0 (L s) = r
    cases r <;> rfl
  fuel := by omega
  cnt := Nat.le_refl _
def LexMid (s : ByteArray) (at_ : Nat) (toks : List Tok) (k : Nat) : Prop := lexL (L s) = (lexG k at_ ((L s).drop at_)).app toks
def skip (s : ByteArray) (at_ : Nat) : Nat := at_ + runN blankB ((L s).drop at_)
theorem LexEq.mid {s : ByteArray} {at_ : Nat} {toks : List Tok} {k : Nat} (h : LexEq s at_ toks k) : ∃ j, k = j + 1 ∧ at_ ≤ skip s at_ ∧ skip s at_ ≤ s.size ∧ LexMid s (skip s at_) toks j := by
  have hf := h.fuel
  obtain ⟨j, rfl⟩ : ∃ j, k = j + 1 := ⟨k - 1, by omega⟩
  have hr := runN_le blankB ((L s).drop at_)
  rw [List.length_drop, L_length] at hr
  have hle := h.le
  refine ⟨j, rfl, by unfold skip; omega, by unfold skip; omega, ?_⟩
  unfold LexMid
  rw [h.eq, lexF_succ, List.drop_drop]
  rfl
theorem LexMid.end_ {s : ByteArray} {at_ : Nat} {toks : List Tok} {k : Nat} (h : LexMid s at_ toks k) (he : at_ = s.size) : lexL (L s) = .ok toks := by
  rw [h, he, List.drop_of_length_le (by rw [L_length]; omega)]
  simp [lexG, Lx.app]
theorem drop_cons (s : ByteArray) (at_ : Nat) (h : at_ < s.size) : (L s).drop at_ = s[at_] :: (L s).drop (at_ + 1) :=
  List.drop_eq_getElem_cons (by rw [L_length]; exact h)
theorem LexMid.err {s : ByteArray} {at_ : Nat} {toks : List Tok} {k e : Nat} (h : LexMid s at_ toks k) (hlt : at_ < s.size) (hn : nextR ((L s).drop at_) = .err e) : lexL (L s) = .err e at_ := by
  rw [h]
  rw [drop_cons s at_ hlt] at hn ⊢
  simp [lexG, hn, Lx.app]
theorem LexMid.next {s : ByteArray} {at_ : Nat} {toks : List Tok} {k : Nat} {t : Tok} {n : Nat} (h : LexMid s at_ toks k) (hlt : at_ < s.size) (hn : nextR ((L s).drop at_) = .ok t n) :
    lexL (L s) = (lexF k (at_ + n) ((L s).drop (at_ + n))).app (toks ++ [{ t with pos := at_ }]) := by
  rw [h]
  have e := drop_cons s at_ hlt
  rw [e] at hn
  rw [e]
  simp only [lexG, hn]
  rw [Lx.app_cons, ← e, List.drop_drop]

end Go.Proofs.YtcjmhmmjfgjcnaaGreatDoor.Lx
