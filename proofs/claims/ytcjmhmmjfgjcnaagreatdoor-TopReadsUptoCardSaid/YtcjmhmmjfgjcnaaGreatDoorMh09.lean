/- Parts: LxJ. -/
import Derived.Test.YtcjmhmmjfgjcnaaGreatDoorMh08
import Derived.Deep.DeepFit
import Derived.Deep.DeepCutAuto
import Derived.Deep.AppendLies
import Derived.Deep.DeepMust

/- Lex: the walk. -/
namespace Go.Proofs.YtcjmhmmjfgjcnaaGreatDoor.Lx
open Go.RowKit

theorem drop_le (s : ByteArray) (n : Nat) (h : s.size ≤ maxLen) : (s.extract n s.size).size ≤ maxLen := by
  rw [← L_length, L_drop, List.length_drop, L_length]; omega
theorem still_of_eq {P : Program} {f : FuncId} {args : Array Value} {w : World} {v : Value}
    (h : Calls P f args w fun e w' => e = .returned v ∧ w = w') : Calls P f args w fun e w' => e = .returned v ∧ w' = w :=
  h.mono fun _ _ ⟨he, hm⟩ => ⟨he, hm.symm⟩
theorem runN_blank' (s : ByteArray) (n : Nat) (w : World) (hs : s.size ≤ maxLen) :
    Calls Tryz.prog 45 #[.string (s.extract n s.size), .func (.func 46) #[] #[]] w fun e w' => e = .returned (.int .i64 (runN blankB ((L s).drop n))) ∧ w = w' := by
  have h := runN_blank (s.extract n s.size) w (drop_le s n hs)
  rw [L_drop] at h
  exact h

theorem keep4 {W0 wa wb : World} {a b c : Addr} {x y z : Value} (h : Below W0.heap.size W0 wa ∧ wa.cell? a = some x ∧ wa.cell? b = some y ∧ wa.cell? c = some z) (hb : Below wa.heap.size wa wb) :
    Below W0.heap.size W0 wb ∧ wb.cell? a = some x ∧ wb.cell? b = some y ∧ wb.cell? c = some z :=
  ⟨h.1.trans (hb.mono h.1.size), (hb.cell (World.block_lt_of_cell? _ _ h.2.1)).trans h.2.1, (hb.cell (World.block_lt_of_cell? _ _ h.2.2.1)).trans h.2.2.1, (hb.cell (World.block_lt_of_cell? _ _ h.2.2.2)).trans h.2.2.2⟩
theorem cell_far4 (w : World) (B : Nat) (i j k l : Nat) (t u v x : Value) (a : Addr) (h : a.block < B) :
    ((((w.setCell ⟨B, i, none⟩ t).setCell ⟨B, j, none⟩ u).setCell ⟨B, k, none⟩ v).setCell ⟨B, l, none⟩ x).cell? a = w.cell? a := by
  have hne : ∀ m, (⟨B, m, none⟩ : Addr) ≠ a := fun m e => by subst e; exact Nat.lt_irrefl _ h
  rw [World.cell?_setCell_other _ _ _ _ (hne l), World.cell?_setCell_other _ _ _ _ (hne k), World.cell?_setCell_other _ _ _ _ (hne j), World.cell?_setCell_other _ _ _ _ (hne i)]
theorem keep4s {W0 wa : World} {a b c : Addr} {x y z : Value} (h : Below W0.heap.size W0 wa ∧ wa.cell? a = some x ∧ wa.cell? b = some y ∧ wa.cell? c = some z) (ha : a.block < W0.heap.size) (hb : b.block < W0.heap.size) (hc : c.block < W0.heap.size)
    (i j k l : Nat) (t u v q : Value) : Below W0.heap.size W0 ((((wa.setCell ⟨W0.heap.size, i, none⟩ t).setCell ⟨W0.heap.size, j, none⟩ u).setCell ⟨W0.heap.size, k, none⟩ v).setCell ⟨W0.heap.size, l, none⟩ q) ∧
      ((((wa.setCell ⟨W0.heap.size, i, none⟩ t).setCell ⟨W0.heap.size, j, none⟩ u).setCell ⟨W0.heap.size, k, none⟩ v).setCell ⟨W0.heap.size, l, none⟩ q).cell? a = some x ∧
      ((((wa.setCell ⟨W0.heap.size, i, none⟩ t).setCell ⟨W0.heap.size, j, none⟩ u).setCell ⟨W0.heap.size, k, none⟩ v).setCell ⟨W0.heap.size, l, none⟩ q).cell? b = some y ∧
      ((((wa.setCell ⟨W0.heap.size, i, none⟩ t).setCell ⟨W0.heap.size, j, none⟩ u).setCell ⟨W0.heap.size, k, none⟩ v).setCell ⟨W0.heap.size, l, none⟩ q).cell? c = some z :=
  ⟨(((h.1.setCell (Nat.le_refl _) _).setCell (Nat.le_refl _) _).setCell (Nat.le_refl _) _).setCell (Nat.le_refl _) _, (cell_far4 _ _ _ _ _ _ _ _ _ _ _ ha).trans h.2.1, (cell_far4 _ _ _ _ _ _ _ _ _ _ _ hb).trans h.2.2.1, (cell_far4 _ _ _ _ _ _ _ _ _ _ _ hc).trans h.2.2.2⟩
theorem alloc_below (w : World) (o : Obj) : Below w.heap.size w (w.alloc o) := (Below.refl _ _).alloc (Nat.le_refl _) _
theorem new_block' {w : World} {o : Obj} {w' : World} (hb : Below (w.alloc o).drew.heap.size (w.alloc o).drew w') : w'.heap[w.heap.size]? = some o := by
  have h := hb.block w.heap.size (by simp)
  rw [h]
  exact heap_alloc_new w o

theorem form_cases (c : UInt8) (r : List UInt8) : (formIdx c = 0 ∧ nextR (c :: r) = wordR (c :: r)) ∨ (formIdx c = 1 ∧ nextR (c :: r) = numberR (c :: r)) ∨
    (formIdx c = 2 ∧ nextR (c :: r) = textR (c :: r)) ∨ (formIdx c = 3 ∧ nextR (c :: r) = signR (c :: r)) := by
  unfold formIdx nextR
  simp only
  cases h1 : letterB c <;> cases h2 : digitB c <;> cases h3 : quoteB c <;> simp
theorem byte_at (s : ByteArray) (k : Nat) (hk : k < s.size) : ∃ c, (L s).drop k = c :: (L s).drop (k + 1) ∧ ∀ i, formIdx c = i → ∀ (B : Nat) (ps pa : Addr) (w : World), IdxSt s k B ps pa w w →
    Calls Tryz.prog 47 #[.slice (some ⟨B, 0, none⟩) 4 4, .func (.func 48) #[] #[.pointer (some ps), .pointer (some pa)]] w
      fun e w' => e = .returned (.int .i64 i) ∧ Below w.heap.size w w' :=
  ⟨_, drop_cons s k hk, fun i hi B ps pa w h => by subst hi; exact indexFunc_calls s k hk B ps pa w h⟩
theorem drop_small (s : ByteArray) (n : Nat) (h : ¬ 16384 < s.size) : (s.extract n s.size).size ≤ 281474976710656 := by
  rw [← L_length, L_drop, List.length_drop, L_length]; omega
theorem drop_small2 (s : ByteArray) (n : Nat) (h : ¬ 16384 < s.size) : (s.extract n s.size).size ≤ 140737488355327 := by
  rw [← L_length, L_drop, List.length_drop, L_length]; omega
theorem drop_pos (s : ByteArray) (n : Nat) (h : n < s.size) : 1 ≤ (s.extract n s.size).size := by
  rw [← L_length, L_drop, List.length_drop, L_length]; omega

theorem nextR_err {l : List UInt8} {e : Nat} (h : nextR l = .err e) : ((e : Int) != 0) = true := by
  have h' : e = 13 ∨ e = 4 ∨ e = 9 := by
    cases l with
    | nil => simp only [nextR, Rd.err.injEq] at h; omega
    | cons c r =>
      simp only [nextR] at h
      split at h
      · unfold wordR at h
        split at h
        · cases h
        · split at h
          · simp only [Rd.err.injEq] at h; omega
          · cases h
      · split at h
        · unfold numberR at h
          split at h
          · split at h
            · simp only [Rd.err.injEq] at h; omega
            · split at h
              · simp only [Rd.err.injEq] at h; omega
              · split at h
                · cases h
                · simp only [Rd.err.injEq] at h; omega
          · simp only [Rd.err.injEq] at h; omega
        · split at h
          · unfold textR at h
            split at h
            · simp only [Rd.err.injEq] at h; omega
            · split at h
              · simp only [Rd.err.injEq] at h; omega
              · split at h
                · cases h
                · simp only [Rd.err.injEq] at h; omega
          · unfold signR at h
            split at h
            · cases h
            · simp only [Rd.err.injEq] at h; omega
  rcases h' with rfl | rfl | rfl <;> rfl
theorem next_le (s : ByteArray) (A n : Nat) (h : A < s.size) {t : Tok} (hn : nextR ((L s).drop A) = .ok t n) : 1 ≤ n ∧ A + n ≤ s.size := by
  rw [drop_cons s A h] at hn
  have := nextR_le hn
  have h2 : (s[A] :: (L s).drop (A + 1)).length = s.size - A := by rw [← drop_cons s A h, List.length_drop, L_length]
  omega

def Rd.tok : Rd → Tok
  | .ok t _ => t
  | .err _ => tok0
def Rd.n : Rd → Nat
  | .ok _ n => n
  | .err _ => 0
def Rd.e : Rd → Nat
  | .ok _ _ => 0
  | .err e => e
theorem Rd.val_eq (r : Rd) : r.val = .tuple #[.agg #[.int .u8 r.tok.kind, .string ⟨r.tok.text.toArray⟩, .int .i64 r.tok.num, .int .i64 r.tok.pos], .int .i64 r.n, .int .i64 r.e] := by cases r <;> rfl

structure CutSt (s : ByteArray) (w wx : World) (A pa B : Nat) (out : Value) (toks : List Tok) (X : Nat) (t : Tok) : Prop where
  mem : LexMem s w wx A pa B out toks
  blk : wx.heap[X]? = some (.cells #[.int .u8 t.kind, .string ⟨t.text.toArray⟩, .int .i64 t.num, .int .i64 t.pos] 41)
  new : w.heap.size ≤ X ∧ X ≠ pa ∧ X ≠ w.heap.size ∧ X ≠ B ∧ out.ownBlock ≠ some X
theorem LexMem.other {s : ByteArray} {w wr w' : World} {at_ pa B : Nat} {out : Value} {toks : List Tok} {X : Nat} (h : LexMem s w wr at_ pa B out toks) (hX : w.heap.size ≤ X ∧ X ≠ pa ∧ X ≠ w.heap.size ∧ X ≠ B ∧ out.ownBlock ≠ some X)
    (hb : ∀ g, g ≠ X → w'.heap[g]? = wr.heap[g]?) (hbel : Below w.heap.size w w') (hsz : wr.heap.size ≤ w'.heap.size) : LexMem s w w' at_ pa B out toks := by
  have hc : ∀ i, w'.cell? ⟨B, i, none⟩ = wr.cell? ⟨B, i, none⟩ := fun i => World.cell?_of_block (w := wr) (a := ⟨B, i, none⟩) (hb B hX.2.2.2.1.symm)
  refine ⟨(hb _ hX.2.1.symm).trans h.pos, h.paB, h.paB2, own_same h.own fun g hg _ => hb g (fun e => hX.2.2.2.2 (by rw [hg, e])), h.ownN, hbel, (hb _ hX.2.2.1.symm).trans h.str, ?_, h.big, Nat.lt_of_lt_of_le h.big2 hsz, h.env⟩
  exact ⟨(hc 0).trans h.frm.c0, (hc 1).trans h.frm.c1, (hc 2).trans h.frm.c2, (hc 3).trans h.frm.c3, (hc 4).trans h.frm.c4, (hc 5).trans h.frm.c5, (hc 6).trans h.frm.c6, (hc 7).trans h.frm.c7⟩
theorem set4_block (w : World) (X : Nat) (a b c d t u v x : Value) (T : TypeId) (h : w.heap[X]? = some (.cells #[a, b, c, d] T)) :
    ((((w.setCell ⟨X, 0, none⟩ t).setCell ⟨X, 1, none⟩ u).setCell ⟨X, 2, none⟩ v).setCell ⟨X, 3, none⟩ x).heap[X]? = some (.cells #[t, u, v, x] T) := by
  simp [World.setCell, Array.getElem?_modify, h]
theorem set4_far (w : World) (X g : Nat) (t u v x : Value) (h : g ≠ X) :
    ((((w.setCell ⟨X, 0, none⟩ t).setCell ⟨X, 1, none⟩ u).setCell ⟨X, 2, none⟩ v).setCell ⟨X, 3, none⟩ x).heap[g]? = w.heap[g]? := by
  rw [Below.heap_setCell _ _ _ _ h, Below.heap_setCell _ _ _ _ h, Below.heap_setCell _ _ _ _ h, Below.heap_setCell _ _ _ _ h]
theorem cut_one {s : ByteArray} {w W4 W6 : World} {A pa B : Nat} {out : Value} {toks : List Tok} {t : Tok} (h : LexMem s w W4 A pa B out toks) (hb : Below W4.heap.size W4 W6) :
    CutSt s w (W6.alloc (.cells #[.int .u8 t.kind, .string ⟨t.text.toArray⟩, .int .i64 t.num, .int .i64 t.pos] 41)) A pa B out toks W6.heap.size t := by
  have h6 := h.step hb
  refine ⟨h6.step (alloc_below _ _), heap_alloc_new _ _, Nat.le_of_lt h6.sz.1, by have := h6.sz.2; omega, by have := h6.sz.1; omega, by have := h6.big2; omega, fun e => by have := (h6.own.lt _ e).2; omega⟩
theorem cut_two {s : ByteArray} {w W4 W6 : World} {A pa B : Nat} {out : Value} {toks : List Tok} {t : Tok} (h : LexMem s w W4 A pa B out toks) (hb : Below W4.heap.size W4 W6) (hn : W6.heap[W4.heap.size]? = some tokObj) :
    CutSt s w ((((W6.setCell ⟨W4.heap.size, 0, none⟩ (.int .u8 t.kind)).setCell ⟨W4.heap.size, 1, none⟩ (.string ⟨t.text.toArray⟩)).setCell ⟨W4.heap.size, 2, none⟩ (.int .i64 t.num)).setCell ⟨W4.heap.size, 3, none⟩ (.int .i64 t.pos)) A pa B out toks W4.heap.size t := by
  have h6 := h.step hb
  have hX : w.heap.size ≤ W4.heap.size ∧ W4.heap.size ≠ pa ∧ W4.heap.size ≠ w.heap.size ∧ W4.heap.size ≠ B ∧ out.ownBlock ≠ some W4.heap.size :=
    ⟨Nat.le_of_lt h.sz.1, by have := h.sz.2; omega, by have := h.sz.1; omega, by have := h.big2; omega, fun e => by have := (h.own.lt _ e).2; omega⟩
  refine ⟨h6.other hX (fun g hg => set4_far _ _ _ _ _ _ _ hg) ((((h6.bel.setCell hX.1 _).setCell hX.1 _).setCell hX.1 _).setCell hX.1 _) (by simp), set4_block _ _ _ _ _ _ _ _ _ _ _ hn, hX⟩

theorem tokInfo : (Tryz.prog.info? 41).map (fun i => (i.zero, i.size, i.bytes)) = some (some (.agg #[.int .u8 0, .string ⟨#[]⟩, .int .i64 0, .int .i64 0]), 4, 40) := by kernel_rfl
theorem news_four (wc : World) (X A : Nat) (t : Tok) : ∀ j u, (Tok.cells { t with pos := A })[j]? = some u →
    ((wc.setCell ⟨X, 3, none⟩ (.int .i64 A)).alloc (.cells #[.int .u8 t.kind, .string ⟨t.text.toArray⟩, .int .i64 t.num, .int .i64 A] 41)).cell? ((⟨wc.heap.size, 0, none⟩ : Addr).add j) = some u := by
  have h := heap_alloc_new (wc.setCell ⟨X, 3, none⟩ (.int .i64 A)) (.cells #[.int .u8 t.kind, .string ⟨t.text.toArray⟩, .int .i64 t.num, .int .i64 A] 41)
  have hsz : (wc.setCell ⟨X, 3, none⟩ (.int .i64 A)).heap.size = wc.heap.size := by simp
  rw [hsz] at h
  exact World.news_of_block h

def LexPost (w : World) : Lx → Ending → World → Prop
  | .ok l, e, w' => (∃ v, e = .returned (.tuple #[v, .int .i64 0, .int .i64 0]) ∧ w'.ownsRow w.heap.size 41 4 v l.length (toksC l)) ∧ Below w.heap.size w w'
  | .err c a, e, w' => e = .returned (.tuple #[.slice none 0 0, .int .i64 c, .int .i64 a]) ∧ Below w.heap.size w w'

set_option maxHeartbeats 4000000 in
set_option maxRecDepth 100000 in
theorem lex_calls (s : ByteArray) (w : World) (hs : s.size ≤ maxLen) (hl : ¬ 16384 < s.size) (he : Env w) :
    Calls Tryz.prog 13 #[.string s] w (LexPost w (lexL (L s))) := by
  have Hs := Lib.hid hs
  have He := Lib.hid he
  unfold maxLen at hs
  clear he
  have Heq := Lib.hid (lexEq_start s hl)
  go_enter Tryz.func13, Tryz.ntmps13
  go_wp2_with fail
  refine (forms_calls _).mono ?_
  rintro e w1 ⟨rfl, hb1, hz1, hf1⟩
  have hst := lex_start s w w1 He.out (below_new hb1) (new_block _ _ hb1) (by simpa using hf1) (by simpa using hz1)
  clear hb1 hf1 hz1
  have Hst := Lib.hid hst
  clear hst
  go_wp2
  generalize w1.alloc (.cells #[.int .i64 0] 3) = W at Hst ⊢
  generalize w1.heap.size = P at Hst ⊢
  go_loopw [5, 7] (fun v5 v7 wr => ∃ (at_ pa : Nat) (toks : List Tok) (k : Nat), v7 = .pointer (some ⟨pa, 0, none⟩) ∧ Hid (LexMem s w wr at_ pa (w.heap.size + 1) v5 toks) ∧ Hid (LexEq s at_ toks k))
    (fun _ v7 wr => s.size + 1 - (match v7 with | .pointer (some a) => (match wr.cell? a with | some (.int _ n) => n.toNat | _ => 0) | _ => 0))
  case atStart => exact ⟨_, _, _, _, rfl, Hst.out, Heq.out⟩
  case round =>
    obtain ⟨at_, pa, toks, k, rfl, hst, heq⟩ := hrel
    obtain ⟨hc1, hf1, hc2⟩ := hst.out.cells
    have Hc0 := Lib.hid hc1
    have hat := heq.out.le
    have hcnt := heq.out.cnt
    have hfu := heq.out.fuel
    obtain ⟨j, hj, hsk1, hsk2, hmid⟩ := heq.out.mid
    have Hj := Lib.hid hj
    have Hmid := Lib.hid hmid
    clear hj hmid
    have hskip : (at_ : Int) + (runN blankB ((L s).drop at_) : Int) = (skip s at_ : Int) := by unfold skip; omega
    have Hm2 := Lib.hid ((hst.out.drew).set (skip s at_))
    go_wp2_with fail
    go_still_tail 6, (by kernel_rfl)
    still_call (still_of_eq (runN_blank' _ _ _ Hs.out))
    repeat still_step
    refine wpStill_nil ?_
    change wpList _ _ _ _ _ wr.drew
    clear hc1 hf1 hc2
    obtain ⟨hc1, hf1, hc2⟩ := hst.out.drew.cells
    clear hst
    generalize wr.drew = W2 at *
    obtain ⟨hd1, hd2, hd3⟩ := Hm2.out.cells
    by_cases hend : skip s at_ = s.size
    · have hq := Lib.hid (Hmid.out.end_ hend)
      have hb : ((skip s at_ : Int) == (s.size : Int)) = true := by rw [beq_iff_eq]; omega
      clear hend
      go_wp2_with fail
      rw [hq.out]
      exact bodyPost_ret (results_tmp3 rfl _ _ _) rfl ⟨⟨_, rfl, Hm2.out.own⟩, Hm2.out.bel⟩
    · have hb : ((skip s at_ : Int) == (s.size : Int)) = false := by rw [beq_eq_false_iff_ne]; omega
      have hlt : skip s at_ < s.size := by omega
      have Hlt := Lib.hid hlt
      clear hend hskip
      go_wp2_with fail
      generalize W2.setCell ⟨pa, 0, none⟩ (.int .i64 (skip s at_)) = W3 at *
      generalize skip s at_ = A at *
      clear hc1 hf1 hc2
      obtain ⟨c, hdc, hidx0⟩ := byte_at s A hlt
      have Hidx := Lib.hid (fun i hi => hidx0 i hi _ _ _ _ Hm2.out.idx)
      have Hdc := Lib.hid hdc
      clear hidx0 hdc
      refine (Hidx.out _ rfl).mono ?_
      rintro e W4 ⟨rfl, hb4⟩
      have hm4 := Hm2.out.step hb4
      have Hm4 := Lib.hid hm4
      clear hd1 hd2 hd3 hb4 hm4 Hm2 Hidx
      obtain ⟨hd1, hd2, hd3⟩ := Hm4.out.cells
      go_upto_region 10 with fail
      go_cut [8, 9, 10, 11] (fun _ s9 s10 s11 wx => ∃ (X : Nat) (r : Rd), s9 = .pointer (some ⟨X, 0, none⟩) ∧ s10 = .int .i64 r.n ∧ s11 = .int .i64 r.e ∧ Hid (nextR ((L s).drop A) = r) ∧ Hid (CutSt s w wx A pa (w.heap.size + 1) u5 toks X r.tok))
      case first =>
        rcases form_cases c ((L s).drop (A + 1)) with ⟨hx, hnx⟩ | ⟨hx, hnx⟩ | ⟨hx, hnx⟩ | ⟨hx, hnx⟩
        · rw [← Hdc.out] at hnx
          have Hnx := Lib.hid hnx
          clear hnx
          have hfr := Hm4.out.frm.c1
          have hcal := fun (W : World) (hb : Below W4.heap.size W4 W) => word_calls (s.extract A s.size) W (drop_le s A Hs.out)
          rw [L_drop, ← Hnx.out] at hcal
          simp only [Rd.val_eq] at hcal
          have Hcal := Lib.hid hcal
          clear hcal
          have hla : w.heap.size + 1 < W4.heap.size := World.block_lt_of_cell? _ _ hfr
          have hlb : w.heap.size < W4.heap.size := World.block_lt_of_cell? _ _ hd3
          have hlc : pa < W4.heap.size := World.block_lt_of_cell? _ _ hd1
          go_region_held3 (fun w' => Below W4.heap.size W4 w' ∧ w'.cell? ⟨w.heap.size + 1, 1, none⟩ = some (fnv 91) ∧ w'.cell? ⟨w.heap.size, 0, none⟩ = some (.string s) ∧ w'.cell? ⟨pa, 0, none⟩ = some (.int .i64 A))
            (first | exact ⟨(Below.refl _ _).drew, hfr, hd3, hd1⟩ | exact hS6 | exact keep4 hS6 (alloc_below _ _) | exact keep4s hS6 hla hlb hlc _ _ _ _ _ _ _ _ | (go_split_ands; exact keep4 (And.intro (by assumption) (And.intro (by assumption) (And.intro (by assumption) (by assumption)))) (alloc_below _ _)))
            (first | (go_at_call 91; refine (Hcal.out _ ?_).mono ?_; (go_split_ands; assumption); rintro e W6 ⟨rfl, hb6⟩; have hS6 : (Below W4.heap.size W4 W6 ∧ W6.cell? ⟨w.heap.size + 1, 1, none⟩ = some (fnv 91) ∧ W6.cell? ⟨w.heap.size, 0, none⟩ = some (.string s) ∧ W6.cell? ⟨pa, 0, none⟩ = some (.int .i64 A)) := (by go_split_ands; exact keep4 (And.intro (by assumption) (And.intro (by assumption) (And.intro (by assumption) (by assumption)))) hb6); have hq5 := new_block' hb6; have hq6 := four hq5; obtain ⟨⟨k0, k1, k2, k3⟩, g0, g1, g2, g3⟩ := hq6) | (go_at_call 91; refine (Hcal.out _ ?_).mono ?_; (go_split_ands; assumption); rintro e W6 ⟨rfl, hb6⟩; have hS6 : (Below W4.heap.size W4 W6 ∧ W6.cell? ⟨w.heap.size + 1, 1, none⟩ = some (fnv 91) ∧ W6.cell? ⟨w.heap.size, 0, none⟩ = some (.string s) ∧ W6.cell? ⟨pa, 0, none⟩ = some (.int .i64 A)) := (by go_split_ands; exact keep4 (And.intro (by assumption) (And.intro (by assumption) (And.intro (by assumption) (by assumption)))) hb6)))
          · go_wp2_with fail
            go_meet
            exact ⟨_, _, rfl, rfl, rfl, rfl, cut_one Hm4.out hS6.1⟩
          · go_wp2_with fail
            go_meet
            exact ⟨_, _, rfl, rfl, rfl, rfl, cut_two Hm4.out hS6.1 hq5⟩
        · rw [← Hdc.out] at hnx
          have Hnx := Lib.hid hnx
          clear hnx
          have hfr := Hm4.out.frm.c3
          have hcal := fun (W : World) (hb : Below W4.heap.size W4 W) => number_calls (s.extract A s.size) W (drop_le s A Hs.out) (drop_small s A hl) (Hm4.out.envr.below hb)
          rw [L_drop, ← Hnx.out] at hcal
          simp only [Rd.val_eq] at hcal
          have Hcal := Lib.hid hcal
          clear hcal
          have hla : w.heap.size + 1 < W4.heap.size := World.block_lt_of_cell? _ _ hfr
          have hlb : w.heap.size < W4.heap.size := World.block_lt_of_cell? _ _ hd3
          have hlc : pa < W4.heap.size := World.block_lt_of_cell? _ _ hd1
          go_region_held3 (fun w' => Below W4.heap.size W4 w' ∧ w'.cell? ⟨w.heap.size + 1, 3, none⟩ = some (fnv 93) ∧ w'.cell? ⟨w.heap.size, 0, none⟩ = some (.string s) ∧ w'.cell? ⟨pa, 0, none⟩ = some (.int .i64 A))
            (first | exact ⟨(Below.refl _ _).drew, hfr, hd3, hd1⟩ | exact hS6 | exact keep4 hS6 (alloc_below _ _) | exact keep4s hS6 hla hlb hlc _ _ _ _ _ _ _ _ | (go_split_ands; exact keep4 (And.intro (by assumption) (And.intro (by assumption) (And.intro (by assumption) (by assumption)))) (alloc_below _ _)))
            (first | (go_at_call 93; refine (Hcal.out _ ?_).mono ?_; (go_split_ands; assumption); rintro e W6 ⟨rfl, hb6⟩; have hS6 : (Below W4.heap.size W4 W6 ∧ W6.cell? ⟨w.heap.size + 1, 3, none⟩ = some (fnv 93) ∧ W6.cell? ⟨w.heap.size, 0, none⟩ = some (.string s) ∧ W6.cell? ⟨pa, 0, none⟩ = some (.int .i64 A)) := (by go_split_ands; exact keep4 (And.intro (by assumption) (And.intro (by assumption) (And.intro (by assumption) (by assumption)))) hb6); have hq5 := new_block' hb6; have hq6 := four hq5; obtain ⟨⟨k0, k1, k2, k3⟩, g0, g1, g2, g3⟩ := hq6) | (go_at_call 93; refine (Hcal.out _ ?_).mono ?_; (go_split_ands; assumption); rintro e W6 ⟨rfl, hb6⟩; have hS6 : (Below W4.heap.size W4 W6 ∧ W6.cell? ⟨w.heap.size + 1, 3, none⟩ = some (fnv 93) ∧ W6.cell? ⟨w.heap.size, 0, none⟩ = some (.string s) ∧ W6.cell? ⟨pa, 0, none⟩ = some (.int .i64 A)) := (by go_split_ands; exact keep4 (And.intro (by assumption) (And.intro (by assumption) (And.intro (by assumption) (by assumption)))) hb6)))
          · go_wp2_with fail
            go_meet
            exact ⟨_, _, rfl, rfl, rfl, rfl, cut_one Hm4.out hS6.1⟩
          · go_wp2_with fail
            go_meet
            exact ⟨_, _, rfl, rfl, rfl, rfl, cut_two Hm4.out hS6.1 hq5⟩
        · rw [← Hdc.out] at hnx
          have Hnx := Lib.hid hnx
          clear hnx
          have hfr := Hm4.out.frm.c5
          have hcal := fun (W : World) (hb : Below W4.heap.size W4 W) => text_calls (s.extract A s.size) W (drop_le s A Hs.out) (drop_small2 s A hl) (drop_pos s A Hlt.out) (Hm4.out.envr.below hb)
          rw [L_drop, ← Hnx.out] at hcal
          simp only [Rd.val_eq] at hcal
          have Hcal := Lib.hid hcal
          clear hcal
          have hla : w.heap.size + 1 < W4.heap.size := World.block_lt_of_cell? _ _ hfr
          have hlb : w.heap.size < W4.heap.size := World.block_lt_of_cell? _ _ hd3
          have hlc : pa < W4.heap.size := World.block_lt_of_cell? _ _ hd1
          go_region_held3 (fun w' => Below W4.heap.size W4 w' ∧ w'.cell? ⟨w.heap.size + 1, 5, none⟩ = some (fnv 95) ∧ w'.cell? ⟨w.heap.size, 0, none⟩ = some (.string s) ∧ w'.cell? ⟨pa, 0, none⟩ = some (.int .i64 A))
            (first | exact ⟨(Below.refl _ _).drew, hfr, hd3, hd1⟩ | exact hS6 | exact keep4 hS6 (alloc_below _ _) | exact keep4s hS6 hla hlb hlc _ _ _ _ _ _ _ _ | (go_split_ands; exact keep4 (And.intro (by assumption) (And.intro (by assumption) (And.intro (by assumption) (by assumption)))) (alloc_below _ _)))
            (first | (go_at_call 95; refine (Hcal.out _ ?_).mono ?_; (go_split_ands; assumption); rintro e W6 ⟨rfl, hb6⟩; have hS6 : (Below W4.heap.size W4 W6 ∧ W6.cell? ⟨w.heap.size + 1, 5, none⟩ = some (fnv 95) ∧ W6.cell? ⟨w.heap.size, 0, none⟩ = some (.string s) ∧ W6.cell? ⟨pa, 0, none⟩ = some (.int .i64 A)) := (by go_split_ands; exact keep4 (And.intro (by assumption) (And.intro (by assumption) (And.intro (by assumption) (by assumption)))) hb6); have hq5 := new_block' hb6; have hq6 := four hq5; obtain ⟨⟨k0, k1, k2, k3⟩, g0, g1, g2, g3⟩ := hq6) | (go_at_call 95; refine (Hcal.out _ ?_).mono ?_; (go_split_ands; assumption); rintro e W6 ⟨rfl, hb6⟩; have hS6 : (Below W4.heap.size W4 W6 ∧ W6.cell? ⟨w.heap.size + 1, 5, none⟩ = some (fnv 95) ∧ W6.cell? ⟨w.heap.size, 0, none⟩ = some (.string s) ∧ W6.cell? ⟨pa, 0, none⟩ = some (.int .i64 A)) := (by go_split_ands; exact keep4 (And.intro (by assumption) (And.intro (by assumption) (And.intro (by assumption) (by assumption)))) hb6)))
          · go_wp2_with fail
            go_meet
            exact ⟨_, _, rfl, rfl, rfl, rfl, cut_one Hm4.out hS6.1⟩
          · go_wp2_with fail
            go_meet
            exact ⟨_, _, rfl, rfl, rfl, rfl, cut_two Hm4.out hS6.1 hq5⟩
        · rw [← Hdc.out] at hnx
          have Hnx := Lib.hid hnx
          clear hnx
          have hfr := Hm4.out.frm.c7
          have hcal := fun (W : World) (hb : Below W4.heap.size W4 W) => sign_calls (s.extract A s.size) W
          rw [L_drop, ← Hnx.out] at hcal
          simp only [Rd.val_eq] at hcal
          have Hcal := Lib.hid hcal
          clear hcal
          have hla : w.heap.size + 1 < W4.heap.size := World.block_lt_of_cell? _ _ hfr
          have hlb : w.heap.size < W4.heap.size := World.block_lt_of_cell? _ _ hd3
          have hlc : pa < W4.heap.size := World.block_lt_of_cell? _ _ hd1
          go_region_held3 (fun w' => Below W4.heap.size W4 w' ∧ w'.cell? ⟨w.heap.size + 1, 7, none⟩ = some (fnv 97) ∧ w'.cell? ⟨w.heap.size, 0, none⟩ = some (.string s) ∧ w'.cell? ⟨pa, 0, none⟩ = some (.int .i64 A))
            (first | exact ⟨(Below.refl _ _).drew, hfr, hd3, hd1⟩ | exact hS6 | exact keep4 hS6 (alloc_below _ _) | exact keep4s hS6 hla hlb hlc _ _ _ _ _ _ _ _ | (go_split_ands; exact keep4 (And.intro (by assumption) (And.intro (by assumption) (And.intro (by assumption) (by assumption)))) (alloc_below _ _)))
            (first | (go_at_call 97; refine (Hcal.out _ ?_).mono ?_; (go_split_ands; assumption); rintro e W6 ⟨rfl, hb6⟩; have hS6 : (Below W4.heap.size W4 W6 ∧ W6.cell? ⟨w.heap.size + 1, 7, none⟩ = some (fnv 97) ∧ W6.cell? ⟨w.heap.size, 0, none⟩ = some (.string s) ∧ W6.cell? ⟨pa, 0, none⟩ = some (.int .i64 A)) := (by go_split_ands; exact keep4 (And.intro (by assumption) (And.intro (by assumption) (And.intro (by assumption) (by assumption)))) hb6); have hq5 := new_block' hb6; have hq6 := four hq5; obtain ⟨⟨k0, k1, k2, k3⟩, g0, g1, g2, g3⟩ := hq6) | (go_at_call 97; refine (Hcal.out _ ?_).mono ?_; (go_split_ands; assumption); rintro e W6 ⟨rfl, hb6⟩; have hS6 : (Below W4.heap.size W4 W6 ∧ W6.cell? ⟨w.heap.size + 1, 7, none⟩ = some (fnv 97) ∧ W6.cell? ⟨w.heap.size, 0, none⟩ = some (.string s) ∧ W6.cell? ⟨pa, 0, none⟩ = some (.int .i64 A)) := (by go_split_ands; exact keep4 (And.intro (by assumption) (And.intro (by assumption) (And.intro (by assumption) (by assumption)))) hb6)))
          · go_wp2_with fail
            go_meet
            exact ⟨_, _, rfl, rfl, rfl, rfl, cut_one Hm4.out hS6.1⟩
          · go_wp2_with fail
            go_meet
            exact ⟨_, _, rfl, rfl, rfl, rfl, cut_two Hm4.out hS6.1 hq5⟩
      case rest =>
        obtain ⟨X, r, rfl, rfl, rfl, hr, hst⟩ := hcut
        clear hd1 hd2 hd3
        obtain ⟨hd1, hd2, hd3⟩ := hst.out.mem.cells
        cases r with
        | err e0 =>
          have hq := Lib.hid (Hmid.out.err Hlt.out hr.out)
          have hne : ((e0 : Int) != 0) = true := nextR_err hr.out
          simp only [Rd.e, Rd.n]
          go_wp2_with fail
          go_quiet (fail)
          go_wp2_with fail
          rw [hq.out]
          exact bodyPost_ret (results_tmp3 rfl _ _ _) rfl ⟨rfl, below_drewN hst.out.mem.bel _⟩
        | ok t n =>
          have hq := Lib.hid (Hmid.out.next Hlt.out hr.out)
          have hnl := next_le s A n Hlt.out hr.out
          simp only [Rd.e, Rd.n, Rd.tok] at hst ⊢
          have hb4 := four hst.out.blk
          obtain ⟨⟨k0, k1, k2, k3⟩, g0, g1, g2, g3⟩ := hb4
          have hX := hst.out.new
          have hm7 : LexMem s w ((wc.setCell ⟨X, 3, none⟩ (.int .i64 A)).alloc (.cells #[.int .u8 t.kind, .string ⟨t.text.toArray⟩, .int .i64 t.num, .int .i64 A] 41)) A pa (w.heap.size + 1) u5 toks :=
            (hst.out.mem.other hX (fun g hg => Below.heap_setCell _ _ _ _ hg) (hst.out.mem.bel.setCell hX.1 _) (by simp)).step (alloc_below _ _)
          have Hm7 := Lib.hid hm7
          have Hl := Lib.hid (show toks.length ≤ 16384 by omega)
          obtain ⟨i0, hi0, hz0, hz1, hz2⟩ := info_parts tokInfo
          have Hi0 := Lib.hid hi0
          have Hz0 := Lib.hid hz0
          have Hz1 := Lib.hid hz1
          have Hz2 := Lib.hid hz2
          have Hsz := Lib.hid hm7.sz.1
          have hnews := news_four wc X A t
          have Hnews := Lib.hid hnews
          clear hm7 hi0 hz0 hz1 hz2 hnews hX
          go_wp2_with (at_builtin; go_must (refine wpList_append_own_at _ rfl _ _ 36 rfl w.heap.size 41 i0 _ 4 40 Tryz.underlying36 Hi0.out Hz0.out Hz1.out Hz2.out rfl (by decide) u5 toks.length (toksC toks) rfl Hm7.out.own ⟨wc.heap.size, 0, none⟩ 1 1 (Tok.cells { t with pos := A }) rfl rfl ?c1 ?c2 ?c3 ?c4 ?c5 ?_))
          case c1 => exact Hnews.out
          case c2 => simp [Tok.cells, Value.oneCell']
          case c3 => have := Hl.out; unfold maxLen; omega
          case c4 => have := Hl.out; omega
          case c5 => exact Nat.le_of_lt Hsz.out
          intro v' w1 hown1 hgrow _ hat1
          have hm8 := Hm7.out.more { t with pos := A } hown1 hgrow (by rcases hat1 with h | h; exact .inl h; exact .inr (by rw [h]; simp))
          have Hm8 := Lib.hid hm8
          obtain ⟨e1, e2, e3⟩ := hm8.cells
          have hm9 := (hm8.set (A + n)).renew (A + n)
          have hsz1 : (w1.setCell ⟨pa, 0, none⟩ (.int .i64 ((A + n : Nat) : Int))).heap.size = w1.heap.size := by simp
          rw [hsz1] at hm9
          simp only [Int.natCast_add] at hm9
          have Hm9 := Lib.hid hm9
          clear hown1 hgrow hat1 hm8 hm9 hsz1 hd1 hd2 hd3 k0 k1 k2 k3 g0 g1 g2 g3
          have heq9 : LexEq s (A + n) (toks ++ [{ t with pos := A }]) j := ⟨hnl.2, hq.out, by have := Hj.out; omega, by simp only [List.length_append, List.length_cons, List.length_nil]; omega⟩
          have Heq9 := Lib.hid heq9
          clear heq9
          go_wp2
          go_roundw
          case rel => exact ⟨A + n, _, _, _, rfl, Hm9.out, Heq9.out⟩
          case measure =>
            simp only
            rw [Hc0.out, World.cell?_alloc_at _ _ _ _ (by simp)]
            simp
            omega

end Go.Proofs.YtcjmhmmjfgjcnaaGreatDoor.Lx
