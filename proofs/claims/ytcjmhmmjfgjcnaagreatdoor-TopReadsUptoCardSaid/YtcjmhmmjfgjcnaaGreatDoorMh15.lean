/- Parts: LxK LxU PaM. -/
import Derived.Test.YtcjmhmmjfgjcnaaGreatDoorMh10
import Derived.Test.YtcjmhmmjfgjcnaaGreatDoorMh11
import Derived.Test.YtcjmhmmjfgjcnaaGreatDoorMh12
import Derived.Laws.OwnMore

/- Lists of tokens in memory. -/
namespace Go.Proofs.YtcjmhmmjfgjcnaaGreatDoor.Lx
open Go.RowKit

structure TokCells (w : World) (g i : Nat) (t : Tok) : Prop where
  c0 : w.cell? ⟨g, i * 4, none⟩ = some (.int .u8 t.kind)
  c1 : w.cell? ⟨g, i * 4 + 1, none⟩ = some (.string ⟨t.text.toArray⟩)
  c2 : w.cell? ⟨g, i * 4 + 2, none⟩ = some (.int .i64 t.num)
  c3 : w.cell? ⟨g, i * 4 + 3, none⟩ = some (.int .i64 t.pos)
def ToksIn (w : World) (a : Option Addr) (l : List Tok) : Prop := ∀ i (h : i < l.length), ∃ g, a = some ⟨g, 0, none⟩ ∧ TokCells w g i l[i]

theorem toksC_get : ∀ (l : List Tok) (i : Nat) (h : i < l.length), (toksC l)[4 * i]? = some (.int .u8 l[i].kind) ∧ (toksC l)[4 * i + 1]? = some (.string ⟨l[i].text.toArray⟩) ∧ (toksC l)[4 * i + 2]? = some (.int .i64 l[i].num) ∧ (toksC l)[4 * i + 3]? = some (.int .i64 l[i].pos)
  | [], i, h => absurd h (Nat.not_lt_zero _)
  | t :: l, 0, _ => ⟨rfl, rfl, rfl, rfl⟩
  | t :: l, i + 1, h => by
    have hi := toksC_get l i (by simpa using h)
    have e : toksC (t :: l) = t.cells ++ toksC l := rfl
    have hl : t.cells.length = 4 := rfl
    rw [e]
    refine ⟨?_, ?_, ?_, ?_⟩
    · rw [List.getElem?_append_right (by omega), hl, show 4 * (i + 1) - 4 = 4 * i by omega]; exact hi.1
    · rw [List.getElem?_append_right (by omega), hl, show 4 * (i + 1) + 1 - 4 = 4 * i + 1 by omega]; exact hi.2.1
    · rw [List.getElem?_append_right (by omega), hl, show 4 * (i + 1) + 2 - 4 = 4 * i + 2 by omega]; exact hi.2.2.1
    · rw [List.getElem?_append_right (by omega), hl, show 4 * (i + 1) + 3 - 4 = 4 * i + 3 by omega]; exact hi.2.2.2
theorem ownsRow_toks {w : World} {base n c : Nat} {a : Option Addr} {l : List Tok} (h : w.ownsRow base 41 4 (.slice a n c) n (toksC l)) (hn : n = l.length) : ToksIn w a l := by
  intro i hi
  obtain ⟨g, cap, e, -, -⟩ := World.ownsRow.form h (by omega)
  simp only [Value.slice.injEq] at e
  obtain ⟨rfl, -, rfl⟩ := e
  obtain ⟨h0, h1, h2, h3⟩ := toksC_get l i hi
  refine ⟨g, rfl, ?_, ?_, ?_, ?_⟩
  · rw [World.ownsRow.cellAt h _ (by omega), Nat.mul_comm i 4]; exact h0
  · rw [World.ownsRow.cellAt h _ (by omega), Nat.mul_comm i 4]; exact h1
  · rw [World.ownsRow.cellAt h _ (by omega), Nat.mul_comm i 4]; exact h2
  · rw [World.ownsRow.cellAt h _ (by omega), Nat.mul_comm i 4]; exact h3
theorem ToksIn.below {w w' : World} {a : Option Addr} {l : List Tok} (h : ToksIn w a l) (hb : Below w.heap.size w w') : ToksIn w' a l := by
  intro i hi
  obtain ⟨g, e, hc⟩ := h i hi
  have hg : g < w.heap.size := World.block_lt_of_cell? _ _ hc.c0
  exact ⟨g, e, (hb.cell (p := ⟨g, _, none⟩) hg).trans hc.c0, (hb.cell (p := ⟨g, _, none⟩) hg).trans hc.c1, (hb.cell (p := ⟨g, _, none⟩) hg).trans hc.c2, (hb.cell (p := ⟨g, _, none⟩) hg).trans hc.c3⟩

end Go.Proofs.YtcjmhmmjfgjcnaaGreatDoor.Lx

/- What a read token is bounded by: plain. -/
namespace Go.Proofs.YtcjmhmmjfgjcnaaGreatDoor.Lx

/-! ### what a read token is bounded by -/
structure TokFits (t : Tok) : Prop where
  txt : t.text.length ≤ 16384
  lo : 0 ≤ t.num
  hi : t.num ≤ 9223372036854775807
theorem next_fits {l : List UInt8} (hl : l.length ≤ 16384) {t : Tok} {n : Nat} (h : nextR l = .ok t n) : TokFits t := by
  have ht : ∀ k : Nat, (l.take k).length ≤ 16384 := fun k => by rw [List.length_take]; omega
  have hg : ∀ k : Nat, (great (l.take k)).length ≤ 16384 := fun k => by unfold great; rw [List.length_map]; exact ht k
  cases l with
  | nil => simp [nextR] at h
  | cons c r =>
    unfold nextR at h
    simp only at h
    split at h
    · unfold wordR at h
      split at h
      · simp only [Rd.ok.injEq] at h; rw [← h.1]; exact ⟨hg _, Int.le_refl _, by simp⟩
      · split at h
        · cases h
        · simp only [Rd.ok.injEq] at h; rw [← h.1]; exact ⟨ht _, Int.le_refl _, by simp⟩
    · split at h
      · unfold numberR at h
        split at h
        · rename_i u hu
          split at h
          · cases h
          · rename_i hu2
            split at h
            · cases h
            · split at h
              · simp only [Rd.ok.injEq] at h; rw [← h.1]; exact ⟨by simp, by simp, by simp only; omega⟩
              · cases h
        · cases h
      · split at h
        · unfold textR at h
          split at h
          · cases h
          · split at h
            · cases h
            · split at h
              · simp only [Rd.ok.injEq] at h; rw [← h.1]; exact ⟨by simp only; omega, Int.le_refl _, by simp⟩
              · cases h
        · unfold signR at h
          split at h
          · rename_i x hx
            have hm := (signs_next x (List.mem_of_find?_eq_some hx)).2
            simp only [Rd.ok.injEq] at h; rw [← h.1]; exact ⟨hm, Int.le_refl _, by simp⟩
          · cases h
theorem lexF_fits : ∀ (k a : Nat) (l : List UInt8) {x : List Tok}, l.length ≤ 16384 → lexF k a l = .ok x → ∀ t ∈ x, TokFits t
  | 0, _, _, _, _, h => by simp only [lexF, Lx.ok.injEq] at h; subst h; simp
  | k + 1, a, l, x, hl, h => by
    rw [lexF] at h
    cases hd : l.drop (runN blankB l) with
    | nil => rw [hd] at h; simp only [Lx.ok.injEq] at h; subst h; simp
    | cons c r =>
      have hlen : (c :: r).length = l.length - runN blankB l := by rw [← hd, List.length_drop]
      rw [hd] at h
      simp only at h
      cases hn : nextR (c :: r) with
      | err e' => rw [hn] at h; cases h
      | ok t n =>
        have hf0 := next_fits (by omega) hn
        rw [hn] at h
        simp only at h
        cases hf : lexF k (a + runN blankB l + n) ((c :: r).drop n) with
        | ok l' =>
          have := lexF_fits k _ _ (by rw [List.length_drop]; omega) hf
          rw [hf] at h
          simp only [Lx.cons, Lx.ok.injEq] at h
          rw [← h]
          intro u hu
          rcases List.mem_cons.1 hu with rfl | hu
          · exact ⟨hf0.txt, hf0.lo, hf0.hi⟩
          · exact this u hu
        | err e' p' => rw [hf] at h; cases h
theorem lexL_fits {l : List UInt8} {x : List Tok} (h : lexL l = .ok x) : ∀ t ∈ x, TokFits t := by
  have hl := (lexL_len h).1
  unfold lexL at h
  rw [if_neg (by omega)] at h
  exact lexF_fits _ _ _ hl h
theorem shown_length {t : Tok} (h : showOk t = true) : (showS t).length ≤ 16384 := (lexL_len (of_decide_eq_true h)).1

end Go.Proofs.YtcjmhmmjfgjcnaaGreatDoor.Lx

/- The parser in memory: what its methods keep. -/
namespace Go.Proofs.YtcjmhmmjfgjcnaaGreatDoor.Pa
open Go.RowKit Go.Proofs.YtcjmhmmjfgjcnaaGreatDoor.Lx

def Stp.cells (s : Stp) : List Value := [.int .u8 s.kind, .string ⟨s.text.toArray⟩, .int .i64 s.num]
def Stp.val (s : Stp) : Value := .agg #[.int .u8 s.kind, .string ⟨s.text.toArray⟩, .int .i64 s.num]
def stpsC (l : List Stp) : List Value := l.flatMap Stp.cells
theorem stpsC_snoc (l : List Stp) (t : Stp) : stpsC (l ++ [t]) = stpsC l ++ t.cells := by simp [stpsC]

structure Px where
  W : World
  g : Nat
  B : Nat
  all : List Tok
structure Px.Ok (x : Px) : Prop where
  env : Env x.W
  src : ∀ i (h : i < x.all.length), TokCells x.W x.g i x.all[i]
  low : x.W.heap.size ≤ x.B
  fits : ∀ t ∈ x.all, TokFits t
  few : x.all.length ≤ 16384

def LeftIs (x : Px) (v : Value) (l : List Tok) : Prop := ∃ (k n c : Nat) (a : Option Addr), v = .slice a n c ∧ l.length = n ∧ n ≤ c ∧ (l = [] ∨ (a = some ⟨x.g, k * 4, none⟩ ∧ l = x.all.drop k))

structure PS (x : Px) (w : World) (lv sv : Value) (s : St) : Prop where
  ok : x.Ok
  blk : w.heap[x.B]? = some (.cells #[lv, .int .i64 s.fin, .int .i64 s.why, .int .i64 s.at_, sv] 77)
  bel : Below x.W.heap.size x.W w
  left : LeftIs x lv s.left
  own : w.ownsRow x.W.heap.size 48 3 sv s.steps.length (stpsC s.steps)
  ne : sv.ownBlock ≠ some x.B
  few : s.steps.length ≤ 128

def Keep (x : Px) (w w' : World) (sv : Value) : Prop := w.heap.size ≤ w'.heap.size ∧ ∀ b, b < w.heap.size → b ≠ x.B → sv.ownBlock ≠ some b → w'.heap[b]? = w.heap[b]?
def NewOr (w : World) (sv sv' : Value) : Prop := sv'.ownBlock = sv.ownBlock ∨ ∀ b, sv'.ownBlock = some b → w.heap.size ≤ b
theorem Keep.refl (x : Px) (w : World) (sv : Value) : Keep x w w sv := ⟨Nat.le_refl _, fun _ _ _ _ => rfl⟩
theorem NewOr.refl (w : World) (sv : Value) : NewOr w sv sv := .inl rfl
theorem Keep.trans {x : Px} {w w1 w2 : World} {sv sv1 : Value} (h : Keep x w w1 sv) (hn : NewOr w sv sv1) (h2 : Keep x w1 w2 sv1) : Keep x w w2 sv := by
  refine ⟨Nat.le_trans h.1 h2.1, fun b hb hB hs => ?_⟩
  rw [h2.2 b (Nat.lt_of_lt_of_le hb h.1) hB ?_, h.2 b hb hB hs]
  rcases hn with e | e
  · rw [e]; exact hs
  · intro e2; have := e b e2; omega
theorem NewOr.trans {w w1 : World} {sv sv1 sv2 : Value} (h : NewOr w sv sv1) (hz : w.heap.size ≤ w1.heap.size) (h2 : NewOr w1 sv1 sv2) : NewOr w sv sv2 := by
  rcases h2 with e | e
  · rcases h with e' | e'
    · exact .inl (e.trans e')
    · exact .inr fun b hb => e' b (by rw [← e]; exact hb)
  · exact .inr fun b hb => Nat.le_trans hz (e b hb)
theorem Keep.below {x : Px} {w w' : World} {sv : Value} (hb : Below w.heap.size w w') : Keep x w w' sv := ⟨hb.size, fun b h _ _ => hb.block b h⟩

structure Now (x : Px) (w0 : World) (sv0 : Value) (w : World) (lv sv : Value) (s : St) : Prop where
  ps : PS x w lv sv s
  keep : Keep x w0 w sv0
  new : NewOr w0 sv0 sv
theorem Now.refl {x : Px} {w : World} {lv sv : Value} {s : St} (h : PS x w lv sv s) : Now x w sv w lv sv s := ⟨h, Keep.refl _ _ _, NewOr.refl _ _⟩
theorem Now.trans {x : Px} {w0 w w' : World} {sv0 lv sv lv' sv' : Value} {s s' : St} (h : Now x w0 sv0 w lv sv s) (h2 : Now x w sv w' lv' sv' s') : Now x w0 sv0 w' lv' sv' s' :=
  ⟨h2.ps, h.keep.trans h.new h2.keep, h.new.trans h.keep.1 h2.new⟩

theorem PS.lt {x : Px} {w : World} {lv sv : Value} {s : St} (h : PS x w lv sv s) : x.B < w.heap.size := lt_of_heap h.blk
theorem PS.envw {x : Px} {w : World} {lv sv : Value} {s : St} (h : PS x w lv sv s) : Env w := h.ok.env.below h.bel
theorem PS.step {x : Px} {w w' : World} {lv sv : Value} {s : St} (h : PS x w lv sv s) (hb : Below w.heap.size w w') : PS x w' lv sv s :=
  ⟨h.ok, (hb.block _ h.lt).trans h.blk, h.bel.trans (hb.mono h.bel.size), h.left, own_same h.own fun g _ hg => hb.block g hg, h.ne, h.few⟩
theorem Now.step {x : Px} {w0 w w' : World} {sv0 lv sv : Value} {s : St} (h : Now x w0 sv0 w lv sv s) (hb : Below w.heap.size w w') : Now x w0 sv0 w' lv sv s :=
  h.trans ⟨h.ps.step hb, Keep.below hb, NewOr.refl _ _⟩
theorem Now.alloc {x : Px} {w0 w : World} {sv0 lv sv : Value} {s : St} (h : Now x w0 sv0 w lv sv s) (o : Obj) : Now x w0 sv0 (w.alloc o) lv sv s := h.step (alloc_below _ _)
theorem Now.drew {x : Px} {w0 w : World} {sv0 lv sv : Value} {s : St} (h : Now x w0 sv0 w lv sv s) : Now x w0 sv0 w.drew lv sv s := h.step ((Below.refl _ _).drew)
theorem Now.drewN {x : Px} {w0 w : World} {sv0 lv sv : Value} {s : St} (h : Now x w0 sv0 w lv sv s) (n : Nat) : Now x w0 sv0 (w.drewN n) lv sv s := h.step (below_drewN (Below.refl _ _) n)

theorem five {w : World} {B : Nat} {a b c d e : Value} {T : TypeId} (h : w.heap[B]? = some (.cells #[a, b, c, d, e] T)) :
    (w.cell? ⟨B, 0, none⟩ = some a ∧ w.cell? ⟨B, 1, none⟩ = some b ∧ w.cell? ⟨B, 2, none⟩ = some c ∧ w.cell? ⟨B, 3, none⟩ = some d ∧ w.cell? ⟨B, 4, none⟩ = some e) ∧
    (w.frozen? ⟨B, 0, none⟩ = false ∧ w.frozen? ⟨B, 1, none⟩ = false ∧ w.frozen? ⟨B, 2, none⟩ = false ∧ w.frozen? ⟨B, 3, none⟩ = false ∧ w.frozen? ⟨B, 4, none⟩ = false) := by
  simp [World.cell?, World.frozen?, h]

theorem set_block {w : World} {B i : Nat} {cs : Array Value} {T : TypeId} (h : w.heap[B]? = some (.cells cs T)) (v : Value) (cs' : Array Value) (e : cs.setIfInBounds i v = cs') : (w.setCell ⟨B, i, none⟩ v).heap[B]? = some (.cells cs' T) := by
  simp only [World.setCell, Array.getElem?_modify, if_true, h, Option.map_some, ← e]
  rfl
theorem keep_set {x : Px} {w : World} {sv : Value} (i : Nat) (v : Value) : Keep x w (w.setCell ⟨x.B, i, none⟩ v) sv := ⟨by simp, fun b _ hB _ => Below.heap_setCell _ _ _ _ hB⟩

theorem PS.turn {x : Px} {w w' : World} {lv lv' sv : Value} {s s' : St} (h : PS x w lv sv s) (hb : Below x.W.heap.size w w') (hk : ∀ b, b ≠ x.B → w'.heap[b]? = w.heap[b]?)
    (hblk : w'.heap[x.B]? = some (.cells #[lv', .int .i64 s'.fin, .int .i64 s'.why, .int .i64 s'.at_, sv] 77)) (hl : LeftIs x lv' s'.left) (hs : s'.steps = s.steps) : PS x w' lv' sv s' :=
  ⟨h.ok, hblk, h.bel.trans hb, hl, by rw [hs]; exact own_same h.own fun g hg _ => hk g (fun e => h.ne (by rw [hg, e])), h.ne, by rw [hs]; exact h.few⟩

theorem LeftIs.nil {x : Px} {v : Value} {l : List Tok} (h : LeftIs x v l) (hl : l = []) : ∃ (a : Option Addr) (c : Nat), v = .slice a 0 c := by
  obtain ⟨k, n, c, a, rfl, rfl, -, -⟩ := h
  subst hl
  exact ⟨a, c, rfl⟩
theorem LeftIs.zero (x : Px) : LeftIs x (.slice none 0 0) [] := ⟨0, 0, 0, none, rfl, rfl, Nat.le_refl _, .inl rfl⟩
theorem LeftIs.tail {x : Px} {k n c : Nat} {l : List Tok} {t : Tok} (hl : t :: l = x.all.drop k) (hn : (t :: l).length = n) (hc : n ≤ c) (v : Value) (hv : v = .slice (some ⟨x.g, (k + 1) * 4, none⟩) (n - 1) (c - 1) ∨ (c = 1 ∧ ∃ a c', v = .slice a 0 c')) : LeftIs x v l := by
  have hd : l = x.all.drop (k + 1) := by
    have := congrArg List.tail hl
    simpa using this
  rcases hv with rfl | ⟨rfl, a, c', rfl⟩
  · exact ⟨k + 1, n - 1, c - 1, _, rfl, by simp at hn; omega, by omega, .inr ⟨rfl, hd⟩⟩
  · have : l = [] := List.eq_nil_of_length_eq_zero (by simp at hn; omega)
    subst this
    exact ⟨0, 0, c', a, rfl, rfl, Nat.zero_le _, .inl rfl⟩
theorem PS.head {x : Px} {w : World} {lv sv : Value} {s : St} (h : PS x w lv sv s) {t : Tok} {r : List Tok} (hl : s.left = t :: r) :
    ∃ (k n c : Nat), lv = .slice (some ⟨x.g, k * 4, none⟩) n c ∧ 1 ≤ n ∧ n ≤ c ∧ n ≤ 16384 ∧ (w.cell? ⟨x.g, k * 4, none⟩ = some (.int .u8 t.kind) ∧ w.cell? ⟨x.g, k * 4 + 1, none⟩ = some (.string ⟨t.text.toArray⟩) ∧ w.cell? ⟨x.g, k * 4 + 2, none⟩ = some (.int .i64 t.num) ∧ w.cell? ⟨x.g, k * 4 + 3, none⟩ = some (.int .i64 t.pos)) ∧
      (t :: r = x.all.drop k ∧ (t :: r).length = n) ∧ TokFits t ∧ x.g ≠ x.B ∧ x.g < w.heap.size := by
  obtain ⟨k, n, c, a, rfl, hn, hc, hd⟩ := h.left
  rw [hl] at hn hd
  rcases hd with e | ⟨rfl, e⟩
  · cases e
  · have hk : k < x.all.length := by
      rcases Nat.lt_or_ge k x.all.length with h' | h'
      · exact h'
      · rw [List.drop_of_length_le h'] at e; cases e
    have et : x.all[k] = t := by
      rw [List.drop_eq_getElem_cons hk] at e
      exact (List.cons.inj e).1.symm
    have hs := h.ok.src k hk
    rw [et] at hs
    have hg : x.g < x.W.heap.size := World.block_lt_of_cell? _ _ hs.c0
    have hlow := h.ok.low
    have hlen : n ≤ x.all.length := by rw [← hn, e, List.length_drop]; omega
    have hfew := h.ok.few
    exact ⟨k, n, c, rfl, by rw [← hn]; simp, hc, by omega, ⟨(h.bel.cell (p := ⟨x.g, _, none⟩) hg).trans hs.c0, (h.bel.cell (p := ⟨x.g, _, none⟩) hg).trans hs.c1, (h.bel.cell (p := ⟨x.g, _, none⟩) hg).trans hs.c2, (h.bel.cell (p := ⟨x.g, _, none⟩) hg).trans hs.c3⟩, ⟨e, hn⟩,
      h.ok.fits t (by rw [← et]; exact List.getElem_mem hk), by omega, Nat.lt_of_lt_of_le hg h.bel.size⟩

def StrsAt (w : World) (v : Value) (l : List Txt) : Prop := ∃ (a : Option Addr) (n c : Nat), v = .slice a n c ∧ l.length = n ∧ n ≤ c ∧ ∀ (j : Nat) (h : j < l.length), ∃ g, a = some ⟨g, 0, none⟩ ∧ w.cell? ⟨g, j, none⟩ = some (.string ⟨l[j].toArray⟩)
theorem StrsAt.nil (w : World) : StrsAt w (.slice none 0 0) [] := ⟨none, 0, 0, rfl, rfl, Nat.le_refl _, fun _ h => absurd h (Nat.not_lt_zero _)⟩
theorem StrsAt.below {w w' : World} {v : Value} {l : List Txt} (h : StrsAt w v l) (hb : Below w.heap.size w w') : StrsAt w' v l := by
  obtain ⟨a, n, c, rfl, hn, hc, hj⟩ := h
  refine ⟨a, n, c, rfl, hn, hc, fun j hlt => ?_⟩
  obtain ⟨g, e, hcell⟩ := hj j hlt
  exact ⟨g, e, (hb.cell (p := ⟨g, j, none⟩) (World.block_lt_of_cell? _ _ hcell)).trans hcell⟩

theorem PS.own_lt {x : Px} {w : World} {lv sv : Value} {s : St} (h : PS x w lv sv s) {b : Nat} (hb : w.heap.size ≤ b) : sv.ownBlock ≠ some b := fun e => by
  have := (World.ownsRow.lt h.own b e).2
  omega
theorem kept {x : Px} {w w' : World} {o : Obj} {lv sv lv' sv' : Value} {s s' : St} (h : PS x w lv sv s) (h2 : Now x (w.alloc o) sv w' lv' sv' s') : w'.heap[w.heap.size]? = some o := by
  have hB := h.lt
  rw [h2.keep.2 w.heap.size (by simp) (by omega) (h.own_lt (Nat.le_refl _))]
  exact heap_alloc_new w o
def DidC (x : Px) (w : World) (sv : Value) (s' : St) (e : Ending) (w' : World) : Prop := e = .returned (.tuple #[]) ∧ ∃ lv', Now x w sv w' lv' sv s'
def GaveC (x : Px) (w : World) (sv : Value) (v : Value) (s' : St) (e : Ending) (w' : World) : Prop := e = .returned v ∧ ∃ lv', Now x w sv w' lv' sv s'
def Did (x : Px) (w : World) (sv : Value) (s' : St) (e : Ending) (w' : World) : Prop := e = .returned (.tuple #[]) ∧ ∃ lv' sv', Now x w sv w' lv' sv' s'
def Gave (x : Px) (w : World) (sv : Value) (v : Value) (s' : St) (e : Ending) (w' : World) : Prop := e = .returned v ∧ ∃ lv' sv', Now x w sv w' lv' sv' s'
theorem DidC.did {x : Px} {w : World} {sv : Value} {s' : St} {e : Ending} {w' : World} (h : DidC x w sv s' e w') : Did x w sv s' e w' := ⟨h.1, h.2.choose, sv, h.2.choose_spec⟩
theorem GaveC.gave {x : Px} {w : World} {sv v : Value} {s' : St} {e : Ending} {w' : World} (h : GaveC x w sv v s' e w') : Gave x w sv v s' e w' := ⟨h.1, h.2.choose, sv, h.2.choose_spec⟩

end Go.Proofs.YtcjmhmmjfgjcnaaGreatDoor.Pa
