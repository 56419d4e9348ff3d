/- Parts: LxX LxU. -/
import Derived.Test.YtgehjklodphogaaDoorMg08
import Derived.Laws.AppendOwnNone
import Derived.Deep.AppendLies
import Derived.Maps.AppendAt
import Derived.Deep.DeepMust

/- LexJoins: the walk. -/
namespace Go.Proofs.YtgehjklodphogaaDoor.Lx
open Go.RowKit

theorem Lex_some (s : ByteArray) (w : World) (hs : s.size ≤ maxLen) (he : Env w) :
    Calls Tryd.prog 7 #[.string s] w fun e w' => (∃ (a : Option Addr) (n c : Nat) (x y : Int), e = .returned (.tuple #[.slice a n c, .int .i64 x, .int .i64 y])) ∧ Below w.heap.size w w' := by
  cases h : lexL (L s) with
  | err c p => exact (Lex_err s w hs he h).mono fun e w' ⟨h1, h2⟩ => ⟨⟨_, _, _, _, _, h1⟩, h2⟩
  | ok l => exact (Lex_ok s w hs he h).mono fun e w' ⟨a, c, h1, _, h2⟩ => ⟨⟨_, _, _, _, _, h1⟩, h2⟩

theorem lexF_err_le : ∀ (k a : Nat) (l : List UInt8) {e p : Nat}, lexF k a l = .err e p → p ≤ a + l.length
  | 0, _, _, _, _, h => by simp [lexF] at h
  | k + 1, a, l, e, p, h => by
    have hr := runN_le blankB l
    rw [lexF] at h
    cases hd : l.drop (runN blankB l) with
    | nil => rw [hd] at h; simp at h
    | cons c r =>
      have hlen : (c :: r).length = l.length - runN blankB l := by rw [← hd, List.length_drop]
      rw [hd] at h
      simp only at h
      cases hn : nextR (c :: r) with
      | err e' =>
        rw [hn] at h
        simp only [Lx.err.injEq] at h
        omega
      | ok t n =>
        have hn' := nextR_le hn
        rw [hn] at h
        simp only at h
        cases hf : lexF k (a + runN blankB l + n) ((c :: r).drop n) with
        | ok l' => rw [hf] at h; simp [Lx.cons] at h
        | err e' p' =>
          have := lexF_err_le k _ _ hf
          rw [hf] at h
          simp only [Lx.cons, Lx.err.injEq] at h
          rw [List.length_drop] at this
          omega
theorem lexL_err_le {l : List UInt8} {e p : Nat} (h : lexL l = .err e p) : p ≤ l.length := by
  unfold lexL at h
  split at h
  · simp only [Lx.err.injEq] at h; omega
  · have := lexF_err_le _ _ _ h; omega

theorem lexF_count : ∀ (k a : Nat) (l : List UInt8) {x : List Tok}, lexF k a l = .ok x → x.length ≤ l.length
  | 0, _, _, _, h => by simp only [lexF, Lx.ok.injEq] at h; subst h; simp
  | k + 1, a, l, x, h => by
    have hr := runN_le blankB l
    rw [lexF] at h
    cases hd : l.drop (runN blankB l) with
    | nil => rw [hd] at h; simp only [Lx.ok.injEq] at h; subst h; simp
    | cons c r =>
      have hlen : (c :: r).length = l.length - runN blankB l := by rw [← hd, List.length_drop]
      rw [hd] at h
      simp only at h
      cases hn : nextR (c :: r) with
      | err e' => rw [hn] at h; cases h
      | ok t n =>
        have hn' := nextR_le hn
        rw [hn] at h
        simp only at h
        cases hf : lexF k (a + runN blankB l + n) ((c :: r).drop n) with
        | ok l' =>
          have := lexF_count k _ _ hf
          rw [hf] at h
          simp only [Lx.cons, Lx.ok.injEq] at h
          rw [List.length_drop] at this
          rw [← h]
          simp only [List.length_cons]
          omega
        | err e' p' => rw [hf] at h; cases h
theorem lexL_count {l : List UInt8} {x : List Tok} (h : lexL l = .ok x) : x.length ≤ l.length ∧ x.length ≤ 16384 := by
  have hl := (lexL_len h).1
  unfold lexL at h
  rw [if_neg (by omega)] at h
  have := lexF_count _ _ _ h
  omega

theorem toksC_set : ∀ (l : List Tok) (k p : Nat) (h : k < l.length), toksC (l.set k { l[k] with pos := p }) = (toksC l).set (k * 4 + 3) (.int .i64 p)
  | [], k, _, h => absurd h (Nat.not_lt_zero _)
  | t :: l, 0, p, _ => rfl
  | t :: l, k + 1, p, h => by
    have e : ∀ x : List Tok, toksC (t :: x) = t.cells ++ toksC x := fun _ => rfl
    have hl : t.cells.length = 4 := rfl
    have := toksC_set l k p (by simpa using h)
    rw [List.set_cons_succ, e, e, List.set_append, if_neg (by omega), hl, show (k + 1) * 4 + 3 - 4 = k * 4 + 3 by omega, ← this]
    rfl
def upTo (d k : Nat) (l : List Tok) : List Tok := (l.take k).map (Tok.up d) ++ l.drop k
theorem upTo_length (d k : Nat) (l : List Tok) : (upTo d k l).length = l.length := by simp [upTo]; omega
theorem upTo_zero (d : Nat) (l : List Tok) : upTo d 0 l = l := by simp [upTo]
theorem upTo_all (d : Nat) {k : Nat} (l : List Tok) (h : l.length ≤ k) : upTo d k l = l.map (Tok.up d) := by
  simp [upTo, List.take_of_length_le h, List.drop_of_length_le h]
theorem upTo_get (d : Nat) {k : Nat} (l : List Tok) (h : k < l.length) : (upTo d k l)[k]'(by rw [upTo_length]; exact h) = l[k] := by
  simp [upTo, List.getElem_append, List.length_take]
  rw [dif_neg (by omega)]
  congr 1
  omega
theorem upTo_succ (d : Nat) {k : Nat} (l : List Tok) (h : k < l.length) : upTo d (k + 1) l = (upTo d k l).set k (Tok.up d l[k]) := by
  unfold upTo
  have e1 : l.take (k + 1) = l.take k ++ [l[k]] := by rw [List.take_succ_eq_append_getElem h]
  have e2 : l.drop k = l[k] :: l.drop (k + 1) := by rw [List.drop_eq_getElem_cons h]
  rw [e1, e2, List.set_append]
  simp only [List.length_map, List.length_take]
  rw [if_neg (by omega), show k - min k l.length = 0 by omega, List.set_cons_zero, List.map_append]
  simp

structure JoinMem (w wr : World) (va vb : Value) (ba bb : Nat) (la lb : List Tok) (d k : Nat) (ak : Option Addr) (lk : List Tok) : Prop where
  bel : Below w.heap.size w wr
  lowA : w.heap.size ≤ ba
  lowB : w.heap.size ≤ bb
  big : ba ≤ wr.heap.size
  ownA : wr.ownsRow ba 26 4 va la.length (toksC la)
  ownB : wr.ownsRow bb 26 4 vb lb.length (toksC (upTo d k lb))
  kin : ToksIn wr ak lk
  neA : ∀ g, vb.ownBlock = some g → va.ownBlock ≠ some g
  neK : ∀ g, ak = some ⟨g, 0, none⟩ → vb.ownBlock ≠ some g ∧ va.ownBlock ≠ some g

theorem ToksIn.grown {w w' : World} {a : Option Addr} {l : List Tok} {row : Option Nat} (h : ToksIn w a l) (hg : w.grownBy w' row) (hne : ∀ g, a = some ⟨g, 0, none⟩ → row ≠ some g) : ToksIn w' a l := by
  intro i hi
  obtain ⟨g, e, hc⟩ := h i hi
  have hn : some g ≠ row := fun e' => hne g e e'.symm
  exact ⟨g, e, hg.cell (a := ⟨g, _, none⟩) hc.c0 hn, hg.cell (a := ⟨g, _, none⟩) hc.c1 hn, hg.cell (a := ⟨g, _, none⟩) hc.c2 hn, hg.cell (a := ⟨g, _, none⟩) hc.c3 hn⟩

/-- behind the three calls -/
theorem join_start {w w1 w2 w3 : World} {aa ab ak : Option Addr} {ca cb : Nat} {la lb lk : List Tok} {w0 : World} (d : Nat)
    (hb0 : Below w.heap.size w w0) (ha : ToksAt w1 w0.heap.size (.slice aa la.length ca) la) (hb1 : Below w0.heap.size w0 w1)
    (hb : ToksAt w2 w1.heap.size (.slice ab lb.length cb) lb) (hb2 : Below w1.heap.size w1 w2)
    (hk : ∃ n ck, ToksAt w3 w2.heap.size (.slice ak n ck) lk ∧ n = lk.length) (hb3 : Below w2.heap.size w2 w3) :
    JoinMem w w3 (.slice aa la.length ca) (.slice ab lb.length cb) w0.heap.size w1.heap.size la lb d 0 ak lk := by
  have hA1 := own_same ha (w' := w2) (fun g _ hg => hb2.block g hg)
  have hA2 := own_same hA1 (w' := w3) (fun g _ hg => hb3.block g hg)
  have hB2 := own_same hb (w' := w3) (fun g _ hg => hb3.block g hg)
  obtain ⟨n, ck, hk1, rfl⟩ := hk
  have s0 := hb0.size
  have s1 := hb1.size
  have s2 := hb2.size
  have s3 := hb3.size
  refine ⟨((hb0.trans (hb1.mono s0)).trans (hb2.mono (by omega))).trans (hb3.mono (by omega)), s0, by omega, by omega, hA2, ?_, ownsRow_toks hk1 rfl, ?_, ?_⟩
  · rw [upTo_zero]; exact hB2
  · intro g h1 h2
    have := (World.ownsRow.lt hb g h1).1
    have := (World.ownsRow.lt ha g h2).2
    omega
  · rintro g rfl
    have h3 := (World.ownsRow.lt hk1 g rfl).1
    constructor
    · intro h1
      have := (World.ownsRow.lt hb g h1).2
      omega
    · intro h1
      have := (World.ownsRow.lt ha g h1).2
      omega

theorem JoinMem.facts {w wr : World} {va : Value} {ab : Option Addr} {cb ba bb : Nat} {la lb : List Tok} {d k : Nat} {ak : Option Addr} {lk : List Tok} (h : JoinMem w wr va (.slice ab lb.length cb) ba bb la lb d k ak lk) (hk : k < lb.length) :
    ∃ g, ab = some ⟨g, 0, none⟩ ∧ wr.cell? ⟨g, k * 4 + 3, none⟩ = some (.int .i64 lb[k].pos) ∧ wr.frozen? ⟨g, k * 4 + 3, none⟩ = false ∧
      JoinMem w (wr.setCell ⟨g, k * 4 + 3, none⟩ (.int .i64 ((lb[k].pos + d : Nat) : Int))) va (.slice ab lb.length cb) ba bb la lb d (k + 1) ak lk := by
  have hown := h.ownB
  obtain ⟨g, cap, e, hlo, -⟩ := World.ownsRow.form hown (by omega)
  simp only [Value.slice.injEq] at e
  obtain ⟨rfl, -, rfl⟩ := e
  have hc := (toksC_get (upTo d k lb) k (by rw [upTo_length]; exact hk)).2.2.2
  rw [upTo_get d lb hk, Nat.mul_comm 4 k] at hc
  have hst := World.ownsRow.stored hown (k * 4 + 3) (.int .i64 ((lb[k].pos + d : Nat) : Int))
  refine ⟨g, rfl, (World.ownsRow.cellAt hown _ (by omega)).trans hc, World.ownsRow.frozenAt hown _, ?_⟩
  refine ⟨h.bel.setCell (Nat.le_trans h.lowB hlo) _, h.lowA, h.lowB, by simpa using h.big, ?_, ?_, ?_, h.neA, h.neK⟩
  · refine World.ownsRow.kept h.ownA hst.2 ?_
    by_cases hn : va.ownBlock = none
    · exact .inl hn
    · exact .inr (h.neA g rfl)
  · rw [upTo_succ d lb hk]
    have he := toksC_set (upTo d k lb) k (lb[k].pos + d) (by rw [upTo_length]; exact hk)
    rw [upTo_get d lb hk] at he
    rw [show Tok.up d lb[k] = { lb[k] with pos := lb[k].pos + d } from rfl, he]
    exact hst.1
  · exact h.kin.grown hst.2 (fun g' hg' => (h.neK g' hg').1)
theorem own_slice {w : World} {base n : Nat} {e : TypeId} {size : Nat} {v : Value} {xs : List Value} (h : w.ownsRow base e size v n xs) : ∃ a c, v = .slice a n c := by
  rcases h.2 with ⟨rfl, rfl⟩ | ⟨g, cap, cur, rfl, _⟩
  · exact ⟨_, _, rfl⟩
  · exact ⟨_, _, rfl⟩
theorem toksC_append (a b : List Tok) : toksC (a ++ b) = toksC a ++ toksC b := by simp [toksC]
theorem toksC_one : ∀ (l : List Tok), ∀ u ∈ toksC l, u.oneCell' = true := by
  intro l u hu
  unfold toksC at hu
  obtain ⟨t, _, hu⟩ := List.mem_flatMap.1 hu
  simp only [Tok.cells, List.mem_cons, List.mem_nil_iff, or_false] at hu
  rcases hu with rfl | rfl | rfl | rfl <;> rfl
/-- behind the append -/
theorem JoinMem.done {w wr w' : World} {va vb v' : Value} {ba bb : Nat} {la lb : List Tok} {d k : Nat} {ak : Option Addr} {lk : List Tok} (h : JoinMem w wr va vb ba bb la lb d k ak lk) (hk : lb.length ≤ k)
    (hown : w'.ownsRow ba 26 4 v' (la.length + lb.length) (toksC la ++ toksC (upTo d k lb))) (hg : wr.grownBy w' va.ownBlock) :
    Below w.heap.size w w' ∧ ToksIn w' ak lk ∧ ∃ a c, v' = .slice a (la ++ lb.map (Tok.up d)).length c ∧ ToksIn w' a (la ++ lb.map (Tok.up d)) := by
  refine ⟨?_, h.kin.grown hg (fun g' hg' => (h.neK g' hg').2), ?_⟩
  · refine h.bel.grown hg h.bel.size fun g hv => ?_
    have := (World.ownsRow.lt h.ownA g hv).1
    have := h.lowA
    omega
  · rw [upTo_all d lb hk, ← toksC_append] at hown
    obtain ⟨a, c, rfl⟩ := own_slice hown
    have e : (la ++ lb.map (Tok.up d)).length = la.length + lb.length := by simp
    rw [← e] at hown
    exact ⟨a, c, by rw [e], ownsRow_toks hown rfl⟩

theorem join_bytes (a b : ByteArray) : L (a ++ ⟨#[32]⟩ ++ b) = L a ++ (32 :: L b) := by
  simp [L, ByteArray.data_append]
theorem join_size (a b : ByteArray) : (a ++ ⟨#[32]⟩ ++ b).size = a.size + 1 + b.size := by
  rw [ByteArray.size_append, ByteArray.size_append]; rfl

section
variable {P : Program} (w : World)
theorem wpList_wanted {ops : Array Oper} {rest : List Oper} {o : Oper} {a : Act} {Q : Exit → Act → World → Prop} (hw : Region.wanted o (yielded ops a.tmps) = true)
    (h : ∀ K : Act → World → Prop, (∀ a w, wpList P ops Q rest a w → K a w) → o.wp P a w K Q) : wpList P ops Q (o :: rest) a w :=
  wpList_step fun K hK => by rw [if_pos hw]; exact h K hK
/-- append of a row of one's own, nil or not, onto another; under a guard that lets it by -/
theorem wpList_append_row {ops : Array Oper} {rest : List Oper} {o : Oper} {a : Act} {Q : Exit → Act → World → Prop} (hw : Region.wanted o (yielded ops a.tmps) = true) (s x : Operand) (t : TypeId)
    (ho : o.op = .call { callee := .builtin .append, args := #[s, x], argTypes := #[t, t] })
    (base : Nat) (e : TypeId) (i : TypeInfo) (z : Value) (size bytes : Nat) (ht : P.underlying t = some (.slice e)) (hi : P.info? e = some i) (hz : i.zero = some z)
    (hsize : i.size = size) (hby : i.bytes = bytes) (hzs : z.cells.size = size) (hsz : 0 < size)
    (v : Value) (n : Nat) (xs : List Value) (hs : a.eval s = v) (hown : w.ownsRow base e size v n xs)
    (base2 : Nat) (vx : Value) (m : Nat) (news : List Value) (hx : a.eval x = vx) (hownx : w.ownsRow base2 e size vx m news) (h1 : ∀ u ∈ news, u.oneCell' = true)
    (h63 : n + m ≤ maxLen) (hbytes : (n + m) * bytes ≤ 140737488355328) (hbase : base ≤ w.heap.size)
    (h : ∀ v' w', w'.ownsRow base e size v' (n + m) (xs ++ news) → w.grownBy w' v.ownBlock → wpList P ops Q rest (a.put o.dst v') w') :
    wpList P ops Q (o :: rest) a w := by
  refine wpList_wanted w hw fun K hK => ?_
  rcases hownx.2 with ⟨rfl, rfl⟩ | ⟨g, cap, cur, rfl, _⟩
  · have hrun := run_append_owned_none (P := P) (w := w) base t o.type e i size ht hi v n xs hown
    have hn : news = [] := by
      have := hownx.1
      simpa using this
    subst hn
    unfold Oper.wp execOp
    simp only [ho, resolve, invoke, builtin, Sem.run_bind, Sem.run_pure, Result.andThen_ok, List.map_toArray, List.map_cons, List.map_nil, hs, hx, hrun]
    exact hK _ _ (h v w (by simpa using hown) ⟨rfl, rfl, rfl, Nat.le_refl _, fun _ _ _ => rfl⟩)
  · obtain ⟨v', w', hr, h2, h3, h4, h5⟩ := run_append_own_at (P := P) w base t o.type e i z size bytes ht hi hz hsize hby hzs hsz v n xs hown ⟨g, 0, none⟩ m cap news hownx.1 (World.ownsRow.cells hownx rfl) h1 h63 hbytes hbase
    unfold Oper.wp execOp
    simp only [ho, resolve, invoke, builtin, Sem.run_bind, Sem.run_pure, Result.andThen_ok, List.map_toArray, List.map_cons, List.map_nil, hs, hx, hr]
    exact hK _ _ (h v' w' h2 h3)
end

end Go.Proofs.YtgehjklodphogaaDoor.Lx

/- What a read token is bounded by: plain. -/
namespace Go.Proofs.YtgehjklodphogaaDoor.Lx

/-! ### what a read token is bounded by -/
structure TokFits (t : Tok) : Prop where
  txt : t.text.length ≤ 16384
  lo : 0 ≤ t.num
  hi : t.num ≤ 9223372036854775807
theorem next_fits {l : List UInt8} (hl : l.length ≤ 16384) {t : Tok} {n : Nat} (h : nextR l = .ok t n) : TokFits t := by
  have ht : ∀ k : Nat, (l.take k).length ≤ 16384 := fun k => by rw [List.length_take]; omega
  have hg : ∀ k : Nat, (great (l.take k)).length ≤ 16384 := fun k => by unfold great; rw [List.length_map]; exact ht k
  cases l with
  | nil => simp [nextR] at h
  | cons c r =>
    unfold nextR at h
    simp only at h
    split at h
    · unfold wordR at h
      split at h
      · simp only [Rd.ok.injEq] at h; rw [← h.1]; exact ⟨hg _, Int.le_refl _, by simp⟩
      · split at h
        · cases h
        · simp only [Rd.ok.injEq] at h; rw [← h.1]; exact ⟨ht _, Int.le_refl _, by simp⟩
    · split at h
      · unfold numberR at h
        split at h
        · rename_i u hu
          split at h
          · cases h
          · rename_i hu2
            split at h
            · cases h
            · split at h
              · simp only [Rd.ok.injEq] at h; rw [← h.1]; exact ⟨by simp, by simp, by simp only; omega⟩
              · cases h
        · cases h
      · split at h
        · unfold textR at h
          split at h
          · cases h
          · split at h
            · cases h
            · split at h
              · simp only [Rd.ok.injEq] at h; rw [← h.1]; exact ⟨by simp only; omega, Int.le_refl _, by simp⟩
              · cases h
        · unfold signR at h
          split at h
          · rename_i x hx
            have hm := (signs_next x (List.mem_of_find?_eq_some hx)).2
            simp only [Rd.ok.injEq] at h; rw [← h.1]; exact ⟨hm, Int.le_refl _, by simp⟩
          · cases h
theorem lexF_fits : ∀ (k a : Nat) (l : List UInt8) {x : List Tok}, l.length ≤ 16384 → lexF k a l = .ok x → ∀ t ∈ x, TokFits t
  | 0, _, _, _, _, h => by simp only [lexF, Lx.ok.injEq] at h; subst h; simp
  | k + 1, a, l, x, hl, h => by
    rw [lexF] at h
    cases hd : l.drop (runN blankB l) with
    | nil => rw [hd] at h; simp only [Lx.ok.injEq] at h; subst h; simp
    | cons c r =>
      have hlen : (c :: r).length = l.length - runN blankB l := by rw [← hd, List.length_drop]
      rw [hd] at h
      simp only at h
      cases hn : nextR (c :: r) with
      | err e' => rw [hn] at h; cases h
      | ok t n =>
        have hf0 := next_fits (by omega) hn
        rw [hn] at h
        simp only at h
        cases hf : lexF k (a + runN blankB l + n) ((c :: r).drop n) with
        | ok l' =>
          have := lexF_fits k _ _ (by rw [List.length_drop]; omega) hf
          rw [hf] at h
          simp only [Lx.cons, Lx.ok.injEq] at h
          rw [← h]
          intro u hu
          rcases List.mem_cons.1 hu with rfl | hu
          · exact ⟨hf0.txt, hf0.lo, hf0.hi⟩
          · exact this u hu
        | err e' p' => rw [hf] at h; cases h
theorem lexL_fits {l : List UInt8} {x : List Tok} (h : lexL l = .ok x) : ∀ t ∈ x, TokFits t := by
  have hl := (lexL_len h).1
  unfold lexL at h
  rw [if_neg (by omega)] at h
  exact lexF_fits _ _ _ hl h
theorem shown_length {t : Tok} (h : showOk t = true) : (showS t).length ≤ 16384 := (lexL_len (of_decide_eq_true h)).1

end Go.Proofs.YtgehjklodphogaaDoor.Lx
