/- Parts: QaV PcB PaT PaV. -/
import Derived.Test.YtcjmhmmjfgjcnaaGreatDoorMc05
import Derived.Test.YtcjmhmmjfgjcnaaGreatDoorMc22
import Derived.Test.YtcjmhmmjfgjcnaaGreatDoorMc23
import Derived.Test.YtcjmhmmjfgjcnaaGreatDoorMc25
import Derived.Test.YtcjmhmmjfgjcnaaGreatDoorMc28
import Derived.Test.YtcjmhmmjfgjcnaaGreatDoorMc32
import Derived.Lib.ItoaLen
import Derived.Maps.OwnOps

/- code: Compile, what its loop keeps. -/
namespace Go.Proofs.YtcjmhmmjfgjcnaaGreatDoor.Cd
open Go.RowKit Go.Proofs.YtcjmhmmjfgjcnaaGreatDoor.Lx Go.Proofs.YtcjmhmmjfgjcnaaGreatDoor.Pa

def ToOk (p : List Ins) : Prop := ∀ x ∈ p, x.to ≤ p.length
theorem shift_to {b n : Nat} {x : Ins} (h : x.to ≤ n) : (shift b x).to ≤ b + n := by
  unfold shift
  split
  · simp only; omega
  · omega
theorem ToOk.app {p q : List Ins} (hp : ToOk p) (hq : ToOk q) : ToOk (p ++ q.map (shift p.length)) := by
  intro x hx
  rw [List.length_append, List.length_map]
  rcases List.mem_append.1 hx with h | h
  · have := hp x h; omega
  · obtain ⟨y, hy, rfl⟩ := List.mem_map.1 h
    have := shift_to (b := p.length) (hq y hy)
    omega
theorem ToOk.join : ∀ ps : List (List Ins), (∀ p ∈ ps, ToOk p) → ToOk (joinI ps)
  | [], _ => fun x hx => nomatch hx
  | p :: ps, h => by
    rw [joinI_cons]
    exact (h p (by simp)).app (ToOk.join ps fun q hq => h q (by simp [hq]))
theorem ToOk.logic {p q : List Ins} (hp : ToOk p) (hq : ToOk q) (j c : Nat) : ToOk (logicI j c p q) := by
  intro x hx
  rw [logicI_length]
  unfold logicI at hx
  rw [joinI_cons, joinI_cons, joinI_cons, joinI_cons, joinI_nil] at hx
  simp only [List.map_append, map_shift_shift, List.map_cons, List.map_nil, List.append_nil, List.mem_append, List.mem_singleton, List.mem_map] at hx
  rcases hx with h | h | ⟨y, hy, rfl⟩ | h
  · have := hp x h; omega
  · subst h
    have := shift_to (b := p.length) (x := ⟨j, stp0, q.length + 2⟩) (n := q.length + 2) (by simp)
    omega
  · have := shift_to (b := p.length + ([⟨j, stp0, q.length + 2⟩] : List Ins).length) (hq y hy)
    simp only [List.length_singleton] at this
    simp only [List.length_singleton]
    omega
  · subst h
    rw [show shift p.length (shift ([⟨j, stp0, q.length + 2⟩] : List Ins).length (shift q.length (ins0 c))) = ins0 c from rfl]
    simp [ins0]
    omega
theorem ToOk.part {s : Stp} {k : Nat} (ht : takes s = some k) {parts : List (List Ins)} (hl : parts.length = k) (h : ∀ p ∈ parts, ToOk p) : ToOk (partC s parts) := by
  unfold partC
  split
  · rename_i e
    obtain ⟨p, q, rfl⟩ := two_parts (hl.trans (takes_logic ht (.inl e)))
    exact ToOk.logic (h p (by simp)) (h q (by simp)) _ _
  · split
    · rename_i e
      obtain ⟨p, q, rfl⟩ := two_parts (hl.trans (takes_logic ht (.inr e)))
      exact ToOk.logic (h p (by simp)) (h q (by simp)) _ _
    · intro x hx
      rw [List.length_append, List.length_singleton]
      rcases List.mem_append.1 hx with hx | hx
      · have := ToOk.join parts h x hx; omega
      · rw [List.mem_singleton.1 hx]; simp only; omega

structure StkM (wr : World) (base : Nat) (v : Value) (stk : List (List Ins)) (vs : List Value) : Prop where
  own : wr.ownsRow base 23 1 v stk.length vs
  len : vs.length = stk.length
  each : ∀ i (h : i < stk.length) (h' : i < vs.length), InsIn wr vs[i] stk[i] ∧ ∀ g, vs[i].ownBlock = some g → v.ownBlock ≠ some g ∧ g < wr.heap.size
theorem StkM.step {wr w' : World} {base : Nat} {v : Value} {stk : List (List Ins)} {vs : List Value} (h : StkM wr base v stk vs) (hb : Below wr.heap.size wr w') : StkM w' base v stk vs :=
  ⟨ownSame h.own fun g _ hg => hb.block g hg, h.len, fun i h1 h2 => ⟨(h.each i h1 h2).1.below hb, fun g hg => ⟨((h.each i h1 h2).2 g hg).1, Nat.lt_of_lt_of_le ((h.each i h1 h2).2 g hg).2 hb.size⟩⟩⟩
theorem own_prefix {w : World} {base m c at_ gs : Nat} {e : TypeId} {xs : List Value} (h : w.ownsRow base e 1 (.slice (some ⟨gs, 0, none⟩) m c) m xs) (ha : at_ ≤ m) : w.ownsRow base e 1 (.slice (some ⟨gs, 0, none⟩) at_ c) at_ (xs.take at_) := by
  have h1 := h.1
  refine ⟨by rw [List.length_take]; omega, ?_⟩
  rcases h.2 with ⟨e0, _⟩ | ⟨g, cap, cur, e0, r1, r2, r3, r4, r5, r6⟩
  · cases e0
  · simp only [Value.slice.injEq, Option.some.injEq, Addr.mk.injEq, true_and, and_true] at e0
    obtain ⟨rfl, rfl⟩ := e0
    refine .inr ⟨gs, c, cur, rfl, r1, r2, by omega, r4, r5, ?_⟩
    rw [← r6, List.take_take]
    congr 1
    omega
theorem StkM.more {wr w5 w6 : World} {base at_ kk : Nat} {v v5 v6 : Value} {stk : List (List Ins)} {vs : List Value} {p : List Ins} {cs : List Value} {n : Nat} (h : StkM w5 base v stk vs) (hm : stk.length = at_ + kk) (hv : ∀ g, v.ownBlock = some g → g < wr.heap.size)
    (hp : InsIn w5 v5 p) (h5 : ∀ g, v5.ownBlock = some g → wr.heap.size ≤ g ∧ g < w5.heap.size) (hown : w6.ownsRow base 23 1 v6 n cs) (hn : n = at_ + 1) (hcs : cs = vs.take at_ ++ [v5]) (hg : w5.grownBy w6 v.ownBlock)
    (hat : v6.ownBlock = v.ownBlock ∨ ∃ b, v6.ownBlock = some b ∧ w5.heap.size ≤ b) : StkM w6 base v6 (stk.take at_ ++ [p]) (vs.take at_ ++ [v5]) := by
  subst hn hcs
  have hlen := h.len
  have hsz := hg.size
  refine ⟨by rw [List.length_append, List.length_take, List.length_singleton, show min at_ stk.length + 1 = at_ + 1 by omega]; exact hown, by simp only [List.length_append, List.length_take, List.length_singleton]; omega, fun i h1 h2 => ?_⟩
  have hnew : ∀ g, g < w5.heap.size → v.ownBlock ≠ some g → v6.ownBlock ≠ some g := fun g hlt hne e => by
    rcases hat with e' | ⟨b, e', hb⟩
    · exact hne (e'.symm.trans e)
    · have := Option.some.inj (e'.symm.trans e); omega
  by_cases hi : i < at_
  · have hi1 : i < stk.length := by omega
    have hi2 : i < vs.length := by omega
    obtain ⟨e1, e2⟩ := h.each i hi1 hi2
    rw [List.getElem_append_left (by rw [List.length_take]; omega), List.getElem_append_left (by rw [List.length_take]; omega), List.getElem_take, List.getElem_take]
    refine ⟨e1.keep fun g hg' hlt => hg.block g hlt fun e => (e2 g hg').1 e.symm, fun g hg' => ⟨hnew g (e2 g hg').2 (e2 g hg').1, by have := (e2 g hg').2; omega⟩⟩
  · have hi3 : i = at_ := by simp only [List.length_append, List.length_take, List.length_singleton] at h1; omega
    subst hi3
    rw [List.getElem_append_right (by rw [List.length_take]; omega), List.getElem_append_right (by rw [List.length_take]; omega)]
    simp only [List.getElem_singleton]
    have hne : ∀ g, v5.ownBlock = some g → v.ownBlock ≠ some g := fun g hg' e => by
      have := hv g e; have := (h5 g hg').1; omega
    exact ⟨hp.keep fun g hg' hlt => hg.block g hlt fun e => hne g hg' e.symm, fun g hg' => ⟨hnew g (h5 g hg').2 (hne g hg'), by have := (h5 g hg').2; omega⟩⟩
theorem StkM.progs {wr : World} {base c gs at_ kk m : Nat} {stk : List (List Ins)} {vs : List Value} (h : StkM wr base (.slice (some ⟨gs, 0, none⟩) m c) stk vs) (hm : stk.length = m) (hk : m = at_ + kk) (hc : m ≤ c) :
    ProgsIn wr (.slice (if c = at_ then some ⟨gs, 0, none⟩ else some ⟨gs, at_, none⟩) kk (c - at_)) (stk.drop at_) := by
  subst hm
  refine ⟨_, _, _, rfl, by rw [List.length_drop]; omega, by omega, fun j hj => ?_⟩
  rw [List.length_drop] at hj
  have hvl := h.len
  have hone := h.own
  rw [if_neg (by omega)]
  refine ⟨gs, at_, vs[at_ + j]'(by omega), rfl, ?_, ?_⟩
  · rw [World.ownsRow.cellAt hone (at_ + j) (by omega)]
    exact List.getElem?_eq_getElem (by omega)
  · have := (h.each (at_ + j) (by omega) (by omega)).1
    rw [List.getElem_drop]
    exact this
theorem progs_none (w : World) (a : Option Addr) (c : Nat) (stk : List (List Ins)) (at_ : Nat) (h : stk.length = at_ + 0) : ProgsIn w (.slice a 0 c) (stk.drop at_) :=
  ⟨_, _, _, rfl, by rw [List.length_drop]; omega, Nat.zero_le _, fun j hj => by rw [List.length_drop] at hj; omega⟩

structure CpSt (w wr : World) (l : List Stp) (k : Nat) (v : Value) (stk : List (List Ins)) : Prop where
  bel : Below w.heap.size w wr
  mem : ∃ vs, StkM wr w.heap.size v stk vs
  ok : StkOk stk stk.length (l.take k)
  rgt : rightL (l.drop k) stk.length = some 1
  fold : (l.drop k).foldl stepC stk = [compileL l]
  cnt : stk.length ≤ k
  tos : ∀ p ∈ stk, ToOk p
theorem CpSt.step {w wr w' : World} {l : List Stp} {k : Nat} {v : Value} {stk : List (List Ins)} (h : CpSt w wr l k v stk) (hb : Below wr.heap.size wr w') : CpSt w w' l k v stk :=
  ⟨stepH h.bel hb, let ⟨vs, hv⟩ := h.mem; ⟨vs, hv.step hb⟩, h.ok, h.rgt, h.fold, h.cnt, h.tos⟩
theorem CpSt.start {w wr : World} {l : List Stp} (hr : rightB l = true) (hb : Below w.heap.size w wr) : CpSt w wr l 0 (.slice none 0 0) [] :=
  ⟨hb, ⟨[], World.ownsRow_nil _ _ _ _, rfl, fun _ h => absurd h (Nat.not_lt_zero _)⟩, StkOk.nil, ((right_iff l).1 hr).1, (compile_stack hr).1, Nat.le_refl _, fun _ h => nomatch h⟩
theorem CpSt.total {w wr : World} {l : List Stp} {k : Nat} {v : Value} {stk : List (List Ins)} (h : CpSt w wr l k v stk) (h128 : l.length ≤ 128) : total stk ≤ 256 := by
  have h1 := h.ok.size
  have h2 := logic_le (l.take k)
  have h3 : (l.take k).length ≤ 128 := by rw [List.length_take]; omega
  omega
theorem total_mem : ∀ {stk : List (List Ins)} {p : List Ins}, p ∈ stk → p.length ≤ total stk
  | [], _, h => nomatch h
  | q :: stk, p, h => by
    have e : total (q :: stk) = q.length + total stk := by unfold total; simp
    rcases List.mem_cons.1 h with rfl | h
    · omega
    · have := total_mem h; omega
theorem total_drop (stk : List (List Ins)) (n : Nat) : total (stk.drop n) ≤ total stk := by
  have : total (stk.take n) + total (stk.drop n) = total stk := by rw [← total_app, List.take_append_drop]
  omega
theorem CpSt.more {w wr w' : World} {l : List Stp} {k at_ kk : Nat} {v v' : Value} {stk : List (List Ins)} {y : Stp} {vs : List Value} (h : CpSt w wr l k v stk) (hkl : k < l.length) (hy : l[k] = y) (hty : takes y = some kk) (hm : stk.length = at_ + kk)
    (hb : Below w.heap.size w w') (hmem : StkM w' w.heap.size v' (stk.take at_ ++ [partC y (stk.drop at_)]) vs) : CpSt w w' l (k + 1) v' (stepC stk y) := by
  have e : stepC stk y = stk.take at_ ++ [partC y (stk.drop at_)] := by
    unfold stepC takesN
    rw [hty, Option.getD_some, show stk.length - kk = at_ by omega]
  have hd : l.drop k = y :: l.drop (k + 1) := by rw [List.drop_eq_getElem_cons hkl, hy]
  have hrg := h.rgt
  have hf := h.fold
  rw [hd] at hrg hf
  have hl := stepC_len (stk := stk) hty
  have hok := h.ok.step hty (by omega)
  refine ⟨hb, ⟨vs, by rw [e]; exact hmem⟩, ?_, ?_, hf, ?_, ?_⟩
  · rw [hl, List.take_succ_eq_append_getElem hkl, hy]
    exact hok
  · rw [hl]
    rw [rightL, hty] at hrg
    simp only at hrg
    rw [if_neg (by omega)] at hrg
    exact hrg
  · have := h.cnt; omega
  · rw [e]
    intro p hp
    rcases List.mem_append.1 hp with hp | hp
    · exact h.tos p (List.mem_of_mem_take hp)
    · rw [List.mem_singleton.1 hp]
      exact ToOk.part hty (by rw [List.length_drop]; omega) fun q hq => h.tos q (List.mem_of_mem_drop hq)

theorem CpSt.round {w w3 w10 w11 : World} {l : List Stp} {k at_ kk n n5 : Nat} {v v5 v11 : Value} {stk : List (List Ins)} {y : Stp} {vs cs5 cs : List Value} {T : TypeId} (h : CpSt w w3 l k v stk) (hM : StkM w3 w.heap.size v stk vs) (hkl : k < l.length) (hy : l[k] = y) (hty : takes y = some kk) (hm : stk.length = at_ + kk)
    (hb : Below w3.heap.size w3 w10) (hp : InsIn w10 v5 (partC y (stk.drop at_))) (ho : w10.ownsRow w3.heap.size 63 5 v5 n5 cs5)
    (hown : w11.ownsRow w.heap.size 23 1 v11 n cs) (hn : n = at_ + 1) (hcs : cs = vs.take at_ ++ [v5]) (hg : (w10.alloc (.cells #[v5] T)).grownBy w11 v.ownBlock)
    (hat : v11.ownBlock = v.ownBlock ∨ v11.ownBlock = some (w10.alloc (.cells #[v5] T)).heap.size) : CpSt w w11 l (k + 1) v11 (stepC stk y) := by
  have hba := allocB w10 (.cells #[v5] T)
  have hlt : ∀ g, v.ownBlock = some g → w.heap.size ≤ g ∧ g < w3.heap.size := fun g e => World.ownsRow.lt hM.own g e
  have hb1 : Below w.heap.size w (w10.alloc (.cells #[v5] T)) := stepH (stepH h.bel hb) hba
  refine h.more hkl hy hty hm (hb1.grown hg hb1.size fun b e => (hlt b e).1) (StkM.more (wr := w3) ((hM.step hb).step hba) hm (fun g e => (hlt g e).2) (hp.below hba) (fun g e => ?_) hown hn hcs hg (hat.imp id fun e => ⟨_, e, Nat.le_refl _⟩))
  have := World.ownsRow.lt ho g e
  exact ⟨this.1, Nat.lt_of_lt_of_le this.2 hba.size⟩

end Go.Proofs.YtcjmhmmjfgjcnaaGreatDoor.Cd

/- parse: how long a shown expression may be. Plain. -/
namespace Go.Proofs.YtcjmhmmjfgjcnaaGreatDoor.Pa
open Go.Proofs.YtcjmhmmjfgjcnaaGreatDoor.Lx

def wt (y : Stp) : Nat := 66 * y.text.length + 1000
def wts (l : List Stp) : Nat := (l.map wt).sum
theorem lens_cons (x : Txt) (l : List Txt) : Lib.lens (x :: l) = x.length + Lib.lens l := by simp [Lib.lens]
theorem lens_app (a b : List Txt) : Lib.lens (a ++ b) = Lib.lens a + Lib.lens b := by simp [Lib.lens]
theorem lens_get (l : List Txt) (i : Nat) : (l.getD i []).length ≤ Lib.lens l := by
  induction l generalizing i with
  | nil => simp
  | cons x l ih =>
    rw [lens_cons]
    cases i with
    | zero => simp
    | succ i => have := ih i; simp only [List.getD_cons_succ]; omega
theorem lens_two (l : List Txt) : (l.getD 0 []).length + (l.getD 1 []).length ≤ Lib.lens l := by
  cases l with
  | nil => simp
  | cons x l =>
    rw [lens_cons]
    have := lens_get l 0
    simp only [List.getD_cons_zero, List.getD_cons_succ]
    omega
theorem lens_le {B : Nat} : ∀ {l : List Txt}, (∀ x ∈ l, x.length ≤ B) → Lib.lens l ≤ l.length * B
  | [], _ => by simp [Lib.lens]
  | x :: l, h => by
    have h1 := lens_le (l := l) fun y hy => h y (by simp [hy])
    have h2 := h x (by simp)
    rw [lens_cons, List.length_cons, Nat.succ_mul]
    omega
theorem join_len (l : List Txt) (sep : Txt) : (Lib.join l sep).length ≤ Lib.lens l + sep.length * l.length := by
  cases l with
  | nil => simp [Lib.join_nil]
  | cons x r =>
    rw [Lib.join_length, List.length_cons, Nat.mul_succ]
    omega
theorem fieldsT_lens : ∀ (l r : List Txt), Lib.lens (fieldsT l r) ≤ Lib.lens l + Lib.lens r + 2 * l.length
  | [], r => by simp [fieldsT, Lib.lens]
  | x :: l, [] => by simp [fieldsT, Lib.lens]
  | x :: l, n :: r => by
    have := fieldsT_lens l r
    simp only [fieldsT, lens_cons, List.length_append, List.length_cons, List.length_nil]
    omega
theorem fieldsT_len : ∀ (l r : List Txt), (fieldsT l r).length ≤ l.length
  | [], r => by simp [fieldsT]
  | x :: l, [] => by simp [fieldsT]
  | x :: l, n :: r => by
    have := fieldsT_len l r
    simp only [fieldsT, List.length_cons]
    omega

theorem takes_parts {y : Stp} {k : Nat} (h : takes y = some k) (hk : y.kind = 7 ∨ y.kind = 8) : y.num = k ∧ k ≤ 64 := by
  unfold takes at h
  rw [if_neg (by omega), if_neg (by omega), if_neg (by omega), if_neg (by omega)] at h
  rcases hk with hk | hk
  · rw [if_pos hk] at h
    split at h
    · simp only [Option.some.injEq] at h; omega
    · cases h
  · rw [if_neg (by omega), if_pos hk] at h
    split at h
    · simp only [Option.some.injEq] at h; omega
    · cases h
theorem takes_struct {y : Stp} {k : Nat} (h : takes y = some k) (hk : y.kind = 8) : (k = 0 ∧ y.text = []) ∨ (0 < k ∧ (Lib.split y.text [44]).length = k) := by
  have h2 := takes_parts h (.inr hk)
  unfold takes at h
  rw [if_neg (by omega), if_neg (by omega), if_neg (by omega), if_neg (by omega), if_neg (by omega), if_pos hk] at h
  split at h
  · rename_i hx
    have hn := hx.2.2
    unfold namesB at hn
    split at hn
    · exact .inl ⟨by omega, of_decide_eq_true hn⟩
    · simp only [Bool.and_eq_true, decide_eq_true_eq] at hn
      exact .inr ⟨by omega, by omega⟩
  · cases h
theorem joined_len {y : Stp} {k : Nat} (h : takes y = some k) (hk : y.kind = 7 ∨ y.kind = 8) {l : List Txt} (hl : l.length = k) : (joined y l).length ≤ Lib.lens l + wt y := by
  obtain ⟨h1, h2⟩ := takes_parts h hk
  unfold joined wt
  split
  · have := join_len l [44, 32]
    simp only [List.length_append, List.length_cons, List.length_nil] at this ⊢
    omega
  · rename_i h7
    have hs : Lib.lens (Lib.split y.text [44]) ≤ 64 * y.text.length := by
      rcases takes_struct h (by omega) with ⟨_, h0⟩ | ⟨_, h0⟩
      · rw [h0]; decide +kernel
      · have := lens_le (l := Lib.split y.text [44]) (B := y.text.length) (fun t ht => split_each y.text 44 t ht)
        have h3 := Nat.mul_le_mul_right y.text.length (show (Lib.split y.text [44]).length ≤ 64 by omega)
        omega
    have := join_len (fieldsT l (Lib.split y.text [44])) [44, 32]
    have h3 := fieldsT_lens l (Lib.split y.text [44])
    have h4 := fieldsT_len l (Lib.split y.text [44])
    simp only [List.length_append, List.length_cons, List.length_nil] at this ⊢
    omega
theorem textS_len (x : Txt) : (textS x).length ≤ 2 * x.length + 2 := by
  unfold textS
  split
  · rw [showS_txt _ rfl]
    simp only [replaceAll_dbl, List.length_cons, List.length_append, List.length_nil]
    have := dbl_length x
    omega
  · simp
theorem op_len (i : Nat) : (operators.getD i []).length ≤ 3 := by
  unfold operators
  rcases i with _ | _ | _ | _ | _ | _ | _ | _ | _ | _ | _ | i <;> simp
theorem shown_len {y : Stp} {k : Nat} (h : takes y = some k) (hn : y.num ≤ 9223372036854775807) {l : List Txt} (hl : l.length = k) : (shown y l).length ≤ Lib.lens l + wt y := by
  have hw : wt y = 66 * y.text.length + 1000 := rfl
  have g0 := lens_get l 0
  have g2 := lens_two l
  unfold shown
  split
  · simp [kNULL]; omega
  split
  · simp [kTRUE]; omega
  split
  · simp [kFALSE]; omega
  split
  · rename_i h4
    have h0 : 0 ≤ y.num := by
      unfold takes at h
      rw [if_neg (by omega), if_pos h4] at h
      split at h
      · rename_i hx; exact hx.2
      · cases h
    have := Lib.itoa_length_le y.num (by omega) hn
    omega
  split
  · have := textS_len y.text; omega
  split
  · omega
  split
  · rename_i h7
    exact joined_len h h7 hl
  split
  · simp only [List.length_append, List.length_cons, List.length_nil]; omega
  split
  · simp only [List.length_append, List.length_cons, List.length_nil, kNOTX]; omega
  split
  · simp only [List.length_append, List.length_cons, List.length_nil, kISNULLX]; omega
  · have := op_len (y.kind - 12)
    simp only [List.length_append, List.length_cons, List.length_nil]; omega

def push (y : Stp) (st : List Txt) : List Txt := st.take (st.length - takesN y) ++ [shown y (st.drop (st.length - takesN y))]
theorem showG_cons (y : Stp) (r : List Stp) (st : List Txt) : showG (y :: r) st = showG r (push y st) := rfl
theorem push_length {y : Stp} {k : Nat} (h : takes y = some k) {st : List Txt} (_hk : k ≤ st.length) : (push y st).length = st.length - k + 1 := by
  unfold push takesN
  rw [h]
  simp
theorem push_lens {y : Stp} {k : Nat} (h : takes y = some k) (hn : y.num ≤ 9223372036854775807) {st : List Txt} (hk : k ≤ st.length) : Lib.lens (push y st) ≤ Lib.lens st + wt y := by
  unfold push takesN
  rw [h, Option.getD_some, lens_app, lens_cons]
  have h1 := shown_len h hn (l := st.drop (st.length - k)) (by rw [List.length_drop]; omega)
  have h2 : Lib.lens st = Lib.lens (st.take (st.length - k)) + Lib.lens (st.drop (st.length - k)) := by rw [← lens_app, List.take_append_drop]
  have h3 : Lib.lens ([] : List Txt) = 0 := rfl
  omega
end Go.Proofs.YtcjmhmmjfgjcnaaGreatDoor.Pa

/- The parser: expressions. -/
namespace Go.Proofs.YtcjmhmmjfgjcnaaGreatDoor.Pa
open Go.RowKit Go.Proofs.YtcjmhmmjfgjcnaaGreatDoor.Lx
variable {x : Px}

theorem enters_primary : Enters 210 := enters_of Tryz.func210 (by kernel_rfl) (by kernel_rfl)
theorem enters_product : Enters 208 := enters_of Tryz.func208 (by kernel_rfl) (by kernel_rfl)
theorem enters_not : Enters 175 := enters_of Tryz.func175 (by kernel_rfl) (by kernel_rfl)
theorem enters_compared : Enters 197 := enters_of Tryz.func197 (by kernel_rfl) (by kernel_rfl)
theorem enters_and : Enters 150 := enters_of Tryz.func150 (by kernel_rfl) (by kernel_rfl)

set_option maxRecDepth 100000 in
theorem signed_reads (or_ : Nat → St → Option St) (n : Nat) (h : ReadsAt x 210 (primary or_ n)) : ReadsAt x 209 (signed or_ n) := by
  intro d hd w lv sv s s' hp hr
  have Hc := Lib.hid (ahead_calls 5 _ [45] 9 _ h enters_primary n d w lv sv s s' hd hp hr)
  clear hp hr h
  go_enter Tryz.func209, Tryz.ntmps209
  go_wp2_with fail
  refine Hc.out.mono ?_
  rintro e w1 ⟨rfl, lv1, sv1, h1⟩
  have H1 := Lib.hid h1
  clear h1
  go_wp2_with fail
  go_end0
  exact ⟨rfl, _, _, H1.out⟩

set_option maxRecDepth 100000 in
theorem product_reads (or_ : Nat → St → Option St) (n : Nat) (h : ReadsAt x 209 (signed or_ n)) : ReadsAt x 208 (product or_ n) := by
  intro d hd w lv sv s s' hp hr
  have Hc := Lib.hid (row_calls (hp.step (alloc_below w (.cells (strsC [[42]]).toArray 9))) 5 _ d w.heap.size 1 [[42]] _ (h d hd) enters_signed (TextsAt.new w [[42]] 1 _ _ _ rfl rfl) (by have := hp.lt; omega) (hp.own_lt (Nat.le_refl _)) (by omega) n s' hr)
  have Hp := Lib.hid ((Now.refl hp).alloc (.cells (strsC [[42]]).toArray 9))
  clear hp hr h
  go_enter Tryz.func208, Tryz.ntmps208
  go_wp2_with fail
  refine Hc.out.mono ?_
  rintro e w1 ⟨rfl, lv1, sv1, h1⟩
  have H1 := Lib.hid (Hp.out.trans h1)
  clear h1
  go_wp2_with fail
  go_end0
  exact ⟨rfl, _, _, H1.out⟩

set_option maxRecDepth 100000 in
theorem sum_reads (or_ : Nat → St → Option St) (n : Nat) (h : ReadsAt x 208 (product or_ n)) : ReadsAt x 206 (sum or_ n) := by
  intro d hd w lv sv s s' hp hr
  have Hc := Lib.hid (row_calls (hp.step (alloc_below w (.cells (strsC [[43], [45]]).toArray 9))) 5 _ d w.heap.size 2 [[43], [45]] _ (h d hd) enters_product (TextsAt.new w [[43], [45]] 2 _ _ _ rfl rfl) (by have := hp.lt; omega) (hp.own_lt (Nat.le_refl _)) (by omega) n s' hr)
  have Hp := Lib.hid ((Now.refl hp).alloc (.cells (strsC [[43], [45]]).toArray 9))
  clear hp hr h
  go_enter Tryz.func206, Tryz.ntmps206
  go_wp2_with fail
  refine Hc.out.mono ?_
  rintro e w1 ⟨rfl, lv1, sv1, h1⟩
  have H1 := Lib.hid (Hp.out.trans h1)
  clear h1
  go_wp2_with fail
  go_end0
  exact ⟨rfl, _, _, H1.out⟩

set_option maxRecDepth 100000 in
theorem not_reads (or_ : Nat → St → Option St) (n : Nat) (h : ReadsAt x 197 (compared or_ n)) : ReadsAt x 175 (notE or_ n) := by
  intro d hd w lv sv s s' hp hr
  have Hc := Lib.hid (ahead_calls 2 _ kNOT 10 _ h enters_compared n d w lv sv s s' hd hp hr)
  clear hp hr h
  go_enter Tryz.func175, Tryz.ntmps175
  go_wp2_with fail
  refine Hc.out.mono ?_
  rintro e w1 ⟨rfl, lv1, sv1, h1⟩
  have H1 := Lib.hid h1
  clear h1
  go_wp2_with fail
  go_end0
  exact ⟨rfl, _, _, H1.out⟩

set_option maxRecDepth 100000 in
theorem and_reads (or_ : Nat → St → Option St) (n : Nat) (h : ReadsAt x 175 (notE or_ n)) : ReadsAt x 150 (andE or_ n) := by
  intro d hd w lv sv s s' hp hr
  have Hc := Lib.hid (row_calls (hp.step (alloc_below w (.cells (strsC [kAND]).toArray 9))) 2 _ d w.heap.size 1 [kAND] _ (h d hd) enters_not (TextsAt.new w [kAND] 1 _ _ _ rfl rfl) (by have := hp.lt; omega) (hp.own_lt (Nat.le_refl _)) (by omega) n s' hr)
  have Hp := Lib.hid ((Now.refl hp).alloc (.cells (strsC [kAND]).toArray 9))
  clear hp hr h
  go_enter Tryz.func150, Tryz.ntmps150
  go_wp2_with fail
  refine Hc.out.mono ?_
  rintro e w1 ⟨rfl, lv1, sv1, h1⟩
  have H1 := Lib.hid (Hp.out.trans h1)
  clear h1
  go_wp2_with fail
  go_end0
  exact ⟨rfl, _, _, H1.out⟩

set_option maxRecDepth 100000 in
theorem or_reads (or_ : Nat → St → Option St) (n : Nat) (h : ReadsAt x 150 (andE or_ n)) : ReadsAt x 127 (orE or_ n) := by
  intro d hd w lv sv s s' hp hr
  have Hc := Lib.hid (row_calls (hp.step (alloc_below w (.cells (strsC [kOR]).toArray 9))) 2 _ d w.heap.size 1 [kOR] _ (h d hd) enters_and (TextsAt.new w [kOR] 1 _ _ _ rfl rfl) (by have := hp.lt; omega) (hp.own_lt (Nat.le_refl _)) (by omega) n s' hr)
  have Hp := Lib.hid ((Now.refl hp).alloc (.cells (strsC [kOR]).toArray 9))
  clear hp hr h
  go_enter Tryz.func127, Tryz.ntmps127
  go_wp2_with fail
  refine Hc.out.mono ?_
  rintro e w1 ⟨rfl, lv1, sv1, h1⟩
  have H1 := Lib.hid (Hp.out.trans h1)
  clear h1
  go_wp2_with fail
  go_end0
  exact ⟨rfl, _, _, H1.out⟩

end Go.Proofs.YtcjmhmmjfgjcnaaGreatDoor.Pa

/- The parser: comparisons. -/
namespace Go.Proofs.YtcjmhmmjfgjcnaaGreatDoor.Pa
open Go.RowKit Go.Proofs.YtcjmhmmjfgjcnaaGreatDoor.Lx
variable {x : Px}

theorem next_take {s : St} {k : Nat} {texts : List Txt} (hx : s.next k texts = true) : s.after k texts = s.drop ∧ s.taken k texts = s.head := by
  unfold St.after St.taken; rw [hx]; exact ⟨rfl, rfl⟩
theorem texts_new {x : Px} {w : World} {lv sv : Value} {s : St} (h : PS x w lv sv s) : w.heap.size ≠ x.B ∧ sv.ownBlock ≠ some w.heap.size := ⟨by have := h.lt; omega, h.own_lt (Nat.le_refl _)⟩

set_option maxHeartbeats 1000000 in
set_option maxRecDepth 100000 in
theorem compared_op (or_ : Nat → St → Option St) (n d : Nat) (hd : d ≤ 16) (h : ReadsAt x 206 (sum or_ n)) (w : World) (lv sv : Value) (s s1 s2 : St) (hp : PS x w lv sv s) (hs1 : sum or_ n d s = some s1) (hx : s1.next 5 relOps = true) (hs2 : sum or_ n d s1.drop = some s2) :
    Calls Tryz.prog 197 #[.pointer (some ⟨x.B, 0, none⟩), .int .i64 d] w (Did x w sv (s2.put ⟨opKind s1.head.text, [], 0⟩)) := by
  have H0 := Lib.hid (h d hd w lv sv s s1 hp hs1)
  have Hsum := Lib.hid (fun w lv sv hp => h d hd w lv sv s1.drop s2 hp hs2)
  have Hx := Lib.hid hx
  have Hx2 := Lib.hid (next_take hx)
  clear hx hs1 hs2 h hp
  go_enter Tryz.func197, Tryz.ntmps197
  go_wp2_with fail
  refine H0.out.mono ?_
  rintro e w1 ⟨rfl, lv1, sv1, h1⟩
  have H1 := Lib.hid h1
  clear h1
  go_wp2_with fail
  refine (take_calls (H1.out.alloc _).ps 5 _ relOps (StrsAt.new w1 relOps 6 _ _ _ rfl rfl) (by decide)).mono ?_
  rw [Hx.out, Hx2.out.1, Hx2.out.2]
  rintro e w3 ⟨rfl, lv3, sv3, h3⟩
  have H3 := Lib.hid ((H1.out.alloc _).trans h3)
  generalize s1.head = T at *
  have Hkept := Lib.hid (fun o w2 lv2 sv2 s2 h2' => kept (o := o) (w' := w2) (lv' := lv2) (sv' := sv2) (s' := s2) h3.ps h2')
  unfold Tok.val
  clear h3
  go_wp2_with fail
  refine (Hsum.out _ _ _ (H3.out.ps.step (alloc_below _ _))).mono ?_
  rintro e w4 ⟨rfl, lv4, sv4, h4⟩
  have H4 := Lib.hid ((H3.out.alloc _).trans h4)
  obtain ⟨⟨k0, k1, k2, k3⟩, -⟩ := four (Hkept.out _ _ _ _ _ h4)
  have hlt4 : w3.heap.size < w4.heap.size := World.block_lt_of_cell? _ _ k0
  clear h4 Hkept
  go_wp2_with fail
  have Hops := Lib.hid (((TextsAt.new w4 operators 11 _ 9 (0, 0) rfl rfl).strs).below ((Below.refl _ (w4.alloc (.cells (strsC operators).toArray 9))).drew))
  have Hd := Lib.hid ((H4.out.alloc (.cells (strsC operators).toArray 9)).drew)
  have Hv := Lib.hid (opVal T.text)
  have hput := put_calls Hd.out.ps ⟨opKind T.text, [], 0⟩
  unfold Stp.val at hput
  simp only [] at hput
  rw [← Hv.out] at hput
  have Hput := Lib.hid hput
  clear hput
  go_region_with ((first | (go_at_call 103; refine (operators_calls _).mono ?_; rintro e w5 ⟨rfl, rfl⟩) | (go_at_call 174; refine (index_calls _ _ operators T.text Hops.out (by decide)).mono ?_; rintro e w5 ⟨rfl, rfl⟩) | (go_at_call 173; refine Hput.out.mono ?_; rintro e w6 ⟨rfl, lv6, sv6, h6⟩)))
  all_goals
    have Hn6 := Lib.hid (Hd.out.trans h6)
    clear h6
    go_wp2_with fail
    go_end0
    exact ⟨rfl, _, _, Hn6.out⟩

set_option maxHeartbeats 1000000 in
set_option maxRecDepth 100000 in
theorem compared_no (or_ : Nat → St → Option St) (n d : Nat) (hd : d ≤ 16) (h : ReadsAt x 206 (sum or_ n)) (w : World) (lv sv : Value) (s s1 : St) (hp : PS x w lv sv s) (hs1 : sum or_ n d s = some s1) (hx : s1.next 5 relOps = false) :
    Calls Tryz.prog 197 #[.pointer (some ⟨x.B, 0, none⟩), .int .i64 d] w (Did x w sv (isNull s1)) := by
  have H0 := Lib.hid (h d hd w lv sv s s1 hp hs1)
  have Hx := Lib.hid hx
  have Hx2 := Lib.hid (need_no hx).2
  clear hx hs1 h hp
  unfold isNull
  cases hi : s1.next 2 [kIS] with
  | false =>
    have Hi2 := Lib.hid (need_no hi).2
    have Hi := Lib.hid hi
    clear hi
    rw [if_neg (by simp)]
    go_enter Tryz.func197, Tryz.ntmps197
    go_wp2_with fail
    refine H0.out.mono ?_
    rintro e w1 ⟨rfl, lv1, sv1, h1⟩
    have H1 := Lib.hid h1
    clear h1
    go_wp2_with fail
    refine (take_calls (H1.out.alloc _).ps 5 _ relOps (StrsAt.new w1 relOps 6 _ _ _ rfl rfl) (by decide)).mono ?_
    rw [Hx.out, Hx2.out]
    rintro e w3 ⟨rfl, lv3, sv3, h3⟩
    have H3 := Lib.hid ((H1.out.alloc _).trans h3)
    generalize s1.taken 5 relOps = T at *
    unfold Tok.val
    clear h3
    go_wp2_with fail
    refine (key_calls (H3.out.alloc _).ps kIS).mono ?_
    rw [Hi.out, Hi2.out]
    rintro e w4 ⟨rfl, lv4, sv4, h4⟩
    have H4 := Lib.hid ((H3.out.alloc _).trans h4)
    clear h4
    go_wp2_with fail
    go_end0
    exact ⟨rfl, _, _, H4.out⟩
  | true =>
    have Hi2 := Lib.hid (next_take hi).1
    have Hi := Lib.hid hi
    clear hi
    rw [if_pos rfl]
    generalize hn1 : s1.drop = s2 at *
    have Hn1 := Lib.hid hn1
    clear hn1
    simp only []
    generalize hn3 : ((s2.after 2 [kNOT]).keys [kNULL]) = s3 at *
    have Hn3 := Lib.hid hn3
    clear hn3
    generalize hF : (if s2.next 2 [kNOT] = true then (s3.put ⟨11, [], 0⟩).put ⟨10, [], 0⟩ else s3.put ⟨11, [], 0⟩) = F at *
    have HF := Lib.hid hF
    clear hF
    go_enter Tryz.func197, Tryz.ntmps197
    go_wp2_with fail
    refine H0.out.mono ?_
    rintro e w1 ⟨rfl, lv1, sv1, h1⟩
    have H1 := Lib.hid h1
    clear h1
    go_wp2_with fail
    refine (take_calls (H1.out.alloc _).ps 5 _ relOps (StrsAt.new w1 relOps 6 _ _ _ rfl rfl) (by decide)).mono ?_
    rw [Hx.out, Hx2.out]
    rintro e w3 ⟨rfl, lv3, sv3, h3⟩
    have H3 := Lib.hid ((H1.out.alloc _).trans h3)
    generalize s1.taken 5 relOps = T at *
    unfold Tok.val
    clear h3
    go_wp2_with fail
    refine (key_calls (H3.out.alloc _).ps kIS).mono ?_
    rw [Hi.out, Hi2.out]
    rintro e w4 ⟨rfl, lv4, sv4, h4⟩
    have H4 := Lib.hid ((H3.out.alloc _).trans h4)
    clear h4
    go_wp2_with fail
    refine (key_calls H4.out.ps kNOT).mono ?_
    rintro e w5 ⟨rfl, lv5, sv5, h5⟩
    have H5 := Lib.hid (H4.out.trans h5)
    clear h5
    go_wp2_with fail
    have ht5 := TextsAt.new w5 [kNULL] 1 _ 9 (0, 0) rfl rfl
    refine (keys_calls (H5.out.alloc _).ps w5.heap.size 1 [kNULL] rfl (by omega) ht5.2 (texts_new H5.out.ps).1 (texts_new H5.out.ps).2).mono ?_
    rw [Hn3.out]
    rintro e w6 ⟨rfl, lv6, sv6, h6⟩
    have H6 := Lib.hid ((H5.out.alloc _).trans h6)
    clear h6 ht5
    go_wp2_with fail
    refine (put_calls H6.out.ps ⟨11, [], 0⟩).mono ?_
    rintro e w7 ⟨rfl, lv7, sv7, h7⟩
    have H7 := Lib.hid (H6.out.trans h7)
    clear h7
    cases hnot : s2.next 2 [kNOT] with
    | false =>
      have HF' := Lib.hid (show s3.put ⟨11, [], 0⟩ = F by rw [← HF.out, if_neg (by rw [hnot]; simp)])
      clear HF
      go_wp2_with fail
      go_end0
      exact ⟨rfl, _, _, by rw [← HF'.out]; exact H7.out⟩
    | true =>
      have HF' := Lib.hid (show (s3.put ⟨11, [], 0⟩).put ⟨10, [], 0⟩ = F by rw [← HF.out, if_pos hnot])
      clear HF
      go_wp2_with fail
      refine (put_calls H7.out.ps ⟨10, [], 0⟩).mono ?_
      rintro e w8 ⟨rfl, lv8, sv8, h8⟩
      have H8 := Lib.hid (H7.out.trans h8)
      clear h8
      go_wp2_with fail
      go_end0
      exact ⟨rfl, _, _, by rw [← HF'.out]; exact H8.out⟩

theorem compared_reads (or_ : Nat → St → Option St) (n : Nat) (h : ReadsAt x 206 (sum or_ n)) : ReadsAt x 197 (compared or_ n) := by
  intro d hd w lv sv s s' hp hr
  unfold compared at hr
  obtain ⟨s1, hs1, hr1⟩ := Option.bind_eq_some_iff.1 hr
  cases hx : s1.next 5 relOps with
  | true =>
    rw [hx, if_pos rfl] at hr1
    obtain ⟨s2, hs2, hr2⟩ := Option.bind_eq_some_iff.1 hr1
    have e : s2.put ⟨opKind s1.head.text, [], 0⟩ = s' := by simpa using hr2
    rw [← e]
    exact compared_op or_ n d hd h w lv sv s s1 s2 hp hs1 hx hs2
  | false =>
    rw [hx, if_neg (by simp)] at hr1
    have e : isNull s1 = s' := by simpa using hr1
    rw [← e]
    exact compared_no or_ n d hd h w lv sv s s1 hp hs1 hx

end Go.Proofs.YtcjmhmmjfgjcnaaGreatDoor.Pa
