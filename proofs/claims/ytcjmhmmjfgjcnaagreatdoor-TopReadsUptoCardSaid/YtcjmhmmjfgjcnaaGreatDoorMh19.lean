/- Parts: PaB PaC. -/
import Derived.Test.YtcjmhmmjfgjcnaaGreatDoorMh18
import Derived.Deep.CutBlock

/- The parser: the parts of a list, of a struct: what is kept in memory. -/
namespace Go.Proofs.YtcjmhmmjfgjcnaaGreatDoor.Pa
open Go.RowKit Go.Proofs.YtcjmhmmjfgjcnaaGreatDoor.Lx
variable {x : Px}

def OwnStrs (w : World) (base : Nat) (v : Value) (l : List Txt) : Prop := w.ownsRow base 9 1 v l.length (strsC l)
theorem OwnStrs.strs {w : World} {base : Nat} {v : Value} {l : List Txt} (h : OwnStrs w base v l) : StrsAt w v l := by
  rcases h.2 with ⟨rfl, h0⟩ | ⟨g, cap, cur, e, _, h2, h3, _⟩
  · have : l = [] := List.eq_nil_of_length_eq_zero h0
    subst this
    exact StrsAt.nil w
  · subst e
    refine ⟨_, _, _, rfl, rfl, h3, fun j hj => ⟨g, rfl, ?_⟩⟩
    rw [World.ownsRow.cellAt h _ (by omega)]
    simp [strsC, List.getElem?_eq_getElem hj]
theorem strsC_snoc (l : List Txt) (t : Txt) : strsC (l ++ [t]) = strsC l ++ [.string ⟨t.toArray⟩] := by simp [strsC]
theorem OwnStrs.nil (w : World) (base : Nat) : OwnStrs w base (.slice none 0 0) [] := ⟨by simp [strsC], .inl ⟨rfl, rfl⟩⟩

structure PartM (x : Px) (w : World) (sv0 : Value) (wr : World) (lv sv : Value) (s : St) (y : Stp) (Bs : Nat) (lval : Value) (l : List Txt) : Prop where
  now : Now x w sv0 wr lv sv s
  stp : wr.heap[Bs]? = some (.cells #[.int .u8 y.kind, .string ⟨y.text.toArray⟩, .int .i64 y.num] 48)
  row : OwnStrs wr w.heap.size lval l
  old : x.W.heap.size ≤ w.heap.size
  low : w.heap.size ≤ Bs
  neB : Bs ≠ x.B
  neS : sv.ownBlock ≠ some Bs
  neR : ∀ g, lval.ownBlock = some g → g ≠ x.B ∧ sv.ownBlock ≠ some g ∧ g ≠ Bs

theorem PartM.lt {w wr : World} {sv0 lv sv lval : Value} {s : St} {y : Stp} {Bs : Nat} {l : List Txt} (h : PartM x w sv0 wr lv sv s y Bs lval l) : Bs < wr.heap.size := lt_of_heap h.stp
theorem PartM.call {w wr w' : World} {sv0 lv sv lv' sv' lval : Value} {s s' : St} {y : Stp} {Bs : Nat} {l : List Txt} (h : PartM x w sv0 wr lv sv s y Bs lval l) (hn : Now x wr sv w' lv' sv' s') : PartM x w sv0 w' lv' sv' s' y Bs lval l := by
  have hlt := h.lt
  have hne : ∀ b, b < wr.heap.size → sv.ownBlock ≠ some b → sv'.ownBlock ≠ some b := fun b hb hs e => by
    rcases hn.new with e' | e'
    · exact hs (by rw [← e']; exact e)
    · have := e' b e; omega
  refine ⟨h.now.trans hn, (hn.keep.2 Bs hlt h.neB h.neS).trans h.stp, own_same h.row fun g hg hlt' => ?_, h.old, h.low, h.neB, hne Bs hlt h.neS, fun g hg => ?_⟩
  · obtain ⟨h1, h2, h3⟩ := h.neR g hg
    exact hn.keep.2 g hlt' h1 h2
  · obtain ⟨h1, h2, h3⟩ := h.neR g hg
    exact ⟨h1, hne g (World.ownsRow.lt h.row g hg).2 h2, h3⟩
theorem PartM.below {w wr w' : World} {sv0 lv sv lval : Value} {s : St} {y : Stp} {Bs : Nat} {l : List Txt} (h : PartM x w sv0 wr lv sv s y Bs lval l) (hb : Below wr.heap.size wr w') : PartM x w sv0 w' lv sv s y Bs lval l :=
  h.call ⟨h.now.ps.step hb, Keep.below hb, NewOr.refl _ _⟩
theorem PartM.alloc {w wr : World} {sv0 lv sv lval : Value} {s : St} {y : Stp} {Bs : Nat} {l : List Txt} (h : PartM x w sv0 wr lv sv s y Bs lval l) (o : Obj) : PartM x w sv0 (wr.alloc o) lv sv s y Bs lval l := h.below (alloc_below _ _)

theorem now_other {w wr w' : World} {sv0 lv sv : Value} {s : St} (h : Now x w sv0 wr lv sv s) (hW : x.W.heap.size ≤ w.heap.size) {Bs : Nat} (hlow : w.heap.size ≤ Bs) (hB : Bs ≠ x.B) (hS : sv.ownBlock ≠ some Bs) (hsz : w'.heap.size = wr.heap.size) (hos : ∀ b, b ≠ Bs → w'.heap[b]? = wr.heap[b]?)
    (hbel : ∀ base, base ≤ Bs → Below base wr w') : Now x w sv0 w' lv sv s :=
  ⟨⟨h.ps.ok, (hos _ (fun e => hB e.symm)).trans h.ps.blk, h.ps.bel.trans (hbel _ (Nat.le_trans hW hlow)), h.ps.left, own_same h.ps.own fun g hg _ => hos g (fun e => hS (by rw [hg, e])), h.ps.ne, h.ps.few⟩, ⟨by rw [hsz]; exact h.keep.1, fun b hb h1 h2 => (hos b (by omega)).trans (h.keep.2 b hb h1 h2)⟩, h.new⟩
theorem PartM.set {w wr : World} {sv0 lv sv lval : Value} {s : St} {y : Stp} {Bs : Nat} {l : List Txt} (h : PartM x w sv0 wr lv sv s y Bs lval l) (y' : Stp) (i : Nat) (v : Value)
    (e : (#[.int .u8 y.kind, .string ⟨y.text.toArray⟩, .int .i64 y.num] : Array Value).setIfInBounds i v = #[.int .u8 y'.kind, .string ⟨y'.text.toArray⟩, .int .i64 y'.num]) :
    PartM x w sv0 (wr.setCell ⟨Bs, i, none⟩ v) lv sv s y' Bs lval l := by
  have hos : ∀ b, b ≠ Bs → (wr.setCell ⟨Bs, i, none⟩ v).heap[b]? = wr.heap[b]? := fun b hb => Below.heap_setCell _ _ _ _ hb
  exact ⟨now_other h.now h.old h.low h.neB h.neS (by simp) hos (fun base hb => (Below.refl _ _).setCell hb _), set_block h.stp _ _ e, own_same h.row fun g hg _ => hos g (h.neR g hg).2.2, h.old, h.low, h.neB, h.neS, h.neR⟩
theorem PartM.more {w wr w1 : World} {sv0 lv sv lval v1 : Value} {s : St} {y : Stp} {Bs : Nat} {l : List Txt} (h : PartM x w sv0 wr lv sv s y Bs lval l) (t : Txt) (hown : w1.ownsRow w.heap.size 9 1 v1 (l.length + 1) (strsC l ++ [.string ⟨t.toArray⟩]))
    (hg : wr.grownBy w1 lval.ownBlock) (hat : v1.ownBlock = lval.ownBlock ∨ ∃ b, v1.ownBlock = some b ∧ wr.heap.size ≤ b) : PartM x w sv0 w1 lv sv s y Bs v1 (l ++ [t]) := by
  have hlt := h.lt
  have hps := h.now.ps
  have hkeep : ∀ b, b < wr.heap.size → lval.ownBlock ≠ some b → w1.heap[b]? = wr.heap[b]? := fun b hb hs => hg.block b hb (fun e => hs e.symm)
  have hB : lval.ownBlock ≠ some x.B := fun e => (h.neR _ e).1 rfl
  have hS : lval.ownBlock ≠ some Bs := fun e => (h.neR _ e).2.2 rfl
  have hrow : ∀ g, lval.ownBlock = some g → w.heap.size ≤ g ∧ g < wr.heap.size := fun g hg => World.ownsRow.lt h.row g hg
  refine ⟨⟨⟨hps.ok, (hkeep _ hps.lt hB).trans hps.blk, hps.bel.grown hg hps.bel.size fun b hb => Nat.le_trans h.old (hrow b hb).1, hps.left, own_same hps.own fun g hg' hlt' => hkeep g hlt' (fun e => (h.neR g e).2.1 hg'), hps.ne, hps.few⟩,
    ⟨Nat.le_trans h.now.keep.1 hg.size, fun b hb h1 h2 => (hkeep b (Nat.lt_of_lt_of_le hb h.now.keep.1) (fun e => by have := (hrow b e).1; omega)).trans (h.now.keep.2 b hb h1 h2)⟩, h.now.new⟩, (hkeep _ hlt hS).trans h.stp, ?_, h.old, h.low, h.neB, h.neS, fun g hg' => ?_⟩
  · unfold OwnStrs
    rw [strsC_snoc, List.length_append]
    exact hown
  · rcases hat with e | ⟨b, e, hb⟩
    · exact h.neR g (by rw [← e]; exact hg')
    · rw [e] at hg'
      have := Option.some.inj hg'
      have hlS : sv.ownBlock ≠ some b := hps.own_lt hb
      have := hps.lt
      refine ⟨by omega, by rw [← Option.some.inj hg']; exact hlS, by omega⟩

end Go.Proofs.YtcjmhmmjfgjcnaaGreatDoor.Pa

/- The parser: the parts of a list, of a struct: the walk. -/
namespace Go.Proofs.YtcjmhmmjfgjcnaaGreatDoor.Pa
open Go.RowKit Go.Proofs.YtcjmhmmjfgjcnaaGreatDoor.Lx
variable {x : Px}

theorem three {w : World} {B : Nat} {a b c : Value} {T : TypeId} (h : w.heap[B]? = some (.cells #[a, b, c] T)) :
    (w.cell? ⟨B, 0, none⟩ = some a ∧ w.cell? ⟨B, 1, none⟩ = some b ∧ w.cell? ⟨B, 2, none⟩ = some c) ∧
    (w.frozen? ⟨B, 0, none⟩ = false ∧ w.frozen? ⟨B, 1, none⟩ = false ∧ w.frozen? ⟨B, 2, none⟩ = false) := by
  simp [World.cell?, World.frozen?, h]
theorem PartM.start {w : World} {lv sv : Value} {s : St} (h : PS x w lv sv s) (y : Stp) : PartM x w sv (w.alloc (.cells #[.int .u8 y.kind, .string ⟨y.text.toArray⟩, .int .i64 y.num] 48)) lv sv s y w.heap.size (.slice none 0 0) [] :=
  ⟨(Now.refl h).alloc _, heap_alloc_new _ _, OwnStrs.nil _ _, h.bel.size, Nat.le_refl _, (texts_new h).1, (texts_new h).2, fun g hg => by simp [Value.ownBlock] at hg⟩

theorem StrsAt.new' (w : World) (l : List Txt) (n B0 : Nat) (cs : Array Value) (T : TypeId) (mk : Nat × Nat) (hcs : cs = (strsC l).toArray) (hn : l.length = n) (hB : w.heap.size = B0) : StrsAt (w.alloc (.cells cs T mk)) (.slice (some ⟨B0, 0, none⟩) n n) l := by
  subst hB
  exact StrsAt.new w l n cs T mk hcs hn

structure PartB (y0 y : Stp) (l : List Txt) : Prop where
  kind : y.kind = y0.kind
  text : y.text = y0.text
  lo : 0 ≤ y.num
  hi : y.num ≤ 64
  len : (l.length : Int) ≤ y.num
  each : ∀ t ∈ l, t.length ≤ 16384

theorem strInfo : (Tryz.prog.info? 9).map (fun i => (i.zero, i.size, i.bytes)) = some (some (.string ⟨#[]⟩), 1, 16) := by kernel_rfl

set_option maxHeartbeats 400000 in
set_option maxRecDepth 100000 in
theorem parts_none (d : Nat) (y : Stp) (end_ : Txt) (w : World) (lv sv : Value) (s : St) (hp : PS x w lv sv s) (hx : s.next 5 [end_] = true) :
    Calls Tryz.prog 212 #[.pointer (some ⟨x.B, 0, none⟩), y.val, .string ⟨end_.toArray⟩, .int .i64 d] w (Did x w sv (s.drop.put y)) := by
  have Hm := Lib.hid (PartM.start hp y)
  have Hx := Lib.hid hx
  have Hx2 := Lib.hid (next_take hx)
  unfold Stp.val
  clear hp hx
  go_enter Tryz.func212, Tryz.ntmps212
  go_wp2_with fail
  refine (take_calls (Hm.out.alloc _).now.ps 5 _ [end_] (StrsAt.new' _ [end_] 1 _ _ _ _ rfl rfl (by simp)) (by simp)).mono ?_
  rw [Hx.out, Hx2.out.1, Hx2.out.2]
  rintro e w1 ⟨rfl, lv1, sv1, h1⟩
  have M1 := Lib.hid (((Hm.out.alloc _).call h1).alloc (.cells #[.int .u8 s.head.kind, .string ⟨s.head.text.toArray⟩, .int .i64 s.head.num, .int .i64 s.head.pos] 41))
  generalize s.head = T at *
  have hz := ((Hm.out.alloc _).call h1).lt
  obtain ⟨⟨q0, q1, q2⟩, -⟩ := three ((Hm.out.alloc _).call h1).stp
  unfold Tok.val
  clear h1
  go_wp2_with fail
  refine (put_calls M1.out.now.ps y).mono ?_
  rintro e w2 ⟨rfl, lv2, sv2, h2⟩
  have M2 := Lib.hid (M1.out.call h2)
  clear h2
  go_wp2_with fail
  go_end0
  exact ⟨rfl, _, _, M2.out.now⟩

theorem commas_cons (a b : Txt) (r : List Txt) : commas (a :: b :: r) = a ++ 44 :: commas (b :: r) := by
  rw [commas]
  simp
theorem commas_snoc : ∀ (l : List Txt) (t : Txt), l ≠ [] → commas (l ++ [t]) = commas l ++ 44 :: t
  | [], _, h => absurd rfl h
  | [a], t, _ => by rw [List.singleton_append, commas_cons]; rfl
  | a :: b :: r, t, _ => by
    have := commas_snoc (b :: r) t (by simp)
    rw [List.cons_append] at this
    rw [List.cons_append, List.cons_append, commas_cons, commas_cons, this]
    simp
theorem commas_len : ∀ (l : List Txt), (∀ t ∈ l, t.length ≤ 16384) → (commas l).length ≤ l.length * 16385
  | [], _ => by simp [commas]
  | [a], h => by have := h a (by simp); simp [commas]; omega
  | a :: b :: r, h => by
    have h1 := h a (by simp)
    have h2 := commas_len (b :: r) fun t ht => h t (by simp at ht ⊢; exact .inr ht)
    rw [commas]
    · simp only [List.length_append, List.length_cons] at h2 ⊢
      omega
    · simp
def joinTo (t : Txt) (l : List Txt) (k : Nat) : Txt := t ++ commas (l.take k)
theorem joinTo_zero (t : Txt) (l : List Txt) : joinTo t l 0 = t := by simp [joinTo, commas]
theorem joinTo_one (t : Txt) (l : List Txt) (h : 0 < l.length) : joinTo t l 1 = joinTo t l 0 ++ l[0] := by
  cases l with
  | nil => simp at h
  | cons a r => simp [joinTo, commas]
theorem joinTo_succ (t : Txt) (l : List Txt) (k : Nat) (h : k < l.length) (hk : 0 < k) : joinTo t l (k + 1) = joinTo t l k ++ ([44] ++ l[k]) := by
  unfold joinTo
  rw [List.take_succ_eq_append_getElem h, commas_snoc]
  · simp
  · intro e
    have : (l.take k).length = 0 := by rw [e]; rfl
    rw [List.length_take] at this
    omega
theorem joinTo_all (t : Txt) (l : List Txt) (k : Nat) (h : l.length ≤ k) : joinTo t l k = t ++ commas l := by unfold joinTo; rw [List.take_of_length_le h]
theorem joinTo_len (t : Txt) (l : List Txt) (k : Nat) (hl : ∀ u ∈ l, u.length ≤ 16384) (hn : l.length ≤ 64) (ht : t.length ≤ 1000) : (joinTo t l k).length ≤ 2000000 := by
  have h1 := commas_len (l.take k) fun u hu => hl u (List.mem_of_mem_take hu)
  have h2 : (l.take k).length ≤ 64 := by rw [List.length_take]; omega
  unfold joinTo
  rw [List.length_append]
  omega

def PartR (x : Px) (w : World) (sv0 : Value) (or_ : St → Option St) (end_ : Txt) (y0 : Stp) (s' : St) (gk : Nat) (v8 : Value) (wr : World) : Prop :=
  ∃ lv sv s y l, PartM x w sv0 wr lv sv s y w.heap.size v8 l ∧ partsL or_ end_ gk y l s = some s' ∧ PartB y0 y l

theorem names_bound {y0 y : Stp} {l : List Txt} (h : PartB y0 y l) {t : Txt} (ht : t.length ≤ 16384) : ∀ u ∈ l ++ [t], u.length ≤ 1073741824 := by
  intro u hu
  rcases List.mem_append.1 hu with h' | h'
  · have := h.each u h'; omega
  · simp at h'; subst h'; omega

theorem partN_bound {w wr : World} {sv0 lv sv lval : Value} {s : St} {y0 y : Stp} {Bs : Nat} {l : List Txt} (h : PartM x w sv0 wr lv sv s y Bs lval l) (hB : PartB y0 y l) (hn : y.num < 64) :
    PartB y0 { y with num := y.num + 1 } (partN y l s).1 := by
  have h1 := hB.lo
  have h2 := hB.hi
  have h3 := hB.len
  have h4 := nameT_le h.now.ps.left_mem.1
  unfold partN
  split
  · refine ⟨hB.kind, hB.text, by simp only; omega, by simp only; omega, by simp only [List.length_append, List.length_cons, List.length_nil]; omega, fun t ht => ?_⟩
    rcases List.mem_append.1 ht with h' | h'
    · exact hB.each t h'
    · simp at h'; subst h'; exact h4
  · exact ⟨hB.kind, hB.text, by simp only; omega, by simp only; omega, by simp only; omega, hB.each⟩

set_option maxHeartbeats 4000000 in
set_option maxRecDepth 100000 in
theorem parts_some (d : Nat) (y0 : Stp) (end_ : Txt) (or_ : St → Option St) (hor : Reads x 127 d or_) (n : Nat) (w : World) (lv sv : Value) (s s' : St) (hp : PS x w lv sv s) (hx : s.next 5 [end_] = false) (h0 : PartB y0 y0 []) (ht0 : y0.text.length ≤ 1000)
    (hr : partsL or_ end_ n y0 [] s = some s') :
    Calls Tryz.prog 212 #[.pointer (some ⟨x.B, 0, none⟩), y0.val, .string ⟨end_.toArray⟩, .int .i64 d] w (Did x w sv s') := by
  have Hm := Lib.hid (PartM.start hp y0)
  have Hx := Lib.hid hx
  have Hx2 := Lib.hid (need_no hx).2
  have Hor := Lib.hid hor
  have Hr := Lib.hid hr
  have H0 := Lib.hid h0
  have Ht0 := Lib.hid ht0
  unfold Stp.val
  clear hp hx hor hr h0 ht0
  go_enter Tryz.func212, Tryz.ntmps212
  go_wp2_with fail
  refine (take_calls (Hm.out.alloc _).now.ps 5 _ [end_] (StrsAt.new' _ [end_] 1 _ _ _ _ rfl rfl (by simp)) (by simp)).mono ?_
  rw [Hx.out, Hx2.out]
  rintro e w1 ⟨rfl, lv1, sv1, h1⟩
  have M1 := Lib.hid (((Hm.out.alloc _).call h1).alloc (.cells #[.int .u8 (s.taken 5 [end_]).kind, .string ⟨(s.taken 5 [end_]).text.toArray⟩, .int .i64 (s.taken 5 [end_]).num, .int .i64 (s.taken 5 [end_]).pos] 41))
  generalize s.taken 5 [end_] = T at *
  unfold Tok.val
  clear h1
  go_wp2_with fail
  go_loopg [8] n (fun gk v8 wr => Hid (PartR x w sv or_ end_ y0 s' gk v8 wr))
  case atStart => exact ⟨_, _, _, _, _, M1.out, Hr.out, H0.out⟩
  case round =>
    obtain ⟨lv2, sv2, s2, y, l, M2, hr2, hB⟩ := hrel
    cases gk with
    | zero => simp [partsL] at hr2
    | succ m =>
      rw [partsL] at hr2
      have hlo := hB.lo
      have hhi := hB.hi
      have hlen := hB.len
      obtain ⟨a8, c8, rfl⟩ := own_form M2.row
      obtain ⟨⟨c0, c1, c2, c3, c4⟩, -⟩ := five M2.now.ps.blk
      obtain ⟨⟨q0, q1, q2⟩, g0, g1, g2⟩ := three M2.stp
      have HM := Lib.hid M2
      have HB := Lib.hid hB
      by_cases hw : s2.why = 0
      · have hb : ((s2.why : Int) == 0) = true := by rw [beq_iff_eq]; omega
        rw [if_pos hw] at hr2
        by_cases hmany : 64 ≤ y.num
        · rw [if_pos hmany] at hr2
          have hs : s2.fail 3 s2.place = s' := by simpa using hr2
          subst hs
          have Hd := Lib.hid (M2.below (Below.refl _ wr).drew)
          clear hr2 M2 hB hw
          go_wp2_with fail
          go_region_with ((first | (go_at_call 43; refine (place_calls Hd.out.now.ps).mono ?_; rintro e w' ⟨rfl, rfl⟩) | (go_at_call 42; refine (fail_calls Hd.out.now.ps 3 s2.place).mono ?_; rintro e w' ⟨rfl, lv3, sv3, h3⟩)))
          all_goals
            have M3 := Lib.hid (Hd.out.call h3)
            clear h3
            go_wp2_with fail
            go_end0
            exact ⟨rfl, _, _, M3.out.now⟩
        · rw [if_neg hmany] at hr2
          obtain ⟨s4, hs4, hr4⟩ := Option.bind_eq_some_iff.1 hr2
          have Hs4 := Lib.hid hs4
          have Hr4 := Lib.hid hr4
          clear hr2 M2 hB hw hs4 hr4
          go_upto_if 48 with fail
          go_cut [8] (fun v8 wx => Hid (∃ lv3 sv3, PartM x w sv wx lv3 sv3 (partN y l s2).2 y w.heap.size v8 (partN y l s2).1))
          case first =>
            have hnm := nameT_le HM.out.now.ps.left_mem.1
            have hll : l.length ≤ 64 := by omega
            by_cases hk8 : y.kind = 8
            · have hkb : ((y.kind : Int) == 8) = true := by rw [beq_iff_eq]; omega
              have He := Lib.hid (show partN y l s2 = (l ++ [s2.nameT], (if (l ++ [s2.nameT]).Nodup then s2.name else s2.name.fail 18 s2.place).sign [58]) by unfold partN; rw [if_pos hk8])
              have Hnb := Lib.hid (names_bound HB.out hnm)
              have Hnl := Lib.hid (show (l ++ [s2.nameT]).length ≤ 1048576 by simp; omega)
              obtain ⟨i0, hi0, hz0, hz1, hz2⟩ := info_parts strInfo
              have Hi0 := Lib.hid hi0
              have Hz0 := Lib.hid hz0
              have Hz1 := Lib.hid hz1
              have Hz2 := Lib.hid hz2
              clear hk8 hi0 hz0 hz1 hz2 hnm
              go_wp2_with fail
              refine (place_calls HM.out.now.ps).mono ?_
              rintro e w3 ⟨rfl, rfl⟩
              go_wp2_with fail
              refine (name_calls HM.out.now.ps).mono ?_
              rintro e w3 ⟨rfl, lv3, sv3, h3⟩
              have M3 := Lib.hid ((HM.out.call h3).alloc (.cells #[.string ⟨s2.nameT.toArray⟩] 9))
              have hnews : (w3.alloc (.cells #[.string ⟨s2.nameT.toArray⟩] 9)).heap[w3.heap.size]? = some (.cells #[.string ⟨s2.nameT.toArray⟩] 9) := heap_alloc_new _ _
              have Hnews := Lib.hid (World.news_of_block (cs := #[.string ⟨s2.nameT.toArray⟩]) (t := 9) (fr := (0, 0)) hnews)
              clear h3 hnews
              generalize hS : s2.nameT = N at *
              have HS := Lib.hid hS
              clear hS
              go_wp2_with (at_builtin; go_must (refine wpList_append_own_at _ rfl _ _ 93 rfl w.heap.size 9 i0 _ 1 16 Tryz.underlying93 Hi0.out Hz0.out Hz1.out Hz2.out rfl (by decide) _ l.length (strsC l) rfl M3.out.row ⟨w3.heap.size, 0, none⟩ 1 1 [.string ⟨N.toArray⟩] rfl rfl ?c1 ?c2 ?c3 ?c4 ?c5 ?_))
              case c1 => exact Hnews.out
              case c2 => simp [Value.oneCell']
              case c3 => unfold maxLen; omega
              case c4 => omega
              case c5 => exact M3.out.now.keep.1
              intro v9 w4 hown4 hgrow4 _ hat4
              have m4 := M3.out.more N hown4 hgrow4 (by rcases hat4 with h | h; exact .inl h; exact .inr ⟨_, h, by simp⟩)
              obtain ⟨a9, c9, rfl⟩ := own_form hown4
              have M4 := Lib.hid m4
              clear hown4 hgrow4 hat4 m4
              go_wp2_with fail
              have hap := apart_calls w4 _ (l ++ [N]) M4.out.row.strs Hnl.out Hnb.out
              by_cases hnd : (l ++ [N]).Nodup
              · rw [decide_eq_true hnd] at hap
                have He2 := Lib.hid (show partN y l s2 = (l ++ [N], s2.name.sign [58]) by rw [He.out, if_pos hnd])
                clear hnd
                refine hap.mono ?_
                rintro e w5 ⟨rfl, hb5⟩
                have M5 := Lib.hid (M4.out.below hb5)
                clear hb5 hap
                go_wp2_with fail
                refine (sign_calls M5.out.now.ps [58]).mono ?_
                rintro e w6 ⟨rfl, lv6, sv6, h6⟩
                have M6 := Lib.hid (M5.out.call h6)
                clear h6
                go_wp2_with fail
                go_meet
                exact ⟨lv6, sv6, by rw [He2.out]; exact M6.out⟩
              · rw [decide_eq_false hnd] at hap
                have He2 := Lib.hid (show partN y l s2 = (l ++ [N], (s2.name.fail 18 s2.place).sign [58]) by rw [He.out, if_neg hnd])
                clear hnd
                refine hap.mono ?_
                rintro e w5 ⟨rfl, hb5⟩
                have M5 := Lib.hid (M4.out.below hb5)
                clear hb5 hap
                go_wp2_with fail
                refine (fail_calls M5.out.now.ps 18 s2.place).mono ?_
                rintro e w6 ⟨rfl, lv6, sv6, h6⟩
                have M6 := Lib.hid (M5.out.call h6)
                clear h6
                go_wp2_with fail
                refine (sign_calls M6.out.now.ps [58]).mono ?_
                rintro e w7 ⟨rfl, lv7, sv7, h7⟩
                have M7 := Lib.hid (M6.out.call h7)
                clear h7
                go_wp2_with fail
                go_meet
                exact ⟨lv7, sv7, by rw [He2.out]; exact M7.out⟩
            · have hkb : ((y.kind : Int) == 8) = false := by rw [beq_eq_false_iff_ne]; omega
              have He := Lib.hid (show partN y l s2 = (l, s2) by unfold partN; rw [if_neg hk8])
              clear hk8
              go_wp2_with fail
              go_meet
              exact ⟨lv2, sv2, by rw [He.out]; exact HM.out⟩
          case rest =>
            obtain ⟨lv3, sv3, M3⟩ := hcut
            have HM3 := Lib.hid M3
            have HB4 := Lib.hid (partN_bound HM.out HB.out (by omega))
            obtain ⟨a8', c8', rfl⟩ := own_form M3.row
            clear c0 c1 c2 c3 c4 q0 q1 q2 g0 g1 g2 M3
            generalize hpn : (partN y l s2).2 = s3 at *
            generalize (partN y l s2).1 = l' at *
            clear hpn
            have hlen' : l'.length ≤ 64 := by have := HB4.out.len; have := HB4.out.hi; simp only [] at *; omega
            go_wp2_with fail
            refine (Hor.out _ _ _ _ s4 HM3.out.now.ps Hs4.out).mono ?_
            rintro e w4 ⟨rfl, lv4, sv4, h4⟩
            have m4 := HM3.out.call h4
            obtain ⟨⟨q0, q1, q2⟩, g0, g1, g2⟩ := three m4.stp
            have M5 := Lib.hid (m4.set { y with num := y.num + 1 } 2 (.int .i64 (y.num + 1)) rfl)
            have hblt := m4.now.ps.lt
            have hslt := m4.lt
            have hneB := m4.neB
            clear h4 m4
            obtain ⟨⟨c0, c1, c2, c3, c4⟩, -⟩ := five M5.out.now.ps.blk
            have hr5 := Hr4.out
            unfold partsB at hr5
            by_cases hw4 : s4.why = 0
            · have hb4 : ((s4.why : Int) == 0) = true := by rw [beq_iff_eq]; omega
              have hb5 : ((s4.why : Int) != 0) = false := by rw [bne_eq_false_iff_eq]; omega
              rw [if_pos hw4] at hr5
              cases hx4 : s4.next 5 [end_] with
              | false =>
                rw [hx4, if_neg (by simp)] at hr5
                have Hr5 := Lib.hid hr5
                have Hx4 := Lib.hid hx4
                have Hx5 := Lib.hid (need_no hx4).2
                clear hr5 hx4 hw4
                go_wp2_with fail
                refine (take_calls (M5.out.alloc _).now.ps 5 _ [end_] (StrsAt.new' _ [end_] 1 _ _ _ _ rfl rfl (by simp)) (by simp)).mono ?_
                rw [Hx4.out, Hx5.out]
                rintro e w6 ⟨rfl, lv6, sv6, h6⟩
                generalize s4.taken 5 [end_] = T6 at *
                have M6 := Lib.hid (((M5.out.alloc _).call h6).alloc (.cells #[.int .u8 T6.kind, .string ⟨T6.text.toArray⟩, .int .i64 T6.num, .int .i64 T6.pos] 41))
                unfold Tok.val
                clear h6
                go_wp2_with fail
                refine (sign_calls M6.out.now.ps [44]).mono ?_
                rintro e w7 ⟨rfl, lv7, sv7, h7⟩
                have M7 := Lib.hid (M6.out.call h7)
                clear h7
                go_wp2_with fail
                go_roundg m
                case measure => omega
                case rel => exact ⟨_, _, _, _, _, M7.out, Hr5.out, HB4.out⟩
              | true =>
                rw [hx4, if_pos rfl] at hr5
                have hs : s4.drop.put { kind := y.kind, text := y.text ++ commas l', num := y.num + 1 } = s' := by simpa using hr5
                subst hs
                have Hx4 := Lib.hid hx4
                have Hx5 := Lib.hid (next_take hx4)
                have hyt : y.text.length ≤ 1000 := by have := HB4.out.text; simp only [] at this; rw [this]; exact Ht0.out
                have Hjl := Lib.hid (fun k => joinTo_len y.text l' k HB4.out.each hlen' hyt)
                clear hr5 hx4 hw4 hyt
                go_wp2_with fail
                refine (take_calls (M5.out.alloc _).now.ps 5 _ [end_] (StrsAt.new' _ [end_] 1 _ _ _ _ rfl rfl (by simp)) (by simp)).mono ?_
                rw [Hx4.out, Hx5.out.1, Hx5.out.2]
                rintro e w6 ⟨rfl, lv6, sv6, h6⟩
                generalize s4.head = T6 at *
                have M6 := Lib.hid (((M5.out.alloc _).call h6).alloc (.cells #[.int .u8 T6.kind, .string ⟨T6.text.toArray⟩, .int .i64 T6.num, .int .i64 T6.pos] 41))
                unfold Tok.val
                clear h6
                go_wp2_with fail
                generalize hnl : l'.length = nl at *
                have Hnl := Lib.hid hnl
                clear hnl
                go_loopw [97] (fun i wr => ∃ k : Nat, k ≤ nl ∧ i = .int .i64 k ∧ Hid (∃ lv7 sv7, PartM x w sv wr lv7 sv7 s4.drop { kind := y.kind, text := joinTo y.text l' k, num := y.num + 1 } w.heap.size (.slice a8' nl c8') l')) (fun i _ => nl - (intOf i).toNat)
                case atStart => exact ⟨0, Nat.zero_le _, rfl, _, _, by rw [joinTo_zero]; exact M6.out⟩
                case round =>
                  obtain ⟨k, hk, rfl, lv7, sv7, M7⟩ := hrel
                  have HM7 := Lib.hid M7
                  obtain ⟨⟨q0, q1, q2⟩, g0, g1, g2⟩ := three M7.stp
                  clear c0 c1 c2 c3 c4
                  by_cases hlt : k < nl
                  · have hkl : k < l'.length := by rw [Hnl.out]; exact hlt
                    obtain ⟨a, nn, cc, ev, _, _, hj⟩ := M7.row.strs
                    obtain ⟨gg, ea, hcell⟩ := hj k hkl
                    simp only [Value.slice.injEq] at ev
                    obtain ⟨rfl, rfl, rfl⟩ := ev
                    subst ea
                    have hne : gg ≠ w.heap.size := (M7.neR gg rfl).2.2
                    have hul := HB4.out.each _ (List.getElem_mem hkl)
                    have hjl := Hjl.out k
                    have hi64 : k ≤ 64 := by omega
                    rcases Nat.eq_zero_or_pos k with hk0 | hk0
                    · subst hk0
                      have HJ := Lib.hid (joinTo_one y.text l' hkl)
                      generalize l'[0] = u at *
                      have hjl2 : (joinTo y.text l' 0).length + u.length ≤ 9223372036854775807 := by omega
                      have M8 := Lib.hid (HM7.out.set { kind := y.kind, text := joinTo y.text l' 1, num := y.num + 1 } 1 (.string (⟨(joinTo y.text l' 0).toArray⟩ ++ ⟨u.toArray⟩)) (by rw [HJ.out, ← cat2]; rfl))
                      go_wp2_with fail
                      go_roundw
                      case rel => exact ⟨1, by omega, by go_num, _, _, M8.out⟩
                      case measure => simp [intOf]; omega
                    · have HJ := Lib.hid (joinTo_succ y.text l' k hkl hk0)
                      generalize l'[k] = u at *
                      have hjl2 : (joinTo y.text l' k).length + 1 ≤ 9223372036854775807 := by omega
                      have hjl3 : (joinTo y.text l' k).length + 1 + u.length ≤ 9223372036854775807 := by omega
                      have M8 := Lib.hid ((HM7.out.set { kind := y.kind, text := joinTo y.text l' k ++ [44], num := y.num + 1 } 1 (.string (⟨(joinTo y.text l' k).toArray⟩ ++ ⟨#[44]⟩)) (by rw [show (⟨#[44]⟩ : ByteArray) = ⟨([44] : Txt).toArray⟩ from rfl, cat2]; rfl)).set { kind := y.kind, text := joinTo y.text l' (k + 1), num := y.num + 1 } 1 (.string (⟨(joinTo y.text l' k).toArray⟩ ++ ⟨#[44]⟩ ++ ⟨u.toArray⟩)) (by rw [HJ.out, show (⟨#[44]⟩ : ByteArray) = ⟨([44] : Txt).toArray⟩ from rfl, cat2, cat2, List.append_assoc]; rfl))
                      go_wp2_with fail
                      go_roundw
                      case rel => exact ⟨k + 1, by omega, by go_num, _, _, M8.out⟩
                      case measure => simp [intOf]; omega
                  · have HJ := Lib.hid (joinTo_all y.text l' k (by rw [Hnl.out]; omega))
                    go_wp2_with fail
                    refine (put_calls HM7.out.now.ps { kind := y.kind, text := joinTo y.text l' k, num := y.num + 1 }).mono ?_
                    rintro e w8 ⟨rfl, lv8, sv8, h8⟩
                    have M8 := Lib.hid (HM7.out.call h8)
                    clear h8
                    go_wp2_with fail
                    go_end0
                    exact ⟨rfl, _, _, by rw [← HJ.out]; exact M8.out.now⟩
            · have hb4 : ((s4.why : Int) == 0) = false := by rw [beq_eq_false_iff_ne]; omega
              have hb5 : ((s4.why : Int) != 0) = true := by rw [bne_iff_ne]; omega
              rw [if_neg hw4] at hr5
              have hs : s4 = s' := by simpa using hr5
              subst hs
              clear hr5 hw4
              go_wp2_with fail
              go_end0
              exact ⟨rfl, _, _, M5.out.now⟩
      · have hb : ((s2.why : Int) == 0) = false := by rw [beq_eq_false_iff_ne]; omega
        rw [if_neg hw] at hr2
        have hs : s2 = s' := by simpa using hr2
        subst hs
        clear hr2 M2 hB hw
        go_wp2_with fail
        go_end0
        exact ⟨rfl, _, _, HM.out.now⟩

end Go.Proofs.YtcjmhmmjfgjcnaaGreatDoor.Pa
