/- Parts: PaX PaB. -/
import Derived.Test.YtcjmhmmjfgjcnaaGreatDoorMc22
import Derived.Test.YtcjmhmmjfgjcnaaGreatDoorMc33

/- The parser: paths. -/
namespace Go.Proofs.YtcjmhmmjfgjcnaaGreatDoor.Pa
open Go.RowKit Go.Proofs.YtcjmhmmjfgjcnaaGreatDoor.Lx
variable {x : Px}

theorem cat2 (a b : Txt) : (⟨a.toArray⟩ ++ ⟨b.toArray⟩ : ByteArray) = ⟨(a ++ b).toArray⟩ := by
  apply L_inj
  rw [L_mk]
  show (_ ++ _ : ByteArray).data.toList = _
  rw [ByteArray.data_append]
  simp
theorem cat3' (a b c : Txt) : (⟨a.toArray⟩ ++ (⟨b.toArray⟩ ++ ⟨c.toArray⟩) : ByteArray) = ⟨(a ++ (b ++ c)).toArray⟩ := by
  rw [cat2, cat2]

theorem PS.left_mem {w : World} {lv sv : Value} {s : St} (h : PS x w lv sv s) : (∀ t ∈ s.left, TokFits t) ∧ s.left.length ≤ 16384 := by
  obtain ⟨k, n, c, a, rfl, hn, hc, hd⟩ := h.left
  rcases hd with e | ⟨rfl, e⟩
  · rw [e]; exact ⟨fun t ht => by simp at ht, by simp⟩
  · rw [e]
    refine ⟨fun t ht => h.ok.fits t (List.mem_of_mem_drop ht), ?_⟩
    have := h.ok.few
    rw [List.length_drop]; omega
theorem head_le {s : St} (h : ∀ t ∈ s.left, TokFits t) : s.head.text.length ≤ 16384 ∧ 0 ≤ s.head.num ∧ s.head.num ≤ 9223372036854775807 := by
  unfold St.head
  cases hl : s.left with
  | nil => simp [tok0]
  | cons t r =>
    have := h t (by rw [hl]; simp)
    exact ⟨this.txt, this.lo, this.hi⟩
theorem nameT_le {s : St} (h : ∀ t ∈ s.left, TokFits t) : s.nameT.length ≤ 16384 := by
  unfold St.nameT St.taken
  split
  · exact (head_le h).1
  · simp [tok0]
theorem drop_len {s : St} {k : Nat} {texts : List Txt} (hx : s.next k texts = true) : s.left.length = s.drop.left.length + 1 := by
  cases hl : s.left with
  | nil => rw [next_nil hl] at hx; cases hx
  | cons t r => unfold St.drop; simp [hl]
theorem fail_len (s : St) (a b : Nat) : (s.fail a b).left.length ≤ s.left.length := by unfold St.fail; split <;> simp
theorem need_len (s : St) (k : Nat) (texts : List Txt) : (s.need k texts).left.length ≤ s.left.length := by
  unfold St.need
  split
  · rename_i h; have := drop_len h; omega
  · exact fail_len _ _ _
theorem itoa_len (n : Int) (h0 : 0 ≤ n) (h : n ≤ 9223372036854775807) : (Lib.itoa n).length ≤ 21 := by
  obtain ⟨m, rfl⟩ := Int.eq_ofNat_of_zero_le h0
  have : Lib.itoa (m : Int) = Lib.decDigits m := by unfold Lib.itoa; rw [if_neg (by omega)]; simp
  rw [this]
  exact dec_length m (by omega)

set_option maxHeartbeats 1000000 in
set_option maxRecDepth 100000 in
theorem path_calls (n : Nat) (w : World) (lv sv : Value) (s s' : St) (hp : PS x w lv sv s) (hr : path n s = some s') :
    Calls Tryz.prog 211 #[.pointer (some ⟨x.B, 0, none⟩)] w (Did x w sv s') := by
  unfold path at hr
  obtain ⟨r, hr1, hr2⟩ := Option.map_eq_some_iff.1 hr
  have hm := hp.left_mem
  have Hb := Lib.hid (show s.nameT.length + 16385 * s.name.left.length ≤ 268468225 by
    have h1 := nameT_le hm.1
    have h2 := need_len s 1 []
    have h3 : s.name.left.length = (s.need 1 []).left.length := rfl
    omega)
  have Hr1 := Lib.hid hr1
  have Hr2 := Lib.hid hr2
  have Hp := Lib.hid hp
  clear hr hr1 hr2 hp hm
  go_enter Tryz.func211, Tryz.ntmps211
  go_wp2_with fail
  refine (name_calls Hp.out).mono ?_
  rintro e w1 ⟨rfl, lv1, sv1, h1⟩
  have H1 := Lib.hid h1
  clear h1
  go_wp2_with fail
  go_loopg [2] n (fun gk v2 wr => ∃ X : Txt, v2 = .string ⟨X.toArray⟩ ∧ Hid (∃ lv2 sv2 s2, Now x w sv wr lv2 sv2 s2 ∧ pathL gk X s2 = some r ∧ X.length + 16385 * s2.left.length ≤ 268468225))
  case atStart => exact ⟨_, rfl, _, _, _, H1.out, Hr1.out, Hb.out⟩
  case round =>
    obtain ⟨X, rfl, lv2, sv2, s2, h2, hr2, hb2⟩ := hrel
    cases gk with
    | zero => simp [pathL] at hr2
    | succ m =>
      rw [pathL] at hr2
      have H2 := Lib.hid h2
      cases hx : s2.next 5 [[46]] with
      | false =>
        rw [if_neg (by rw [hx]; simp)] at hr2
        have hs : (X, s2) = r := by simpa using hr2
        have Hs := Lib.hid hs
        have Hx := Lib.hid hx
        have Hx2 := Lib.hid (need_no hx).2
        clear hr2 hx h2 hs
        go_wp2_with fail
        refine (take_calls (H2.out.alloc _).ps 5 _ [[46]] (StrsAt.new wr [[46]] 1 _ _ _ rfl rfl) (by decide)).mono ?_
        rw [Hx.out, Hx2.out]
        rintro e w3 ⟨rfl, lv3, sv3, h3⟩
        have H3 := Lib.hid ((H2.out.alloc _).trans h3)
        generalize s2.taken 5 [[46]] = T at *
        unfold Tok.val
        clear h3
        go_wp2_with fail
        refine (put_calls (H3.out.alloc _).ps ⟨6, X, 0⟩).mono ?_
        rintro e w4 ⟨rfl, lv4, sv4, h4⟩
        have H4 := Lib.hid ((H3.out.alloc _).trans h4)
        clear h4
        go_wp2_with fail
        go_end0
        exact ⟨rfl, _, _, by rw [← Hr2.out, ← Hs.out]; exact H4.out⟩
      | true =>
        rw [if_pos hx] at hr2
        have hd2 := drop_len hx
        have hm2 := h2.ps.left_mem
        have Hx := Lib.hid hx
        have Hx2 := Lib.hid (next_take hx)
        have hsub : ∀ t ∈ s2.drop.left, TokFits t := fun t ht => hm2.1 t (List.mem_of_mem_tail ht)
        cases hi : s2.drop.next 3 [] with
        | true =>
          rw [if_pos hi] at hr2
          have hd3 := drop_len hi
          obtain ⟨hh1, hh2, hh3⟩ := head_le hsub
          have hil := itoa_len _ hh2 hh3
          have Hi := Lib.hid hi
          have Hi2 := Lib.hid (next_take hi)
          have Hr3 := Lib.hid hr2
          clear hr2 hx h2 hi hm2 hsub hh1
          generalize hD : s2.drop = D at *
          clear hD
          generalize s2.head = T at *
          generalize hE : D.drop = E at *
          clear hE
          generalize D.head = T2 at *
          have Hlo := Lib.hid hh2
          have Hhi := Lib.hid hh3
          have hl1 : 1 + (Lib.itoa T2.num).length ≤ 9223372036854775807 := by omega
          have hl2 : X.length + (1 + (Lib.itoa T2.num).length) ≤ 9223372036854775807 := by omega
          have Hb3 := Lib.hid (show (X ++ ([46] ++ Lib.itoa T2.num)).length + 16385 * E.left.length ≤ 268468225 by simp only [List.length_append, List.length_cons, List.length_nil]; omega)
          clear hh2 hh3 hd2 hd3 hb2 hil
          go_wp2_with fail
          refine (take_calls (H2.out.alloc _).ps 5 _ [[46]] (StrsAt.new wr [[46]] 1 _ _ _ rfl rfl) (by decide)).mono ?_
          rw [Hx.out, Hx2.out.1, Hx2.out.2]
          rintro e w3 ⟨rfl, lv3, sv3, h3⟩
          have H3 := Lib.hid ((H2.out.alloc _).trans h3)
          unfold Tok.val
          clear h3
          go_wp2_with fail
          refine (take_calls (H3.out.alloc _).ps 3 _ [] (StrsAt.nil _) (by decide)).mono ?_
          rw [Hi.out, Hi2.out.1, Hi2.out.2]
          rintro e w4 ⟨rfl, lv4, sv4, h4⟩
          have H4 := Lib.hid ((H3.out.alloc _).trans h4)
          unfold Tok.val
          clear h4
          go_wp2_with fail
          refine (formatInt_calls T2.num _ (by have := Hlo.out; omega) Hhi.out (H4.out.alloc _).ps.envw).mono ?_
          rintro e w5 ⟨rfl, hb5⟩
          have H5 := Lib.hid ((H4.out.alloc _).step hb5)
          clear hb5
          go_wp2_with fail
          go_roundg m
          case measure => omega
          case rel => exact ⟨_, congrArg Value.string (cat3' X [46] (Lib.itoa T2.num)), _, _, _, H5.out, Hr3.out, Hb3.out⟩
        | false =>
          rw [if_neg (by rw [hi]; simp)] at hr2
          have hn2 := nameT_le hsub
          have hd3 : s2.drop.name.left.length ≤ s2.drop.left.length := need_len s2.drop 1 []
          have Hi := Lib.hid hi
          have Hi2 := Lib.hid (need_no hi).2
          have Hr3 := Lib.hid hr2
          clear hr2 hx h2 hi hm2 hsub
          generalize hD : s2.drop = D at *
          clear hD
          generalize s2.head = T at *
          have hl1 : 1 + D.nameT.length ≤ 9223372036854775807 := by omega
          have hl2 : X.length + (1 + D.nameT.length) ≤ 9223372036854775807 := by omega
          have Hb3 := Lib.hid (show (X ++ ([46] ++ D.nameT)).length + 16385 * D.name.left.length ≤ 268468225 by simp only [List.length_append, List.length_cons, List.length_nil]; omega)
          clear hd2 hd3 hb2 hn2
          go_wp2_with fail
          refine (take_calls (H2.out.alloc _).ps 5 _ [[46]] (StrsAt.new wr [[46]] 1 _ _ _ rfl rfl) (by decide)).mono ?_
          rw [Hx.out, Hx2.out.1, Hx2.out.2]
          rintro e w3 ⟨rfl, lv3, sv3, h3⟩
          have H3 := Lib.hid ((H2.out.alloc _).trans h3)
          unfold Tok.val
          clear h3
          go_wp2_with fail
          refine (take_calls (H3.out.alloc _).ps 3 _ [] (StrsAt.nil _) (by decide)).mono ?_
          rw [Hi.out, Hi2.out]
          rintro e w4 ⟨rfl, lv4, sv4, h4⟩
          have H4 := Lib.hid ((H3.out.alloc _).trans h4)
          generalize D.taken 3 [] = T2 at *
          unfold Tok.val
          clear h4
          go_wp2_with fail
          refine (name_calls (H4.out.alloc _).ps).mono ?_
          rintro e w5 ⟨rfl, lv5, sv5, h5⟩
          have H5 := Lib.hid ((H4.out.alloc _).trans h5)
          clear h5
          go_wp2_with fail
          go_roundg m
          case measure => omega
          case rel => exact ⟨_, congrArg Value.string (cat3' X [46] D.nameT), _, _, _, H5.out, Hr3.out, Hb3.out⟩

end Go.Proofs.YtcjmhmmjfgjcnaaGreatDoor.Pa

/- The parser: the parts of a list, of a struct: what is kept in memory. -/
namespace Go.Proofs.YtcjmhmmjfgjcnaaGreatDoor.Pa
open Go.RowKit Go.Proofs.YtcjmhmmjfgjcnaaGreatDoor.Lx
variable {x : Px}

def OwnStrs (w : World) (base : Nat) (v : Value) (l : List Txt) : Prop := w.ownsRow base 9 1 v l.length (strsC l)
theorem OwnStrs.strs {w : World} {base : Nat} {v : Value} {l : List Txt} (h : OwnStrs w base v l) : StrsAt w v l := by
  rcases h.2 with ⟨rfl, h0⟩ | ⟨g, cap, cur, e, _, h2, h3, _⟩
  · have : l = [] := List.eq_nil_of_length_eq_zero h0
    subst this
    exact StrsAt.nil w
  · subst e
    refine ⟨_, _, _, rfl, rfl, h3, fun j hj => ⟨g, rfl, ?_⟩⟩
    rw [World.ownsRow.cellAt h _ (by omega)]
    simp [strsC, List.getElem?_eq_getElem hj]
theorem strsC_snoc (l : List Txt) (t : Txt) : strsC (l ++ [t]) = strsC l ++ [.string ⟨t.toArray⟩] := by simp [strsC]
theorem OwnStrs.nil (w : World) (base : Nat) : OwnStrs w base (.slice none 0 0) [] := ⟨by simp [strsC], .inl ⟨rfl, rfl⟩⟩

structure PartM (x : Px) (w : World) (sv0 : Value) (wr : World) (lv sv : Value) (s : St) (y : Stp) (Bs : Nat) (lval : Value) (l : List Txt) : Prop where
  now : Now x w sv0 wr lv sv s
  stp : wr.heap[Bs]? = some (.cells #[.int .u8 y.kind, .string ⟨y.text.toArray⟩, .int .i64 y.num] 48)
  row : OwnStrs wr w.heap.size lval l
  old : x.W.heap.size ≤ w.heap.size
  low : w.heap.size ≤ Bs
  neB : Bs ≠ x.B
  neS : sv.ownBlock ≠ some Bs
  neR : ∀ g, lval.ownBlock = some g → g ≠ x.B ∧ sv.ownBlock ≠ some g ∧ g ≠ Bs

theorem PartM.lt {w wr : World} {sv0 lv sv lval : Value} {s : St} {y : Stp} {Bs : Nat} {l : List Txt} (h : PartM x w sv0 wr lv sv s y Bs lval l) : Bs < wr.heap.size := lt_of_heap h.stp
theorem PartM.call {w wr w' : World} {sv0 lv sv lv' sv' lval : Value} {s s' : St} {y : Stp} {Bs : Nat} {l : List Txt} (h : PartM x w sv0 wr lv sv s y Bs lval l) (hn : Now x wr sv w' lv' sv' s') : PartM x w sv0 w' lv' sv' s' y Bs lval l := by
  have hlt := h.lt
  have hne : ∀ b, b < wr.heap.size → sv.ownBlock ≠ some b → sv'.ownBlock ≠ some b := fun b hb hs e => by
    rcases hn.new with e' | e'
    · exact hs (by rw [← e']; exact e)
    · have := e' b e; omega
  refine ⟨h.now.trans hn, (hn.keep.2 Bs hlt h.neB h.neS).trans h.stp, own_same h.row fun g hg hlt' => ?_, h.old, h.low, h.neB, hne Bs hlt h.neS, fun g hg => ?_⟩
  · obtain ⟨h1, h2, h3⟩ := h.neR g hg
    exact hn.keep.2 g hlt' h1 h2
  · obtain ⟨h1, h2, h3⟩ := h.neR g hg
    exact ⟨h1, hne g (World.ownsRow.lt h.row g hg).2 h2, h3⟩
theorem PartM.below {w wr w' : World} {sv0 lv sv lval : Value} {s : St} {y : Stp} {Bs : Nat} {l : List Txt} (h : PartM x w sv0 wr lv sv s y Bs lval l) (hb : Below wr.heap.size wr w') : PartM x w sv0 w' lv sv s y Bs lval l :=
  h.call ⟨h.now.ps.step hb, Keep.below hb, NewOr.refl _ _⟩
theorem PartM.alloc {w wr : World} {sv0 lv sv lval : Value} {s : St} {y : Stp} {Bs : Nat} {l : List Txt} (h : PartM x w sv0 wr lv sv s y Bs lval l) (o : Obj) : PartM x w sv0 (wr.alloc o) lv sv s y Bs lval l := h.below (alloc_below _ _)

theorem now_other {w wr w' : World} {sv0 lv sv : Value} {s : St} (h : Now x w sv0 wr lv sv s) (hW : x.W.heap.size ≤ w.heap.size) {Bs : Nat} (hlow : w.heap.size ≤ Bs) (hB : Bs ≠ x.B) (hS : sv.ownBlock ≠ some Bs) (hsz : w'.heap.size = wr.heap.size) (hos : ∀ b, b ≠ Bs → w'.heap[b]? = wr.heap[b]?)
    (hbel : ∀ base, base ≤ Bs → Below base wr w') : Now x w sv0 w' lv sv s :=
  ⟨⟨h.ps.ok, (hos _ (fun e => hB e.symm)).trans h.ps.blk, h.ps.bel.trans (hbel _ (Nat.le_trans hW hlow)), h.ps.left, own_same h.ps.own fun g hg _ => hos g (fun e => hS (by rw [hg, e])), h.ps.ne, h.ps.few⟩, ⟨by rw [hsz]; exact h.keep.1, fun b hb h1 h2 => (hos b (by omega)).trans (h.keep.2 b hb h1 h2)⟩, h.new⟩
theorem PartM.set {w wr : World} {sv0 lv sv lval : Value} {s : St} {y : Stp} {Bs : Nat} {l : List Txt} (h : PartM x w sv0 wr lv sv s y Bs lval l) (y' : Stp) (i : Nat) (v : Value)
    (e : (#[.int .u8 y.kind, .string ⟨y.text.toArray⟩, .int .i64 y.num] : Array Value).setIfInBounds i v = #[.int .u8 y'.kind, .string ⟨y'.text.toArray⟩, .int .i64 y'.num]) :
    PartM x w sv0 (wr.setCell ⟨Bs, i, none⟩ v) lv sv s y' Bs lval l := by
  have hos : ∀ b, b ≠ Bs → (wr.setCell ⟨Bs, i, none⟩ v).heap[b]? = wr.heap[b]? := fun b hb => Below.heap_setCell _ _ _ _ hb
  exact ⟨now_other h.now h.old h.low h.neB h.neS (by simp) hos (fun base hb => (Below.refl _ _).setCell hb _), set_block h.stp _ _ e, own_same h.row fun g hg _ => hos g (h.neR g hg).2.2, h.old, h.low, h.neB, h.neS, h.neR⟩
theorem PartM.more {w wr w1 : World} {sv0 lv sv lval v1 : Value} {s : St} {y : Stp} {Bs : Nat} {l : List Txt} (h : PartM x w sv0 wr lv sv s y Bs lval l) (t : Txt) (hown : w1.ownsRow w.heap.size 9 1 v1 (l.length + 1) (strsC l ++ [.string ⟨t.toArray⟩]))
    (hg : wr.grownBy w1 lval.ownBlock) (hat : v1.ownBlock = lval.ownBlock ∨ ∃ b, v1.ownBlock = some b ∧ wr.heap.size ≤ b) : PartM x w sv0 w1 lv sv s y Bs v1 (l ++ [t]) := by
  have hlt := h.lt
  have hps := h.now.ps
  have hkeep : ∀ b, b < wr.heap.size → lval.ownBlock ≠ some b → w1.heap[b]? = wr.heap[b]? := fun b hb hs => hg.block b hb (fun e => hs e.symm)
  have hB : lval.ownBlock ≠ some x.B := fun e => (h.neR _ e).1 rfl
  have hS : lval.ownBlock ≠ some Bs := fun e => (h.neR _ e).2.2 rfl
  have hrow : ∀ g, lval.ownBlock = some g → w.heap.size ≤ g ∧ g < wr.heap.size := fun g hg => World.ownsRow.lt h.row g hg
  refine ⟨⟨⟨hps.ok, (hkeep _ hps.lt hB).trans hps.blk, hps.bel.grown hg hps.bel.size fun b hb => Nat.le_trans h.old (hrow b hb).1, hps.left, own_same hps.own fun g hg' hlt' => hkeep g hlt' (fun e => (h.neR g e).2.1 hg'), hps.ne, hps.few⟩,
    ⟨Nat.le_trans h.now.keep.1 hg.size, fun b hb h1 h2 => (hkeep b (Nat.lt_of_lt_of_le hb h.now.keep.1) (fun e => by have := (hrow b e).1; omega)).trans (h.now.keep.2 b hb h1 h2)⟩, h.now.new⟩, (hkeep _ hlt hS).trans h.stp, ?_, h.old, h.low, h.neB, h.neS, fun g hg' => ?_⟩
  · unfold OwnStrs
    rw [strsC_snoc, List.length_append]
    exact hown
  · rcases hat with e | ⟨b, e, hb⟩
    · exact h.neR g (by rw [← e]; exact hg')
    · rw [e] at hg'
      have := Option.some.inj hg'
      have hlS : sv.ownBlock ≠ some b := hps.own_lt hb
      have := hps.lt
      refine ⟨by omega, by rw [← Option.some.inj hg']; exact hlS, by omega⟩

end Go.Proofs.YtcjmhmmjfgjcnaaGreatDoor.Pa
