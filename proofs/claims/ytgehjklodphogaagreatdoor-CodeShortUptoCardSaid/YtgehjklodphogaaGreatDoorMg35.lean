/- Parts: PaE PaF. -/
import Derived.Test.YtgehjklodphogaaGreatDoorMg34

/- The parser: constants, no primary at all; the knot of expressions. -/
namespace Go.Proofs.YtgehjklodphogaaGreatDoor.Pa
open Go.RowKit Go.Proofs.YtgehjklodphogaaGreatDoor.Lx Go.Maps
variable {x : Px}

theorem zeroK (w : World) : (zeroValue 32).run Tryz.prog w = .ok (.int .u8 0) w := by kernel_rfl
theorem next_any {s : St} {k : Nat} {texts : List Txt} (h : s.next k texts = true) (he : texts ≠ []) : s.next k [] = true ∧ texts.contains s.head.text = true := by
  cases hl : s.left with
  | nil => rw [next_nil hl] at h; cases h
  | cons t r =>
    rw [next_cons hl] at h ⊢
    simp only [Bool.and_eq_true, Bool.or_eq_true] at h
    refine ⟨by rw [h.1]; rfl, ?_⟩
    unfold St.head
    rw [hl]
    rcases h.2 with h' | h'
    · exact absurd (by simpa using h') he
    · exact h'

set_option maxHeartbeats 2000000 in
set_option maxRecDepth 100000 in
theorem primary_const (d : Nat) (w : World) (lv sv : Value) (s : St) (hp : PS x w lv sv s) (h0 : s.next 3 [] = false) (h1 : s.next 4 [] = false) (h2 : s.next 1 [] = false) (hx : s.next 2 [kNULL, kTRUE, kFALSE] = true)  :
    Calls Tryz.prog 214 #[.pointer (some ⟨x.B, 0, none⟩), .int .i64 d] w (Did x w sv (s.drop.put ⟨constKind s.head.text, [], 0⟩)) := by
  obtain ⟨wa, wb, wc, ra, rb, rc, hbel, hown⟩ := consts_made w
  have hmm := @run_makeMap Tryz.prog
  have Hown := Lib.hid hown
  have hz := hown.lt
  have Hp := Lib.hid (Now.refl hp |>.step hbel)
  have hany := next_any hx (by decide)
  have hxa := hany.1
  have hct := hany.2
  have Hx := Lib.hid hx
  have Hxa := Lib.hid hxa
  have Hx2 := Lib.hid (next_take hxa)
  have Hct := Lib.hid hct
  have hfit := head_le hp.left_mem.1
  have Hnew := Lib.hid (texts_new hp)
  have Htl := Lib.hid hfit.1
  have N0 := Lib.hid h0
  have N1 := Lib.hid h1
  have N2 := Lib.hid h2
  clear h0 h1 h2 hx hxa hct hfit hany
  clear hp hown hbel
  go_enter Tryz.func214, Tryz.ntmps214
  go_wp2_with fail
  refine (next_calls Hp.out.ps 3 _ [] (StrsAt.nil _) (by decide)).mono ?_
  rw [N0.out]
  rintro e wd ⟨rfl, rfl⟩
  go_wp2_with fail
  refine (next_calls Hp.out.ps 4 _ [] (StrsAt.nil _) (by decide)).mono ?_
  rw [N1.out]
  rintro e wd ⟨rfl, rfl⟩
  go_wp2_with fail
  refine (next_calls Hp.out.ps 1 _ [] (StrsAt.nil _) (by decide)).mono ?_
  rw [N2.out]
  rintro e wd ⟨rfl, rfl⟩
  go_wp2_with fail
  have P3 := Lib.hid (Hp.out.alloc (.cells (strsC [kNULL, kTRUE, kFALSE]).toArray 9))
  refine (next_calls P3.out.ps 2 _ [kNULL, kTRUE, kFALSE] (StrsAt.new' _ [kNULL, kTRUE, kFALSE] 3 _ _ _ _ rfl rfl (by simp)) (by decide)).mono ?_
  rw [Hx.out]
  rintro e wd ⟨rfl, rfl⟩
  go_wp2_with fail
  refine (take_calls P3.out.ps 2 _ [] (StrsAt.nil _) (by decide)).mono ?_
  rw [Hxa.out, Hx2.out.1, Hx2.out.2]
  rintro e w1 ⟨rfl, lv1, sv1, h1⟩
  generalize s.head = T at *
  have H1 := Lib.hid ((P3.out.trans h1).alloc (.cells #[.int .u8 T.kind, .string ⟨T.text.toArray⟩, .int .i64 T.num, .int .i64 T.pos] 49))
  have hsame : (w1.alloc (.cells #[.int .u8 T.kind, .string ⟨T.text.toArray⟩, .int .i64 T.num, .int .i64 T.pos] 49)).heap[w.heap.size]? = wc.heap[w.heap.size]? := by
    have hz2 : w.heap.size < (wc.alloc (.cells (strsC [kNULL, kTRUE, kFALSE]).toArray 9)).heap.size := by simp; omega
    have e1 := h1.keep.2 w.heap.size hz2 Hnew.out.1 Hnew.out.2
    have hz3 := h1.keep.1
    rw [Below.heap_alloc _ _ _ (by omega), e1, Below.heap_alloc _ _ _ hz]
  have Hc1 := Lib.hid (Hown.out.same hsame)
  have Hkey := Lib.hid (Go.WideMaps.keyOf_string_mk (P := Tryz.prog) (k := 9) Tryz.underlying9 (s := ⟨T.text.toArray⟩) (by rw [size_mk]; have := Htl.out; unfold maxLen; omega))
  unfold Tok.val
  clear h1 hsame
  unfold ConstAt at Hc1
  go_wp2_with (at_lookup; go_must (refine wpList_lookup_own_int _ rfl _ _ 236 rfl 9 32 .u8 keyS Tryz.underlying236 Tryz.underlying32 (zeroK _) w.heap.size 3 _ rfl Hc1.out _ _ rfl Hkey.out ?_); intro c hat hwc; have Hat := Lib.hid hat; clear hat hwc)
  have hcc : c = (constKind T.text : Nat) := const_of Hct.out (by have := Hat.out; exact this)
  subst hcc
  refine (put_calls H1.out.ps ⟨constKind T.text, [], 0⟩).mono ?_
  rintro e w2 ⟨rfl, lv2, sv2, h2⟩
  have H2 := Lib.hid (H1.out.trans h2)
  clear h2
  go_wp2_with fail
  go_end0
  exact ⟨rfl, _, _, H2.out⟩

set_option maxHeartbeats 2000000 in
set_option maxRecDepth 100000 in
theorem primary_bad (d : Nat) (w : World) (lv sv : Value) (s : St) (hp : PS x w lv sv s) (h0 : s.next 3 [] = false) (h1 : s.next 4 [] = false) (h2 : s.next 1 [] = false) (h3 : s.next 2 [kNULL, kTRUE, kFALSE] = false) (h4 : s.next 5 [[40]] = false) (h5 : s.next 5 [[91]] = false) (h6 : s.next 5 [[123]] = false)  :
    Calls Tryz.prog 214 #[.pointer (some ⟨x.B, 0, none⟩), .int .i64 d] w (Did x w sv s.bad) := by
  obtain ⟨wa, wb, wc, ra, rb, rc, hbel, hown⟩ := consts_made w
  have hmm := @run_makeMap Tryz.prog
  have Hown := Lib.hid hown
  have hz := hown.lt
  have Hp := Lib.hid (Now.refl hp |>.step hbel)
  have N0 := Lib.hid h0
  have N1 := Lib.hid h1
  have N2 := Lib.hid h2
  have N3 := Lib.hid h3
  have N4 := Lib.hid h4
  have N5 := Lib.hid h5
  have N6 := Lib.hid h6
  clear h0 h1 h2 h3 h4 h5 h6
  clear hp hown hbel
  go_enter Tryz.func214, Tryz.ntmps214
  go_wp2_with fail
  refine (next_calls Hp.out.ps 3 _ [] (StrsAt.nil _) (by decide)).mono ?_
  rw [N0.out]
  rintro e wd ⟨rfl, rfl⟩
  go_wp2_with fail
  refine (next_calls Hp.out.ps 4 _ [] (StrsAt.nil _) (by decide)).mono ?_
  rw [N1.out]
  rintro e wd ⟨rfl, rfl⟩
  go_wp2_with fail
  refine (next_calls Hp.out.ps 1 _ [] (StrsAt.nil _) (by decide)).mono ?_
  rw [N2.out]
  rintro e wd ⟨rfl, rfl⟩
  go_wp2_with fail
  have P3 := Lib.hid (Hp.out.alloc (.cells (strsC [kNULL, kTRUE, kFALSE]).toArray 9))
  refine (next_calls P3.out.ps 2 _ [kNULL, kTRUE, kFALSE] (StrsAt.new' _ [kNULL, kTRUE, kFALSE] 3 _ _ _ _ rfl rfl (by simp)) (by decide)).mono ?_
  rw [N3.out]
  rintro e wd ⟨rfl, rfl⟩
  go_wp2_with fail
  have P4 := Lib.hid (P3.out.alloc (.cells (strsC [[40]]).toArray 9))
  refine (next_calls P4.out.ps 5 _ [[40]] (StrsAt.new' _ [[40]] 1 _ _ _ _ rfl rfl (by simp)) (by decide)).mono ?_
  rw [N4.out]
  rintro e wd ⟨rfl, rfl⟩
  go_wp2_with fail
  have P5 := Lib.hid (P4.out.alloc (.cells (strsC [[91]]).toArray 9))
  refine (next_calls P5.out.ps 5 _ [[91]] (StrsAt.new' _ [[91]] 1 _ _ _ _ rfl rfl (by simp)) (by decide)).mono ?_
  rw [N5.out]
  rintro e wd ⟨rfl, rfl⟩
  go_wp2_with fail
  have P6 := Lib.hid (P5.out.alloc (.cells (strsC [[123]]).toArray 9))
  refine (next_calls P6.out.ps 5 _ [[123]] (StrsAt.new' _ [[123]] 1 _ _ _ _ rfl rfl (by simp)) (by decide)).mono ?_
  rw [N6.out]
  rintro e wd ⟨rfl, rfl⟩
  go_wp2_with fail
  have Hd := Lib.hid P6.out.drew
  go_region_with ((first | (go_at_call 48; refine (place_calls Hd.out.ps).mono ?_; rintro e w' ⟨rfl, rfl⟩) | (go_at_call 47; refine (fail_calls Hd.out.ps 13 s.place).mono ?_; rintro e w' ⟨rfl, lv1, sv1, h1⟩)))
  all_goals
    have H1 := Lib.hid (Hd.out.trans h1)
    clear h1
    go_wp2_with fail
    go_end0
    exact ⟨rfl, _, _, H1.out⟩

theorem primary_reads (or_ : Nat → St → Option St) (n : Nat) (hor : ReadsAt x 131 or_) : ReadsAt x 214 (primary or_ n) := by
  intro d hd w lv sv s s' hp hr
  unfold primary at hr
  cases h0 : s.next 3 [] with
  | true =>
    rw [h0, if_pos rfl] at hr
    have e := Option.some.inj hr
    rw [← e]
    exact primary_int d w lv sv s hp h0
  | false =>
  rw [h0, if_neg (by simp)] at hr
  cases h1 : s.next 4 [] with
  | true =>
    rw [h1, if_pos rfl] at hr
    have e := Option.some.inj hr
    rw [← e]
    exact primary_text d w lv sv s hp h0 h1
  | false =>
  rw [h1, if_neg (by simp)] at hr
  cases h2 : s.next 1 [] with
  | true =>
    rw [h2, if_pos rfl] at hr
    exact primary_path n d w lv sv s s' hp h0 h1 h2 hr
  | false =>
  rw [h2, if_neg (by simp)] at hr
  cases h3 : s.next 2 [kNULL, kTRUE, kFALSE] with
  | true =>
    rw [h3, if_pos rfl] at hr
    have e := Option.some.inj hr
    rw [← e]
    exact primary_const d w lv sv s hp h0 h1 h2 h3
  | false =>
  rw [h3, if_neg (by simp)] at hr
  cases h4 : s.next 5 [[40]] with
  | true =>
    rw [h4, if_pos rfl] at hr
    unfold nestThen at hr
    by_cases hd16 : 16 ≤ d
    · rw [if_pos hd16] at hr
      have e := Option.some.inj hr
      rw [← e]
      exact primary_round_deep d w lv sv s hp h0 h1 h2 h3 h4 hd16 hd
    · rw [if_neg hd16] at hr
      obtain ⟨s1, hs1, hr1⟩ := Option.bind_eq_some_iff.1 hr
      have e := Option.some.inj hr1
      rw [← e]
      exact primary_round or_ hor d w lv sv s s1 hp h0 h1 h2 h3 h4 (by omega) hs1
  | false =>
  rw [h4, if_neg (by simp)] at hr
  cases h5 : s.next 5 [[91]] with
  | true =>
    rw [h5, if_pos rfl] at hr
    unfold nestThen at hr
    by_cases hd16 : 16 ≤ d
    · rw [if_pos hd16] at hr
      have e := Option.some.inj hr
      rw [← e]
      exact primary_square_deep d w lv sv s hp h0 h1 h2 h3 h4 h5 hd16 hd
    · rw [if_neg hd16] at hr
      exact primary_square or_ hor n d w lv sv s s' hp h0 h1 h2 h3 h4 h5 (by omega) hr
  | false =>
  rw [h5, if_neg (by simp)] at hr
  cases h6 : s.next 5 [[123]] with
  | true =>
    rw [h6, if_pos rfl] at hr
    unfold nestThen at hr
    by_cases hd16 : 16 ≤ d
    · rw [if_pos hd16] at hr
      have e := Option.some.inj hr
      rw [← e]
      exact primary_curly_deep d w lv sv s hp h0 h1 h2 h3 h4 h5 h6 hd16 hd
    · rw [if_neg hd16] at hr
      exact primary_curly or_ hor n d w lv sv s s' hp h0 h1 h2 h3 h4 h5 h6 (by omega) hr
  | false =>
  rw [h6, if_neg (by simp)] at hr
  have e := Option.some.inj hr
  rw [← e]
  exact primary_bad d w lv sv s hp h0 h1 h2 h3 h4 h5 h6

/-- the knot -/
theorem orF_reads : ∀ n, ReadsAt x 131 (orF n)
  | 0 => fun d _ w lv sv s s' _ hr => by simp [orF] at hr
  | n + 1 => by
    have h := primary_reads (x := x) (orF n) n (orF_reads n)
    have h1 := signed_reads _ n h
    have h2 := product_reads _ n h1
    have h3 := sum_reads _ n h2
    have h4 := compared_reads _ n h3
    have h5 := not_reads _ n h4
    have h6 := and_reads _ n h5
    exact or_reads _ n h6

end Go.Proofs.YtgehjklodphogaaGreatDoor.Pa

/- The parser: what is held in memory beside it; expressions of statements, conditions. -/
namespace Go.Proofs.YtgehjklodphogaaGreatDoor.Pa
open Go.RowKit Go.Proofs.YtgehjklodphogaaGreatDoor.Lx
variable {x : Px}

/-- a block that the parser's calls leave -/
def SafeB (x : Px) (w : World) (sv : Value) (b : Nat) : Prop := b < w.heap.size ∧ b ≠ x.B ∧ sv.ownBlock ≠ some b
theorem SafeB.heap {w w' : World} {sv lv' sv' : Value} {s' : St} {b : Nat} (h : SafeB x w sv b) (hn : Now x w sv w' lv' sv' s') : w'.heap[b]? = w.heap[b]? := hn.keep.2 b h.1 h.2.1 h.2.2
theorem SafeB.now {w w' : World} {sv lv' sv' : Value} {s' : St} {b : Nat} (h : SafeB x w sv b) (hn : Now x w sv w' lv' sv' s') : SafeB x w' sv' b := by
  refine ⟨Nat.lt_of_lt_of_le h.1 hn.keep.1, h.2.1, fun e => ?_⟩
  rcases hn.new with e' | e'
  · exact h.2.2 (by rw [← e']; exact e)
  · have := e' b e; have := h.1; omega
theorem SafeB.new {w : World} {lv sv : Value} {s : St} (h : PS x w lv sv s) (o : Obj) : SafeB x (w.alloc o) sv w.heap.size := ⟨by simp, (texts_new h).1, (texts_new h).2⟩
theorem SafeB.grow {w w' : World} {sv : Value} {b : Nat} (h : SafeB x w sv b) (hz : w.heap.size ≤ w'.heap.size) : SafeB x w' sv b := ⟨Nat.lt_of_lt_of_le h.1 hz, h.2⟩

/-- a row of steps that is held: the parser's own, or one that its calls leave -/
structure HeldRow (x : Px) (w : World) (sv : Value) (s : St) (v : Value) (l : List Stp) : Prop where
  row : w.ownsRow x.W.heap.size 34 3 v l.length (stpsC l)
  safe : (v = sv ∧ l = s.steps) ∨ ∀ b, v.ownBlock = some b → SafeB x w sv b
theorem HeldRow.self {w : World} {lv sv : Value} {s : St} (h : PS x w lv sv s) : HeldRow x w sv s sv s.steps := ⟨h.own, .inl ⟨rfl, rfl⟩⟩
theorem HeldRow.nil (x : Px) (w : World) (sv : Value) (s : St) : HeldRow x w sv s (.slice none 0 0) [] := ⟨⟨by simp [stpsC], .inl ⟨rfl, rfl⟩⟩, .inr fun b hb => by simp [Value.ownBlock] at hb⟩
/-- behind a call that leaves the steps where they are -/
theorem HeldRow.now {w w' : World} {sv lv' v : Value} {s s' : St} {l : List Stp} (h : HeldRow x w sv s v l) (hn : Now x w sv w' lv' sv s') (he : s'.steps = s.steps) : HeldRow x w' sv s' v l := by
  rcases h.safe with ⟨rfl, rfl⟩ | h2
  · rw [← he]; exact HeldRow.self hn.ps
  · exact ⟨own_same h.row fun g hg _ => (h2 g hg).heap hn, .inr fun b hb => (h2 b hb).now hn⟩
/-- behind one that begins with no steps -/
theorem HeldRow.anew {w w' : World} {lv sv lv' sv' v : Value} {s s' : St} {l : List Stp} (h : HeldRow x w sv s v l) (hp : PS x w lv sv s) (hn : Now x w (.slice none 0 0) w' lv' sv' s') : HeldRow x w' sv' s' v l := by
  have h2 : ∀ b, v.ownBlock = some b → SafeB x w (.slice none 0 0) b := fun b hb => by
    refine ⟨(World.ownsRow.lt h.row b hb).2, ?_, by simp [Value.ownBlock]⟩
    rcases h.safe with ⟨rfl, _⟩ | h2
    · intro e; exact hp.ne (by rw [hb, e])
    · exact (h2 b hb).2.1
  exact ⟨own_same h.row fun g hg _ => (h2 g hg).heap hn, .inr fun b hb => (h2 b hb).now hn⟩
theorem Now.weak {w w' : World} {sv lv' sv' : Value} {s' : St} (h : Now x w (.slice none 0 0) w' lv' sv' s') : Now x w sv w' lv' sv' s' := by
  refine ⟨h.ps, ⟨h.keep.1, fun b hb hB _ => h.keep.2 b hb hB (by simp [Value.ownBlock])⟩, .inr fun b hb => ?_⟩
  rcases h.new with e | e
  · rw [e] at hb; simp [Value.ownBlock] at hb
  · exact e b hb

theorem now_reset {w : World} {lv sv : Value} {s : St} (h : PS x w lv sv s) : Now x w (.slice none 0 0) (w.setCell ⟨x.B, 4, none⟩ (.slice none 0 0)) lv (.slice none 0 0) { s with steps := [] } := by
  have hk : ∀ b, b ≠ x.B → (w.setCell ⟨x.B, 4, none⟩ (.slice none 0 0)).heap[b]? = w.heap[b]? := fun b hb => Below.heap_setCell _ _ _ _ hb
  refine ⟨⟨h.ok, set_block h.blk _ _ rfl, h.bel.trans ((Below.refl _ _).setCell h.ok.low _), h.left, ⟨by simp [stpsC], .inl ⟨rfl, rfl⟩⟩, by simp [Value.ownBlock], by simp⟩, ⟨by simp, fun b _ hB _ => hk b hB⟩, NewOr.refl _ _⟩

set_option maxRecDepth 100000 in
theorem expr_calls (n : Nat) {w : World} {lv sv : Value} {s s' : St} (h : PS x w lv sv s) (hr : expr n s = some s') :
    Calls Tryz.prog 91 #[.pointer (some ⟨x.B, 0, none⟩)] w fun e w' => ∃ lv' sv', e = .returned sv' ∧ Now x w (.slice none 0 0) w' lv' sv' s' := by
  obtain ⟨⟨c0, c1, c2, c3, c4⟩, f0, f1, f2, f3, f4⟩ := five h.blk
  have H0 := Lib.hid (now_reset h)
  have Hor := Lib.hid (orF_reads (x := x) n 0 (by omega) _ _ _ _ s' (now_reset h).ps hr)
  obtain ⟨a, c, rfl⟩ := own_form h.own
  clear h hr
  go_enter Tryz.func91, Tryz.ntmps91
  go_wp2_with fail
  refine Hor.out.mono ?_
  rintro e w1 ⟨rfl, lv1, sv1, h1⟩
  have H1 := Lib.hid (H0.out.trans h1)
  obtain ⟨⟨c0, c1, c2, c3, c4⟩, -⟩ := five h1.ps.blk
  clear h1
  go_wp2_with fail
  go_ret
  exact ⟨_, _, rfl, H1.out⟩

theorem fail_steps (s : St) (a b : Nat) : (s.fail a b).steps = s.steps := by unfold St.fail; split <;> rfl
theorem drop_steps (s : St) : s.drop.steps = s.steps := rfl
theorem after_steps (s : St) (k : Nat) (t : List Txt) : (s.after k t).steps = s.steps := by unfold St.after; split <;> rfl
theorem need_steps (s : St) (k : Nat) (t : List Txt) : (s.need k t).steps = s.steps := by
  unfold St.need; split
  · rfl
  · exact fail_steps _ _ _
theorem keys_steps : ∀ (t : List Txt) (s : St), (s.keys t).steps = s.steps
  | [], _ => rfl
  | a :: t, s => by
    have := keys_steps t (s.need 2 [a])
    rw [need_steps] at this
    exact this
theorem sign_steps (s : St) (t : Txt) : (s.sign t).steps = s.steps := need_steps _ _ _
theorem name_steps (s : St) : s.name.steps = s.steps := need_steps _ _ _

/-- what a call that hands back a row of steps comes to -/
def GaveRow (x : Px) (w : World) (sv : Value) (s : St) (l : List Stp) (s' : St) (e : Ending) (w' : World) : Prop :=
  ∃ lv' sv' v, e = .returned v ∧ Now x w sv w' lv' sv' s' ∧ HeldRow x w' sv' s' v l ∧ (∀ b, v.ownBlock = some b → w.heap.size ≤ b) ∧ ∀ v0 l0, HeldRow x w sv s v0 l0 → HeldRow x w' sv' s' v0 l0

set_option maxRecDepth 100000 in
theorem where_calls (n : Nat) {w : World} {lv sv : Value} {s : St} {r : List Stp × St} (h : PS x w lv sv s) (hr : where_ n s = some r) :
    Calls Tryz.prog 93 #[.pointer (some ⟨x.B, 0, none⟩)] w (GaveRow x w sv s r.1 r.2) := by
  unfold where_ at hr
  have Hk := Lib.hid (key_callsC h kWHERE)
  cases hx : s.next 2 [kWHERE] with
  | true =>
    rw [hx, if_pos rfl] at hr
    obtain ⟨s1, hs1, hr1⟩ := Option.bind_eq_some_iff.1 hr
    have e := Option.some.inj hr1
    subst e
    rw [hx, (next_take hx).1] at Hk
    have Hs1 := Lib.hid hs1
    have Hst := Lib.hid (drop_steps s)
    clear h hr hs1 hr1 hx
    go_enter Tryz.func93, Tryz.ntmps93
    go_wp2_with fail
    refine Hk.out.mono ?_
    rintro e w1 ⟨rfl, lv1, h1⟩
    have H1 := Lib.hid h1
    clear h1
    go_wp2_with fail
    refine (expr_calls n H1.out.ps Hs1.out).mono ?_
    rintro e w2 ⟨lv2, sv2, rfl, h2⟩
    have H2 := Lib.hid h2
    clear h2
    go_wp2_with fail
    go_ret
    refine ⟨lv2, sv2, sv2, rfl, H1.out.trans H2.out.weak, HeldRow.self H2.out.ps, fun b hb => ?_, fun v0 l0 hv0 => (hv0.now H1.out Hst.out).anew H1.out.ps H2.out⟩
    have h0 := H1.out.keep.1
    rcases H2.out.new with e | e
    · rw [e] at hb; simp [Value.ownBlock] at hb
    · have := e b hb; omega
  | false =>
    rw [hx, if_neg (by simp)] at hr
    have e := Option.some.inj hr
    subst e
    rw [hx, (need_no hx).2] at Hk
    clear h hr hx
    go_enter Tryz.func93, Tryz.ntmps93
    go_wp2_with fail
    refine Hk.out.mono ?_
    rintro e w1 ⟨rfl, lv1, h1⟩
    have H1 := Lib.hid h1
    clear h1
    go_wp2_with fail
    go_ret
    exact ⟨_, _, _, rfl, H1.out, HeldRow.nil _ _ _ _, fun b hb => by simp [Value.ownBlock] at hb, fun v0 l0 hv0 => hv0.now H1.out rfl⟩

end Go.Proofs.YtgehjklodphogaaGreatDoor.Pa
