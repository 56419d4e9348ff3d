/- Parts: PaE PaF PaG. -/
import Derived.Test.YtcjmhmmjfgjcnaaGreatDoorMh20

/- The parser: constants, no primary at all; the knot of expressions. -/
namespace Go.Proofs.YtcjmhmmjfgjcnaaGreatDoor.Pa
open Go.RowKit Go.Proofs.YtcjmhmmjfgjcnaaGreatDoor.Lx Go.Maps
variable {x : Px}

theorem zeroK (w : World) : (zeroValue 46).run Tryz.prog w = .ok (.int .u8 0) w := by kernel_rfl
theorem next_any {s : St} {k : Nat} {texts : List Txt} (h : s.next k texts = true) (he : texts ≠ []) : s.next k [] = true ∧ texts.contains s.head.text = true := by
  cases hl : s.left with
  | nil => rw [next_nil hl] at h; cases h
  | cons t r =>
    rw [next_cons hl] at h ⊢
    simp only [Bool.and_eq_true, Bool.or_eq_true] at h
    refine ⟨by rw [h.1]; rfl, ?_⟩
    unfold St.head
    rw [hl]
    rcases h.2 with h' | h'
    · exact absurd (by simpa using h') he
    · exact h'

set_option maxHeartbeats 2000000 in
set_option maxRecDepth 100000 in
theorem primary_const (d : Nat) (w : World) (lv sv : Value) (s : St) (hp : PS x w lv sv s) (h0 : s.next 3 [] = false) (h1 : s.next 4 [] = false) (h2 : s.next 1 [] = false) (hx : s.next 2 [kNULL, kTRUE, kFALSE] = true)  :
    Calls Tryz.prog 210 #[.pointer (some ⟨x.B, 0, none⟩), .int .i64 d] w (Did x w sv (s.drop.put ⟨constKind s.head.text, [], 0⟩)) := by
  obtain ⟨wa, wb, wc, ra, rb, rc, hbel, hown⟩ := consts_made w
  have hmm := @run_makeMap Tryz.prog
  have Hown := Lib.hid hown
  have hz := hown.lt
  have Hp := Lib.hid (Now.refl hp |>.step hbel)
  have hany := next_any hx (by decide)
  have hxa := hany.1
  have hct := hany.2
  have Hx := Lib.hid hx
  have Hxa := Lib.hid hxa
  have Hx2 := Lib.hid (next_take hxa)
  have Hct := Lib.hid hct
  have hfit := head_le hp.left_mem.1
  have Hnew := Lib.hid (texts_new hp)
  have Htl := Lib.hid hfit.1
  have N0 := Lib.hid h0
  have N1 := Lib.hid h1
  have N2 := Lib.hid h2
  clear h0 h1 h2 hx hxa hct hfit hany
  clear hp hown hbel
  go_enter Tryz.func210, Tryz.ntmps210
  go_wp2_with fail
  refine (next_calls Hp.out.ps 3 _ [] (StrsAt.nil _) (by decide)).mono ?_
  rw [N0.out]
  rintro e wd ⟨rfl, rfl⟩
  go_wp2_with fail
  refine (next_calls Hp.out.ps 4 _ [] (StrsAt.nil _) (by decide)).mono ?_
  rw [N1.out]
  rintro e wd ⟨rfl, rfl⟩
  go_wp2_with fail
  refine (next_calls Hp.out.ps 1 _ [] (StrsAt.nil _) (by decide)).mono ?_
  rw [N2.out]
  rintro e wd ⟨rfl, rfl⟩
  go_wp2_with fail
  have P3 := Lib.hid (Hp.out.alloc (.cells (strsC [kNULL, kTRUE, kFALSE]).toArray 9))
  refine (next_calls P3.out.ps 2 _ [kNULL, kTRUE, kFALSE] (StrsAt.new' _ [kNULL, kTRUE, kFALSE] 3 _ _ _ _ rfl rfl (by simp)) (by decide)).mono ?_
  rw [Hx.out]
  rintro e wd ⟨rfl, rfl⟩
  go_wp2_with fail
  refine (take_calls P3.out.ps 2 _ [] (StrsAt.nil _) (by decide)).mono ?_
  rw [Hxa.out, Hx2.out.1, Hx2.out.2]
  rintro e w1 ⟨rfl, lv1, sv1, h1⟩
  generalize s.head = T at *
  have H1 := Lib.hid ((P3.out.trans h1).alloc (.cells #[.int .u8 T.kind, .string ⟨T.text.toArray⟩, .int .i64 T.num, .int .i64 T.pos] 41))
  have hsame : (w1.alloc (.cells #[.int .u8 T.kind, .string ⟨T.text.toArray⟩, .int .i64 T.num, .int .i64 T.pos] 41)).heap[w.heap.size]? = wc.heap[w.heap.size]? := by
    have hz2 : w.heap.size < (wc.alloc (.cells (strsC [kNULL, kTRUE, kFALSE]).toArray 9)).heap.size := by simp; omega
    have e1 := h1.keep.2 w.heap.size hz2 Hnew.out.1 Hnew.out.2
    have hz3 := h1.keep.1
    rw [Below.heap_alloc _ _ _ (by omega), e1, Below.heap_alloc _ _ _ hz]
  have Hc1 := Lib.hid (Hown.out.same hsame)
  have Hkey := Lib.hid (Go.WideMaps.keyOf_string_mk (P := Tryz.prog) (k := 9) Tryz.underlying9 (s := ⟨T.text.toArray⟩) (by rw [size_mk]; have := Htl.out; unfold maxLen; omega))
  unfold Tok.val
  clear h1 hsame
  unfold ConstAt at Hc1
  go_wp2_with (at_lookup; go_must (refine wpList_lookup_own_int _ rfl _ _ 234 rfl 9 46 .u8 keyS Tryz.underlying234 Tryz.underlying46 (zeroK _) w.heap.size 3 _ rfl Hc1.out _ _ rfl Hkey.out ?_); intro c hat hwc; have Hat := Lib.hid hat; clear hat hwc)
  have hcc : c = (constKind T.text : Nat) := const_of Hct.out (by have := Hat.out; exact this)
  subst hcc
  refine (put_calls H1.out.ps ⟨constKind T.text, [], 0⟩).mono ?_
  rintro e w2 ⟨rfl, lv2, sv2, h2⟩
  have H2 := Lib.hid (H1.out.trans h2)
  clear h2
  go_wp2_with fail
  go_end0
  exact ⟨rfl, _, _, H2.out⟩

set_option maxHeartbeats 2000000 in
set_option maxRecDepth 100000 in
theorem primary_bad (d : Nat) (w : World) (lv sv : Value) (s : St) (hp : PS x w lv sv s) (h0 : s.next 3 [] = false) (h1 : s.next 4 [] = false) (h2 : s.next 1 [] = false) (h3 : s.next 2 [kNULL, kTRUE, kFALSE] = false) (h4 : s.next 5 [[40]] = false) (h5 : s.next 5 [[91]] = false) (h6 : s.next 5 [[123]] = false)  :
    Calls Tryz.prog 210 #[.pointer (some ⟨x.B, 0, none⟩), .int .i64 d] w (Did x w sv s.bad) := by
  obtain ⟨wa, wb, wc, ra, rb, rc, hbel, hown⟩ := consts_made w
  have hmm := @run_makeMap Tryz.prog
  have Hown := Lib.hid hown
  have hz := hown.lt
  have Hp := Lib.hid (Now.refl hp |>.step hbel)
  have N0 := Lib.hid h0
  have N1 := Lib.hid h1
  have N2 := Lib.hid h2
  have N3 := Lib.hid h3
  have N4 := Lib.hid h4
  have N5 := Lib.hid h5
  have N6 := Lib.hid h6
  clear h0 h1 h2 h3 h4 h5 h6
  clear hp hown hbel
  go_enter Tryz.func210, Tryz.ntmps210
  go_wp2_with fail
  refine (next_calls Hp.out.ps 3 _ [] (StrsAt.nil _) (by decide)).mono ?_
  rw [N0.out]
  rintro e wd ⟨rfl, rfl⟩
  go_wp2_with fail
  refine (next_calls Hp.out.ps 4 _ [] (StrsAt.nil _) (by decide)).mono ?_
  rw [N1.out]
  rintro e wd ⟨rfl, rfl⟩
  go_wp2_with fail
  refine (next_calls Hp.out.ps 1 _ [] (StrsAt.nil _) (by decide)).mono ?_
  rw [N2.out]
  rintro e wd ⟨rfl, rfl⟩
  go_wp2_with fail
  have P3 := Lib.hid (Hp.out.alloc (.cells (strsC [kNULL, kTRUE, kFALSE]).toArray 9))
  refine (next_calls P3.out.ps 2 _ [kNULL, kTRUE, kFALSE] (StrsAt.new' _ [kNULL, kTRUE, kFALSE] 3 _ _ _ _ rfl rfl (by simp)) (by decide)).mono ?_
  rw [N3.out]
  rintro e wd ⟨rfl, rfl⟩
  go_wp2_with fail
  have P4 := Lib.hid (P3.out.alloc (.cells (strsC [[40]]).toArray 9))
  refine (next_calls P4.out.ps 5 _ [[40]] (StrsAt.new' _ [[40]] 1 _ _ _ _ rfl rfl (by simp)) (by decide)).mono ?_
  rw [N4.out]
  rintro e wd ⟨rfl, rfl⟩
  go_wp2_with fail
  have P5 := Lib.hid (P4.out.alloc (.cells (strsC [[91]]).toArray 9))
  refine (next_calls P5.out.ps 5 _ [[91]] (StrsAt.new' _ [[91]] 1 _ _ _ _ rfl rfl (by simp)) (by decide)).mono ?_
  rw [N5.out]
  rintro e wd ⟨rfl, rfl⟩
  go_wp2_with fail
  have P6 := Lib.hid (P5.out.alloc (.cells (strsC [[123]]).toArray 9))
  refine (next_calls P6.out.ps 5 _ [[123]] (StrsAt.new' _ [[123]] 1 _ _ _ _ rfl rfl (by simp)) (by decide)).mono ?_
  rw [N6.out]
  rintro e wd ⟨rfl, rfl⟩
  go_wp2_with fail
  have Hd := Lib.hid P6.out.drew
  go_region_with ((first | (go_at_call 43; refine (place_calls Hd.out.ps).mono ?_; rintro e w' ⟨rfl, rfl⟩) | (go_at_call 42; refine (fail_calls Hd.out.ps 13 s.place).mono ?_; rintro e w' ⟨rfl, lv1, sv1, h1⟩)))
  all_goals
    have H1 := Lib.hid (Hd.out.trans h1)
    clear h1
    go_wp2_with fail
    go_end0
    exact ⟨rfl, _, _, H1.out⟩

theorem primary_reads (or_ : Nat → St → Option St) (n : Nat) (hor : ReadsAt x 127 or_) : ReadsAt x 210 (primary or_ n) := by
  intro d hd w lv sv s s' hp hr
  unfold primary at hr
  cases h0 : s.next 3 [] with
  | true =>
    rw [h0, if_pos rfl] at hr
    have e := Option.some.inj hr
    rw [← e]
    exact primary_int d w lv sv s hp h0
  | false =>
  rw [h0, if_neg (by simp)] at hr
  cases h1 : s.next 4 [] with
  | true =>
    rw [h1, if_pos rfl] at hr
    have e := Option.some.inj hr
    rw [← e]
    exact primary_text d w lv sv s hp h0 h1
  | false =>
  rw [h1, if_neg (by simp)] at hr
  cases h2 : s.next 1 [] with
  | true =>
    rw [h2, if_pos rfl] at hr
    exact primary_path n d w lv sv s s' hp h0 h1 h2 hr
  | false =>
  rw [h2, if_neg (by simp)] at hr
  cases h3 : s.next 2 [kNULL, kTRUE, kFALSE] with
  | true =>
    rw [h3, if_pos rfl] at hr
    have e := Option.some.inj hr
    rw [← e]
    exact primary_const d w lv sv s hp h0 h1 h2 h3
  | false =>
  rw [h3, if_neg (by simp)] at hr
  cases h4 : s.next 5 [[40]] with
  | true =>
    rw [h4, if_pos rfl] at hr
    unfold nestThen at hr
    by_cases hd16 : 16 ≤ d
    · rw [if_pos hd16] at hr
      have e := Option.some.inj hr
      rw [← e]
      exact primary_round_deep d w lv sv s hp h0 h1 h2 h3 h4 hd16 hd
    · rw [if_neg hd16] at hr
      obtain ⟨s1, hs1, hr1⟩ := Option.bind_eq_some_iff.1 hr
      have e := Option.some.inj hr1
      rw [← e]
      exact primary_round or_ hor d w lv sv s s1 hp h0 h1 h2 h3 h4 (by omega) hs1
  | false =>
  rw [h4, if_neg (by simp)] at hr
  cases h5 : s.next 5 [[91]] with
  | true =>
    rw [h5, if_pos rfl] at hr
    unfold nestThen at hr
    by_cases hd16 : 16 ≤ d
    · rw [if_pos hd16] at hr
      have e := Option.some.inj hr
      rw [← e]
      exact primary_square_deep d w lv sv s hp h0 h1 h2 h3 h4 h5 hd16 hd
    · rw [if_neg hd16] at hr
      exact primary_square or_ hor n d w lv sv s s' hp h0 h1 h2 h3 h4 h5 (by omega) hr
  | false =>
  rw [h5, if_neg (by simp)] at hr
  cases h6 : s.next 5 [[123]] with
  | true =>
    rw [h6, if_pos rfl] at hr
    unfold nestThen at hr
    by_cases hd16 : 16 ≤ d
    · rw [if_pos hd16] at hr
      have e := Option.some.inj hr
      rw [← e]
      exact primary_curly_deep d w lv sv s hp h0 h1 h2 h3 h4 h5 h6 hd16 hd
    · rw [if_neg hd16] at hr
      exact primary_curly or_ hor n d w lv sv s s' hp h0 h1 h2 h3 h4 h5 h6 (by omega) hr
  | false =>
  rw [h6, if_neg (by simp)] at hr
  have e := Option.some.inj hr
  rw [← e]
  exact primary_bad d w lv sv s hp h0 h1 h2 h3 h4 h5 h6

theorem orF_reads : ∀ n, ReadsAt x 127 (orF n)
  | 0 => fun d _ w lv sv s s' _ hr => by simp [orF] at hr
  | n + 1 => by
    have h := primary_reads (x := x) (orF n) n (orF_reads n)
    have h1 := signed_reads _ n h
    have h2 := product_reads _ n h1
    have h3 := sum_reads _ n h2
    have h4 := compared_reads _ n h3
    have h5 := not_reads _ n h4
    have h6 := and_reads _ n h5
    exact or_reads _ n h6

end Go.Proofs.YtcjmhmmjfgjcnaaGreatDoor.Pa

/- The parser: what is held in memory beside it; expressions of statements, conditions. -/
namespace Go.Proofs.YtcjmhmmjfgjcnaaGreatDoor.Pa
open Go.RowKit Go.Proofs.YtcjmhmmjfgjcnaaGreatDoor.Lx
variable {x : Px}

def SafeB (x : Px) (w : World) (sv : Value) (b : Nat) : Prop := b < w.heap.size ∧ b ≠ x.B ∧ sv.ownBlock ≠ some b
theorem SafeB.heap {w w' : World} {sv lv' sv' : Value} {s' : St} {b : Nat} (h : SafeB x w sv b) (hn : Now x w sv w' lv' sv' s') : w'.heap[b]? = w.heap[b]? := hn.keep.2 b h.1 h.2.1 h.2.2
theorem SafeB.now {w w' : World} {sv lv' sv' : Value} {s' : St} {b : Nat} (h : SafeB x w sv b) (hn : Now x w sv w' lv' sv' s') : SafeB x w' sv' b := by
  refine ⟨Nat.lt_of_lt_of_le h.1 hn.keep.1, h.2.1, fun e => ?_⟩
  rcases hn.new with e' | e'
  · exact h.2.2 (by rw [← e']; exact e)
  · have := e' b e; have := h.1; omega
theorem SafeB.new {w : World} {lv sv : Value} {s : St} (h : PS x w lv sv s) (o : Obj) : SafeB x (w.alloc o) sv w.heap.size := ⟨by simp, (texts_new h).1, (texts_new h).2⟩
theorem SafeB.grow {w w' : World} {sv : Value} {b : Nat} (h : SafeB x w sv b) (hz : w.heap.size ≤ w'.heap.size) : SafeB x w' sv b := ⟨Nat.lt_of_lt_of_le h.1 hz, h.2⟩

structure HeldRow (x : Px) (w : World) (sv : Value) (s : St) (v : Value) (l : List Stp) : Prop where
  row : w.ownsRow x.W.heap.size 48 3 v l.length (stpsC l)
  safe : (v = sv ∧ l = s.steps) ∨ ∀ b, v.ownBlock = some b → SafeB x w sv b
theorem HeldRow.self {w : World} {lv sv : Value} {s : St} (h : PS x w lv sv s) : HeldRow x w sv s sv s.steps := ⟨h.own, .inl ⟨rfl, rfl⟩⟩
theorem HeldRow.nil (x : Px) (w : World) (sv : Value) (s : St) : HeldRow x w sv s (.slice none 0 0) [] := ⟨⟨by simp [stpsC], .inl ⟨rfl, rfl⟩⟩, .inr fun b hb => by simp [Value.ownBlock] at hb⟩
theorem HeldRow.now {w w' : World} {sv lv' v : Value} {s s' : St} {l : List Stp} (h : HeldRow x w sv s v l) (hn : Now x w sv w' lv' sv s') (he : s'.steps = s.steps) : HeldRow x w' sv s' v l := by
  rcases h.safe with ⟨rfl, rfl⟩ | h2
  · rw [← he]; exact HeldRow.self hn.ps
  · exact ⟨own_same h.row fun g hg _ => (h2 g hg).heap hn, .inr fun b hb => (h2 b hb).now hn⟩
theorem HeldRow.anew {w w' : World} {lv sv lv' sv' v : Value} {s s' : St} {l : List Stp} (h : HeldRow x w sv s v l) (hp : PS x w lv sv s) (hn : Now x w (.slice none 0 0) w' lv' sv' s') : HeldRow x w' sv' s' v l := by
  have h2 : ∀ b, v.ownBlock = some b → SafeB x w (.slice none 0 0) b := fun b hb => by
    refine ⟨(World.ownsRow.lt h.row b hb).2, ?_, by simp [Value.ownBlock]⟩
    rcases h.safe with ⟨rfl, _⟩ | h2
    · intro e; exact hp.ne (by rw [hb, e])
    · exact (h2 b hb).2.1
  exact ⟨own_same h.row fun g hg _ => (h2 g hg).heap hn, .inr fun b hb => (h2 b hb).now hn⟩
theorem Now.weak {w w' : World} {sv lv' sv' : Value} {s' : St} (h : Now x w (.slice none 0 0) w' lv' sv' s') : Now x w sv w' lv' sv' s' := by
  refine ⟨h.ps, ⟨h.keep.1, fun b hb hB _ => h.keep.2 b hb hB (by simp [Value.ownBlock])⟩, .inr fun b hb => ?_⟩
  rcases h.new with e | e
  · rw [e] at hb; simp [Value.ownBlock] at hb
  · exact e b hb

theorem now_reset {w : World} {lv sv : Value} {s : St} (h : PS x w lv sv s) : Now x w (.slice none 0 0) (w.setCell ⟨x.B, 4, none⟩ (.slice none 0 0)) lv (.slice none 0 0) { s with steps := [] } := by
  have hk : ∀ b, b ≠ x.B → (w.setCell ⟨x.B, 4, none⟩ (.slice none 0 0)).heap[b]? = w.heap[b]? := fun b hb => Below.heap_setCell _ _ _ _ hb
  refine ⟨⟨h.ok, set_block h.blk _ _ rfl, h.bel.trans ((Below.refl _ _).setCell h.ok.low _), h.left, ⟨by simp [stpsC], .inl ⟨rfl, rfl⟩⟩, by simp [Value.ownBlock], by simp⟩, ⟨by simp, fun b _ hB _ => hk b hB⟩, NewOr.refl _ _⟩

set_option maxRecDepth 100000 in
theorem expr_calls (n : Nat) {w : World} {lv sv : Value} {s s' : St} (h : PS x w lv sv s) (hr : expr n s = some s') :
    Calls Tryz.prog 86 #[.pointer (some ⟨x.B, 0, none⟩)] w fun e w' => ∃ lv' sv', e = .returned sv' ∧ Now x w (.slice none 0 0) w' lv' sv' s' := by
  obtain ⟨⟨c0, c1, c2, c3, c4⟩, f0, f1, f2, f3, f4⟩ := five h.blk
  have H0 := Lib.hid (now_reset h)
  have Hor := Lib.hid (orF_reads (x := x) n 0 (by omega) _ _ _ _ s' (now_reset h).ps hr)
  obtain ⟨a, c, rfl⟩ := own_form h.own
  clear h hr
  go_enter Tryz.func86, Tryz.ntmps86
  go_wp2_with fail
  refine Hor.out.mono ?_
  rintro e w1 ⟨rfl, lv1, sv1, h1⟩
  have H1 := Lib.hid (H0.out.trans h1)
  obtain ⟨⟨c0, c1, c2, c3, c4⟩, -⟩ := five h1.ps.blk
  clear h1
  go_wp2_with fail
  go_ret
  exact ⟨_, _, rfl, H1.out⟩

theorem fail_steps (s : St) (a b : Nat) : (s.fail a b).steps = s.steps := by unfold St.fail; split <;> rfl
theorem drop_steps (s : St) : s.drop.steps = s.steps := rfl
theorem after_steps (s : St) (k : Nat) (t : List Txt) : (s.after k t).steps = s.steps := by unfold St.after; split <;> rfl
theorem need_steps (s : St) (k : Nat) (t : List Txt) : (s.need k t).steps = s.steps := by
  unfold St.need; split
  · rfl
  · exact fail_steps _ _ _
theorem keys_steps : ∀ (t : List Txt) (s : St), (s.keys t).steps = s.steps
  | [], _ => rfl
  | a :: t, s => by
    have := keys_steps t (s.need 2 [a])
    rw [need_steps] at this
    exact this
theorem sign_steps (s : St) (t : Txt) : (s.sign t).steps = s.steps := need_steps _ _ _
theorem name_steps (s : St) : s.name.steps = s.steps := need_steps _ _ _

def GaveRow (x : Px) (w : World) (sv : Value) (s : St) (l : List Stp) (s' : St) (e : Ending) (w' : World) : Prop :=
  ∃ lv' sv' v, e = .returned v ∧ Now x w sv w' lv' sv' s' ∧ HeldRow x w' sv' s' v l ∧ (∀ b, v.ownBlock = some b → w.heap.size ≤ b) ∧ ∀ v0 l0, HeldRow x w sv s v0 l0 → HeldRow x w' sv' s' v0 l0

set_option maxRecDepth 100000 in
theorem where_calls (n : Nat) {w : World} {lv sv : Value} {s : St} {r : List Stp × St} (h : PS x w lv sv s) (hr : where_ n s = some r) :
    Calls Tryz.prog 88 #[.pointer (some ⟨x.B, 0, none⟩)] w (GaveRow x w sv s r.1 r.2) := by
  unfold where_ at hr
  have Hk := Lib.hid (key_callsC h kWHERE)
  cases hx : s.next 2 [kWHERE] with
  | true =>
    rw [hx, if_pos rfl] at hr
    obtain ⟨s1, hs1, hr1⟩ := Option.bind_eq_some_iff.1 hr
    have e := Option.some.inj hr1
    subst e
    rw [hx, (next_take hx).1] at Hk
    have Hs1 := Lib.hid hs1
    have Hst := Lib.hid (drop_steps s)
    clear h hr hs1 hr1 hx
    go_enter Tryz.func88, Tryz.ntmps88
    go_wp2_with fail
    refine Hk.out.mono ?_
    rintro e w1 ⟨rfl, lv1, h1⟩
    have H1 := Lib.hid h1
    clear h1
    go_wp2_with fail
    refine (expr_calls n H1.out.ps Hs1.out).mono ?_
    rintro e w2 ⟨lv2, sv2, rfl, h2⟩
    have H2 := Lib.hid h2
    clear h2
    go_wp2_with fail
    go_ret
    refine ⟨lv2, sv2, sv2, rfl, H1.out.trans H2.out.weak, HeldRow.self H2.out.ps, fun b hb => ?_, fun v0 l0 hv0 => (hv0.now H1.out Hst.out).anew H1.out.ps H2.out⟩
    have h0 := H1.out.keep.1
    rcases H2.out.new with e | e
    · rw [e] at hb; simp [Value.ownBlock] at hb
    · have := e b hb; omega
  | false =>
    rw [hx, if_neg (by simp)] at hr
    have e := Option.some.inj hr
    subst e
    rw [hx, (need_no hx).2] at Hk
    clear h hr hx
    go_enter Tryz.func88, Tryz.ntmps88
    go_wp2_with fail
    refine Hk.out.mono ?_
    rintro e w1 ⟨rfl, lv1, h1⟩
    have H1 := Lib.hid h1
    clear h1
    go_wp2_with fail
    go_ret
    exact ⟨_, _, _, rfl, H1.out, HeldRow.nil _ _ _ _, fun b hb => by simp [Value.ownBlock] at hb, fun v0 l0 hv0 => hv0.now H1.out rfl⟩

end Go.Proofs.YtcjmhmmjfgjcnaaGreatDoor.Pa

/- The parser: items, what is kept in memory. -/
namespace Go.Proofs.YtcjmhmmjfgjcnaaGreatDoor.Pa
open Go.RowKit Go.Proofs.YtcjmhmmjfgjcnaaGreatDoor.Lx
variable {x : Px}

def itsC : List Itm → List Value → List Value
  | i :: r, v :: vs => .string ⟨i.name.toArray⟩ :: v :: itsC r vs
  | _, _ => []
theorem itsC_snoc : ∀ (l : List Itm) (vs : List Value) (i : Itm) (v : Value), vs.length = l.length → itsC (l ++ [i]) (vs ++ [v]) = itsC l vs ++ [.string ⟨i.name.toArray⟩, v]
  | [], [], _, _, _ => rfl
  | a :: l, b :: vs, i, v, h => by
    simp only [List.cons_append, itsC]
    rw [itsC_snoc l vs i v (by simpa using h)]
  | [], _ :: _, _, _, h => by simp at h
  | _ :: _, [], _, _, h => by simp at h

structure ItM (x : Px) (w0 : World) (sv0 : Value) (s0 : St) (wr : World) (lv sv : Value) (s : St) (vo vn : Value) (its : List Itm) (evs : List Value) (nms : List Txt) : Prop where
  now : Now x w0 sv0 wr lv sv s
  out : wr.ownsRow x.W.heap.size 95 2 vo its.length (itsC its evs)
  names : OwnStrs wr x.W.heap.size vn nms
  lenE : evs.length = its.length
  exps : ∀ (i : Nat) (h : i < its.length) (h' : i < evs.length), HeldRow x wr sv s evs[i] its[i].expr
  sO : ∀ b, vo.ownBlock = some b → SafeB x wr sv b ∧ w0.heap.size ≤ b ∧ vn.ownBlock ≠ some b ∧ ∀ v ∈ evs, v.ownBlock ≠ some b
  sN : ∀ b, vn.ownBlock = some b → SafeB x wr sv b ∧ w0.heap.size ≤ b ∧ ∀ v ∈ evs, v.ownBlock ≠ some b
  held : ∀ v0 l0, HeldRow x w0 sv0 s0 v0 l0 → HeldRow x wr sv s v0 l0
  old : x.W.heap.size ≤ w0.heap.size
  fresh : ∀ v ∈ evs, ∀ b, v.ownBlock = some b → w0.heap.size ≤ b

theorem HeldRow.other {w w' : World} {sv v : Value} {s : St} {l : List Stp} (h : HeldRow x w sv s v l) (hz : w.heap.size ≤ w'.heap.size) (hk : ∀ b, v.ownBlock = some b → w'.heap[b]? = w.heap[b]?) : HeldRow x w' sv s v l :=
  ⟨own_same h.row fun g hg _ => hk g hg, h.safe.imp id fun h2 b hb => (h2 b hb).grow hz⟩

theorem ItM.start {w : World} {lv sv : Value} {s : St} (h : PS x w lv sv s) : ItM x w sv s w lv sv s (.slice none 0 0) (.slice none 0 0) [] [] [] :=
  ⟨Now.refl h, ⟨by simp [itsC], .inl ⟨rfl, rfl⟩⟩, OwnStrs.nil _ _, rfl, fun i h => absurd h (Nat.not_lt_zero _), fun b hb => by simp [Value.ownBlock] at hb, fun b hb => by simp [Value.ownBlock] at hb, fun _ _ h => h, h.bel.size, by simp⟩
variable {w0 wr w' : World} {sv0 lv sv lv' sv' vo vn : Value} {s0 s s' : St} {its : List Itm} {evs : List Value} {nms : List Txt}
theorem ItM.cur (h : ItM x w0 sv0 s0 wr lv sv s vo vn its evs nms) (hn : Now x wr sv w' lv' sv s') (he : s'.steps = s.steps) : ItM x w0 sv0 s0 w' lv' sv s' vo vn its evs nms :=
  ⟨h.now.trans hn, own_same h.out fun g hg _ => (h.sO g hg).1.heap hn, own_same h.names fun g hg _ => (h.sN g hg).1.heap hn, h.lenE, fun i h1 h2 => (h.exps i h1 h2).now hn he,
    fun b hb => ⟨(h.sO b hb).1.now hn, (h.sO b hb).2⟩, fun b hb => ⟨(h.sN b hb).1.now hn, (h.sN b hb).2⟩, fun v0 l0 hv => (h.held v0 l0 hv).now hn he, h.old, h.fresh⟩
theorem ItM.below (h : ItM x w0 sv0 s0 wr lv sv s vo vn its evs nms) (hb : Below wr.heap.size wr w') : ItM x w0 sv0 s0 w' lv sv s vo vn its evs nms :=
  h.cur ((Now.refl h.now.ps).step hb) rfl
theorem ItM.alloc (h : ItM x w0 sv0 s0 wr lv sv s vo vn its evs nms) (o : Obj) : ItM x w0 sv0 s0 (wr.alloc o) lv sv s vo vn its evs nms := h.below (alloc_below _ _)
theorem SafeB.nil {w : World} {sv : Value} {b : Nat} (h : SafeB x w sv b) : SafeB x w (.slice none 0 0) b := ⟨h.1, h.2.1, by simp [Value.ownBlock]⟩
theorem ItM.anew (h : ItM x w0 sv0 s0 wr lv sv s vo vn its evs nms) (hn : Now x wr (.slice none 0 0) w' lv' sv' s') : ItM x w0 sv0 s0 w' lv' sv' s' vo vn its evs nms :=
  ⟨h.now.trans hn.weak, own_same h.out fun g hg _ => (h.sO g hg).1.nil.heap hn, own_same h.names fun g hg _ => (h.sN g hg).1.nil.heap hn, h.lenE, fun i h1 h2 => (h.exps i h1 h2).anew h.now.ps hn,
    fun b hb => ⟨(h.sO b hb).1.nil.now hn, (h.sO b hb).2⟩, fun b hb => ⟨(h.sN b hb).1.nil.now hn, (h.sN b hb).2⟩, fun v0 l0 hv => (h.held v0 l0 hv).anew h.now.ps hn, h.old, h.fresh⟩

theorem ItM.turn (h : ItM x w0 sv0 s0 wr lv sv s vo vn its evs nms) (row : Option Nat) (hz : wr.heap.size ≤ w'.heap.size) (hk : ∀ b, b < wr.heap.size → row ≠ some b → w'.heap[b]? = wr.heap[b]?) (hbel : Below x.W.heap.size wr w')
    (hB : row ≠ some x.B) (hS : ∀ b, row = some b → sv.ownBlock ≠ some b) (hE : ∀ v ∈ evs, ∀ b, row = some b → v.ownBlock ≠ some b) (h0 : ∀ b, row = some b → w0.heap.size ≤ b) :
    Now x w0 sv0 w' lv sv s ∧ (∀ (i : Nat) (h : i < its.length) (h' : i < evs.length), HeldRow x w' sv s evs[i] its[i].expr) ∧ ∀ v0 l0, HeldRow x w0 sv0 s0 v0 l0 → HeldRow x w' sv s v0 l0 := by
  have hp := h.now.ps
  refine ⟨⟨⟨hp.ok, (hk _ hp.lt hB).trans hp.blk, hp.bel.trans hbel, hp.left, own_same hp.own fun g hg hlt => hk g hlt (fun e => hS g e hg), hp.ne, hp.few⟩, ⟨Nat.le_trans h.now.keep.1 hz, fun b hb h1 h2 => (hk b (Nat.lt_of_lt_of_le hb h.now.keep.1) (fun e => by have := h0 b e; omega)).trans (h.now.keep.2 b hb h1 h2)⟩, h.now.new⟩,
    fun i h1 h2 => (h.exps i h1 h2).other hz fun b hb => hk b (World.ownsRow.lt (h.exps i h1 h2).row b hb).2 (fun e => hE _ (List.getElem_mem h2) b e hb), fun v0 l0 hv => (h.held v0 l0 hv).other hz fun b hb => ?_⟩
  have hlt := (World.ownsRow.lt hv.row b hb).2
  exact hk b (Nat.lt_of_lt_of_le hlt h.now.keep.1) (fun e => by have := h0 b e; omega)

theorem ItM.set (h : ItM x w0 sv0 s0 wr lv sv s vo vn its evs nms) {Bi : Nat} (i : Nat) (v : Value) (hlow : w0.heap.size ≤ Bi) (hB : Bi ≠ x.B) (hS : sv.ownBlock ≠ some Bi) (hE : ∀ v ∈ evs, v.ownBlock ≠ some Bi) (hO : vo.ownBlock ≠ some Bi) (hN : vn.ownBlock ≠ some Bi) :
    ItM x w0 sv0 s0 (wr.setCell ⟨Bi, i, none⟩ v) lv sv s vo vn its evs nms := by
  have hos : ∀ b, b ≠ Bi → (wr.setCell ⟨Bi, i, none⟩ v).heap[b]? = wr.heap[b]? := fun b hb => Below.heap_setCell _ _ _ _ hb
  have hz : wr.heap.size ≤ (wr.setCell ⟨Bi, i, none⟩ v).heap.size := by simp
  obtain ⟨t1, t2, t3⟩ := h.turn (some Bi) hz (fun b _ hr => hos b (fun e => hr (by rw [e]))) ((Below.refl _ _).setCell (Nat.le_trans h.old hlow) _) (fun e => hB (Option.some.inj e)) (fun b e => by rw [← Option.some.inj e]; exact hS) (fun v hv b e => by rw [← Option.some.inj e]; exact hE v hv) (fun b e => by rw [← Option.some.inj e]; exact hlow)
  exact ⟨t1, own_same h.out fun g hg _ => hos g (fun e => hO (by rw [hg, e])), own_same h.names fun g hg _ => hos g (fun e => hN (by rw [hg, e])), h.lenE, t2, fun b hb => ⟨(h.sO b hb).1.grow hz, (h.sO b hb).2⟩, fun b hb => ⟨(h.sN b hb).1.grow hz, (h.sN b hb).2⟩, t3, h.old, h.fresh⟩

theorem grown_turn {w w1 : World} {row : Option Nat} (hg : w.grownBy w1 row) : w.heap.size ≤ w1.heap.size ∧ ∀ b, b < w.heap.size → row ≠ some b → w1.heap[b]? = w.heap[b]? :=
  ⟨hg.size, fun b hb hs => hg.block b hb (fun e => hs e.symm)⟩
theorem ItM.moreN (h : ItM x w0 sv0 s0 wr lv sv s vo vn its evs nms) (t : Txt) {w1 : World} {v1 : Value} (hown : w1.ownsRow x.W.heap.size 9 1 v1 (nms.length + 1) (strsC nms ++ [.string ⟨t.toArray⟩]))
    (hg : wr.grownBy w1 vn.ownBlock) (hat : v1.ownBlock = vn.ownBlock ∨ ∃ b, v1.ownBlock = some b ∧ wr.heap.size ≤ b) : ItM x w0 sv0 s0 w1 lv sv s vo v1 its evs (nms ++ [t]) := by
  obtain ⟨hz, hk⟩ := grown_turn hg
  have hbel : Below x.W.heap.size wr w1 := ((Below.refl _ _).grown hg h.now.ps.bel.size fun b hb => (World.ownsRow.lt h.names b hb).1)
  obtain ⟨t1, t2, t3⟩ := h.turn vn.ownBlock hz hk hbel (fun e => (h.sN _ e).1.2.1 rfl) (fun b e => (h.sN b e).1.2.2) (fun v hv b e => (h.sN b e).2.2 v hv) (fun b e => (h.sN b e).2.1)
  have hev : ∀ v ∈ evs, ∀ b, v.ownBlock = some b → b < wr.heap.size := fun v hv b hb => by
    obtain ⟨i, hi, e⟩ := List.getElem_of_mem hv
    have := h.exps i (by rw [← h.lenE]; exact hi) hi
    rw [e] at this
    exact (World.ownsRow.lt this.row b hb).2
  refine ⟨t1, own_same h.out fun g hg' hlt => hk g hlt (fun e => (h.sO g hg').2.2.1 e), ?_, h.lenE, t2, fun b hb => ?_, fun b hb => ?_, t3, h.old, h.fresh⟩
  · unfold OwnStrs
    rw [strsC_snoc, List.length_append]
    exact hown
  · obtain ⟨p1, p2, p3, p4⟩ := h.sO b hb
    refine ⟨p1.grow hz, p2, fun e => ?_, p4⟩
    rcases hat with e' | ⟨b', e', hb'⟩
    · exact p3 (by rw [← e']; exact e)
    · rw [e'] at e; have := Option.some.inj e; have := p1.1; omega
  · rcases hat with e' | ⟨b', e', hb'⟩
    · obtain ⟨p1, p2, p3⟩ := h.sN b (by rw [← e']; exact hb)
      exact ⟨p1.grow hz, p2, p3⟩
    · rw [e'] at hb
      have e2 := Option.some.inj hb
      subst e2
      have hB := h.now.ps.lt
      refine ⟨⟨(World.ownsRow.lt hown b' e').2, by omega, h.now.ps.own_lt hb'⟩, Nat.le_trans h.now.keep.1 hb', fun v hv e3 => by have := hev v hv b' e3; omega⟩
theorem ItM.moreO (h : ItM x w0 sv0 s0 wr lv sv s vo vn its evs nms) (i : Itm) (v : Value) (hv : HeldRow x wr sv s v i.expr) (hvd : ∀ b, v.ownBlock = some b → vo.ownBlock ≠ some b ∧ vn.ownBlock ≠ some b) (hvf : ∀ b, v.ownBlock = some b → w0.heap.size ≤ b) {w1 : World} {v1 : Value}
    (hown : w1.ownsRow x.W.heap.size 95 2 v1 (its.length + 1) (itsC its evs ++ [.string ⟨i.name.toArray⟩, v]))
    (hg : wr.grownBy w1 vo.ownBlock) (hat : v1.ownBlock = vo.ownBlock ∨ ∃ b, v1.ownBlock = some b ∧ wr.heap.size ≤ b) : ItM x w0 sv0 s0 w1 lv sv s v1 vn (its ++ [i]) (evs ++ [v]) nms := by
  obtain ⟨hz, hk⟩ := grown_turn hg
  have hbel : Below x.W.heap.size wr w1 := ((Below.refl _ _).grown hg h.now.ps.bel.size fun b hb => (World.ownsRow.lt h.out b hb).1)
  obtain ⟨t1, t2, t3⟩ := h.turn vo.ownBlock hz hk hbel (fun e => (h.sO _ e).1.2.1 rfl) (fun b e => (h.sO b e).1.2.2) (fun v hv b e => (h.sO b e).2.2.2 v hv) (fun b e => (h.sO b e).2.1)
  have hv2 : HeldRow x w1 sv s v i.expr := hv.other hz fun b hb => hk b (World.ownsRow.lt hv.row b hb).2 (hvd b hb).1
  have hlt : ∀ u ∈ evs ++ [v], ∀ b, u.ownBlock = some b → b < wr.heap.size := fun u hu b hb => by
    rcases List.mem_append.1 hu with hu | hu
    · obtain ⟨j, hj, e⟩ := List.getElem_of_mem hu
      have := h.exps j (by rw [← h.lenE]; exact hj) hj
      rw [e] at this
      exact (World.ownsRow.lt this.row b hb).2
    · simp at hu; subst hu; exact (World.ownsRow.lt hv.row b hb).2
  refine ⟨t1, ?_, own_same h.names fun g hg' hlt => hk g hlt (fun e => (h.sO g e).2.2.1 hg'), by simp [h.lenE], fun j h1 h2 => ?_, fun b hb => ?_, fun b hb => ?_, t3, h.old, fun u hu b hb => by
    rcases List.mem_append.1 hu with hu | hu
    · exact h.fresh u hu b hb
    · simp at hu; subst hu; exact hvf b hb⟩
  · rw [itsC_snoc _ _ _ _ h.lenE, List.length_append]
    exact hown
  · by_cases hj : j < its.length
    · have hj' : j < evs.length := by rw [h.lenE]; exact hj
      rw [List.getElem_append_left hj, List.getElem_append_left hj']
      exact t2 j hj hj'
    · have e1 : j = its.length := by simp at h1; omega
      subst e1
      have hle := h.lenE
      rw [List.getElem_append_right (by omega), List.getElem_append_right (by omega)]
      simpa [hle] using hv2
  · rcases hat with e' | ⟨b', e', hb'⟩
    · obtain ⟨p1, p2, p3, p4⟩ := h.sO b (by rw [← e']; exact hb)
      refine ⟨p1.grow hz, p2, p3, fun u hu e3 => ?_⟩
      rcases List.mem_append.1 hu with hu | hu
      · exact p4 u hu e3
      · simp at hu; subst hu; exact (hvd b e3).1 (by rw [← e']; exact hb)
    · rw [e'] at hb
      have e2 := Option.some.inj hb
      subst e2
      have hB := h.now.ps.lt
      refine ⟨⟨(World.ownsRow.lt hown b' e').2, by omega, h.now.ps.own_lt hb'⟩, Nat.le_trans h.now.keep.1 hb', fun e3 => ?_, fun u hu e3 => ?_⟩
      · have := (h.sN b' e3).1.1; omega
      · have := hlt u hu b' e3; omega
  · obtain ⟨p1, p2, p3⟩ := h.sN b hb
    refine ⟨p1.grow hz, p2, fun u hu e3 => ?_⟩
    rcases List.mem_append.1 hu with hu | hu
    · exact p3 u hu e3
    · simp at hu; subst hu; exact (hvd b e3).2 hb

end Go.Proofs.YtcjmhmmjfgjcnaaGreatDoor.Pa
