/- Parts: PaN PaO. -/
import Derived.Test.YtcjmhmmjfgjcnaaGreatDoorMc20
import Derived.LoopTactic
import Derived.StillTailTactics
import Derived.Maps.AppendAt
import Derived.Deep.DeepMust
import Derived.Deep.AppendLies
import Derived.Deep.RegionLaw
import Derived.Laws.AppendOwn

/- The parser's cursor: its methods. -/
namespace Go.Proofs.YtcjmhmmjfgjcnaaGreatDoor.Pa
open Go.RowKit Go.Proofs.YtcjmhmmjfgjcnaaGreatDoor.Lx

def idxI (l : List Txt) (x : Txt) : Int := if x ∈ l then (l.idxOf x : Nat) else -1
theorem idxOf_at {l : List Txt} {x : Txt} {k : Nat} (hk : k < l.length) (e : l[k] = x) (hn : ∀ j (h : j < l.length), j < k → l[j] ≠ x) : l.idxOf x = k := by
  induction l generalizing k with
  | nil => simp at hk
  | cons y l ih =>
    cases k with
    | zero => simp at e; simp [e]
    | succ k =>
      have h0 : y ≠ x := hn 0 (by simp) (by omega)
      rw [List.idxOf_cons, show (y == x) = false by simpa using h0, cond_false]
      congr 1
      exact ih (by simpa using hk) (by simpa using e) fun j hj hjk => by have := hn (j + 1) (by simpa using hj) (by omega); simpa using this
theorem idxI_at {l : List Txt} {x : Txt} {k : Nat} (hk : k < l.length) (e : l[k] = x) (hn : ∀ j (h : j < l.length), j < k → l[j] ≠ x) : idxI l x = k := by
  unfold idxI
  rw [if_pos (by rw [← e]; exact List.getElem_mem hk), idxOf_at hk e hn]
theorem idxI_none {l : List Txt} {x : Txt} (hn : ∀ j (h : j < l.length), l[j] ≠ x) : idxI l x = -1 := by
  unfold idxI
  rw [if_neg]
  intro h
  obtain ⟨j, hj, e⟩ := List.getElem_of_mem h
  exact hn j hj e
theorem bytes_beq (a b : Txt) : ((⟨a.toArray⟩ : ByteArray).toList == (⟨b.toArray⟩ : ByteArray).toList) = decide (a = b) := by
  rw [ByteArray.toList_eq, ByteArray.toList_eq]
  rw [Bool.eq_iff_iff]; simp
theorem ret_intI {k : IntKind} {a b : Int} (h : a = b) : Ending.returned (.int k a) = .returned (.int k b) := by rw [h]

set_option maxRecDepth 100000 in
theorem index_calls (w : World) (v : Value) (l : List Txt) (x : Txt) (h : StrsAt w v l) (hl : l.length ≤ 1048576) :
    Calls Tryz.prog 174 #[v, .string ⟨x.toArray⟩] w fun e w' => e = .returned (.int .i64 (idxI l x)) ∧ w = w' := by
  obtain ⟨a, n, c, rfl, hn, hc, hj⟩ := h
  have Hn := Lib.hid hn
  have Hj := Lib.hid hj
  have hn2 : n ≤ 1048576 := by omega
  clear hn hj
  go_enter Tryz.func174, Tryz.ntmps174
  go_wp2
  go_loop [8] (fun i => ∃ k : Nat, k ≤ n ∧ i = .int .i64 k ∧ Hid (∀ j (h : j < l.length), j < k → l[j] ≠ x)) (fun i => n - (intOf i).toNat)
  case atStart => exact ⟨0, Nat.zero_le _, rfl, fun j _ hj => absurd hj (Nat.not_lt_zero _)⟩
  case round =>
    obtain ⟨k, hk, rfl, hno⟩ := hrel
    by_cases hlt : k < n
    · have hkl : k < l.length := by rw [Hn.out]; exact hlt
      obtain ⟨g, rfl, hcell⟩ := Hj.out k hkl
      have hlen : (k : Int) < n := by omega
      by_cases e : l[k] = x
      · have hb : ((⟨x.toArray⟩ : ByteArray).toList == (⟨(l[k]).toArray⟩ : ByteArray).toList) = true := by rw [bytes_beq]; simp [e]
        have hb2 : (x == l[k]) = true := by simp [e]
        have Hr := Lib.hid (idxI_at hkl e hno.out)
        generalize l[k] = y at *
        clear e
        go_wp2
        go_ret
        exact ⟨ret_intI Hr.out.symm, rfl⟩
      · have hb : ((⟨x.toArray⟩ : ByteArray).toList == (⟨(l[k]).toArray⟩ : ByteArray).toList) = false := by rw [bytes_beq]; simp; exact fun h => e h.symm
        have Hr := Lib.hid (show ∀ j (h : j < l.length), j < k + 1 → l[j] ≠ x from fun j h hj => by
          rcases Nat.lt_or_ge j k with h' | h'
          · exact hno.out j h h'
          · obtain rfl : j = k := by omega
            exact e)
        have hb2 : (x == l[k]) = false := by simp; exact fun h => e h.symm
        generalize l[k] = y at *
        clear e
        go_wp2
        go_round
        case rel => exact ⟨k + 1, by omega, by go_num, Hr⟩
        case measure => simp [intOf]; omega
    · have Hr := Lib.hid (idxI_none (l := l) (x := x) fun j h => hno.out j h (by have := Hn.out; omega))
      go_wp2
      go_ret
      exact ⟨ret_intI Hr.out.symm, rfl⟩

theorem idxI_ge (l : List Txt) (x : Txt) : decide (0 ≤ idxI l x) = l.contains x := by
  unfold idxI
  by_cases h : x ∈ l
  · rw [if_pos h]; simp [h]
  · rw [if_neg h]; simp [h]
theorem idxI_bd (l : List Txt) (x : Txt) (hl : l.length ≤ 1048576) : -1 ≤ idxI l x ∧ idxI l x ≤ 1048576 := by
  unfold idxI
  split
  · have := List.idxOf_le_length (a := x) (l := l); omega
  · omega
theorem contains_calls (w : World) (v : Value) (l : List Txt) (x : Txt) (h : StrsAt w v l) (hl : l.length ≤ 1048576) :
    Calls Tryz.prog 172 #[v, .string ⟨x.toArray⟩] w fun e w' => e = .returned (.bool (l.contains x)) ∧ w = w' := by
  obtain ⟨a, n, c, hv, hr⟩ := h
  subst hv
  have Hh := Lib.hid (show StrsAt w (.slice a n c) l from ⟨a, n, c, rfl, hr⟩)
  have hb := idxI_bd l x hl
  clear hr
  go_enter Tryz.func172, Tryz.ntmps172
  go_wp2_with fail
  refine (index_calls _ _ _ _ Hh.out hl).mono ?_
  rintro e w' ⟨rfl, rfl⟩
  go_wp2_with fail
  go_ret
  exact ⟨ret_bool (idxI_ge l x), rfl⟩

/-! ### the cursor -/
variable {x : Px} {w : World} {lv sv : Value} {s : St}
theorem place_calls (h : PS x w lv sv s) : Calls Tryz.prog 43 #[.pointer (some ⟨x.B, 0, none⟩)] w fun e w' => e = .returned (.int .i64 s.place) ∧ w = w' := by
  obtain ⟨⟨c0, c1, c2, c3, c4⟩, f0, f1, f2, f3, f4⟩ := five h.blk
  cases hl : s.left with
  | nil =>
    obtain ⟨a, c, rfl⟩ := h.left.nil hl
    have hp : s.place = s.fin := by unfold St.place; rw [hl]
    rw [hp]
    clear hp hl h
    go_enter Tryz.func43, Tryz.ntmps43
    go_wp2_with fail
    go_ret
    exact ⟨rfl, rfl⟩
  | cons t r =>
    obtain ⟨k, n, c, rfl, h1, h2, h16, ⟨k0, k1, k2, k3⟩, -⟩ := h.head hl
    have hp : s.place = t.pos := by unfold St.place; rw [hl]
    rw [hp]
    have hb : ((n : Int) == 0) = false := by rw [beq_eq_false_iff_ne]; omega
    clear hp hl h
    go_enter Tryz.func43, Tryz.ntmps43
    go_wp2_with fail
    go_ret
    exact ⟨rfl, rfl⟩

theorem now_fail (h : PS x w lv sv s) (hw : s.why = 0) (why at_ : Nat) :
    Now x w sv (((w.setCell ⟨x.B, 2, none⟩ (.int .i64 why)).setCell ⟨x.B, 3, none⟩ (.int .i64 at_)).setCell ⟨x.B, 0, none⟩ (.slice none 0 0)) (.slice none 0 0) sv (s.fail why at_) := by
  have e : s.fail why at_ = { s with why := why, at_ := at_, left := [] } := by unfold St.fail; rw [if_pos hw]
  rw [e]
  have hk : ∀ b, b ≠ x.B → (((w.setCell ⟨x.B, 2, none⟩ (.int .i64 why)).setCell ⟨x.B, 3, none⟩ (.int .i64 at_)).setCell ⟨x.B, 0, none⟩ (.slice none 0 0)).heap[b]? = w.heap[b]? := fun b hb => by
    rw [Below.heap_setCell _ _ _ _ hb, Below.heap_setCell _ _ _ _ hb, Below.heap_setCell _ _ _ _ hb]
  refine ⟨h.turn ((((Below.refl _ _).setCell h.ok.low _).setCell h.ok.low _).setCell h.ok.low _) hk ?_ (LeftIs.zero x) rfl, ⟨by simp, fun b _ hB _ => hk b hB⟩, NewOr.refl _ _⟩
  refine set_block (set_block (set_block h.blk _ _ rfl) _ _ rfl) _ _ rfl
theorem fail_callsC (h : PS x w lv sv s) (why at_ : Nat) : Calls Tryz.prog 42 #[.pointer (some ⟨x.B, 0, none⟩), .int .i64 why, .int .i64 at_] w (DidC x w sv (s.fail why at_)) := by
  obtain ⟨⟨c0, c1, c2, c3, c4⟩, f0, f1, f2, f3, f4⟩ := five h.blk
  by_cases hw : s.why = 0
  · have hn := now_fail h hw why at_
    have hb : ((s.why : Int) == 0) = true := by rw [beq_iff_eq]; omega
    have Hn := Lib.hid hn
    clear hn hw h
    go_enter Tryz.func42, Tryz.ntmps42
    go_wp2_with fail
    go_end0
    exact ⟨rfl, _, Hn.out⟩
  · have e : s.fail why at_ = s := by unfold St.fail; rw [if_neg hw]
    rw [e]
    have Hn := Lib.hid (Now.refl h)
    have hb : ((s.why : Int) == 0) = false := by rw [beq_eq_false_iff_ne]; omega
    clear hw e h
    go_enter Tryz.func42, Tryz.ntmps42
    go_wp2_with fail
    go_end0
    exact ⟨rfl, _, Hn.out⟩
theorem fail_calls (h : PS x w lv sv s) (why at_ : Nat) : Calls Tryz.prog 42 #[.pointer (some ⟨x.B, 0, none⟩), .int .i64 why, .int .i64 at_] w (Did x w sv (s.fail why at_)) :=
  (fail_callsC h why at_).mono fun _ _ h => h.did

theorem next_nil (hl : s.left = []) (k : Nat) (texts : List Txt) : s.next k texts = false := by unfold St.next; rw [hl]
theorem next_cons {t : Tok} {r : List Tok} (hl : s.left = t :: r) (k : Nat) (texts : List Txt) : s.next k texts = (t.kind == k && (texts.isEmpty || texts.contains t.text)) := by unfold St.next; rw [hl]

set_option maxRecDepth 100000 in
theorem next_calls (h : PS x w lv sv s) (k : Nat) (tv : Value) (texts : List Txt) (ht : StrsAt w tv texts) (hl100 : texts.length ≤ 100) :
    Calls Tryz.prog 148 #[.pointer (some ⟨x.B, 0, none⟩), .int .u8 k, tv] w fun e w' => e = .returned (.bool (s.next k texts)) ∧ w = w' := by
  obtain ⟨⟨c0, c1, c2, c3, c4⟩, f0, f1, f2, f3, f4⟩ := five h.blk
  cases hl : s.left with
  | nil =>
    obtain ⟨a, c, rfl⟩ := h.left.nil hl
    rw [next_nil hl]
    clear hl h
    go_enter Tryz.func148, Tryz.ntmps148
    go_wp2_with fail
    go_ret
    exact ⟨rfl, rfl⟩
  | cons t r =>
    obtain ⟨m, n, c, rfl, h1, h2, h16, ⟨k0, k1, k2, k3⟩, -⟩ := h.head hl
    have h0 : (0 : Int) < n := by omega
    have h0' : 0 < n := by omega
    rw [next_cons hl]
    clear hl h
    by_cases hk : t.kind = k
    · have hb : ((t.kind : Int) == (k : Int)) = true := by rw [beq_iff_eq]; omega
      have hb' : (t.kind == k) = true := by rw [beq_iff_eq]; omega
      rw [hb']
      clear hb'
      obtain ⟨ta, tn, tc, rfl, htn, htc, htj⟩ := ht
      by_cases he : texts = []
      · subst he
        have hz : tn = 0 := by simpa using htn.symm
        subst hz
        clear hk htn htj
        go_enter Tryz.func148, Tryz.ntmps148
        go_wp2_with fail
        go_ret
        exact ⟨ret_bool (by simp), rfl⟩
      · have hz : ((tn : Int) == 0) = false := by rw [beq_eq_false_iff_ne]; intro e; exact he (List.eq_nil_of_length_eq_zero (by omega))
        have hie : texts.isEmpty = false := by cases texts with | nil => exact absurd rfl he | cons _ _ => rfl
        have Hc := Lib.hid (contains_calls w (.slice ta tn tc) texts t.text ⟨ta, tn, tc, rfl, htn, htc, htj⟩ (by omega))
        rw [hie]
        clear hk he hie htn htj
        go_enter Tryz.func148, Tryz.ntmps148
        go_wp2_with (go_at_call 172; refine Hc.out.mono ?_; rintro e w' ⟨rfl, rfl⟩)
        go_ret
        exact ⟨ret_bool (by simp), rfl⟩
    · have hb : ((t.kind : Int) == (k : Int)) = false := by rw [beq_eq_false_iff_ne]; omega
      have hb' : (t.kind == k) = false := by rw [beq_eq_false_iff_ne]; exact hk
      rw [hb']
      clear hk hb'
      go_enter Tryz.func148, Tryz.ntmps148
      go_wp2_with fail
      go_ret
      exact ⟨ret_bool (by simp), rfl⟩

theorem now_drop (h : PS x w lv sv s) {t : Tok} {r : List Tok} (hl : s.left = t :: r) (lv' : Value) (hl' : LeftIs x lv' r) :
    Now x w sv (w.setCell ⟨x.B, 0, none⟩ lv') lv' sv s.drop := by
  have e : s.drop.left = r := by unfold St.drop; simp [hl]
  refine ⟨h.turn ((Below.refl _ _).setCell h.ok.low _) (fun b hb => Below.heap_setCell _ _ _ _ hb) (set_block h.blk _ _ rfl) (by rw [e]; exact hl') rfl, keep_set _ _, NewOr.refl _ _⟩

set_option maxRecDepth 100000 in
theorem take_callsC (h : PS x w lv sv s) (k : Nat) (tv : Value) (texts : List Txt) (ht : StrsAt w tv texts) (hl100 : texts.length ≤ 100) :
    Calls Tryz.prog 125 #[.pointer (some ⟨x.B, 0, none⟩), .int .u8 k, tv] w
      (GaveC x w sv (.tuple #[(s.taken k texts).val, .bool (s.next k texts)]) (s.after k texts)) := by
  have Hn := Lib.hid (next_calls (h.step (alloc_below w (.cells #[.int .u8 0, .string ⟨#[]⟩, .int .i64 0, .int .i64 0] 41))) k tv texts (ht.below (alloc_below _ _)) hl100)
  cases hx : s.next k texts with
  | false =>
    have e1 : s.after k texts = s := by unfold St.after; rw [hx]; rfl
    have e2 : s.taken k texts = tok0 := by unfold St.taken; rw [hx]; rfl
    rw [e1, e2]
    have Hr := Lib.hid (Now.refl h)
    have Hx := Lib.hid hx
    clear h hx e1 e2
    go_enter Tryz.func125, Tryz.ntmps125
    go_wp2_with fail
    refine Hn.out.mono ?_
    rw [Hx.out]
    rintro e w' ⟨rfl, rfl⟩
    go_wp2_with fail
    exact bodyPost_ret (v := .tuple #[tok0.val, .bool false]) (by simp [results, Tryz.results125, go_sem, tok0, Tok.val]) rfl ⟨rfl, _, Hr.out.alloc _⟩
  | true =>
    obtain ⟨t, r, hl⟩ : ∃ t r, s.left = t :: r := by
      cases hl : s.left with
      | nil => rw [next_nil hl] at hx; cases hx
      | cons t r => exact ⟨t, r, rfl⟩
    have e1 : s.after k texts = s.drop := by unfold St.after; rw [hx]; rfl
    have e2 : s.taken k texts = t := by unfold St.taken St.head; rw [hx, hl]; rfl
    rw [e1, e2]
    obtain ⟨⟨c0, c1, c2, c3, c4⟩, f0, f1, f2, f3, f4⟩ := five h.blk
    obtain ⟨m, n, c, rfl, h1, h2, h16, ⟨k0, k1, k2, k3⟩, ⟨hall, hlen⟩, -, hgB, hgw⟩ := h.head hl
    have hBw := h.lt
    have Hd := Lib.hid (fun lv' hl' => now_drop (w := w) h hl lv' hl')
    have Htl := Lib.hid (fun v hv => LeftIs.tail (x := x) hall hlen h2 v hv)
    have Hx := Lib.hid hx
    have hn1 : (1 : Int) ≤ n := by omega
    have hBs : x.B ≠ w.heap.size := by omega
    have hBs1 : x.B ≠ w.heap.size + 1 := by omega
    have hgs : x.g ≠ w.heap.size := by omega
    have hgs1 : x.g ≠ w.heap.size + 1 := by omega
    clear h hx e1 e2 hl hall hlen
    go_enter Tryz.func125, Tryz.ntmps125
    go_wp2_with fail
    refine Hn.out.mono ?_
    rw [Hx.out]
    rintro e w' ⟨rfl, rfl⟩
    go_wp2_with fail
    · exact bodyPost_ret (v := .tuple #[t.val, .bool true]) (by simp [results, Tryz.results125, go_sem, Tok.val]) rfl ⟨rfl, _, ((Hd.out _ (Htl.out _ (.inr ⟨by assumption, _, 0, by rw [show n - 1 = 0 by omega]⟩))).alloc _).alloc _⟩
    · exact bodyPost_ret (v := .tuple #[t.val, .bool true]) (by simp [results, Tryz.results125, go_sem, Tok.val]) rfl ⟨rfl, _, ((Hd.out _ (Htl.out _ (.inl (by rw [show (m + 1) * 4 = m * 4 + 4 by omega])))).alloc _).alloc _⟩
theorem take_calls (h : PS x w lv sv s) (k : Nat) (tv : Value) (texts : List Txt) (ht : StrsAt w tv texts) (hl100 : texts.length ≤ 100) :
    Calls Tryz.prog 125 #[.pointer (some ⟨x.B, 0, none⟩), .int .u8 k, tv] w
      (Gave x w sv (.tuple #[(s.taken k texts).val, .bool (s.next k texts)]) (s.after k texts)) :=
  (take_callsC h k tv texts ht hl100).mono fun _ _ h => h.gave

def St.text (s : St) (k : Nat) (texts : List Txt) : Txt := (s.taken k texts).text
theorem need_yes {k : Nat} {texts : List Txt} (hx : s.next k texts = true) : s.need k texts = s.after k texts := by unfold St.need St.after; rw [hx]; rfl
theorem need_no {k : Nat} {texts : List Txt} (hx : s.next k texts = false) : s.need k texts = s.bad ∧ s.after k texts = s := by unfold St.need St.after; rw [hx]; exact ⟨rfl, rfl⟩

set_option maxRecDepth 100000 in
theorem need_callsC (h : PS x w lv sv s) (k : Nat) (tv : Value) (texts : List Txt) (ht : StrsAt w tv texts) (hl100 : texts.length ≤ 100) :
    Calls Tryz.prog 126 #[.pointer (some ⟨x.B, 0, none⟩), .int .u8 k, tv] w
      (GaveC x w sv (.string ⟨(s.text k texts).toArray⟩) (s.need k texts)) := by
  have Ht := Lib.hid (take_callsC h k tv texts ht hl100)
  unfold St.text
  generalize hT : s.taken k texts = T at *
  clear hT
  cases hx : s.next k texts with
  | true =>
    rw [need_yes hx]
    have Hx := Lib.hid hx
    clear hx h
    go_enter Tryz.func126, Tryz.ntmps126
    go_wp2_with fail
    refine Ht.out.mono ?_
    rw [Hx.out]
    rintro e w1 ⟨rfl, lv1, h1⟩
    have H1 := Lib.hid h1
    unfold Tok.val
    clear h1
    go_wp2_with fail
    go_ret
    exact ⟨rfl, _, H1.out.alloc _⟩
  | false =>
    rw [(need_no hx).1]
    rw [(need_no hx).2] at Ht
    have Hx := Lib.hid hx
    clear hx h
    go_enter Tryz.func126, Tryz.ntmps126
    go_wp2_with fail
    refine Ht.out.mono ?_
    rw [Hx.out]
    rintro e w1 ⟨rfl, lv1, h1⟩
    have hk := fun w2 lv2 sv2 s2 h2 => kept (o := .cells #[.int .u8 T.kind, .string ⟨T.text.toArray⟩, .int .i64 T.num, .int .i64 T.pos] 41) (w' := w2) (lv' := lv2) (sv' := sv2) (s' := s2) h1.ps h2
    have Hk := Lib.hid hk
    have H1 := Lib.hid (h1.alloc (.cells #[.int .u8 T.kind, .string ⟨T.text.toArray⟩, .int .i64 T.num, .int .i64 T.pos] 41))
    unfold Tok.val
    clear h1 hk
    go_wp2_with fail
    refine (place_calls H1.out.ps).mono ?_
    rintro e w2 ⟨rfl, rfl⟩
    go_wp2_with fail
    refine (fail_callsC H1.out.ps 13 s.place).mono ?_
    rintro e w2 ⟨rfl, lv2, h2⟩
    have H2 := Lib.hid (H1.out.trans h2)
    obtain ⟨⟨k0, k1, k2, k3⟩, -⟩ := four (Hk.out _ _ _ _ h2)
    clear h2
    go_wp2_with fail
    go_ret
    exact ⟨rfl, _, H2.out⟩
end Go.Proofs.YtcjmhmmjfgjcnaaGreatDoor.Pa

/- The parser's cursor: keys, signs, names; steps put, depth. -/
namespace Go.Proofs.YtcjmhmmjfgjcnaaGreatDoor.Pa
open Go.RowKit Go.Proofs.YtcjmhmmjfgjcnaaGreatDoor.Lx

def strsC (l : List Txt) : List Value := l.map fun x => .string ⟨x.toArray⟩
theorem StrsAt.new (w : World) (l : List Txt) (n : Nat) (cs : Array Value) (T : TypeId) (mk : Nat × Nat) (hcs : cs = (strsC l).toArray) (hn : l.length = n) : StrsAt (w.alloc (.cells cs T mk)) (.slice (some ⟨w.heap.size, 0, none⟩) n n) l := by
  refine ⟨_, n, n, rfl, hn, Nat.le_refl _, fun j hj => ⟨w.heap.size, rfl, ?_⟩⟩
  have hb := heap_alloc_new w (.cells cs T mk)
  have key : ∀ (W : World) (B : Nat), W.heap[B]? = some (.cells cs T mk) → W.cell? ⟨B, j, none⟩ = cs[j]? := fun W B h => by simp [World.cell?, h]
  rw [key _ _ hb, hcs]
  simp [strsC, List.getElem?_eq_getElem hj]

section
variable {P : Program} {ops : Array Oper} {o : Oper} {a : Act} {Q : Exit → Act → World → Prop} {K : Act → World → Prop} {E : Prop}
theorem step_own1 {W : World} (base : Nat) (hw : Region.wanted o (yielded ops a.tmps) = true) (s x : Operand) (t e : TypeId) (z : Value) (size bytes : Nat)
    (ho : o.op = .call { callee := .builtin .append, args := #[s, x], argTypes := #[t, t] })
    (ht : P.underlying t = some (.slice e)) (hinfo : (P.info? e).map (fun i => (i.zero, i.size, i.bytes)) = some (some z, size, bytes)) (hz : z.cells.size = size) (hs0 : 0 < size) (hb0 : 0 < bytes)
    (v : Value) (n : Nat) (xs ys : List Value) (hs : a.eval s = v) (B0 : Nat) (hx : a.eval x = .slice (some ⟨B0, 0, none⟩) 1 1) (hB0 : W.heap.size = B0) (hys : ys.length = size) (h1 : ∀ u ∈ ys, u.oneCell' = true)
    (HO : W.ownsRow base e size v n xs) (hbase : base ≤ W.heap.size) (hl : (n + 1) * bytes ≤ 140737488355328)
    (h : ∀ v1 w1, w1.ownsRow base e size v1 (n + 1) (xs ++ ys) → W.grownBy w1 v.ownBlock → (v1.ownBlock = v.ownBlock ∨ ∃ b, v1.ownBlock = some b ∧ W.heap.size ≤ b) → K (a.put o.dst v1) w1) :
    if Region.wanted o (yielded ops a.tmps) = true then Oper.wp P o a (W.alloc (.cells ys.toArray e)) K Q else E := by
  subst hB0
  obtain ⟨i0, hi, hzz⟩ := Option.map_eq_some_iff.1 hinfo
  simp only [Prod.mk.injEq] at hzz
  obtain ⟨hz0, hz1, hz2⟩ := hzz
  have hlen : n + 1 ≤ 140737488355328 := Nat.le_trans (Nat.le_mul_of_pos_right _ hb0) hl
  rw [if_pos hw]
  obtain ⟨v1, w1, hr, hown, hg, _, hat⟩ := run_append_own_at (P := P) (W.alloc (.cells ys.toArray e)) base t o.type e i0 z size bytes ht hi hz0 hz1 hz2 hz hs0 v n xs (HO.alloc _) ⟨W.heap.size, 0, none⟩ 1 1 ys (by rw [hys]; simp)
    (by simpa using World.news_of_block (cs := ys.toArray) (t := e) (fr := (0, 0)) (heap_alloc_new W (.cells ys.toArray e))) h1 (by simp only [maxLen]; omega) hl (by simp; omega)
  unfold Oper.wp execOp
  simp only [ho, resolve, invoke, builtin, Sem.run_bind, Sem.run_pure, Result.andThen_ok, List.map_toArray, List.map_cons, List.map_nil, hs, hx, hr]
  refine h v1 w1 hown (World.grownBy.trans (World.grownBy_alloc W _ _) hg) ?_
  rcases hat with hat | hat
  · exact .inl hat
  · exact .inr ⟨_, hat, by simp⟩
end

variable {x : Px} {w : World} {lv sv : Value} {s : St}

set_option maxRecDepth 100000 in
theorem sign_callsC (h : PS x w lv sv s) (t : Txt) : Calls Tryz.prog 85 #[.pointer (some ⟨x.B, 0, none⟩), .string ⟨t.toArray⟩] w (DidC x w sv (s.sign t)) := by
  have Hh := Lib.hid h
  clear h
  go_enter Tryz.func85, Tryz.ntmps85
  go_wp2_with fail
  refine (need_callsC (Hh.out.step (alloc_below _ _)) 5 _ [t] (StrsAt.new w [t] 1 _ _ _ rfl rfl) (by simp)).mono ?_
  rintro e w1 ⟨rfl, lv1, h1⟩
  have H1 := Lib.hid (((Now.refl Hh.out).alloc _).trans h1)
  clear h1
  go_wp2_with fail
  go_end0
  exact ⟨rfl, _, H1.out⟩
theorem sign_calls (h : PS x w lv sv s) (t : Txt) : Calls Tryz.prog 85 #[.pointer (some ⟨x.B, 0, none⟩), .string ⟨t.toArray⟩] w (Did x w sv (s.sign t)) :=
  (sign_callsC h t).mono fun _ _ h => h.did

set_option maxRecDepth 100000 in
theorem name_callsC (h : PS x w lv sv s) : Calls Tryz.prog 83 #[.pointer (some ⟨x.B, 0, none⟩)] w (GaveC x w sv (.string ⟨s.nameT.toArray⟩) s.name) := by
  have Hh := Lib.hid h
  clear h
  go_enter Tryz.func83, Tryz.ntmps83
  go_wp2_with fail
  refine (need_callsC Hh.out 1 _ [] (StrsAt.nil w) (by decide)).mono ?_
  rintro e w1 ⟨rfl, lv1, h1⟩
  have H1 := Lib.hid h1
  clear h1
  go_wp2_with fail
  go_ret
  exact ⟨rfl, _, H1.out⟩
theorem name_calls (h : PS x w lv sv s) : Calls Tryz.prog 83 #[.pointer (some ⟨x.B, 0, none⟩)] w (Gave x w sv (.string ⟨s.nameT.toArray⟩) s.name) :=
  (name_callsC h).mono fun _ _ h => h.gave

set_option maxRecDepth 100000 in
theorem key_callsC (h : PS x w lv sv s) (t : Txt) : Calls Tryz.prog 82 #[.pointer (some ⟨x.B, 0, none⟩), .string ⟨t.toArray⟩] w (GaveC x w sv (.bool (s.next 2 [t])) (s.after 2 [t])) := by
  have Hh := Lib.hid h
  clear h
  go_enter Tryz.func82, Tryz.ntmps82
  go_wp2_with fail
  refine (take_callsC (Hh.out.step (alloc_below _ _)) 2 _ [t] (StrsAt.new w [t] 1 _ _ _ rfl rfl) (by simp)).mono ?_
  rintro e w1 ⟨rfl, lv1, h1⟩
  have H1 := Lib.hid (((Now.refl Hh.out).alloc _).trans h1)
  generalize (s.taken 2 [t]) = T at *
  unfold Tok.val
  clear h1
  go_wp2_with fail
  go_ret
  exact ⟨rfl, _, H1.out.alloc _⟩
theorem key_calls (h : PS x w lv sv s) (t : Txt) : Calls Tryz.prog 82 #[.pointer (some ⟨x.B, 0, none⟩), .string ⟨t.toArray⟩] w (Gave x w sv (.bool (s.next 2 [t])) (s.after 2 [t])) :=
  (key_callsC h t).mono fun _ _ h => h.gave

/-! ### keys -/
theorem keys_snoc (s : St) (l : List Txt) (t : Txt) : s.keys (l ++ [t]) = (s.keys l).need 2 [t] := by simp [St.keys]
set_option maxRecDepth 100000 in
theorem keys_callsC (h : PS x w lv sv s) (g n : Nat) (texts : List Txt) (hn : texts.length = n) (hn100 : n ≤ 100) (hc : ∀ (j : Nat) (hj : j < texts.length), w.cell? ⟨g, j, none⟩ = some (.string ⟨texts[j].toArray⟩)) (hg1 : g ≠ x.B) (hg2 : sv.ownBlock ≠ some g) :
    Calls Tryz.prog 84 #[.pointer (some ⟨x.B, 0, none⟩), .slice (some ⟨g, 0, none⟩) n n] w (DidC x w sv (s.keys texts)) := by
  have Hh := Lib.hid h
  have Hn := Lib.hid hn
  have Hc := Lib.hid hc
  have Hg := Lib.hid (And.intro hg1 hg2)
  clear h hn hc hg1 hg2
  go_enter Tryz.func84, Tryz.ntmps84
  go_wp2_with fail
  go_loopw [8] (fun i wr => ∃ k : Nat, k ≤ n ∧ i = .int .i64 k ∧ Hid (∃ lv', Now x w sv wr lv' sv (s.keys (texts.take k)))) (fun i _ => n - (intOf i).toNat)
  case atStart => exact ⟨0, Nat.zero_le _, rfl, _, Now.refl Hh.out⟩
  case round =>
    obtain ⟨k, hk, rfl, Hr⟩ := hrel
    obtain ⟨lv1, h1⟩ := Hr.out
    by_cases hlt : k < n
    · have hkl : k < texts.length := by rw [Hn.out]; exact hlt
      have hg : g < w.heap.size := World.block_lt_of_cell? _ _ (Hc.out k hkl)
      have hcell : wr.cell? ⟨g, k, none⟩ = some (.string ⟨texts[k].toArray⟩) := by
        have hb := h1.keep.2 g hg Hg.out.1 Hg.out.2
        exact (World.cell?_of_block (w := w) (a := ⟨g, k, none⟩) hb).trans (Hc.out k hkl)
      have H1 := Lib.hid h1
      have Hsn := Lib.hid (keys_snoc s (texts.take k) texts[k])
      have Htk := Lib.hid (show texts.take (k + 1) = texts.take k ++ [texts[k]] by rw [List.take_succ_eq_append_getElem hkl])
      generalize texts[k] = t at *
      clear h1 Hr
      go_wp2_with fail
      refine (need_callsC (H1.out.ps.step (alloc_below _ _)) 2 _ [t] (StrsAt.new wr [t] 1 _ _ _ rfl rfl) (by simp)).mono ?_
      rintro e w2 ⟨rfl, lv2, h2⟩
      have H2 := Lib.hid ((H1.out.alloc _).trans h2)
      clear h2
      go_wp2_with fail
      go_roundw
      case rel => exact ⟨k + 1, by omega, by go_num, _, by rw [Htk.out, Hsn.out]; exact H2.out⟩
      case measure => simp [intOf]; omega
    · have H1 := Lib.hid h1
      have Htk := Lib.hid (show texts.take k = texts by rw [List.take_of_length_le]; have := Hn.out; omega)
      clear h1 Hr
      go_wp2_with fail
      go_end0
      exact ⟨rfl, _, by have := H1.out; rw [Htk.out] at this; exact this⟩
theorem keys_calls (h : PS x w lv sv s) (g n : Nat) (texts : List Txt) (hn : texts.length = n) (hn100 : n ≤ 100) (hc : ∀ (j : Nat) (hj : j < texts.length), w.cell? ⟨g, j, none⟩ = some (.string ⟨texts[j].toArray⟩)) (hg1 : g ≠ x.B) (hg2 : sv.ownBlock ≠ some g) :
    Calls Tryz.prog 84 #[.pointer (some ⟨x.B, 0, none⟩), .slice (some ⟨g, 0, none⟩) n n] w (Did x w sv (s.keys texts)) :=
  (keys_callsC h g n texts hn hn100 hc hg1 hg2).mono fun _ _ h => h.did

/-! ### depth -/
set_option maxRecDepth 100000 in
theorem nest_deep (h : PS x w lv sv s) (d : Nat) (hd : 16 ≤ d) (hd2 : d ≤ 100) : Calls Tryz.prog 205 #[.pointer (some ⟨x.B, 0, none⟩), .int .i64 d] w (Gave x w sv (.bool false) s.deep) := by
  have Hh := Lib.hid h
  have Hd := Lib.hid (h.step (Below.refl w.heap.size w).drew)
  clear h
  go_enter Tryz.func205, Tryz.ntmps205
  go_wp2_with fail
  go_region_with ((first | (go_at_call 43; refine (place_calls Hd.out).mono ?_; rintro e w' ⟨rfl, rfl⟩) | (go_at_call 42; refine (fail_calls Hd.out 10 s.place).mono ?_; rintro e w' ⟨rfl, lv1, sv1, h1⟩)))
  have H1 := Lib.hid ((Now.refl Hh.out).drew.trans h1)
  clear h1
  go_wp2_with fail
  go_ret
  exact ⟨rfl, _, _, H1.out⟩

set_option maxRecDepth 100000 in
theorem nest_yes (h : PS x w lv sv s) (d : Nat) (hd : d < 16) {t : Tok} {r : List Tok} (hl : s.left = t :: r) : Calls Tryz.prog 205 #[.pointer (some ⟨x.B, 0, none⟩), .int .i64 d] w (Gave x w sv (.bool true) s.drop) := by
  obtain ⟨⟨c0, c1, c2, c3, c4⟩, f0, f1, f2, f3, f4⟩ := five h.blk
  obtain ⟨m, n, c, rfl, h1, h2, h16, ⟨k0, k1, k2, k3⟩, ⟨hall, hlen⟩, -, hgB, hgw⟩ := h.head hl
  have Hd := Lib.hid (fun lv' hl' => now_drop (w := w) h hl lv' hl')
  have Htl := Lib.hid (fun v hv => LeftIs.tail (x := x) hall hlen h2 v hv)
  have hn1 : (1 : Int) ≤ n := by omega
  have hdd : (d : Int) < 16 := by omega
  clear h hl hall hlen
  go_enter Tryz.func205, Tryz.ntmps205
  go_wp2_with fail
  · go_ret
    exact ⟨rfl, _, _, Hd.out _ (Htl.out _ (.inr ⟨by assumption, _, 0, by rw [show n - 1 = 0 by omega]⟩))⟩
  · go_ret
    exact ⟨rfl, _, _, Hd.out _ (Htl.out _ (.inl (by rw [show (m + 1) * 4 = m * 4 + 4 by omega])))⟩

/-! ### a step put -/
theorem put_no (hw : s.why ≠ 0) (y : Stp) : s.put y = s := by
  have e : s.many = s := by unfold St.many; rw [if_neg (fun h => hw h.1)]
  unfold St.put
  rw [e, if_neg hw]
theorem put_many (hw : s.why = 0) (hl : 128 ≤ s.steps.length) (y : Stp) : s.put y = s.fail 3 s.place := by
  have e : s.many = s.fail 3 s.place := by unfold St.many; rw [if_pos ⟨hw, hl⟩]
  have e2 : (s.fail 3 s.place).why = 3 := by unfold St.fail; rw [if_pos hw]
  unfold St.put
  rw [e, if_neg (by rw [e2]; decide)]
theorem put_yes (hw : s.why = 0) (hl : s.steps.length < 128) (y : Stp) : s.put y = { s with steps := s.steps ++ [y] } := by
  have e : s.many = s := by unfold St.many; rw [if_neg (fun h => by omega)]
  unfold St.put
  rw [e, if_pos hw]
theorem fail_why (s : St) (hw : s.why = 0) (e p : Nat) : (s.fail e p).why = e := by unfold St.fail; rw [if_pos hw]
theorem own_form {w : World} {base n : Nat} {e : TypeId} {size : Nat} {v : Value} {xs : List Value} (h : w.ownsRow base e size v n xs) : ∃ a c, v = .slice a n c := by
  rcases h.2 with ⟨rfl, rfl⟩ | ⟨g, cap, cur, rfl, _⟩
  · exact ⟨_, _, rfl⟩
  · exact ⟨_, _, rfl⟩

set_option maxRecDepth 100000 in
theorem put_fail (h : PS x w lv sv s) (hw : s.why = 0) (hl : 128 ≤ s.steps.length) (y : Stp) : Calls Tryz.prog 173 #[.pointer (some ⟨x.B, 0, none⟩), y.val] w (Did x w sv (s.put y)) := by
  rw [put_many hw hl]
  obtain ⟨⟨c0, c1, c2, c3, c4⟩, f0, f1, f2, f3, f4⟩ := five h.blk
  obtain ⟨a, c, rfl⟩ := own_form h.own
  have hlen := h.few
  have Hh := Lib.hid h
  have Hd := Lib.hid ((h.step (alloc_below w (.cells #[.int .u8 y.kind, .string ⟨y.text.toArray⟩, .int .i64 y.num] 48))).step (Below.refl (w.alloc (.cells #[.int .u8 y.kind, .string ⟨y.text.toArray⟩, .int .i64 y.num] 48)).heap.size (w.alloc (.cells #[.int .u8 y.kind, .string ⟨y.text.toArray⟩, .int .i64 y.num] 48))).drew)
  have hb : ((s.why : Int) == 0) = true := by rw [beq_iff_eq]; omega
  have Hfw := Lib.hid (fail_why s hw 3 s.place)
  have hBw := h.lt
  have hl' : (128 : Int) ≤ s.steps.length := by omega
  unfold Stp.val
  clear h hw
  go_enter Tryz.func173, Tryz.ntmps173
  go_wp2_with fail
  go_region_with ((first | (go_at_call 43; refine (place_calls Hd.out).mono ?_; rintro e w' ⟨rfl, rfl⟩) | (go_at_call 42; refine (fail_calls Hd.out 3 s.place).mono ?_; rintro e w' ⟨rfl, lv1, sv1, h1⟩)))
  have H1 := Lib.hid (((Now.refl Hh.out).alloc _).drew.trans h1)
  obtain ⟨⟨k0, k1, k2, k3, k4⟩, -⟩ := five h1.ps.blk
  rw [Hfw.out] at k2
  clear h1 c0 c1 c2 c3 c4 f0 f1 f2 f3 f4
  go_wp2_with fail
  go_end0
  exact ⟨rfl, _, _, H1.out⟩

set_option maxRecDepth 100000 in
theorem put_quiet (h : PS x w lv sv s) (hw : s.why ≠ 0) (y : Stp) : Calls Tryz.prog 173 #[.pointer (some ⟨x.B, 0, none⟩), y.val] w (Did x w sv (s.put y)) := by
  rw [put_no hw]
  obtain ⟨⟨c0, c1, c2, c3, c4⟩, f0, f1, f2, f3, f4⟩ := five h.blk
  have Hh := Lib.hid h
  have hb : ((s.why : Int) == 0) = false := by rw [beq_eq_false_iff_ne]; omega
  have hBw := h.lt
  unfold Stp.val
  clear h hw
  go_enter Tryz.func173, Tryz.ntmps173
  go_wp2_with fail
  go_end0
  exact ⟨rfl, _, _, (Now.refl Hh.out).alloc _⟩

theorem stpInfo : (Tryz.prog.info? 48).map (fun i => (i.zero, i.size, i.bytes)) = some (some (.agg #[.int .u8 0, .string ⟨#[]⟩, .int .i64 0]), 3, 32) := by kernel_rfl
theorem now_put (h : PS x w lv sv s) (hl : s.steps.length < 128) {W w1 : World} (hb : Below w.heap.size w W) (y : Stp) {v1 : Value} (hown : w1.ownsRow x.W.heap.size 48 3 v1 (s.steps.length + 1) (stpsC s.steps ++ y.cells))
    (hg : W.grownBy w1 sv.ownBlock) (hat : v1.ownBlock = sv.ownBlock ∨ ∃ b, v1.ownBlock = some b ∧ W.heap.size ≤ b) : Now x w sv (w1.setCell ⟨x.B, 4, none⟩ v1) lv v1 { s with steps := s.steps ++ [y] } := by
  have hW := h.step hb
  have hBw := h.lt
  have hz := hb.size
  have hne : v1.ownBlock ≠ some x.B := by
    rcases hat with e | ⟨b, e, hb'⟩
    · rw [e]; exact h.ne
    · rw [e]; intro e'; have := Option.some.inj e'; omega
  have hblk : ∀ b, b ≠ x.B → b < W.heap.size → sv.ownBlock ≠ some b → (w1.setCell ⟨x.B, 4, none⟩ v1).heap[b]? = W.heap[b]? := fun b hB hlt hs => by
    rw [Below.heap_setCell _ _ _ _ hB, hg.block b hlt (fun e => hs e.symm)]
  refine ⟨⟨h.ok, ?_, ?_, h.left, ?_, hne, by simp; omega⟩, ⟨by have := hg.size; simp; omega, fun b hlt hB hs => (hblk b hB (by omega) hs).trans (hb.block b hlt)⟩, ?_⟩
  · have hB1 : w1.heap[x.B]? = W.heap[x.B]? := hg.block _ (by omega) (fun e => h.ne e.symm)
    exact set_block (hB1.trans hW.blk) _ _ rfl
  · exact (hW.bel.grown hg hW.bel.size fun b hb' => (World.ownsRow.lt h.own b hb').1).setCell h.ok.low _
  · rw [show stpsC (s.steps ++ [y]) = stpsC s.steps ++ y.cells from stpsC_snoc _ _, List.length_append]
    exact own_same hown fun g hg' _ => Below.heap_setCell _ _ _ _ (fun e => hne (by rw [hg', e]))
  · rcases hat with e | ⟨b, e, hb'⟩
    · exact .inl e
    · exact .inr fun b2 h2 => by rw [e] at h2; have := Option.some.inj h2; omega

theorem grown_cell (h : PS x w lv sv s) {w1 : World} (hg : w.grownBy w1 sv.ownBlock) : w1.cell? ⟨x.B, 4, none⟩ = some sv ∧ w1.frozen? ⟨x.B, 4, none⟩ = false := by
  have hB1 : w1.heap[x.B]? = w.heap[x.B]? := hg.block _ h.lt (fun e => h.ne e.symm)
  obtain ⟨⟨c0, c1, c2, c3, c4⟩, f0, f1, f2, f3, f4⟩ := five (hB1.trans h.blk)
  exact ⟨c4, f4⟩

set_option maxRecDepth 100000 in
theorem put_step (h : PS x w lv sv s) (hw : s.why = 0) (hl : s.steps.length < 128) (y : Stp) : Calls Tryz.prog 173 #[.pointer (some ⟨x.B, 0, none⟩), y.val] w (Did x w sv (s.put y)) := by
  rw [put_yes hw hl]
  obtain ⟨⟨c0, c1, c2, c3, c4⟩, f0, f1, f2, f3, f4⟩ := five h.blk
  obtain ⟨a, c, rfl⟩ := own_form h.own
  have Hh := Lib.hid h
  have hb : ((s.why : Int) == 0) = true := by rw [beq_iff_eq]; omega
  have hBw := h.lt
  have hl' : (s.steps.length : Int) < 128 := by omega
  unfold Stp.val
  clear h hw
  go_enter Tryz.func173, Tryz.ntmps173
  go_wp2_with fail
  have Ho := Lib.hid ((Hh.out.step (alloc_below w (.cells #[.int .u8 y.kind, .string ⟨y.text.toArray⟩, .int .i64 y.num] 48))).step (Below.refl (w.alloc (.cells #[.int .u8 y.kind, .string ⟨y.text.toArray⟩, .int .i64 y.num] 48)).heap.size (w.alloc (.cells #[.int .u8 y.kind, .string ⟨y.text.toArray⟩, .int .i64 y.num] 48))).drew)
  go_region_law (go_must (refine step_own1 x.W.heap.size rfl _ _ 22 48 _ 3 32 rfl Tryz.underlying22 stpInfo rfl (by decide) (by decide) _ s.steps.length (stpsC s.steps) (Stp.cells y) rfl _ rfl (by simp) rfl (by simp [Stp.cells, Value.oneCell']) Ho.out.own Ho.out.bel.size (by omega) ?_); intro v1 w1 hown1 hg1 hat1; obtain ⟨q4, g4⟩ := grown_cell Ho.out hg1; obtain ⟨a1, c1, rfl⟩ := own_form hown1)
  all_goals
    go_end0
    exact ⟨rfl, _, _, now_put Hh.out (by omega) (((Below.refl _ _).alloc (Nat.le_refl _) _).drew) y hown1 hg1 hat1⟩

theorem put_calls (h : PS x w lv sv s) (y : Stp) : Calls Tryz.prog 173 #[.pointer (some ⟨x.B, 0, none⟩), y.val] w (Did x w sv (s.put y)) := by
  by_cases hw : s.why = 0
  · by_cases hl : s.steps.length < 128
    · exact put_step h hw hl y
    · exact put_fail h hw (by omega) y
  · exact put_quiet h hw y

end Go.Proofs.YtcjmhmmjfgjcnaaGreatDoor.Pa
