/- Parts: PaN. -/
import Derived.Test.YtcjmhmmjfgjcnaaGreatDoorMh15
import Derived.LoopTactic

/- The parser's cursor: its methods. -/
namespace Go.Proofs.YtcjmhmmjfgjcnaaGreatDoor.Pa
open Go.RowKit Go.Proofs.YtcjmhmmjfgjcnaaGreatDoor.Lx

def idxI (l : List Txt) (x : Txt) : Int := if x ∈ l then (l.idxOf x : Nat) else -1
theorem idxOf_at {l : List Txt} {x : Txt} {k : Nat} (hk : k < l.length) (e : l[k] = x) (hn : ∀ j (h : j < l.length), j < k → l[j] ≠ x) : l.idxOf x = k := by
  induction l generalizing k with
  | nil => simp at hk
  | cons y l ih =>
    cases k with
    | zero => simp at e; simp [e]
    | succ k =>
      have h0 : y ≠ x := hn 0 (by simp) (by omega)
      rw [List.idxOf_cons, show (y == x) = false by simpa using h0, cond_false]
      congr 1
      exact ih (by simpa using hk) (by simpa using e) fun j hj hjk => by have := hn (j + 1) (by simpa using hj) (by omega); simpa using this
theorem idxI_at {l : List Txt} {x : Txt} {k : Nat} (hk : k < l.length) (e : l[k] = x) (hn : ∀ j (h : j < l.length), j < k → l[j] ≠ x) : idxI l x = k := by
  unfold idxI
  rw [if_pos (by rw [← e]; exact List.getElem_mem hk), idxOf_at hk e hn]
theorem idxI_none {l : List Txt} {x : Txt} (hn : ∀ j (h : j < l.length), l[j] ≠ x) : idxI l x = -1 := by
  unfold idxI
  rw [if_neg]
  intro h
  obtain ⟨j, hj, e⟩ := List.getElem_of_mem h
  exact hn j hj e
theorem bytes_beq (a b : Txt) : ((⟨a.toArray⟩ : ByteArray).toList == (⟨b.toArray⟩ : ByteArray).toList) = decide (a = b) := by
  rw [ByteArray.toList_eq, ByteArray.toList_eq]
  rw [Bool.eq_iff_iff]; simp
theorem ret_intI {k : IntKind} {a b : Int} (h : a = b) : Ending.returned (.int k a) = .returned (.int k b) := by rw [h]

set_option maxRecDepth 100000 in
theorem index_calls (w : World) (v : Value) (l : List Txt) (x : Txt) (h : StrsAt w v l) (hl : l.length ≤ 1048576) :
    Calls Tryz.prog 174 #[v, .string ⟨x.toArray⟩] w fun e w' => e = .returned (.int .i64 (idxI l x)) ∧ w = w' := by
  obtain ⟨a, n, c, rfl, hn, hc, hj⟩ := h
  have Hn := Lib.hid hn
  have Hj := Lib.hid hj
  have hn2 : n ≤ 1048576 := by omega
  clear hn hj
  go_enter Tryz.func174, Tryz.ntmps174
  go_wp2
  go_loop [8] (fun i => ∃ k : Nat, k ≤ n ∧ i = .int .i64 k ∧ Hid (∀ j (h : j < l.length), j < k → l[j] ≠ x)) (fun i => n - (intOf i).toNat)
  case atStart => exact ⟨0, Nat.zero_le _, rfl, fun j _ hj => absurd hj (Nat.not_lt_zero _)⟩
  case round =>
    obtain ⟨k, hk, rfl, hno⟩ := hrel
    by_cases hlt : k < n
    · have hkl : k < l.length := by rw [Hn.out]; exact hlt
      obtain ⟨g, rfl, hcell⟩ := Hj.out k hkl
      have hlen : (k : Int) < n := by omega
      by_cases e : l[k] = x
      · have hb : ((⟨x.toArray⟩ : ByteArray).toList == (⟨(l[k]).toArray⟩ : ByteArray).toList) = true := by rw [bytes_beq]; simp [e]
        have hb2 : (x == l[k]) = true := by simp [e]
        have Hr := Lib.hid (idxI_at hkl e hno.out)
        generalize l[k] = y at *
        clear e
        go_wp2
        go_ret
        exact ⟨ret_intI Hr.out.symm, rfl⟩
      · have hb : ((⟨x.toArray⟩ : ByteArray).toList == (⟨(l[k]).toArray⟩ : ByteArray).toList) = false := by rw [bytes_beq]; simp; exact fun h => e h.symm
        have Hr := Lib.hid (show ∀ j (h : j < l.length), j < k + 1 → l[j] ≠ x from fun j h hj => by
          rcases Nat.lt_or_ge j k with h' | h'
          · exact hno.out j h h'
          · obtain rfl : j = k := by omega
            exact e)
        have hb2 : (x == l[k]) = false := by simp; exact fun h => e h.symm
        generalize l[k] = y at *
        clear e
        go_wp2
        go_round
        case rel => exact ⟨k + 1, by omega, by go_num, Hr⟩
        case measure => simp [intOf]; omega
    · have Hr := Lib.hid (idxI_none (l := l) (x := x) fun j h => hno.out j h (by have := Hn.out; omega))
      go_wp2
      go_ret
      exact ⟨ret_intI Hr.out.symm, rfl⟩

theorem idxI_ge (l : List Txt) (x : Txt) : decide (0 ≤ idxI l x) = l.contains x := by
  unfold idxI
  by_cases h : x ∈ l
  · rw [if_pos h]; simp [h]
  · rw [if_neg h]; simp [h]
theorem idxI_bd (l : List Txt) (x : Txt) (hl : l.length ≤ 1048576) : -1 ≤ idxI l x ∧ idxI l x ≤ 1048576 := by
  unfold idxI
  split
  · have := List.idxOf_le_length (a := x) (l := l); omega
  · omega
theorem contains_calls (w : World) (v : Value) (l : List Txt) (x : Txt) (h : StrsAt w v l) (hl : l.length ≤ 1048576) :
    Calls Tryz.prog 172 #[v, .string ⟨x.toArray⟩] w fun e w' => e = .returned (.bool (l.contains x)) ∧ w = w' := by
  obtain ⟨a, n, c, hv, hr⟩ := h
  subst hv
  have Hh := Lib.hid (show StrsAt w (.slice a n c) l from ⟨a, n, c, rfl, hr⟩)
  have hb := idxI_bd l x hl
  clear hr
  go_enter Tryz.func172, Tryz.ntmps172
  go_wp2_with fail
  refine (index_calls _ _ _ _ Hh.out hl).mono ?_
  rintro e w' ⟨rfl, rfl⟩
  go_wp2_with fail
  go_ret
  exact ⟨ret_bool (idxI_ge l x), rfl⟩

/-! ### the cursor -/
variable {x : Px} {w : World} {lv sv : Value} {s : St}
theorem place_calls (h : PS x w lv sv s) : Calls Tryz.prog 43 #[.pointer (some ⟨x.B, 0, none⟩)] w fun e w' => e = .returned (.int .i64 s.place) ∧ w = w' := by
  obtain ⟨⟨c0, c1, c2, c3, c4⟩, f0, f1, f2, f3, f4⟩ := five h.blk
  cases hl : s.left with
  | nil =>
    obtain ⟨a, c, rfl⟩ := h.left.nil hl
    have hp : s.place = s.fin := by unfold St.place; rw [hl]
    rw [hp]
    clear hp hl h
    go_enter Tryz.func43, Tryz.ntmps43
    go_wp2_with fail
    go_ret
    exact ⟨rfl, rfl⟩
  | cons t r =>
    obtain ⟨k, n, c, rfl, h1, h2, h16, ⟨k0, k1, k2, k3⟩, -⟩ := h.head hl
    have hp : s.place = t.pos := by unfold St.place; rw [hl]
    rw [hp]
    have hb : ((n : Int) == 0) = false := by rw [beq_eq_false_iff_ne]; omega
    clear hp hl h
    go_enter Tryz.func43, Tryz.ntmps43
    go_wp2_with fail
    go_ret
    exact ⟨rfl, rfl⟩

theorem now_fail (h : PS x w lv sv s) (hw : s.why = 0) (why at_ : Nat) :
    Now x w sv (((w.setCell ⟨x.B, 2, none⟩ (.int .i64 why)).setCell ⟨x.B, 3, none⟩ (.int .i64 at_)).setCell ⟨x.B, 0, none⟩ (.slice none 0 0)) (.slice none 0 0) sv (s.fail why at_) := by
  have e : s.fail why at_ = { s with why := why, at_ := at_, left := [] } := by unfold St.fail; rw [if_pos hw]
  rw [e]
  have hk : ∀ b, b ≠ x.B → (((w.setCell ⟨x.B, 2, none⟩ (.int .i64 why)).setCell ⟨x.B, 3, none⟩ (.int .i64 at_)).setCell ⟨x.B, 0, none⟩ (.slice none 0 0)).heap[b]? = w.heap[b]? := fun b hb => by
    rw [Below.heap_setCell _ _ _ _ hb, Below.heap_setCell _ _ _ _ hb, Below.heap_setCell _ _ _ _ hb]
  refine ⟨h.turn ((((Below.refl _ _).setCell h.ok.low _).setCell h.ok.low _).setCell h.ok.low _) hk ?_ (LeftIs.zero x) rfl, ⟨by simp, fun b _ hB _ => hk b hB⟩, NewOr.refl _ _⟩
  refine set_block (set_block (set_block h.blk _ _ rfl) _ _ rfl) _ _ rfl
theorem fail_callsC (h : PS x w lv sv s) (why at_ : Nat) : Calls Tryz.prog 42 #[.pointer (some ⟨x.B, 0, none⟩), .int .i64 why, .int .i64 at_] w (DidC x w sv (s.fail why at_)) := by
  obtain ⟨⟨c0, c1, c2, c3, c4⟩, f0, f1, f2, f3, f4⟩ := five h.blk
  by_cases hw : s.why = 0
  · have hn := now_fail h hw why at_
    have hb : ((s.why : Int) == 0) = true := by rw [beq_iff_eq]; omega
    have Hn := Lib.hid hn
    clear hn hw h
    go_enter Tryz.func42, Tryz.ntmps42
    go_wp2_with fail
    go_end0
    exact ⟨rfl, _, Hn.out⟩
  · have e : s.fail why at_ = s := by unfold St.fail; rw [if_neg hw]
    rw [e]
    have Hn := Lib.hid (Now.refl h)
    have hb : ((s.why : Int) == 0) = false := by rw [beq_eq_false_iff_ne]; omega
    clear hw e h
    go_enter Tryz.func42, Tryz.ntmps42
    go_wp2_with fail
    go_end0
    exact ⟨rfl, _, Hn.out⟩
theorem fail_calls (h : PS x w lv sv s) (why at_ : Nat) : Calls Tryz.prog 42 #[.pointer (some ⟨x.B, 0, none⟩), .int .i64 why, .int .i64 at_] w (Did x w sv (s.fail why at_)) :=
  (fail_callsC h why at_).mono fun _ _ h => h.did

theorem next_nil (hl : s.left = []) (k : Nat) (texts : List Txt) : s.next k texts = false := by unfold St.next; rw [hl]
theorem next_cons {t : Tok} {r : List Tok} (hl : s.left = t :: r) (k : Nat) (texts : List Txt) : s.next k texts = (t.kind == k && (texts.isEmpty || texts.contains t.text)) := by unfold St.next; rw [hl]

set_option maxRecDepth 100000 in
theorem next_calls (h : PS x w lv sv s) (k : Nat) (tv : Value) (texts : List Txt) (ht : StrsAt w tv texts) (hl100 : texts.length ≤ 100) :
    Calls Tryz.prog 148 #[.pointer (some ⟨x.B, 0, none⟩), .int .u8 k, tv] w fun e w' => e = .returned (.bool (s.next k texts)) ∧ w = w' := by
  obtain ⟨⟨c0, c1, c2, c3, c4⟩, f0, f1, f2, f3, f4⟩ := five h.blk
  cases hl : s.left with
  | nil =>
    obtain ⟨a, c, rfl⟩ := h.left.nil hl
    rw [next_nil hl]
    clear hl h
    go_enter Tryz.func148, Tryz.ntmps148
    go_wp2_with fail
    go_ret
    exact ⟨rfl, rfl⟩
  | cons t r =>
    obtain ⟨m, n, c, rfl, h1, h2, h16, ⟨k0, k1, k2, k3⟩, -⟩ := h.head hl
    have h0 : (0 : Int) < n := by omega
    have h0' : 0 < n := by omega
    rw [next_cons hl]
    clear hl h
    by_cases hk : t.kind = k
    · have hb : ((t.kind : Int) == (k : Int)) = true := by rw [beq_iff_eq]; omega
      have hb' : (t.kind == k) = true := by rw [beq_iff_eq]; omega
      rw [hb']
      clear hb'
      obtain ⟨ta, tn, tc, rfl, htn, htc, htj⟩ := ht
      by_cases he : texts = []
      · subst he
        have hz : tn = 0 := by simpa using htn.symm
        subst hz
        clear hk htn htj
        go_enter Tryz.func148, Tryz.ntmps148
        go_wp2_with fail
        go_ret
        exact ⟨ret_bool (by simp), rfl⟩
      · have hz : ((tn : Int) == 0) = false := by rw [beq_eq_false_iff_ne]; intro e; exact he (List.eq_nil_of_length_eq_zero (by omega))
        have hie : texts.isEmpty = false := by cases texts with | nil => exact absurd rfl he | cons _ _ => rfl
        have Hc := Lib.hid (contains_calls w (.slice ta tn tc) texts t.text ⟨ta, tn, tc, rfl, htn, htc, htj⟩ (by omega))
        rw [hie]
        clear hk he hie htn htj
        go_enter Tryz.func148, Tryz.ntmps148
        go_wp2_with (go_at_call 172; refine Hc.out.mono ?_; rintro e w' ⟨rfl, rfl⟩)
        go_ret
        exact ⟨ret_bool (by simp), rfl⟩
    · have hb : ((t.kind : Int) == (k : Int)) = false := by rw [beq_eq_false_iff_ne]; omega
      have hb' : (t.kind == k) = false := by rw [beq_eq_false_iff_ne]; exact hk
      rw [hb']
      clear hk hb'
      go_enter Tryz.func148, Tryz.ntmps148
      go_wp2_with fail
      go_ret
      exact ⟨ret_bool (by simp), rfl⟩

theorem now_drop (h : PS x w lv sv s) {t : Tok} {r : List Tok} (hl : s.left = t :: r) (lv' : Value) (hl' : LeftIs x lv' r) :
    Now x w sv (w.setCell ⟨x.B, 0, none⟩ lv') lv' sv s.drop := by
  have e : s.drop.left = r := by unfold St.drop; simp [hl]
  refine ⟨h.turn ((Below.refl _ _).setCell h.ok.low _) (fun b hb => Below.heap_setCell _ _ _ _ hb) (set_block h.blk _ _ rfl) (by rw [e]; exact hl') rfl, keep_set _ _, NewOr.refl _ _⟩

set_option maxRecDepth 100000 in
theorem take_callsC (h : PS x w lv sv s) (k : Nat) (tv : Value) (texts : List Txt) (ht : StrsAt w tv texts) (hl100 : texts.length ≤ 100) :
    Calls Tryz.prog 125 #[.pointer (some ⟨x.B, 0, none⟩), .int .u8 k, tv] w
      (GaveC x w sv (.tuple #[(s.taken k texts).val, .bool (s.next k texts)]) (s.after k texts)) := by
  have Hn := Lib.hid (next_calls (h.step (alloc_below w (.cells #[.int .u8 0, .string ⟨#[]⟩, .int .i64 0, .int .i64 0] 41))) k tv texts (ht.below (alloc_below _ _)) hl100)
  cases hx : s.next k texts with
  | false =>
    have e1 : s.after k texts = s := by unfold St.after; rw [hx]; rfl
    have e2 : s.taken k texts = tok0 := by unfold St.taken; rw [hx]; rfl
    rw [e1, e2]
    have Hr := Lib.hid (Now.refl h)
    have Hx := Lib.hid hx
    clear h hx e1 e2
    go_enter Tryz.func125, Tryz.ntmps125
    go_wp2_with fail
    refine Hn.out.mono ?_
    rw [Hx.out]
    rintro e w' ⟨rfl, rfl⟩
    go_wp2_with fail
    exact bodyPost_ret (v := .tuple #[tok0.val, .bool false]) (by simp [results, Tryz.results125, go_sem, tok0, Tok.val]) rfl ⟨rfl, _, Hr.out.alloc _⟩
  | true =>
    obtain ⟨t, r, hl⟩ : ∃ t r, s.left = t :: r := by
      cases hl : s.left with
      | nil => rw [next_nil hl] at hx; cases hx
      | cons t r => exact ⟨t, r, rfl⟩
    have e1 : s.after k texts = s.drop := by unfold St.after; rw [hx]; rfl
    have e2 : s.taken k texts = t := by unfold St.taken St.head; rw [hx, hl]; rfl
    rw [e1, e2]
    obtain ⟨⟨c0, c1, c2, c3, c4⟩, f0, f1, f2, f3, f4⟩ := five h.blk
    obtain ⟨m, n, c, rfl, h1, h2, h16, ⟨k0, k1, k2, k3⟩, ⟨hall, hlen⟩, -, hgB, hgw⟩ := h.head hl
    have hBw := h.lt
    have Hd := Lib.hid (fun lv' hl' => now_drop (w := w) h hl lv' hl')
    have Htl := Lib.hid (fun v hv => LeftIs.tail (x := x) hall hlen h2 v hv)
    have Hx := Lib.hid hx
    have hn1 : (1 : Int) ≤ n := by omega
    have hBs : x.B ≠ w.heap.size := by omega
    have hBs1 : x.B ≠ w.heap.size + 1 := by omega
    have hgs : x.g ≠ w.heap.size := by omega
    have hgs1 : x.g ≠ w.heap.size + 1 := by omega
    clear h hx e1 e2 hl hall hlen
    go_enter Tryz.func125, Tryz.ntmps125
    go_wp2_with fail
    refine Hn.out.mono ?_
    rw [Hx.out]
    rintro e w' ⟨rfl, rfl⟩
    go_wp2_with fail
    · exact bodyPost_ret (v := .tuple #[t.val, .bool true]) (by simp [results, Tryz.results125, go_sem, Tok.val]) rfl ⟨rfl, _, ((Hd.out _ (Htl.out _ (.inr ⟨by assumption, _, 0, by rw [show n - 1 = 0 by omega]⟩))).alloc _).alloc _⟩
    · exact bodyPost_ret (v := .tuple #[t.val, .bool true]) (by simp [results, Tryz.results125, go_sem, Tok.val]) rfl ⟨rfl, _, ((Hd.out _ (Htl.out _ (.inl (by rw [show (m + 1) * 4 = m * 4 + 4 by omega])))).alloc _).alloc _⟩
theorem take_calls (h : PS x w lv sv s) (k : Nat) (tv : Value) (texts : List Txt) (ht : StrsAt w tv texts) (hl100 : texts.length ≤ 100) :
    Calls Tryz.prog 125 #[.pointer (some ⟨x.B, 0, none⟩), .int .u8 k, tv] w
      (Gave x w sv (.tuple #[(s.taken k texts).val, .bool (s.next k texts)]) (s.after k texts)) :=
  (take_callsC h k tv texts ht hl100).mono fun _ _ h => h.gave

def St.text (s : St) (k : Nat) (texts : List Txt) : Txt := (s.taken k texts).text
theorem need_yes {k : Nat} {texts : List Txt} (hx : s.next k texts = true) : s.need k texts = s.after k texts := by unfold St.need St.after; rw [hx]; rfl
theorem need_no {k : Nat} {texts : List Txt} (hx : s.next k texts = false) : s.need k texts = s.bad ∧ s.after k texts = s := by unfold St.need St.after; rw [hx]; exact ⟨rfl, rfl⟩

set_option maxRecDepth 100000 in
theorem need_callsC (h : PS x w lv sv s) (k : Nat) (tv : Value) (texts : List Txt) (ht : StrsAt w tv texts) (hl100 : texts.length ≤ 100) :
    Calls Tryz.prog 126 #[.pointer (some ⟨x.B, 0, none⟩), .int .u8 k, tv] w
      (GaveC x w sv (.string ⟨(s.text k texts).toArray⟩) (s.need k texts)) := by
  have Ht := Lib.hid (take_callsC h k tv texts ht hl100)
  unfold St.text
  generalize hT : s.taken k texts = T at *
  clear hT
  cases hx : s.next k texts with
  | true =>
    rw [need_yes hx]
    have Hx := Lib.hid hx
    clear hx h
    go_enter Tryz.func126, Tryz.ntmps126
    go_wp2_with fail
    refine Ht.out.mono ?_
    rw [Hx.out]
    rintro e w1 ⟨rfl, lv1, h1⟩
    have H1 := Lib.hid h1
    unfold Tok.val
    clear h1
    go_wp2_with fail
    go_ret
    exact ⟨rfl, _, H1.out.alloc _⟩
  | false =>
    rw [(need_no hx).1]
    rw [(need_no hx).2] at Ht
    have Hx := Lib.hid hx
    clear hx h
    go_enter Tryz.func126, Tryz.ntmps126
    go_wp2_with fail
    refine Ht.out.mono ?_
    rw [Hx.out]
    rintro e w1 ⟨rfl, lv1, h1⟩
    have hk := fun w2 lv2 sv2 s2 h2 => kept (o := .cells #[.int .u8 T.kind, .string ⟨T.text.toArray⟩, .int .i64 T.num, .int .i64 T.pos] 41) (w' := w2) (lv' := lv2) (sv' := sv2) (s' := s2) h1.ps h2
    have Hk := Lib.hid hk
    have H1 := Lib.hid (h1.alloc (.cells #[.int .u8 T.kind, .string ⟨T.text.toArray⟩, .int .i64 T.num, .int .i64 T.pos] 41))
    unfold Tok.val
    clear h1 hk
    go_wp2_with fail
    refine (place_calls H1.out.ps).mono ?_
    rintro e w2 ⟨rfl, rfl⟩
    go_wp2_with fail
    refine (fail_callsC H1.out.ps 13 s.place).mono ?_
    rintro e w2 ⟨rfl, lv2, h2⟩
    have H2 := Lib.hid (H1.out.trans h2)
    obtain ⟨⟨k0, k1, k2, k3⟩, -⟩ := four (Hk.out _ _ _ _ h2)
    clear h2
    go_wp2_with fail
    go_ret
    exact ⟨rfl, _, H2.out⟩
end Go.Proofs.YtcjmhmmjfgjcnaaGreatDoor.Pa
