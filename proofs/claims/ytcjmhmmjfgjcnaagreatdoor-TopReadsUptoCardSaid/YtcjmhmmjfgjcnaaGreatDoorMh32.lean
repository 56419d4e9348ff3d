/- Parts: PbF PcF. -/
import Derived.Test.YtcjmhmmjfgjcnaaGreatDoorMh28
import Derived.Test.YtcjmhmmjfgjcnaaGreatDoorMh31
import Derived.Deep.RegionLawGrows

/- parse: Closed. -/
namespace Go.Proofs.YtcjmhmmjfgjcnaaGreatDoor.Pa
open Go.RowKit Go.Proofs.YtcjmhmmjfgjcnaaGreatDoor.Lx

def firstNot {α : Type} (p : α → Bool) (l : List α) : Int := if l.all p then -1 else (l.findIdx fun t => !p t : Nat)
theorem firstNot_ge {α : Type} (p : α → Bool) (l : List α) : decide (0 ≤ firstNot p l) = !l.all p := by
  unfold firstNot
  split
  · rename_i h; rw [h]; rfl
  · rename_i h; simp at h ⊢; simpa using h
theorem firstNot_none {α : Type} {p : α → Bool} {l : List α} (h : ∀ j (hj : j < l.length), p l[j] = true) : firstNot p l = -1 := by
  unfold firstNot
  rw [if_pos]
  rw [List.all_eq_true]
  intro t ht
  obtain ⟨j, hj, e⟩ := List.getElem_of_mem ht
  rw [← e]; exact h j hj
theorem firstNot_at {α : Type} {p : α → Bool} {l : List α} {k : Nat} (hk : k < l.length) (e : p l[k] = false) (h : ∀ j (hj : j < l.length), j < k → p l[j] = true) : firstNot p l = k := by
  unfold firstNot
  rw [if_neg]
  · congr 1
    rw [List.findIdx_eq hk]
    exact ⟨by rw [e]; rfl, fun j hj => by rw [h j (by omega) hj]; rfl⟩
  · intro ha
    rw [List.all_eq_true] at ha
    rw [ha _ (List.getElem_mem hk)] at e
    cases e
theorem firstNot_le {α : Type} (p : α → Bool) (l : List α) : -1 ≤ firstNot p l ∧ firstNot p l ≤ l.length := by
  unfold firstNot
  split
  · omega
  · have := List.findIdx_le_length (p := fun t => !p t) (xs := l); omega

def plain6 (y : Stp) : Bool := y.kind != 6
theorem closed_eq (l : List Stp) : closedB l = l.all plain6 := rfl

theorem isSix_calls (y : Stp) (w : World) :
    Calls Tryz.prog 66 #[y.val] w fun e w' => e = .returned (.bool (!plain6 y)) ∧ Below w.heap.size w w' := by
  have Hr := Lib.hid (show ((y.kind : Int) == 6) = !plain6 y by
    unfold plain6
    by_cases h : y.kind = 6
    · rw [h]; rfl
    · rw [show ((y.kind : Int) == 6) = false by rw [beq_eq_false_iff_ne]; omega, show (y.kind != 6) = true by rw [bne_iff_ne]; exact h]; rfl)
  unfold Stp.val
  go_enter Tryz.func66, Tryz.ntmps66
  go_wp2_with fail
  go_ret
  exact ⟨ret_bool (by rw [← Hr.out]), alloc_below _ _⟩

set_option maxRecDepth 100000 in
theorem indexSix_calls (w : World) (v : Value) (l : List Stp) (h : StpsIn w v l) (hl : l.length ≤ 1073741824) :
    Calls Tryz.prog 117 #[v, .func (.func 66) #[] #[]] w fun e w' => e = .returned (.int .i64 (firstNot plain6 l)) ∧ Below w.heap.size w w' := by
  obtain ⟨a, n, c, rfl, hn, hc, hj⟩ := h
  have Hn := Lib.hid hn
  have Hj := Lib.hid hj
  have hn2 : n ≤ 1073741824 := by omega
  clear hn hj
  go_enter Tryz.func117, Tryz.ntmps117
  go_wp2_with fail
  go_loopw [8] (fun i wr => ∃ k : Nat, k ≤ n ∧ i = .int .i64 k ∧ Hid (Below w.heap.size w wr ∧ ∀ j (hj : j < l.length), j < k → plain6 l[j] = true)) (fun i _ => n - (intOf i).toNat)
  case atStart => exact ⟨0, Nat.zero_le _, rfl, Below.refl _ _, fun j _ hj => absurd hj (Nat.not_lt_zero _)⟩
  case round =>
    obtain ⟨k, hk, rfl, hb, hno⟩ := hrel
    have Hb := Lib.hid hb
    have Hno := Lib.hid hno
    by_cases hlt : k < n
    · have hkl : k < l.length := by rw [Hn.out]; exact hlt
      obtain ⟨g, o, rfl, hcl⟩ := Hj.out k hkl
      obtain ⟨q0, q1, q2⟩ := hcl.below hb
      have hc := isSix_calls l[k] wr
      unfold Stp.val at hc
      cases e : plain6 l[k] with
      | false =>
        have Hr := Lib.hid (firstNot_at hkl e hno)
        rw [e] at hc
        have Hc := Lib.hid hc
        generalize l[k] = t at *
        clear hc e hb hno hcl
        go_wp2_with fail
        refine Hc.out.mono ?_
        rintro e w2 ⟨rfl, hb2⟩
        have Hb2 := Lib.hid (Hb.out.trans (hb2.mono Hb.out.size))
        clear hb2
        go_wp2_with fail
        go_ret
        exact ⟨ret_intI Hr.out.symm, Hb2.out⟩
      | true =>
        have Hr := Lib.hid (show ∀ j (hj : j < l.length), j < k + 1 → plain6 l[j] = true from fun j h hj => by
          rcases Nat.lt_or_ge j k with h' | h'
          · exact hno j h h'
          · obtain rfl : j = k := by omega
            exact e)
        rw [e] at hc
        have Hc := Lib.hid hc
        generalize l[k] = t at *
        clear hc e hb hno hcl
        go_wp2_with fail
        refine Hc.out.mono ?_
        rintro e w2 ⟨rfl, hb2⟩
        have Hb2 := Lib.hid (Hb.out.trans (hb2.mono Hb.out.size))
        clear hb2
        go_wp2_with fail
        go_roundw
        case rel => exact ⟨k + 1, by omega, by go_num, Hb2.out, Hr.out⟩
        case measure => simp [intOf]; omega
    · have Hr := Lib.hid (firstNot_none (p := plain6) (l := l) fun j h => hno j h (by have := Hn.out; omega))
      clear hb hno
      go_wp2_with fail
      go_ret
      exact ⟨ret_intI Hr.out.symm, Hb.out⟩
theorem containsSix_calls (w : World) (v : Value) (l : List Stp) (h : StpsIn w v l) (hl : l.length ≤ 1073741824) :
    Calls Tryz.prog 65 #[v, .func (.func 66) #[] #[]] w fun e w' => e = .returned (.bool (!l.all plain6)) ∧ Below w.heap.size w w' := by
  have Hi := Lib.hid (indexSix_calls w v l h hl)
  have hb := firstNot_le plain6 l
  obtain ⟨a, n, c, rfl, -⟩ := h
  have Hg := Lib.hid (firstNot_ge plain6 l)
  generalize firstNot plain6 l = r at *
  go_enter Tryz.func65, Tryz.ntmps65
  go_wp2_with fail
  refine Hi.out.mono ?_
  rintro e w2 ⟨rfl, hb2⟩
  have Hb2 := Lib.hid hb2
  clear hb2
  go_wp2_with fail
  go_ret
  exact ⟨ret_bool Hg.out, Hb2.out⟩
theorem Closed_calls (w : World) (v : Value) (l : List Stp) (h : StpsIn w v l) (hl : l.length ≤ 1073741824) :
    Calls Tryz.prog 26 #[v] w fun e w' => e = .returned (.bool (closedB l)) ∧ Below w.heap.size w w' := by
  have Hi := Lib.hid (containsSix_calls w v l h hl)
  rw [closed_eq]
  obtain ⟨a, n, c, rfl, -⟩ := h
  generalize l.all plain6 = r at *
  go_enter Tryz.func26, Tryz.ntmps26
  go_wp2_with fail
  refine Hi.out.mono ?_
  rintro e w2 ⟨rfl, hb2⟩
  have Hb2 := Lib.hid hb2
  clear hb2
  go_wp2_with fail
  go_ret
  exact ⟨ret_bool (by simp), Hb2.out⟩

end Go.Proofs.YtcjmhmmjfgjcnaaGreatDoor.Pa

/- parse: Show. -/
namespace Go.Proofs.YtcjmhmmjfgjcnaaGreatDoor.Pa
open Go.RowKit Go.Proofs.YtcjmhmmjfgjcnaaGreatDoor.Lx

def showEV (l : List Stp) : Value := .tuple (if rightB l then #[.string ⟨(showE l).toArray⟩, .int .i64 0] else #[.string ⟨#[]⟩, .int .i64 13])

structure ShSt (w wr : World) (l : List Stp) (k : Nat) (v : Value) (st : List Txt) : Prop where
  bel : Below w.heap.size w wr
  own : OwnStrs wr w.heap.size v st
  len : Lib.lens st ≤ wts (l.take k)
  cnt : st.length ≤ k
  rgt : rightL (l.drop k) st.length = some 1
  shw : showG (l.drop k) st = showG l []
theorem ShSt.step {w wr w' : World} {l : List Stp} {k : Nat} {v : Value} {st : List Txt} (h : ShSt w wr l k v st) (hb : Below wr.heap.size wr w') : ShSt w w' l k v st :=
  ⟨h.bel.trans (hb.mono h.bel.size), own_same h.own fun g _ hg => hb.block g hg, h.len, h.cnt, h.rgt, h.shw⟩
theorem rightL_step {y : Stp} {r : List Stp} {n : Nat} (h : rightL (y :: r) n = some 1) : ∃ k, takes y = some k ∧ k ≤ n ∧ rightL r (n - k + 1) = some 1 := by
  rw [rightL] at h
  cases ht : takes y with
  | none => rw [ht] at h; cases h
  | some k =>
    rw [ht] at h
    simp only at h
    split at h
    · cases h
    · exact ⟨k, rfl, by omega, h⟩

theorem own_cases {w : World} {base m c : Nat} {b : Option Addr} {st : List Txt} (h : OwnStrs w base (.slice b m c) st) (hm : st.length = m) :
    (b = none ∧ m = 0 ∧ c = 0) ∨ ∃ gs, b = some ⟨gs, 0, none⟩ ∧ base ≤ gs ∧ gs < w.heap.size ∧ m ≤ c ∧ c ≤ 9223372036854775807 := by
  rcases h.2 with ⟨e, h0⟩ | ⟨g, cap, cur, e, h1, h2, h3, h4, _⟩
  · simp only [Value.slice.injEq] at e
    exact .inl ⟨e.1, e.2.1, e.2.2⟩
  · simp only [Value.slice.injEq] at e
    obtain ⟨rfl, h5, rfl⟩ := e
    unfold maxLen at h4
    exact .inr ⟨g, rfl, h1, lt_of_heap h2, by omega, by omega⟩
theorem take_cells {w : World} {base m c gs : Nat} {st : List Txt} (h : OwnStrs w base (.slice (some ⟨gs, 0, none⟩) m c) st) (hm : st.length = m) (at_ : Nat) (b : Addr) (hb : some (⟨gs, 0, none⟩ : Addr) = some b) (j : Nat) (u : Value)
    (hj : (strsC (st.take at_))[j]? = some u) : w.cell? (b.add j) = some u := by
  simp only [Option.some.injEq] at hb
  subst hb
  subst hm
  have h' : w.ownsRow base 9 1 (.slice (some ⟨gs, 0, none⟩) st.length c) st.length (strsC st) := h
  have hlt : j < st.length := by
    have := (List.getElem?_eq_some_iff.1 hj).1
    simp only [strsC, List.length_map, List.length_take] at this
    omega
  rw [Addr.add_lit, Nat.zero_add, World.ownsRow.cellAt h' j (show j < st.length * 1 by omega), ← hj]
  simp only [strsC, List.getElem?_map]
  rw [List.getElem?_take]
  have : j < at_ := by
    have := (List.getElem?_eq_some_iff.1 hj).1
    simp only [strsC, List.length_map, List.length_take] at this
    omega
  rw [if_pos this]
theorem drop_txts {w : World} {base c gs at_ kk : Nat} {st : List Txt} (h : OwnStrs w base (.slice (some ⟨gs, 0, none⟩) (at_ + kk) c) st) (hm : st.length = at_ + kk) (hc : at_ + kk ≤ c) : TxtsIn w (.slice (some ⟨gs, at_, none⟩) kk (c - at_)) (st.drop at_) := by
  have h' : w.ownsRow base 9 1 (.slice (some ⟨gs, 0, none⟩) (at_ + kk) c) (at_ + kk) (strsC st) := by rw [← hm]; rw [← hm] at h; exact h
  refine ⟨_, _, _, rfl, by rw [List.length_drop]; omega, by omega, fun j hj => ⟨gs, at_, rfl, ?_⟩⟩
  rw [List.length_drop] at hj
  rw [World.ownsRow.cellAt h' (at_ + j) (show at_ + j < (at_ + kk) * 1 by omega)]
  simp only [strsC, List.getElem?_map, List.getElem_drop]
  rw [List.getElem?_eq_getElem (by omega)]
  rfl
theorem txts_none (w : World) (a : Option Addr) (c : Nat) (st : List Txt) (at_ : Nat) (h : st.length = at_ + 0) : TxtsIn w (.slice a 0 c) (st.drop at_) :=
  ⟨_, _, _, rfl, by rw [List.length_drop]; omega, Nat.zero_le _, fun j hj => by rw [List.length_drop] at hj; omega⟩
theorem drop_txts' {w : World} {base c gs at_ kk : Nat} {st : List Txt} (h : OwnStrs w base (.slice (some ⟨gs, 0, none⟩) (at_ + kk) c) st) (hm : st.length = at_ + kk) (hc : at_ + kk ≤ c) :
    TxtsIn w (.slice (if c = at_ then some ⟨gs, 0, none⟩ else some ⟨gs, at_, none⟩) kk (c - at_)) (st.drop at_) := by
  by_cases e : c = at_
  · obtain rfl : kk = 0 := by omega
    exact txts_none _ _ _ _ _ hm
  · rw [if_neg e]
    exact drop_txts h hm hc
theorem own_base {w : World} {base base' n size : Nat} {e : TypeId} {v : Value} {xs : List Value} (h : w.ownsRow base e size v n xs) (hb : base' ≤ base) : w.ownsRow base' e size v n xs := by
  refine ⟨h.1, ?_⟩
  rcases h.2 with h2 | ⟨g, cap, cur, e, h1, h2⟩
  · exact .inl h2
  · exact .inr ⟨g, cap, cur, e, by omega, h2⟩
theorem ShSt.more {w wr w' : World} {l : List Stp} {k at_ kk n B : Nat} {v v' : Value} {st : List Txt} {y : Stp} {cs : List Value} (h : ShSt w wr l k v st) (hm : st.length = at_ + kk) (hown : w'.ownsRow B 9 1 v' n cs) (hB : w.heap.size ≤ B) (hg : wr.grownBy w' none)
    (hn : n = at_ + 1) (hc : cs = strsC (st.take at_) ++ [.string ⟨(shown y (st.drop at_)).toArray⟩]) (hty : takes y = some kk) (hnum : y.num ≤ 9223372036854775807) (hsh : showG (y :: l.drop (k + 1)) st = showG l [])
    (hrg : rightL (l.drop (k + 1)) (st.length - kk + 1) = some 1) (hwt : wts (l.take (k + 1)) = wts (l.take k) + wt y) : ShSt w w' l (k + 1) v' (push y st) := by
  have hpl := push_length hty (st := st) (by omega)
  have hps := push_lens hty hnum (st := st) (by omega)
  have e : push y st = st.take at_ ++ [shown y (st.drop at_)] := by
    unfold push takesN
    rw [hty, Option.getD_some, show st.length - kk = at_ by omega]
  refine ⟨h.bel.grown hg h.bel.size fun b hb => by simp at hb, ?_, ?_, ?_, ?_, ?_⟩
  · unfold OwnStrs
    rw [hpl, e, strsC_snoc, ← hc, show st.length - kk + 1 = n by omega]
    exact own_base hown hB
  · have := h.len
    omega
  · have := h.cnt
    omega
  · rw [hpl]; exact hrg
  · rw [← showG_cons]; exact hsh

set_option maxHeartbeats 2000000 in
set_option maxRecDepth 100000 in
theorem showE_calls (w : World) (v : Value) (l : List Stp) (h : StpsIn w v l) (hl : l.length ≤ 1048576) (ht : ∀ y ∈ l, y.text.length ≤ 1048575) (hn : ∀ y ∈ l, y.num ≤ 9223372036854775807) (he : Env w) :
    Calls Tryz.prog 17 #[v] w fun e w' => e = .returned (showEV l) ∧ Below w.heap.size w w' := by
  have HRc := Lib.hid (Right_calls w v l h hl ht he)
  have Hh := Lib.hid h
  have He := Lib.hid he
  have Ht := Lib.hid ht
  have Hnm := Lib.hid hn
  cases hR : rightB l with
  | false =>
    rw [hR] at HRc
    have HV := Lib.hid (show showEV l = .tuple #[.string ⟨#[]⟩, .int .i64 13] by unfold showEV; rw [if_neg (by rw [hR]; simp)])
    clear h hl ht hn he hR
    obtain ⟨a, n, c, rfl, -⟩ := Hh.out
    go_enter Tryz.func17, Tryz.ntmps17
    go_wp2_with fail
    refine HRc.out.mono ?_
    rintro e w2 ⟨rfl, hb2⟩
    have Hb2 := Lib.hid hb2
    clear hb2
    go_wp2_with fail
    go_ret2
    exact ⟨by rw [HV.out]; rfl, Hb2.out⟩
  | true =>
    rw [hR] at HRc
    have hr2 := hR
    unfold rightB at hr2
    simp only [Bool.and_eq_true, decide_eq_true_eq] at hr2
    have HV := Lib.hid (show showEV l = .tuple #[.string ⟨(showE l).toArray⟩, .int .i64 0] by unfold showEV; rw [if_pos hR])
    have HE := Lib.hid (show showE l = (showG l []).headD [] by unfold showE; rw [if_pos hR])
    have Hr1 := Lib.hid hr2.1
    have h128 := hr2.2
    obtain ⟨a, n, c, rfl, hln, hnc, hj⟩ := h
    have Hln := Lib.hid hln
    have Hj := Lib.hid hj
    have hn128 : n ≤ 128 := by omega
    have Hw := Lib.hid (fun k => show wts (l.take k) ≤ 8858489600 by
      have h1 := wts_le (l := l.take k) fun y hy => ht y (List.mem_of_mem_take hy)
      have h2 := Nat.mul_le_mul_right 69206950 (show (l.take k).length ≤ 128 by rw [List.length_take]; omega)
      omega)
    clear hl ht hn he hR hr2 h128 hj hln
    go_enter Tryz.func17, Tryz.ntmps17
    go_wp2_with fail
    refine HRc.out.mono ?_
    rintro e w2 ⟨rfl, hb2⟩
    have Hb2 := Lib.hid hb2
    clear hb2
    go_wp2_with fail
    go_loopw [4, 15] (fun s4 i wr => ∃ (k m c4 : Nat) (b4 : Option Addr) (st : List Txt), k ≤ n ∧ i = .int .i64 k ∧ s4 = .slice b4 m c4 ∧ st.length = m ∧ Hid (ShSt w wr l k (.slice b4 m c4) st)) (fun _ i _ => n - (intOf i).toNat)
    case atStart => exact ⟨0, 0, 0, none, [], Nat.zero_le _, rfl, rfl, rfl, ⟨Hb2.out, OwnStrs.nil _ _, Nat.zero_le _, Nat.le_refl _, Hr1.out, rfl⟩⟩
    case round =>
      obtain ⟨k, m, c4, b4, st, hk, rfl, rfl, hm, hst⟩ := hrel
      have Hst := Lib.hid hst.out
      by_cases hlt : k < n
      · have hkl : k < l.length := by rw [Hln.out]; exact hlt
        obtain ⟨g, o, rfl, hcl⟩ := Hj.out k hkl
        obtain ⟨q0, q1, q2⟩ := hcl.below hst.out.bel
        have htx := Ht.out _ (List.getElem_mem hkl)
        have hnum := Hnm.out _ (List.getElem_mem hkl)
        have hd : l.drop k = l[k] :: l.drop (k + 1) := List.drop_eq_getElem_cons hkl
        have hrg := hst.out.rgt
        have hsh := hst.out.shw
        rw [hd] at hrg hsh
        obtain ⟨kk, hty, hkm, hrg2⟩ := rightL_step hrg
        obtain ⟨at_, rfl⟩ : ∃ at_, m = at_ + kk := ⟨m - kk, by omega⟩
        have hwt : wts (l.take (k + 1)) = wts (l.take k) + wt l[k] := by
          unfold wts; rw [List.take_succ_eq_append_getElem hkl, List.map_append, List.sum_append]; simp only [List.map_cons, List.map_nil, List.sum_cons, List.sum_nil, Nat.add_zero]
        generalize l[k] = y at *
        have Htk := Lib.hid (fun (w2 : World) (hb2 : Below w.heap.size w w2) => Takes_calls y w2 htx (He.out.below hb2))
        rw [hty, takesV_some] at Htk
        unfold Stp.val at Htk
        have hkk := takes_le hty
        have hcnt := hst.out.cnt
        rw [hm] at hcnt
        have Hty := Lib.hid hty
        have Hrg := Lib.hid hrg2
        have Hsh := Lib.hid hsh
        have Hwt := Lib.hid hwt
        have hblk := heap_alloc_new wr (.cells #[.int .u8 y.kind, .string ⟨y.text.toArray⟩, .int .i64 y.num] 48)
        have Hblk := Lib.hid hblk
        have Hst1 := Lib.hid (Hst.out.step (alloc_below wr (.cells #[.int .u8 y.kind, .string ⟨y.text.toArray⟩, .int .i64 y.num] 48)))
        have hlens : Lib.lens (st.drop at_) ≤ 70368744177664 := by
          have h1 := hst.out.len
          have h2 := Hw.out k
          have h3 : Lib.lens st = Lib.lens (st.take at_) + Lib.lens (st.drop at_) := by rw [← lens_app, List.take_append_drop]
          omega
        clear hst hcl hd hrg hsh hty hrg2 hwt hblk
        go_wp2_with fail
        refine (Htk.out _ Hst1.out.bel).mono ?_
        rintro e w3 ⟨rfl, hb3⟩
        have hblk3 := (hb3.block wr.heap.size (by simp)).trans Hblk.out
        obtain ⟨⟨k0, k1, k2⟩, -⟩ := threeC hblk3
        have Hst3 := Lib.hid (Hst1.out.step hb3)
        clear hb3 hblk3 q0 q1 q2
        go_wp2_with fail
        obtain ⟨i0, hi0, hz0, hz1, hz2⟩ := info_parts strInfo
        have Hi0 := Lib.hid hi0
        have Hz0 := Lib.hid hz0
        have Hz1 := Lib.hid hz1
        have Hz2 := Lib.hid hz2
        clear hi0 hz0 hz1 hz2
        have Hsha := Lib.hid (fun (w4 : World) (vv : Value) (hb : Below w3.heap.size w3 w4) (hv : TxtsIn w3 vv (st.drop at_)) => shown_calls y kk (st.drop at_) vv w4 ⟨Hty.out, by rw [List.length_drop]; omega, hv.below hb, htx, hnum, hlens, He.out.below (Hst3.out.bel.trans (hb.mono Hst3.out.bel.size))⟩)
        unfold Stp.val at Hsha
        rcases own_cases Hst3.out.own hm with ⟨rfl, h0, rfl⟩ | ⟨gs, rfl, hgs1, hgs2, hmc, hc4⟩
        · obtain ⟨rfl, rfl⟩ : at_ = 0 ∧ kk = 0 := by omega
          have Hdt := Lib.hid (txts_none w3 none 0 st 0 hm)
          have Hnews := Lib.hid (fun (w9 : World) => World.news_of_block (cs := #[.string ⟨(shown y (st.drop 0)).toArray⟩]) (t := 9) (fr := (0, 0)) (heap_alloc_new w9 (.cells #[.string ⟨(shown y (st.drop 0)).toArray⟩] 9)))
          have Hone := Lib.hid (show ∀ u ∈ [Value.string ⟨(shown y (st.drop 0)).toArray⟩], u.oneCell' = true by simp [Value.oneCell'])
          have Hlt := Lib.hid (show 0 < 0 + 1 ∧ 0 + 1 ≤ maxLen ∧ (0 + 1) * 16 ≤ 140737488355328 by unfold maxLen; omega)
          go_region_law (first | (refine step_append_grows rfl _ _ 93 rfl 9 i0 _ 1 16 Tryz.underlying93 Hi0.out Hz0.out Hz1.out Hz2.out rfl (by decide) none 0 0 (strsC (st.take 0)) rfl (fun _ => ⟨rfl, rfl⟩) rfl (fun b hb => by cases hb) ⟨w9.heap.size, 0, none⟩ 1 1 [.string ⟨(shown y (st.drop 0)).toArray⟩] rfl rfl (Hnews.out w9) Hone.out Hlt.out.1 Hlt.out.2.1 Hlt.out.2.2 ?_; intro v10 w10 hown10 hg10; obtain ⟨a10, c10, rfl⟩ := own_form hown10) | (go_simp; go_at_call 53; refine (Hsha.out _ _ ((Below.refl _ _).drew) Hdt.out).mono ?_; rintro e w9 ⟨rfl, hb9⟩))
          have hb10 : Below w3.heap.size w3 (w9.alloc (.cells #[.string ⟨(shown y (st.drop 0)).toArray⟩] 9)) := ((Below.refl _ _).drew.trans hb9).trans ((alloc_below w9 _).mono ((Below.refl _ _).drew.trans hb9).size)
          have Hst10 := Lib.hid ((Hst3.out.step hb10).more hm hown10 (Nat.le_trans Hst3.out.bel.size hb10.size) hg10 rfl rfl Hty.out hnum Hsh.out Hrg.out Hwt.out)
          have Hpl := Lib.hid (push_length Hty.out (st := st) (by omega))
          clear hb9 hb10 hown10 hg10 k0 k1 k2
          go_wp2_with fail
          go_roundw
          case rel => exact ⟨k + 1, 0 + 1, c10, a10, push y st, by omega, by go_num, rfl, by rw [Hpl.out]; omega, Hst10.out⟩
          case measure => simp [intOf]; omega
        · have hac : at_ ≤ c4 := by omega
          have Hdt := Lib.hid (drop_txts' Hst3.out.own hm hmc)
          have Htc := Lib.hid (fun (w9 : World) (hb : Below w3.heap.size w3 w9) => take_cells ((Hst3.out.step hb).own) hm at_)
          have Hnews := Lib.hid (fun (w9 : World) => World.news_of_block (cs := #[.string ⟨(shown y (st.drop at_)).toArray⟩]) (t := 9) (fr := (0, 0)) (heap_alloc_new w9 (.cells #[.string ⟨(shown y (st.drop at_)).toArray⟩] 9)))
          have Hone := Lib.hid (show ∀ u ∈ [Value.string ⟨(shown y (st.drop at_)).toArray⟩], u.oneCell' = true by simp [Value.oneCell'])
          have Hlt := Lib.hid (show at_ < at_ + 1 ∧ at_ + 1 ≤ maxLen ∧ (at_ + 1) * 16 ≤ 140737488355328 by unfold maxLen; omega)
          have Hlo := Lib.hid (show (strsC (st.take at_)).length = at_ * 1 by rw [strsC, List.length_map, List.length_take]; omega)
          have j0 : (0 : Int) ≤ (at_ : Int) := by omega
          have j1 : (at_ : Int) ≤ (c4 : Int) := by omega
          have j2 : (at_ : Int) ≤ (at_ : Int) + (kk : Int) := by omega
          go_region_law (first | (refine step_append_grows rfl _ _ 93 rfl 9 i0 _ 1 16 Tryz.underlying93 Hi0.out Hz0.out Hz1.out Hz2.out rfl (by decide) (some ⟨gs, 0, none⟩) at_ at_ (strsC (st.take at_)) rfl (fun h => by cases h) Hlo.out (fun b hb j u hj => Htc.out _ (((Below.refl _ _).drew.trans hb9).trans ((alloc_below w9 _).mono ((Below.refl _ _).drew.trans hb9).size)) b hb j u hj) ⟨w9.heap.size, 0, none⟩ 1 1 [.string ⟨(shown y (st.drop at_)).toArray⟩] rfl rfl (Hnews.out w9) Hone.out Hlt.out.1 Hlt.out.2.1 Hlt.out.2.2 ?_; intro v10 w10 hown10 hg10; obtain ⟨a10, c10, rfl⟩ := own_form hown10) | (go_simp; go_at_call 53; refine (Hsha.out _ _ ((Below.refl _ _).drew) Hdt.out).mono ?_; rintro e w9 ⟨rfl, hb9⟩))
          have hb10 : Below w3.heap.size w3 (w9.alloc (.cells #[.string ⟨(shown y (st.drop at_)).toArray⟩] 9)) := ((Below.refl _ _).drew.trans hb9).trans ((alloc_below w9 _).mono ((Below.refl _ _).drew.trans hb9).size)
          have Hst10 := Lib.hid ((Hst3.out.step hb10).more hm hown10 (Nat.le_trans Hst3.out.bel.size hb10.size) hg10 rfl rfl Hty.out hnum Hsh.out Hrg.out Hwt.out)
          have Hpl := Lib.hid (push_length Hty.out (st := st) (by omega))
          clear hb9 hb10 hown10 hg10 k0 k1 k2
          go_wp2_with fail
          go_roundw
          case rel => exact ⟨k + 1, at_ + 1, c10, a10, push y st, by omega, by go_num, rfl, by rw [Hpl.out]; omega, Hst10.out⟩
          case measure => simp [intOf]; omega
      · have hkn : k = n := by omega
        subst hkn
        have hdn : l.drop k = [] := List.drop_of_length_le (by rw [Hln.out]; exact Nat.le_refl _)
        have hrg := hst.out.rgt
        have hsh := hst.out.shw
        rw [hdn] at hrg hsh
        simp only [rightL, Option.some.injEq] at hrg
        simp only [showG] at hsh
        obtain ⟨x, rfl⟩ : ∃ x, st = [x] := by
          match st, hrg with
          | [x], _ => exact ⟨x, rfl⟩
        have HX := Lib.hid (show showE l = x by rw [HE.out, ← hsh]; rfl)
        obtain ⟨_, _, _, e1, e2, e3, e4⟩ := TxtsIn.own hst.out.own
        obtain ⟨g4, o4, e5, e6⟩ := e4 0 (by simp)
        simp only [Value.slice.injEq] at e1
        obtain ⟨rfl, rfl, rfl⟩ := e1
        subst e5
        have hm1 : m = 1 := by rw [← hm]; rfl
        subst hm1
        rw [Nat.add_zero] at e6
        simp only [List.getElem_cons_zero] at e6
        clear hst hdn hrg hsh e2 e3 e4
        go_wp2_with fail
        go_ret2
        exact ⟨by rw [HV.out, HX.out]; rfl, Hst.out.bel⟩

end Go.Proofs.YtcjmhmmjfgjcnaaGreatDoor.Pa
