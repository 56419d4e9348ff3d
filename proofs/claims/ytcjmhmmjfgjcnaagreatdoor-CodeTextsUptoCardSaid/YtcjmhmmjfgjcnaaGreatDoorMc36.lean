/- Parts: PcE PbF PcF. -/
import Derived.Test.YtcjmhmmjfgjcnaaGreatDoorMc23
import Derived.Test.YtcjmhmmjfgjcnaaGreatDoorMc28
import Derived.Test.YtcjmhmmjfgjcnaaGreatDoorMc35
import Derived.Deep.RegionWith
import Derived.Deep.RegionHeld3
import Derived.RegionTactic
import Derived.Deep.RegionLawGrows

/- parse: shown, a step of two; all steps. -/
namespace Go.Proofs.YtcjmhmmjfgjcnaaGreatDoor.Pa
open Go.RowKit Go.Proofs.YtcjmhmmjfgjcnaaGreatDoor.Lx

structure OpR (w : World) (y : Stp) (g o : Nat) (x z : Txt) (W : World) : Prop where
  k0 : W.cell? ⟨w.heap.size, 0, none⟩ = some (.int .u8 y.kind)
  q0 : W.cell? ⟨g, o, none⟩ = some (.string ⟨x.toArray⟩)
  q1 : W.cell? ⟨g, o + 1, none⟩ = some (.string ⟨z.toArray⟩)
  bel : Below w.heap.size w W
theorem OpR.step {w W W' : World} {y : Stp} {g o : Nat} {x z : Txt} (h : OpR w y g o x z W) (hb : Below W.heap.size W W') : OpR w y g o x z W' :=
  ⟨(hb.cell (p := ⟨w.heap.size, 0, none⟩) (World.block_lt_of_cell? _ _ h.k0)).trans h.k0, (hb.cell (p := ⟨g, o, none⟩) (World.block_lt_of_cell? _ _ h.q0)).trans h.q0, (hb.cell (p := ⟨g, o + 1, none⟩) (World.block_lt_of_cell? _ _ h.q1)).trans h.q1, h.bel.trans (hb.mono h.bel.size)⟩
end Go.Proofs.YtcjmhmmjfgjcnaaGreatDoor.Pa

/- parse: Closed. -/
namespace Go.Proofs.YtcjmhmmjfgjcnaaGreatDoor.Pa
open Go.RowKit Go.Proofs.YtcjmhmmjfgjcnaaGreatDoor.Lx

def firstNot {α : Type} (p : α → Bool) (l : List α) : Int := if l.all p then -1 else (l.findIdx fun t => !p t : Nat)
theorem firstNot_ge {α : Type} (p : α → Bool) (l : List α) : decide (0 ≤ firstNot p l) = !l.all p := by
  unfold firstNot
  split
  · rename_i h; rw [h]; rfl
  · rename_i h; simp at h ⊢; simpa using h
theorem firstNot_none {α : Type} {p : α → Bool} {l : List α} (h : ∀ j (hj : j < l.length), p l[j] = true) : firstNot p l = -1 := by
  unfold firstNot
  rw [if_pos]
  rw [List.all_eq_true]
  intro t ht
  obtain ⟨j, hj, e⟩ := List.getElem_of_mem ht
  rw [← e]; exact h j hj
theorem firstNot_at {α : Type} {p : α → Bool} {l : List α} {k : Nat} (hk : k < l.length) (e : p l[k] = false) (h : ∀ j (hj : j < l.length), j < k → p l[j] = true) : firstNot p l = k := by
  unfold firstNot
  rw [if_neg]
  · congr 1
    rw [List.findIdx_eq hk]
    exact ⟨by rw [e]; rfl, fun j hj => by rw [h j (by omega) hj]; rfl⟩
  · intro ha
    rw [List.all_eq_true] at ha
    rw [ha _ (List.getElem_mem hk)] at e
    cases e
theorem firstNot_le {α : Type} (p : α → Bool) (l : List α) : -1 ≤ firstNot p l ∧ firstNot p l ≤ l.length := by
  unfold firstNot
  split
  · omega
  · have := List.findIdx_le_length (p := fun t => !p t) (xs := l); omega

def plain6 (y : Stp) : Bool := y.kind != 6
theorem closed_eq (l : List Stp) : closedB l = l.all plain6 := rfl

theorem isSix_calls (y : Stp) (w : World) :
    Calls Tryz.prog 66 #[y.val] w fun e w' => e = .returned (.bool (!plain6 y)) ∧ Below w.heap.size w w' := by
  have Hr := Lib.hid (show ((y.kind : Int) == 6) = !plain6 y by
    unfold plain6
    by_cases h : y.kind = 6
    · rw [h]; rfl
    · rw [show ((y.kind : Int) == 6) = false by rw [beq_eq_false_iff_ne]; omega, show (y.kind != 6) = true by rw [bne_iff_ne]; exact h]; rfl)
  unfold Stp.val
  go_enter Tryz.func66, Tryz.ntmps66
  go_wp2_with fail
  go_ret
  exact ⟨ret_bool (by rw [← Hr.out]), alloc_below _ _⟩

set_option maxRecDepth 100000 in
theorem indexSix_calls (w : World) (v : Value) (l : List Stp) (h : StpsIn w v l) (hl : l.length ≤ 1073741824) :
    Calls Tryz.prog 117 #[v, .func (.func 66) #[] #[]] w fun e w' => e = .returned (.int .i64 (firstNot plain6 l)) ∧ Below w.heap.size w w' := by
  obtain ⟨a, n, c, rfl, hn, hc, hj⟩ := h
  have Hn := Lib.hid hn
  have Hj := Lib.hid hj
  have hn2 : n ≤ 1073741824 := by omega
  clear hn hj
  go_enter Tryz.func117, Tryz.ntmps117
  go_wp2_with fail
  go_loopw [8] (fun i wr => ∃ k : Nat, k ≤ n ∧ i = .int .i64 k ∧ Hid (Below w.heap.size w wr ∧ ∀ j (hj : j < l.length), j < k → plain6 l[j] = true)) (fun i _ => n - (intOf i).toNat)
  case atStart => exact ⟨0, Nat.zero_le _, rfl, Below.refl _ _, fun j _ hj => absurd hj (Nat.not_lt_zero _)⟩
  case round =>
    obtain ⟨k, hk, rfl, hb, hno⟩ := hrel
    have Hb := Lib.hid hb
    have Hno := Lib.hid hno
    by_cases hlt : k < n
    · have hkl : k < l.length := by rw [Hn.out]; exact hlt
      obtain ⟨g, o, rfl, hcl⟩ := Hj.out k hkl
      obtain ⟨q0, q1, q2⟩ := hcl.below hb
      have hc := isSix_calls l[k] wr
      unfold Stp.val at hc
      cases e : plain6 l[k] with
      | false =>
        have Hr := Lib.hid (firstNot_at hkl e hno)
        rw [e] at hc
        have Hc := Lib.hid hc
        generalize l[k] = t at *
        clear hc e hb hno hcl
        go_wp2_with fail
        refine Hc.out.mono ?_
        rintro e w2 ⟨rfl, hb2⟩
        have Hb2 := Lib.hid (Hb.out.trans (hb2.mono Hb.out.size))
        clear hb2
        go_wp2_with fail
        go_ret
        exact ⟨ret_intI Hr.out.symm, Hb2.out⟩
      | true =>
        have Hr := Lib.hid (show ∀ j (hj : j < l.length), j < k + 1 → plain6 l[j] = true from fun j h hj => by
          rcases Nat.lt_or_ge j k with h' | h'
          · exact hno j h h'
          · obtain rfl : j = k := by omega
            exact e)
        rw [e] at hc
        have Hc := Lib.hid hc
        generalize l[k] = t at *
        clear hc e hb hno hcl
        go_wp2_with fail
        refine Hc.out.mono ?_
        rintro e w2 ⟨rfl, hb2⟩
        have Hb2 := Lib.hid (Hb.out.trans (hb2.mono Hb.out.size))
        clear hb2
        go_wp2_with fail
        go_roundw
        case rel => exact ⟨k + 1, by omega, by go_num, Hb2.out, Hr.out⟩
        case measure => simp [intOf]; omega
    · have Hr := Lib.hid (firstNot_none (p := plain6) (l := l) fun j h => hno j h (by have := Hn.out; omega))
      clear hb hno
      go_wp2_with fail
      go_ret
      exact ⟨ret_intI Hr.out.symm, Hb.out⟩
theorem containsSix_calls (w : World) (v : Value) (l : List Stp) (h : StpsIn w v l) (hl : l.length ≤ 1073741824) :
    Calls Tryz.prog 65 #[v, .func (.func 66) #[] #[]] w fun e w' => e = .returned (.bool (!l.all plain6)) ∧ Below w.heap.size w w' := by
  have Hi := Lib.hid (indexSix_calls w v l h hl)
  have hb := firstNot_le plain6 l
  obtain ⟨a, n, c, rfl, -⟩ := h
  have Hg := Lib.hid (firstNot_ge plain6 l)
  generalize firstNot plain6 l = r at *
  go_enter Tryz.func65, Tryz.ntmps65
  go_wp2_with fail
  refine Hi.out.mono ?_
  rintro e w2 ⟨rfl, hb2⟩
  have Hb2 := Lib.hid hb2
  clear hb2
  go_wp2_with fail
  go_ret
  exact ⟨ret_bool Hg.out, Hb2.out⟩
theorem Closed_calls (w : World) (v : Value) (l : List Stp) (h : StpsIn w v l) (hl : l.length ≤ 1073741824) :
    Calls Tryz.prog 26 #[v] w fun e w' => e = .returned (.bool (closedB l)) ∧ Below w.heap.size w w' := by
  have Hi := Lib.hid (containsSix_calls w v l h hl)
  rw [closed_eq]
  obtain ⟨a, n, c, rfl, -⟩ := h
  generalize l.all plain6 = r at *
  go_enter Tryz.func26, Tryz.ntmps26
  go_wp2_with fail
  refine Hi.out.mono ?_
  rintro e w2 ⟨rfl, hb2⟩
  have Hb2 := Lib.hid hb2
  clear hb2
  go_wp2_with fail
  go_ret
  exact ⟨ret_bool (by simp), Hb2.out⟩

end Go.Proofs.YtcjmhmmjfgjcnaaGreatDoor.Pa

/- parse: Show. -/
namespace Go.Proofs.YtcjmhmmjfgjcnaaGreatDoor.Pa
open Go.RowKit Go.Proofs.YtcjmhmmjfgjcnaaGreatDoor.Lx

structure ShSt (w wr : World) (l : List Stp) (k : Nat) (v : Value) (st : List Txt) : Prop where
  bel : Below w.heap.size w wr
  own : OwnStrs wr w.heap.size v st
  len : Lib.lens st ≤ wts (l.take k)
  cnt : st.length ≤ k
  rgt : rightL (l.drop k) st.length = some 1
  shw : showG (l.drop k) st = showG l []
theorem ShSt.step {w wr w' : World} {l : List Stp} {k : Nat} {v : Value} {st : List Txt} (h : ShSt w wr l k v st) (hb : Below wr.heap.size wr w') : ShSt w w' l k v st :=
  ⟨h.bel.trans (hb.mono h.bel.size), own_same h.own fun g _ hg => hb.block g hg, h.len, h.cnt, h.rgt, h.shw⟩
theorem rightL_step {y : Stp} {r : List Stp} {n : Nat} (h : rightL (y :: r) n = some 1) : ∃ k, takes y = some k ∧ k ≤ n ∧ rightL r (n - k + 1) = some 1 := by
  rw [rightL] at h
  cases ht : takes y with
  | none => rw [ht] at h; cases h
  | some k =>
    rw [ht] at h
    simp only at h
    split at h
    · cases h
    · exact ⟨k, rfl, by omega, h⟩

theorem own_base {w : World} {base base' n size : Nat} {e : TypeId} {v : Value} {xs : List Value} (h : w.ownsRow base e size v n xs) (hb : base' ≤ base) : w.ownsRow base' e size v n xs := by
  refine ⟨h.1, ?_⟩
  rcases h.2 with h2 | ⟨g, cap, cur, e, h1, h2⟩
  · exact .inl h2
  · exact .inr ⟨g, cap, cur, e, by omega, h2⟩
theorem ShSt.more {w wr w' : World} {l : List Stp} {k at_ kk n B : Nat} {v v' : Value} {st : List Txt} {y : Stp} {cs : List Value} (h : ShSt w wr l k v st) (hm : st.length = at_ + kk) (hown : w'.ownsRow B 9 1 v' n cs) (hB : w.heap.size ≤ B) (hg : wr.grownBy w' none)
    (hn : n = at_ + 1) (hc : cs = strsC (st.take at_) ++ [.string ⟨(shown y (st.drop at_)).toArray⟩]) (hty : takes y = some kk) (hnum : y.num ≤ 9223372036854775807) (hsh : showG (y :: l.drop (k + 1)) st = showG l [])
    (hrg : rightL (l.drop (k + 1)) (st.length - kk + 1) = some 1) (hwt : wts (l.take (k + 1)) = wts (l.take k) + wt y) : ShSt w w' l (k + 1) v' (push y st) := by
  have hpl := push_length hty (st := st) (by omega)
  have hps := push_lens hty hnum (st := st) (by omega)
  have e : push y st = st.take at_ ++ [shown y (st.drop at_)] := by
    unfold push takesN
    rw [hty, Option.getD_some, show st.length - kk = at_ by omega]
  refine ⟨h.bel.grown hg h.bel.size fun b hb => by simp at hb, ?_, ?_, ?_, ?_, ?_⟩
  · unfold OwnStrs
    rw [hpl, e, strsC_snoc, ← hc, show st.length - kk + 1 = n by omega]
    exact own_base hown hB
  · have := h.len
    omega
  · have := h.cnt
    omega
  · rw [hpl]; exact hrg
  · rw [← showG_cons]; exact hsh

end Go.Proofs.YtcjmhmmjfgjcnaaGreatDoor.Pa
