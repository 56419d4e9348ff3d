/- Parts: PbE PbF. -/
import Derived.Test.YtghnkgeaocpmaaaGreatDoorMg28

/- parse: Right. -/
namespace Go.Proofs.YtghnkgeaocpmaaaGreatDoor.Pa
open Go.RowKit Go.Proofs.YtghnkgeaocpmaaaGreatDoor.Lx

/-- a step's cells -/
structure StpCells (w : World) (g o : Nat) (y : Stp) : Prop where
  c0 : w.cell? ⟨g, o, none⟩ = some (.int .u8 y.kind)
  c1 : w.cell? ⟨g, o + 1, none⟩ = some (.string ⟨y.text.toArray⟩)
  c2 : w.cell? ⟨g, o + 2, none⟩ = some (.int .i64 y.num)
/-- a slice that reads as steps, wherever it begins -/
def StpsIn (w : World) (v : Value) (l : List Stp) : Prop := ∃ (a : Option Addr) (n c : Nat), v = .slice a n c ∧ l.length = n ∧ n ≤ c ∧ ∀ (i : Nat) (h : i < l.length), ∃ g o, a = some ⟨g, o, none⟩ ∧ StpCells w g (o + i * 3) l[i]
theorem StpCells.below {w w' : World} {g o : Nat} {y : Stp} (h : StpCells w g o y) (hb : Below w.heap.size w w') : StpCells w' g o y := by
  have hg : g < w.heap.size := World.block_lt_of_cell? _ _ h.c0
  exact ⟨(hb.cell (p := ⟨g, _, none⟩) hg).trans h.c0, (hb.cell (p := ⟨g, _, none⟩) hg).trans h.c1, (hb.cell (p := ⟨g, _, none⟩) hg).trans h.c2⟩
theorem StpsIn.below {w w' : World} {v : Value} {l : List Stp} (h : StpsIn w v l) (hb : Below w.heap.size w w') : StpsIn w' v l := by
  obtain ⟨a, n, c, rfl, hn, hc, hj⟩ := h
  refine ⟨a, n, c, rfl, hn, hc, fun i hi => ?_⟩
  obtain ⟨g, o, e, hcl⟩ := hj i hi
  exact ⟨g, o, e, hcl.below hb⟩
theorem stpsC_get : ∀ (l : List Stp) (i : Nat) (h : i < l.length), (stpsC l)[i * 3]? = some (.int .u8 l[i].kind) ∧ (stpsC l)[i * 3 + 1]? = some (.string ⟨l[i].text.toArray⟩) ∧ (stpsC l)[i * 3 + 2]? = some (.int .i64 l[i].num)
  | [], i, h => absurd h (Nat.not_lt_zero _)
  | t :: l, 0, _ => ⟨rfl, rfl, rfl⟩
  | t :: l, i + 1, h => by
    have hi := stpsC_get l i (by simpa using h)
    have e : stpsC (t :: l) = t.cells ++ stpsC l := rfl
    have hl : t.cells.length = 3 := rfl
    rw [e]
    refine ⟨?_, ?_, ?_⟩
    · rw [List.getElem?_append_right (by omega), hl, show (i + 1) * 3 - 3 = i * 3 by omega]; exact hi.1
    · rw [List.getElem?_append_right (by omega), hl, show (i + 1) * 3 + 1 - 3 = i * 3 + 1 by omega]; exact hi.2.1
    · rw [List.getElem?_append_right (by omega), hl, show (i + 1) * 3 + 2 - 3 = i * 3 + 2 by omega]; exact hi.2.2
theorem StpsIn.own {w : World} {base n : Nat} {v : Value} {l : List Stp} (h : w.ownsRow base 29 3 v n (stpsC l)) (hn : n = l.length) : StpsIn w v l := by
  subst hn
  rcases h.2 with ⟨rfl, h0⟩ | ⟨g, cap, cur, e, _, h2, h3, _⟩
  · exact ⟨none, 0, 0, rfl, h0, Nat.le_refl _, fun i hi => by omega⟩
  · subst e
    refine ⟨_, _, _, rfl, rfl, h3, fun i hi => ⟨g, 0, rfl, ?_⟩⟩
    obtain ⟨k0, k1, k2⟩ := stpsC_get l i hi
    refine ⟨?_, ?_, ?_⟩
    · rw [World.ownsRow.cellAt h _ (by omega), Nat.zero_add]; exact k0
    · rw [World.ownsRow.cellAt h _ (by omega), Nat.zero_add]; exact k1
    · rw [World.ownsRow.cellAt h _ (by omega), Nat.zero_add]; exact k2

theorem takes_le {y : Stp} {k : Nat} (h : takes y = some k) : k ≤ 64 := by
  unfold takes at h
  repeat' split at h
  all_goals first | (cases h; done) | (simp only [Option.some.injEq] at h; omega)

theorem rightL_cons (y : Stp) (r : List Stp) (n : Nat) : rightL (y :: r) n = match takes y with
    | none => none
    | some k => if n < k then none else rightL r (n - k + 1) := rfl

set_option maxHeartbeats 1000000 in
set_option maxRecDepth 100000 in
theorem Right_calls (w : World) (v : Value) (l : List Stp) (h : StpsIn w v l) (hl : l.length ≤ 1048576) (ht : ∀ y ∈ l, y.text.length ≤ 1048575) (he : Env w) :
    Calls Tryz.prog 20 #[v] w fun e w' => e = .returned (.bool (rightB l)) ∧ Below w.heap.size w w' := by
  obtain ⟨a, n, c, rfl, hn, hc, hj⟩ := h
  have Hn := Lib.hid hn
  have Hj := Lib.hid hj
  have Ht := Lib.hid ht
  have He := Lib.hid he
  have hn2 : n ≤ 1048576 := by omega
  generalize hR : rightB l = R at *
  have HR := Lib.hid (show (decide (rightL (l.drop 0) 0 = some 1) && decide (l.length ≤ 128)) = R from hR)
  clear hn hj ht he hR
  go_enter Tryz.func20, Tryz.ntmps20
  go_wp2_with fail
  go_loopw [3, 10] (fun s3 i wr => ∃ (k m : Nat), k ≤ n ∧ m ≤ k ∧ i = .int .i64 k ∧ s3 = .int .i64 m ∧ Hid (Below w.heap.size w wr ∧ (decide (rightL (l.drop k) m = some 1) && decide (l.length ≤ 128)) = R)) (fun _ i _ => n - (intOf i).toNat)
  case atStart => exact ⟨0, 0, Nat.zero_le _, Nat.le_refl _, rfl, rfl, Below.refl _ _, HR.out⟩
  case round =>
    obtain ⟨k, m, hk, hmk, rfl, rfl, hb, hR⟩ := hrel
    have Hb := Lib.hid hb
    by_cases hlt : k < n
    · have hkl : k < l.length := by rw [Hn.out]; exact hlt
      obtain ⟨g, o, rfl, hcl⟩ := Hj.out k hkl
      obtain ⟨q0, q1, q2⟩ := hcl.below hb
      have htx := Ht.out _ (List.getElem_mem hkl)
      rw [List.drop_eq_getElem_cons hkl] at hR
      have Htk := Lib.hid (fun (w2 : World) (hb2 : Below wr.heap.size wr w2) => Takes_calls l[k] w2 htx ((He.out.below hb).below hb2))
      have hgw : g < wr.heap.size := World.block_lt_of_cell? _ _ q0
      generalize l[k] = y at *
      cases ht : takes y with
      | none =>
        rw [show rightL (y :: List.drop (k + 1) l) m = none by rw [rightL_cons, ht]] at hR
        have HR' := Lib.hid (show false = R by simpa using hR)
        rw [ht] at Htk
        unfold Stp.val takesV at Htk
        clear hR ht hb hcl htx
        go_wp2_with fail
        refine (Htk.out _ (alloc_below _ _)).mono ?_
        rintro e w2 ⟨rfl, hb2⟩
        have Hb2 := Lib.hid (Hb.out.trans (((alloc_below wr _).trans (hb2.mono (alloc_below wr _).size)).mono Hb.out.size))
        clear hb2
        go_wp2_with fail
        go_ret
        exact ⟨ret_bool HR'.out, Hb2.out⟩
      | some j =>
        have hj64 := takes_le ht
        rw [ht] at Htk
        unfold Stp.val takesV at Htk
        simp only [Option.getD_some, Option.isSome_some] at Htk
        by_cases hmj : m < j
        · rw [show rightL (y :: List.drop (k + 1) l) m = none by rw [rightL_cons, ht]; exact if_pos hmj] at hR
          have HR' := Lib.hid (show false = R by simpa using hR)
          clear hR ht hb hcl htx
          go_wp2_with fail
          refine (Htk.out _ (alloc_below _ _)).mono ?_
          rintro e w2 ⟨rfl, hb2⟩
          have Hb2 := Lib.hid (Hb.out.trans (((alloc_below wr _).trans (hb2.mono (alloc_below wr _).size)).mono Hb.out.size))
          clear hb2
          go_wp2_with fail
          go_ret
          exact ⟨ret_bool HR'.out, Hb2.out⟩
        · rw [show rightL (y :: List.drop (k + 1) l) m = rightL (List.drop (k + 1) l) (m - j + 1) by rw [rightL_cons, ht]; exact if_neg hmj] at hR
          have HR' := Lib.hid hR
          have hmj2 : j ≤ m := by omega
          clear hR ht hb hcl htx
          go_wp2_with fail
          refine (Htk.out _ (alloc_below _ _)).mono ?_
          rintro e w2 ⟨rfl, hb2⟩
          have Hb2 := Lib.hid (Hb.out.trans (((alloc_below wr _).trans (hb2.mono (alloc_below wr _).size)).mono Hb.out.size))
          clear hb2
          go_wp2_with fail
          go_roundw
          case rel => exact ⟨k + 1, m - j + 1, by omega, by omega, by go_num, by first | go_num | (congr 1; omega), Hb2.out, HR'.out⟩
          case measure => simp [intOf]; omega
    · have HR' := Lib.hid (show (decide (m = 1) && decide (n ≤ 128)) = R by
        rw [List.drop_of_length_le (by rw [Hn.out]; omega)] at hR
        rw [← hR, Hn.out]
        simp [rightL])
      clear hR hb
      by_cases h1 : m = 1
      · have b1 : ((m : Int) == 1) = true := by rw [beq_iff_eq]; omega
        have Hr := Lib.hid (show decide ((n : Int) ≤ 128) = R by rw [← HR'.out]; simp [h1]; omega)
        clear h1
        go_wp2_with fail
        go_ret
        exact ⟨ret_bool Hr.out, Hb.out⟩
      · have b1 : ((m : Int) == 1) = false := by rw [beq_eq_false_iff_ne]; omega
        have Hr := Lib.hid (show false = R by rw [← HR'.out]; simp [h1])
        clear h1
        go_wp2_with fail
        go_ret
        exact ⟨ret_bool Hr.out, Hb.out⟩

end Go.Proofs.YtghnkgeaocpmaaaGreatDoor.Pa

/- parse: Closed. -/
namespace Go.Proofs.YtghnkgeaocpmaaaGreatDoor.Pa
open Go.RowKit Go.Proofs.YtghnkgeaocpmaaaGreatDoor.Lx

/-- where the first element that fails `p` stands -/
def firstNot {α : Type} (p : α → Bool) (l : List α) : Int := if l.all p then -1 else (l.findIdx fun t => !p t : Nat)
theorem firstNot_ge {α : Type} (p : α → Bool) (l : List α) : decide (0 ≤ firstNot p l) = !l.all p := by
  unfold firstNot
  split
  · rename_i h; rw [h]; rfl
  · rename_i h; simp at h ⊢; simpa using h
theorem firstNot_none {α : Type} {p : α → Bool} {l : List α} (h : ∀ j (hj : j < l.length), p l[j] = true) : firstNot p l = -1 := by
  unfold firstNot
  rw [if_pos]
  rw [List.all_eq_true]
  intro t ht
  obtain ⟨j, hj, e⟩ := List.getElem_of_mem ht
  rw [← e]; exact h j hj
theorem firstNot_at {α : Type} {p : α → Bool} {l : List α} {k : Nat} (hk : k < l.length) (e : p l[k] = false) (h : ∀ j (hj : j < l.length), j < k → p l[j] = true) : firstNot p l = k := by
  unfold firstNot
  rw [if_neg]
  · congr 1
    rw [List.findIdx_eq hk]
    exact ⟨by rw [e]; rfl, fun j hj => by rw [h j (by omega) hj]; rfl⟩
  · intro ha
    rw [List.all_eq_true] at ha
    rw [ha _ (List.getElem_mem hk)] at e
    cases e
theorem firstNot_le {α : Type} (p : α → Bool) (l : List α) : -1 ≤ firstNot p l ∧ firstNot p l ≤ l.length := by
  unfold firstNot
  split
  · omega
  · have := List.findIdx_le_length (p := fun t => !p t) (xs := l); omega

/-- no aggregate's step -/
def plain6 (y : Stp) : Bool := y.kind != 6
theorem closed_eq (l : List Stp) : closedB l = l.all plain6 := rfl

theorem isSix_calls (y : Stp) (w : World) :
    Calls Tryz.prog 45 #[y.val] w fun e w' => e = .returned (.bool (!plain6 y)) ∧ Below w.heap.size w w' := by
  have Hr := Lib.hid (show ((y.kind : Int) == 6) = !plain6 y by
    unfold plain6
    by_cases h : y.kind = 6
    · rw [h]; rfl
    · rw [show ((y.kind : Int) == 6) = false by rw [beq_eq_false_iff_ne]; omega, show (y.kind != 6) = true by rw [bne_iff_ne]; exact h]; rfl)
  unfold Stp.val
  go_enter Tryz.func45, Tryz.ntmps45
  go_wp2_with fail
  go_ret
  exact ⟨ret_bool (by rw [← Hr.out]), alloc_below _ _⟩

set_option maxRecDepth 100000 in
theorem indexSix_calls (w : World) (v : Value) (l : List Stp) (h : StpsIn w v l) (hl : l.length ≤ 1073741824) :
    Calls Tryz.prog 78 #[v, .func (.func 45) #[] #[]] w fun e w' => e = .returned (.int .i64 (firstNot plain6 l)) ∧ Below w.heap.size w w' := by
  obtain ⟨a, n, c, rfl, hn, hc, hj⟩ := h
  have Hn := Lib.hid hn
  have Hj := Lib.hid hj
  have hn2 : n ≤ 1073741824 := by omega
  clear hn hj
  go_enter Tryz.func78, Tryz.ntmps78
  go_wp2_with fail
  go_loopw [8] (fun i wr => ∃ k : Nat, k ≤ n ∧ i = .int .i64 k ∧ Hid (Below w.heap.size w wr ∧ ∀ j (hj : j < l.length), j < k → plain6 l[j] = true)) (fun i _ => n - (intOf i).toNat)
  case atStart => exact ⟨0, Nat.zero_le _, rfl, Below.refl _ _, fun j _ hj => absurd hj (Nat.not_lt_zero _)⟩
  case round =>
    obtain ⟨k, hk, rfl, hb, hno⟩ := hrel
    have Hb := Lib.hid hb
    have Hno := Lib.hid hno
    by_cases hlt : k < n
    · have hkl : k < l.length := by rw [Hn.out]; exact hlt
      obtain ⟨g, o, rfl, hcl⟩ := Hj.out k hkl
      obtain ⟨q0, q1, q2⟩ := hcl.below hb
      have hc := isSix_calls l[k] wr
      unfold Stp.val at hc
      cases e : plain6 l[k] with
      | false =>
        have Hr := Lib.hid (firstNot_at hkl e hno)
        rw [e] at hc
        have Hc := Lib.hid hc
        generalize l[k] = t at *
        clear hc e hb hno hcl
        go_wp2_with fail
        refine Hc.out.mono ?_
        rintro e w2 ⟨rfl, hb2⟩
        have Hb2 := Lib.hid (Hb.out.trans (hb2.mono Hb.out.size))
        clear hb2
        go_wp2_with fail
        go_ret
        exact ⟨ret_intI Hr.out.symm, Hb2.out⟩
      | true =>
        have Hr := Lib.hid (show ∀ j (hj : j < l.length), j < k + 1 → plain6 l[j] = true from fun j h hj => by
          rcases Nat.lt_or_ge j k with h' | h'
          · exact hno j h h'
          · obtain rfl : j = k := by omega
            exact e)
        rw [e] at hc
        have Hc := Lib.hid hc
        generalize l[k] = t at *
        clear hc e hb hno hcl
        go_wp2_with fail
        refine Hc.out.mono ?_
        rintro e w2 ⟨rfl, hb2⟩
        have Hb2 := Lib.hid (Hb.out.trans (hb2.mono Hb.out.size))
        clear hb2
        go_wp2_with fail
        go_roundw
        case rel => exact ⟨k + 1, by omega, by go_num, Hb2.out, Hr.out⟩
        case measure => simp [intOf]; omega
    · have Hr := Lib.hid (firstNot_none (p := plain6) (l := l) fun j h => hno j h (by have := Hn.out; omega))
      clear hb hno
      go_wp2_with fail
      go_ret
      exact ⟨ret_intI Hr.out.symm, Hb.out⟩
theorem containsSix_calls (w : World) (v : Value) (l : List Stp) (h : StpsIn w v l) (hl : l.length ≤ 1073741824) :
    Calls Tryz.prog 44 #[v, .func (.func 45) #[] #[]] w fun e w' => e = .returned (.bool (!l.all plain6)) ∧ Below w.heap.size w w' := by
  have Hi := Lib.hid (indexSix_calls w v l h hl)
  have hb := firstNot_le plain6 l
  obtain ⟨a, n, c, rfl, -⟩ := h
  have Hg := Lib.hid (firstNot_ge plain6 l)
  generalize firstNot plain6 l = r at *
  go_enter Tryz.func44, Tryz.ntmps44
  go_wp2_with fail
  refine Hi.out.mono ?_
  rintro e w2 ⟨rfl, hb2⟩
  have Hb2 := Lib.hid hb2
  clear hb2
  go_wp2_with fail
  go_ret
  exact ⟨ret_bool Hg.out, Hb2.out⟩
theorem Closed_calls (w : World) (v : Value) (l : List Stp) (h : StpsIn w v l) (hl : l.length ≤ 1073741824) :
    Calls Tryz.prog 22 #[v] w fun e w' => e = .returned (.bool (closedB l)) ∧ Below w.heap.size w w' := by
  have Hi := Lib.hid (containsSix_calls w v l h hl)
  rw [closed_eq]
  obtain ⟨a, n, c, rfl, -⟩ := h
  generalize l.all plain6 = r at *
  go_enter Tryz.func22, Tryz.ntmps22
  go_wp2_with fail
  refine Hi.out.mono ?_
  rintro e w2 ⟨rfl, hb2⟩
  have Hb2 := Lib.hid hb2
  clear hb2
  go_wp2_with fail
  go_ret
  exact ⟨ret_bool (by simp), Hb2.out⟩

end Go.Proofs.YtghnkgeaocpmaaaGreatDoor.Pa
