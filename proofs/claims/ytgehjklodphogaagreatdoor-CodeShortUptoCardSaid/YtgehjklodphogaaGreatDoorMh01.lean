/- Parts: QbB QbD. -/
import Derived.Test.YtgehjklodphogaaGreatDoorMg47

/- CodeRight: the walk. -/
namespace Go.Proofs.YtgehjklodphogaaGreatDoor.Cd
open Go.RowKit Go.Proofs.YtgehjklodphogaaGreatDoor.Lx Go.Proofs.YtgehjklodphogaaGreatDoor.Pa

/-- what the laws of code are asked of -/
structure CdArgs (w : World) (v : Value) (l : List Stp) : Prop where
  hv : StpsIn w v l
  hl : l.length ≤ 1048576
  ht : ∀ y ∈ l, y.text.length ≤ 1048575
  hn : ∀ y ∈ l, y.num ≤ 9223372036854775807
  he : Env w
theorem CdArgs.below {w w' : World} {v : Value} {l : List Stp} (h : CdArgs w v l) (hb : Below w.heap.size w w') : CdArgs w' v l := ⟨h.hv.below hb, h.hl, h.ht, h.hn, h.he.below hb⟩
theorem CdArgs.compile {w : World} {v : Value} {l : List Stp} (h : CdArgs w v l) : Calls Tryz.prog 11 #[v] w (GaveP w l) := Compile_calls w v l h.hv h.hl h.ht h.he
theorem CdArgs.right {w : World} {v : Value} {l : List Stp} (h : CdArgs w v l) : Calls Tryz.prog 15 #[v] w fun e w' => e = .returned (.bool (rightB l)) ∧ Below w.heap.size w w' := Right_calls w v l h.hv h.hl h.ht h.he
/-- each instruction's step is one of the expression's, or none -/
theorem shift_st (b : Nat) (x : Ins) : (shift b x).st = x.st := by unfold shift; split <;> rfl
def StOk (M : Nat) (p : List Ins) : Prop := ∀ x ∈ p, x.st.text.length ≤ M ∧ x.st.num ≤ 9223372036854775807
theorem StOk.join {M : Nat} : ∀ ps : List (List Ins), (∀ p ∈ ps, StOk M p) → StOk M (joinI ps)
  | [], _ => fun x hx => nomatch hx
  | p :: ps, h => by
    rw [joinI_cons]
    intro x hx
    rcases List.mem_append.1 hx with hx | hx
    · exact h p (by simp) x hx
    · obtain ⟨y, hy, rfl⟩ := List.mem_map.1 hx
      rw [shift_st]
      exact StOk.join ps (fun q hq => h q (by simp [hq])) y hy
theorem StOk.part {M : Nat} {s : Stp} {k : Nat} (ht : takes s = some k) (hs : s.text.length ≤ M ∧ s.num ≤ 9223372036854775807) {parts : List (List Ins)} (hl : parts.length = k) (h : ∀ p ∈ parts, StOk M p) : StOk M (partC s parts) := by
  have h0 : ∀ (o : Nat) (t : Int), StOk M [⟨o, stp0, t⟩] := fun o t x hx => by rw [List.mem_singleton] at hx; subst hx; exact ⟨Nat.zero_le _, by simp [stp0]⟩
  unfold partC
  split
  · rename_i e
    obtain ⟨p, q, rfl⟩ := two_parts (hl.trans (takes_logic ht (.inl e)))
    refine StOk.join _ fun x hx => ?_
    simp only [List.mem_cons, List.not_mem_nil, or_false] at hx
    rcases hx with rfl | rfl | rfl | rfl
    · exact h _ (by simp)
    · exact h0 _ _
    · exact h _ (by simp)
    · exact h0 _ _
  · split
    · rename_i e
      obtain ⟨p, q, rfl⟩ := two_parts (hl.trans (takes_logic ht (.inr e)))
      refine StOk.join _ fun x hx => ?_
      simp only [List.mem_cons, List.not_mem_nil, or_false] at hx
      rcases hx with rfl | rfl | rfl | rfl
      · exact h _ (by simp)
      · exact h0 _ _
      · exact h _ (by simp)
      · exact h0 _ _
    · intro x hx
      rcases List.mem_append.1 hx with hx | hx
      · exact StOk.join parts h x hx
      · rw [List.mem_singleton] at hx; subst hx; exact hs
theorem stack_stok {M : Nat} : ∀ (r : List Stp) {stk : List (List Ins)} {n m : Nat} {l : List Stp}, StkOk stk n l → rightL r n = some m → (∀ y ∈ r, y.text.length ≤ M ∧ y.num ≤ 9223372036854775807) → (∀ p ∈ stk, StOk M p) → ∀ p ∈ r.foldl stepC stk, StOk M p
  | [], _, _, _, _, _, _, _, h => h
  | s :: r, stk, n, m, l, ho, hr, hs, h => by
    rw [rightL] at hr
    cases ht : takes s with
    | none => rw [ht] at hr; cases hr
    | some k =>
      rw [ht] at hr
      simp only at hr
      split at hr
      · cases hr
      · rename_i hk
        refine stack_stok r (ho.step ht (by omega)) hr (fun y hy => hs y (by simp [hy])) ?_
        intro p hp
        unfold stepC takesN at hp
        rw [ht, Option.getD_some] at hp
        rcases List.mem_append.1 hp with hp | hp
        · exact h p (List.mem_of_mem_take hp)
        · rw [List.mem_singleton.1 hp]
          have := ho.len
          exact StOk.part ht (hs s (by simp)) (by rw [List.length_drop]; omega) fun q hq => h q (List.mem_of_mem_drop hq)
theorem compile_stok {M : Nat} {l : List Stp} (h : rightB l = true) (hs : ∀ y ∈ l, y.text.length ≤ M ∧ y.num ≤ 9223372036854775807) : StOk M (compileL l) := by
  have := stack_stok l StkOk.nil ((right_iff l).1 h).1 hs (fun _ h => nomatch h)
  rw [(compile_stack h).1] at this
  exact this _ (by simp)
theorem steps_take (p : List Ins) (k : Nat) (h : k < p.length) : steps (p.take (k + 1)) = steps (p.take k) + (if p[k].op = 1 then 1 else 0) := by
  rw [List.take_succ_eq_append_getElem h, steps_app]
  unfold steps
  by_cases e : p[k].op = 1 <;> simp [e]
def logics (l : List Stp) : Nat := (l.map isLogic).sum
theorem logics_take (l : List Stp) (k : Nat) (h : k < l.length) : logics (l.take (k + 1)) = logics (l.take k) + (if 21 ≤ l[k].kind then 1 else 0) := by
  unfold logics
  rw [List.take_succ_eq_append_getElem h, List.map_append, List.sum_append]
  simp [isLogic]

set_option maxHeartbeats 4000000 in
set_option maxRecDepth 100000 in
theorem CodeRight_calls (w : World) (v : Value) (l : List Stp) (h : CdArgs w v l) :
    Calls Tryz.prog 4 #[v] w fun e w' => e = .returned (.bool true) ∧ Below w.heap.size w w' := by
  have H := Lib.hid h
  obtain ⟨a, n, c, rfl, hln, hnc, hj⟩ := id h.hv
  have Hlv := Lib.hid (lives_calls w h.he)
  have Hln := Lib.hid hln
  have Hj := Lib.hid hj
  have hl := h.hl
  cases hR : rightB l with
  | false =>
    have hG := fun w2 (hb : Below w.heap.size w w2) => (H.out.below hb).compile
    have HG := Lib.hid hG
    have HR := Lib.hid (fun w2 (hb : Below w.heap.size w w2) => (H.out.below hb).right)
    rw [hR] at HR
    have Hf := Lib.hid hR
    clear h hj hG hR
    go_enter Tryz.func4, Tryz.ntmps4
    go_wp2_with fail
    refine Hlv.out.mono ?_
    rintro e w1 ⟨rfl, hb1⟩
    have Hb1 := Lib.hid hb1
    clear hb1
    go_wp2_with fail
    refine (HG.out _ Hb1.out).mono ?_
    rintro e w2 ⟨hb2, hg⟩
    rw [if_neg (by rw [Hf.out]; simp)] at hg
    subst hg
    have Hb2 := Lib.hid (stepB Hb1.out hb2)
    clear hb2
    go_wp2_with fail
    refine (HR.out _ Hb2.out).mono ?_
    rintro e w3 ⟨rfl, hb3⟩
    have Hb3 := Lib.hid (stepB Hb2.out hb3)
    clear hb3
    go_wp2_with fail
    go_ret
    exact ⟨rfl, Hb3.out⟩
  | true =>
    have HG := Lib.hid (fun w2 (hb : Below w.heap.size w w2) => (H.out.below hb).compile)
    have Hf := Lib.hid hR
    obtain ⟨hc1, hc2⟩ := compile_len hR
    have hlg := logic_le l
    have Hck := Lib.hid (check_compile hR)
    have HT := Lib.hid (show ∀ w2, Below w.heap.size w w2 → ∀ x ∈ compileL l, TakesOk w2 x.st from fun w2 hb x hx => takes_ok (h.he.below hb) (compile_stok hR (fun y hy => ⟨h.ht y hy, h.hn y hy⟩) x hx).1)
    have h128 := ((right_iff l).1 hR).2
    have hlo : l.length = n := hln
    clear h hj hR
    go_enter Tryz.func4, Tryz.ntmps4
    go_wp2_with fail
    refine Hlv.out.mono ?_
    rintro e w1 ⟨rfl, hb1⟩
    have Hb1 := Lib.hid hb1
    clear hb1
    go_wp2_with fail
    refine (HG.out _ Hb1.out).mono ?_
    rintro e w2 ⟨hb2, hg⟩
    rw [if_pos Hf.out] at hg
    obtain ⟨vp, rfl, hp⟩ := hg
    have Hb2 := Lib.hid (stepB Hb1.out hb2)
    have Hc := Lib.hid (Check_calls w2 vp (compileL l) hp (by omega) (HT.out w2 Hb2.out))
    unfold checkC at Hc
    rw [Hck.out] at Hc
    obtain ⟨ap, np, cp, rfl, hlp, hcp, hjp⟩ := hp
    have Hlp := Lib.hid hlp
    have Hjp := Lib.hid hjp
    have hnp : np ≤ 2 * n := by omega
    have Hc1 := Lib.hid hc1
    have Hc2 := Lib.hid hc2
    have hn128 : n ≤ 128 := by omega
    clear hb2 hlp hjp hc1 hc2
    go_wp2_with fail
    refine Hc.out.mono ?_
    rintro e w3 ⟨rfl, hb3⟩
    have Hb3 := Lib.hid (stepB Hb2.out hb3)
    have Hb23 := Lib.hid hb3
    clear hb3
    go_wp2_with fail
    go_loopw [5, 41] (fun s5 i wr => ∃ (k m : Nat), k ≤ np ∧ m ≤ k ∧ i = .int .i64 k ∧ s5 = .int .i64 m ∧ Hid (Below w.heap.size w wr ∧ Below w2.heap.size w2 wr ∧ steps ((compileL l).take k) = m)) (fun _ i _ => np - (intOf i).toNat)
    case atStart => exact ⟨0, 0, Nat.zero_le _, Nat.le_refl _, rfl, rfl, Hb3.out, Hb23.out, rfl⟩
    case round =>
      obtain ⟨k, m, hk, hmk, rfl, rfl, hst⟩ := hrel
      have Hst := Lib.hid hst.out
      by_cases hlt : k < np
      · have hkl : k < (compileL l).length := by rw [Hlp.out]; exact hlt
        obtain ⟨g, o, rfl, hcl⟩ := Hjp.out k hkl
        have hgw : g < wr.heap.size := Nat.lt_of_lt_of_le hcl.lt hst.out.2.1.size
        obtain ⟨q0, q1, q2, q3, q4⟩ := hcl.below hst.out.2.1
        have Hst2 := Lib.hid (steps_take (compileL l) k hkl)
        generalize (compileL l)[k] = x at *
        have hbx := allocB wr (.cells #[.int .u8 x.op, .int .u8 x.st.kind, .string ⟨x.st.text.toArray⟩, .int .i64 x.st.num, .int .i64 x.to] 36)
        have Hbx := Lib.hid (And.intro (stepB hst.out.1 hbx) (stepB hst.out.2.1 hbx))
        by_cases h1 : x.op = 1
        · have hm2 := Hst2.out
          rw [if_pos h1, hst.out.2.2] at hm2
          have Hm2 := Lib.hid hm2
          have b1 : ((x.op : Int) == 1) = true := by rw [beq_iff_eq]; omega
          clear hst hcl hbx hm2 h1
          go_wp2_with fail
          go_roundw
          case rel => exact ⟨k + 1, m + 1, by omega, by omega, by go_num, by go_num, Hbx.out.1, Hbx.out.2, Hm2.out⟩
          case measure => simp [intOf]; omega
        · have hm2 := Hst2.out
          rw [if_neg h1, hst.out.2.2] at hm2
          have Hm2 := Lib.hid hm2
          have b1 : ((x.op : Int) == 1) = false := by rw [beq_eq_false_iff_ne]; omega
          clear hst hcl hbx hm2 h1
          go_wp2_with fail
          go_roundw
          case rel => exact ⟨k + 1, m, by omega, by omega, by go_num, rfl, Hbx.out.1, Hbx.out.2, Hm2.out⟩
          case measure => simp [intOf]; omega
      · have hkn : k = np := by omega
        subst hkn
        have hm3 : steps (compileL l) = m := by
          have := hst.out.2.2
          rw [List.take_of_length_le (by rw [Hlp.out]; exact Nat.le_refl _)] at this
          exact this
        have Hm3 := Lib.hid hm3
        have Hbr := Lib.hid hst.out.1
        clear hst hm3
        go_wp2_with fail
        go_loopw [8, 53] (fun s8 i w5 => ∃ (k g : Nat), k ≤ n ∧ g ≤ k ∧ i = .int .i64 k ∧ s8 = .int .i64 g ∧ Hid (Below w.heap.size w w5 ∧ logics (l.take k) = g)) (fun _ i _ => n - (intOf i).toNat)
        case atStart => exact ⟨0, 0, Nat.zero_le _, Nat.le_refl _, rfl, rfl, Hbr.out, rfl⟩
        case round =>
          obtain ⟨j, q, hjn, hqj, rfl, rfl, hst⟩ := hrel
          have Hst := Lib.hid hst.out
          by_cases hlt2 : j < n
          · have hjl : j < l.length := by rw [Hln.out]; exact hlt2
            obtain ⟨g, o, rfl, hcl⟩ := Hj.out j hjl
            have hgw : g < wr.heap.size := Nat.lt_of_lt_of_le (World.block_lt_of_cell? _ _ hcl.c0) hst.out.1.size
            obtain ⟨q0, q1, q2⟩ := hcl.below hst.out.1
            have Hst2 := Lib.hid (logics_take l j hjl)
            generalize l[j] = y at *
            have Hbx := Lib.hid (stepB hst.out.1 (allocB wr (.cells #[.int .u8 y.kind, .string ⟨y.text.toArray⟩, .int .i64 y.num] 34)))
            by_cases h1 : 21 ≤ y.kind
            · have hm2 := Hst2.out
              rw [if_pos h1, hst.out.2] at hm2
              have Hm2 := Lib.hid hm2
              have h12 : (21 : Int) ≤ y.kind := by omega
              clear hst hcl hm2 h1
              go_wp2_with fail
              go_roundw
              case rel => exact ⟨j + 1, q + 1, by omega, by omega, by go_num, by go_num, Hbx.out, Hm2.out⟩
              case measure => simp [intOf]; omega
            · have hm2 := Hst2.out
              rw [if_neg h1, hst.out.2] at hm2
              have Hm2 := Lib.hid hm2
              have h12 : ¬ (21 : Int) ≤ y.kind := by omega
              clear hst hcl hm2 h1
              go_wp2_with fail
              go_roundw
              case rel => exact ⟨j + 1, q, by omega, by omega, by go_num, rfl, Hbx.out, Hm2.out⟩
              case measure => simp [intOf]; omega
          · have hjn' : j = n := by omega
            subst hjn'
            have hq : logics l = q := by
              have := hst.out.2
              rw [List.take_of_length_le (by rw [Hln.out]; exact Nat.le_refl _)] at this
              exact this
            have e1 : m + q = j := by rw [← Hm3.out, ← hq, ← Hln.out]; exact Hc2.out
            have e2 : k = j + q := by rw [← Hlp.out, ← hq, ← Hln.out]; exact Hc1.out
            have b1 : ((m : Int) == (j : Int) - q) = true := by rw [beq_iff_eq]; omega
            have b2 : ((k : Int) == (j : Int) + q) = true := by rw [beq_iff_eq]; omega
            clear hst hq
            go_wp2_with fail
            go_ret
            exact ⟨rfl, Hst.out.1⟩

end Go.Proofs.YtgehjklodphogaaGreatDoor.Cd

/- Steps, instructions behind a row of one's own. -/
namespace Go.Proofs.YtgehjklodphogaaGreatDoor.Cd
open Go.RowKit Go.Proofs.YtgehjklodphogaaGreatDoor.Lx Go.Proofs.YtgehjklodphogaaGreatDoor.Pa

theorem stepsC_length (l : List Stp) : (stpsC l).length = l.length * 3 := by
  induction l with
  | nil => rfl
  | cons t l ih => simp only [stpsC, List.flatMap_cons, List.length_append] at ih ⊢; rw [ih]; simp [Stp.cells]; omega
theorem stepsC_cells (l : List Stp) : ∀ u ∈ stpsC l, u.oneCell' = true := by
  intro u hu
  unfold stpsC at hu
  obtain ⟨t, _, hu⟩ := List.mem_flatMap.1 hu
  simp only [Stp.cells, List.mem_cons, List.mem_nil_iff, or_false] at hu
  rcases hu with rfl | rfl | rfl <;> rfl
theorem steps_news {W : World} {g o : Nat} {l : List Stp} (h : ∀ (i : Nat) (hi : i < l.length), StpCells W g (o + i * 3) l[i]) (j : Nat) (u : Value) (hj : (stpsC l)[j]? = some u) : W.cell? ((⟨g, o, none⟩ : Addr).add j) = some u := by
  have hlt := (List.getElem?_eq_some_iff.1 hj).1
  rw [stepsC_length] at hlt
  have hi : j / 3 < l.length := by omega
  have hc := h (j / 3) hi
  obtain ⟨c0, c1, c2⟩ := stpsC_get l (j / 3) hi
  rw [Addr.add_lit, ← hj]
  have hr : j % 3 = 0 ∨ j % 3 = 1 ∨ j % 3 = 2 := by omega
  rcases hr with hr | hr | hr
  · rw [show j = j / 3 * 3 by omega, c0]; exact hc.c0
  · have e : j = j / 3 * 3 + 1 := by omega
    rw [e, c1, ← Nat.add_assoc]; exact hc.c1
  · have e : j = j / 3 * 3 + 2 := by omega
    rw [e, c2, ← Nat.add_assoc]; exact hc.c2
theorem own0S (W : World) : (W.alloc (.cells #[] 34)).ownsRow W.heap.size 34 3 (.slice (some ⟨W.heap.size, 0, none⟩) 0 0) 0 (stpsC []) :=
  ⟨rfl, .inr ⟨W.heap.size, 0, #[], rfl, Nat.le_refl _, heap_alloc_new _ _, Nat.le_refl _, Nat.zero_le _, rfl, rfl⟩⟩
theorem one_step (W : World) (y : Stp) : StpsIn (W.alloc (.cells #[.int .u8 y.kind, .string ⟨y.text.toArray⟩, .int .i64 y.num] 34)) (.slice (some ⟨W.heap.size, 0, none⟩) 1 1) [y] := by
  refine ⟨_, _, _, rfl, rfl, Nat.le_refl _, fun i hi => ⟨W.heap.size, 0, rfl, ?_⟩⟩
  obtain rfl : i = 0 := by simpa using hi
  have hb := heap_alloc_new W (.cells #[.int .u8 y.kind, .string ⟨y.text.toArray⟩, .int .i64 y.num] 34)
  obtain ⟨⟨c0, c1, c2⟩, -⟩ := threeC hb
  exact ⟨c0, c1, c2⟩
theorem run_append_none {P : Program} (w : World) (t ty e : TypeId) (i : TypeInfo) (ht : P.underlying t = some (.slice e)) (hi : P.info? e = some i) (g n c c' : Nat) (hnc : n ≤ c) :
    (Builtin.append_ #[t, t] ty #[.slice (some ⟨g, 0, none⟩) n c, .slice none 0 c']).run P w = .ok (.slice (some ⟨g, 0, none⟩) n c) w := by
  simp [Builtin.append_, run_underlying ht, sizeOf, typeInfo, hi, Builtin.lenOf, Builtin.firstCells, hnc, storeCells]

/-- steps behind a row of one's own -/
theorem wp_appS {ops : Array Oper} {rest : List Oper} {o : Oper} {a : Act} {Q : Exit → Act → World → Prop} {Wc : World} (hgd : o.guard = none) (s x : Operand) (ho : o.op = .call { callee := .builtin .append, args := #[s, x], argTypes := #[22, 22] })
    (base : Nat) (g0 n c0 : Nat) (xs : List Stp) (hs : a.eval s = .slice (some ⟨g0, 0, none⟩) n c0) (hown : Wc.ownsRow base 34 3 (.slice (some ⟨g0, 0, none⟩) n c0) n (stpsC xs)) (v : Value) (l : List Stp) (hx : a.eval x = v) (hv : StpsIn Wc v l) (m : Nat) (hl : l.length = m) (hn : n + m ≤ 100000000) (hbase : base ≤ Wc.heap.size)
    (h : ∀ g' c' W', W'.ownsRow base 34 3 (.slice (some ⟨g', 0, none⟩) (n + m) c') (n + m) (stpsC (xs ++ l)) → Below base Wc W' → wpList Tryz.prog ops Q rest (a.put o.dst (.slice (some ⟨g', 0, none⟩) (n + m) c')) W') :
    wpList Tryz.prog ops Q (o :: rest) a Wc := by
  obtain ⟨i0, hi0, hz0, hz1, hz2⟩ := info_parts stpInfo
  obtain ⟨av, m', cv, rfl, hl', hmc, hj⟩ := hv
  obtain rfl : m' = m := by omega
  cases av with
  | none =>
    have h0 : l = [] := by
      cases l with
      | nil => rfl
      | cons y l => obtain ⟨_, _, e, _⟩ := hj 0 (by simp); cases e
    subst h0
    obtain rfl : m' = 0 := by simpa using hl'.symm
    have hnc : n ≤ c0 := by
      rcases hown.2 with ⟨e, _⟩ | ⟨g, cap, cur, e, _, _, r3, _⟩
      · cases e
      · simp only [Value.slice.injEq] at e; omega
    refine wpList_plain hgd fun K hK => ?_
    unfold Oper.wp execOp
    simp only [ho, resolve, invoke, builtin, Sem.run_bind, Sem.run_pure, Result.andThen_ok, List.map_toArray, List.map_cons, List.map_nil, hs, hx, run_append_none (P := Tryz.prog) Wc 22 o.type 34 i0 Tryz.underlying22 hi0 g0 n c0 cv hnc]
    exact hK _ _ (h g0 c0 Wc (by simpa using hown) (Below.refl _ _))
  | some ad =>
    have hnews : ∀ j u, (stpsC l)[j]? = some u → Wc.cell? (ad.add j) = some u := by
      cases l with
      | nil => intro j u e; simp [stpsC] at e
      | cons y l =>
        obtain ⟨g, o', e, _⟩ := hj 0 (by simp)
        obtain rfl := Option.some.inj e
        exact steps_news fun i hi => by
          obtain ⟨g', o'', e', hcl⟩ := hj i hi
          simp only [Option.some.injEq, Addr.mk.injEq, and_true] at e'
          obtain ⟨rfl, rfl⟩ := e'
          exact hcl
    refine wpList_append_own_at Wc hgd s x 22 ho base 34 i0 _ 3 32 Tryz.underlying22 hi0 hz0 hz1 hz2 rfl (by decide) _ n (stpsC xs) hs hown ad m' cv (stpsC l) hx (by rw [stepsC_length, hl']) hnews (stepsC_cells l) (by unfold maxLen; omega) (by omega) hbase ?_
    intro v' W' hown' hg hiff _
    obtain ⟨g', c', rfl⟩ : ∃ g' c', v' = .slice (some ⟨g', 0, none⟩) (n + m') c' := by
      rcases hown'.2 with ⟨e, _⟩ | ⟨g, cap, cur, e, _⟩
      · have := (hiff.1 e).1; cases this
      · exact ⟨g, cap, e⟩
    exact h g' c' W' (by rw [show stpsC (xs ++ l) = stpsC xs ++ stpsC l by simp [stpsC]]; exact hown') ((Below.refl base Wc).grown hg hbase fun b hb => (World.ownsRow.lt hown b hb).1)

theorem insC_cells (l : List Ins) : ∀ u ∈ insC l, u.oneCell' = true := by
  intro u hu
  unfold insC at hu
  obtain ⟨t, _, hu⟩ := List.mem_flatMap.1 hu
  simp only [Ins.cells, List.mem_cons, List.mem_nil_iff, or_false] at hu
  rcases hu with rfl | rfl | rfl | rfl | rfl <;> rfl
theorem ins_news {W : World} {g o : Nat} {l : List Ins} (h : ∀ (i : Nat) (hi : i < l.length), InsCells W g (o + i * 5) l[i]) (j : Nat) (u : Value) (hj : (insC l)[j]? = some u) : W.cell? ((⟨g, o, none⟩ : Addr).add j) = some u := by
  have hlt := (List.getElem?_eq_some_iff.1 hj).1
  rw [insC_length] at hlt
  have hi : j / 5 < l.length := by omega
  have hc := h (j / 5) hi
  obtain ⟨c0, c1, c2, c3, c4⟩ := insC_get l (j / 5) hi
  rw [Addr.add_lit, ← hj]
  have hr : j % 5 = 0 ∨ j % 5 = 1 ∨ j % 5 = 2 ∨ j % 5 = 3 ∨ j % 5 = 4 := by omega
  rcases hr with hr | hr | hr | hr | hr
  · rw [show j = j / 5 * 5 by omega, c0]; exact hc.c0
  · have e : j = j / 5 * 5 + 1 := by omega
    rw [e, c1, ← Nat.add_assoc]; exact hc.c1
  · have e : j = j / 5 * 5 + 2 := by omega
    rw [e, c2, ← Nat.add_assoc]; exact hc.c2
  · have e : j = j / 5 * 5 + 3 := by omega
    rw [e, c3, ← Nat.add_assoc]; exact hc.c3
  · have e : j = j / 5 * 5 + 4 := by omega
    rw [e, c4, ← Nat.add_assoc]; exact hc.c4
theorem own0I (W : World) : (W.alloc (.cells #[] 36)).ownsRow W.heap.size 36 5 (.slice (some ⟨W.heap.size, 0, none⟩) 0 0) 0 (insC []) :=
  ⟨rfl, .inr ⟨W.heap.size, 0, #[], rfl, Nat.le_refl _, heap_alloc_new _ _, Nat.le_refl _, Nat.zero_le _, rfl, rfl⟩⟩
theorem one_ins (W : World) (x : Ins) (i : Nat) (hi : i < [x].length) : InsCells (W.alloc (.cells #[.int .u8 x.op, .int .u8 x.st.kind, .string ⟨x.st.text.toArray⟩, .int .i64 x.st.num, .int .i64 x.to] 36)) W.heap.size (0 + i * 5) [x][i] := by
  obtain rfl : i = 0 := by simpa using hi
  have hb := heap_alloc_new W (.cells #[.int .u8 x.op, .int .u8 x.st.kind, .string ⟨x.st.text.toArray⟩, .int .i64 x.st.num, .int .i64 x.to] 36)
  obtain ⟨⟨c0, c1, c2, c3, c4⟩, -⟩ := fiveB hb
  exact ⟨c0, c1, c2, c3, c4⟩
/-- instructions behind a row of one's own -/
theorem wp_appI {ops : Array Oper} {rest : List Oper} {o : Oper} {a : Act} {Q : Exit → Act → World → Prop} {Wc : World} (hgd : o.guard = none) (s x : Operand) (ho : o.op = .call { callee := .builtin .append, args := #[s, x], argTypes := #[23, 23] })
    (base : Nat) (v : Value) (n : Nat) (xs : List Ins) (hs : a.eval s = v) (hown : Wc.ownsRow base 36 5 v n (insC xs)) (g ofs m c : Nat) (l : List Ins) (hx : a.eval x = .slice (some ⟨g, ofs, none⟩) m c) (hl : l.length = m)
    (hc : ∀ (i : Nat) (hi : i < l.length), InsCells Wc g (ofs + i * 5) l[i]) (hn : n + m ≤ 100000) (hm : 0 < n + m) (hbase : base ≤ Wc.heap.size)
    (h : ∀ g' c' W', W'.ownsRow base 36 5 (.slice (some ⟨g', 0, none⟩) (n + m) c') (n + m) (insC (xs ++ l)) → Below base Wc W' → wpList Tryz.prog ops Q rest (a.put o.dst (.slice (some ⟨g', 0, none⟩) (n + m) c')) W') :
    wpList Tryz.prog ops Q (o :: rest) a Wc := by
  obtain ⟨i0, hi0, hz0, hz1, hz2⟩ := info_parts insInfo
  refine wpList_append_own_at Wc hgd s x 23 ho base 36 i0 _ 5 48 Tryz.underlying23 hi0 hz0 hz1 hz2 rfl (by decide) v n (insC xs) hs hown ⟨g, ofs, none⟩ m c (insC l) hx (by rw [insC_length, hl]) (ins_news hc) (insC_cells l) (by unfold maxLen; omega) (by omega) hbase ?_
  intro v' W' hown' hg _ _
  obtain ⟨g', c', rfl, _, _⟩ := World.ownsRow.form hown' hm
  refine h g' c' W' (by rw [show insC (xs ++ l) = insC xs ++ insC l by simp [insC]]; exact hown') ((Below.refl base Wc).grown hg hbase fun b hb => (World.ownsRow.lt hown b hb).1)
theorem InsIn.prefix {w : World} {g o n c : Nat} {i : List Ins} {x : Ins} (h : InsIn w (.slice (some ⟨g, o, none⟩) n c) (i ++ [x])) : InsIn w (.slice (some ⟨g, o, none⟩) (n - 1) c) i ∧ InsCells w g (o + (n - 1) * 5) x ∧ 1 ≤ n ∧ n ≤ c ∧ i.length = n - 1 := by
  obtain ⟨a, n', c', e, hn, hc, hj⟩ := h
  simp only [Value.slice.injEq] at e
  obtain ⟨rfl, rfl, rfl⟩ := e
  rw [List.length_append, List.length_singleton] at hn
  have hi : i.length = n - 1 := by omega
  refine ⟨⟨_, _, _, rfl, hi, by omega, fun j hlt => ?_⟩, ?_, by omega, hc, hi⟩
  · obtain ⟨g', o', e', hcl⟩ := hj j (by rw [List.length_append]; omega)
    simp only [Option.some.injEq, Addr.mk.injEq, and_true] at e'
    obtain ⟨rfl, rfl⟩ := e'
    rw [List.getElem_append_left hlt] at hcl
    exact ⟨g, o, rfl, hcl⟩
  · obtain ⟨g', o', e', hcl⟩ := hj (n - 1) (by rw [List.length_append, List.length_singleton]; omega)
    simp only [Option.some.injEq, Addr.mk.injEq, and_true] at e'
    obtain ⟨rfl, rfl⟩ := e'
    rw [List.getElem_append_right (by omega)] at hcl
    simpa using hcl

end Go.Proofs.YtgehjklodphogaaGreatDoor.Cd
