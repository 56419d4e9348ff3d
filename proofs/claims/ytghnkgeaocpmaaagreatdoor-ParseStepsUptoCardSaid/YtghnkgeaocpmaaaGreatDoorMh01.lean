/- Parts: PdD PdE. -/
import Derived.Test.YtghnkgeaocpmaaaGreatDoorMg36
import Derived.Maps.AppendAt
import Derived.Deep.DeepMust
import Derived.Deep.AppendLies

/- ParseSteps: right expressions put together. Plain. -/
namespace Go.Proofs.YtghnkgeaocpmaaaGreatDoor.Pa
open Go.Proofs.YtghnkgeaocpmaaaGreatDoor.Lx

theorem rightL_app : ∀ (l r : List Stp) (n : Nat), rightL (l ++ r) n = (rightL l n).bind (rightL r)
  | [], r, n => rfl
  | y :: l, r, n => by
    rw [List.cons_append, rightL, rightL]
    cases takes y with
    | none => rfl
    | some k =>
      simp only
      split
      · rfl
      · exact rightL_app l r _
theorem rightL_up : ∀ (l : List Stp) {n m : Nat} (d : Nat), rightL l n = some m → rightL l (n + d) = some (m + d)
  | [], n, m, d, h => by simp only [rightL, Option.some.injEq] at h ⊢; omega
  | y :: l, n, m, d, h => by
    rw [rightL] at h ⊢
    cases ht : takes y with
    | none => rw [ht] at h; cases h
    | some k =>
      rw [ht] at h
      simp only at h ⊢
      split at h
      · cases h
      · rename_i hk
        rw [if_neg (by omega), show n + d - k + 1 = n - k + 1 + d by omega]
        exact rightL_up l d h
theorem takes_bare {k n : Nat} (h : takes ⟨k, [], 0⟩ = some n) : n ≤ 2 := by
  unfold takes at h
  simp only at h
  repeat' split at h
  all_goals first
    | (cases h; done)
    | (simp only [Option.some.injEq] at h; omega)
    | (simp at h; omega)
theorem right_iff (l : List Stp) : rightB l = true ↔ rightL l 0 = some 1 ∧ l.length ≤ 128 := by
  unfold rightB; simp
/-- a step of a kind alone -/
abbrev bareK (k : Nat) : Stp := ⟨k, [], 0⟩
/-- what ParseSteps looks at -/
theorem steps_law {a b : List Stp} (ha : rightB a = true) (hb : rightB b = true) {k n : Nat} (ht : takes (bareK k) = some n) :
    rightB (a ++ b) = false ∧ rightB ((a ++ b) ++ [bareK k]) = (decide (n = 2) && decide (((a ++ b) ++ [bareK k]).length ≤ 128)) ∧
      rightB (a ++ [bareK k]) = (decide (n = 1) && decide ((a ++ [bareK k]).length ≤ 128)) ∧ closedB (a ++ b) = (closedB a && closedB b) := by
  have h1 := ((right_iff a).1 ha).1
  have h2 := rightL_up b 1 ((right_iff b).1 hb).1
  have hab : rightL (a ++ b) 0 = some 2 := by rw [rightL_app, h1]; exact h2
  have hn := takes_bare ht
  have one : ∀ m, rightL [bareK k] m = if m < n then none else some (m - n + 1) := fun m => by
    rw [rightL, ht]; rfl
  refine ⟨?_, ?_, ?_, ?_⟩
  · unfold rightB; rw [hab]; rfl
  · unfold rightB
    rw [rightL_app, hab, Option.bind_some, one, if_neg (by omega)]
    congr 1
    rw [decide_eq_decide]
    simp only [Option.some.injEq]
    omega
  · unfold rightB
    rw [rightL_app, h1, Option.bind_some, one]
    congr 1
    split
    · rw [decide_eq_decide]; simp; omega
    · rw [decide_eq_decide]; simp only [Option.some.injEq]; omega
  · unfold closedB; rw [List.all_append]

end Go.Proofs.YtghnkgeaocpmaaaGreatDoor.Pa

/- ParseSteps: the walk. -/
namespace Go.Proofs.YtghnkgeaocpmaaaGreatDoor.Pa
open Go.RowKit Go.Proofs.YtghnkgeaocpmaaaGreatDoor.Lx

theorem stpsC_short (l : List Stp) : (stpsC l).length = l.length * 3 := by
  induction l with
  | nil => rfl
  | cons t l ih => simp only [stpsC, List.flatMap_cons, List.length_append] at ih ⊢; rw [ih]; simp [Stp.cells]; omega
theorem stpsC_cells (l : List Stp) : ∀ u ∈ stpsC l, u.oneCell' = true := by
  intro u hu
  unfold stpsC at hu
  obtain ⟨t, _, hu⟩ := List.mem_flatMap.1 hu
  simp only [Stp.cells, List.mem_cons, List.mem_nil_iff, or_false] at hu
  rcases hu with rfl | rfl | rfl <;> rfl
theorem stps_news {W : World} {g o : Nat} {l : List Stp} (h : ∀ (i : Nat) (hi : i < l.length), StpCells W g (o + i * 3) l[i]) (j : Nat) (u : Value) (hj : (stpsC l)[j]? = some u) : W.cell? ((⟨g, o, none⟩ : Addr).add j) = some u := by
  have hlt := (List.getElem?_eq_some_iff.1 hj).1
  rw [stpsC_short] at hlt
  have hi : j / 3 < l.length := by omega
  have hc := h (j / 3) hi
  obtain ⟨c0, c1, c2⟩ := stpsC_get l (j / 3) hi
  rw [Addr.add_lit, ← hj]
  have hr : j % 3 = 0 ∨ j % 3 = 1 ∨ j % 3 = 2 := by omega
  rcases hr with hr | hr | hr
  · rw [show j = j / 3 * 3 by omega, c0]; exact hc.c0
  · have e : j = j / 3 * 3 + 1 := by omega
    rw [e, c1, ← Nat.add_assoc]; exact hc.c1
  · have e : j = j / 3 * 3 + 2 := by omega
    rw [e, c2, ← Nat.add_assoc]; exact hc.c2
theorem row_cells {W : World} {base n g c : Nat} {l : List Stp} (h : W.ownsRow base 29 3 (.slice (some ⟨g, 0, none⟩) n c) n (stpsC l)) (hn : n = l.length) (i : Nat) (hi : i < l.length) : StpCells W g (0 + i * 3) l[i] := by
  obtain ⟨k0, k1, k2⟩ := stpsC_get l i hi
  refine ⟨?_, ?_, ?_⟩
  · rw [World.ownsRow.cellAt h _ (by omega), Nat.zero_add]; exact k0
  · rw [World.ownsRow.cellAt h _ (by omega), Nat.zero_add]; exact k1
  · rw [World.ownsRow.cellAt h _ (by omega), Nat.zero_add]; exact k2
theorem own0 (W : World) : (W.alloc (.cells #[] 29)).ownsRow W.heap.size 29 3 (.slice (some ⟨W.heap.size, 0, none⟩) 0 0) 0 (stpsC []) :=
  ⟨rfl, .inr ⟨W.heap.size, 0, #[], rfl, Nat.le_refl _, heap_alloc_new _ _, Nat.le_refl _, Nat.zero_le _, rfl, rfl⟩⟩
theorem bare_cells (W : World) (k : Nat) (i : Nat) (hi : i < [bareK k].length) : StpCells (W.alloc (.cells #[.int .u8 k, .string ⟨#[]⟩, .int .i64 0] 29)) W.heap.size (0 + i * 3) [bareK k][i] := by
  obtain rfl : i = 0 := by simpa using hi
  have hb := heap_alloc_new W (.cells #[.int .u8 k, .string ⟨#[]⟩, .int .i64 0] 29)
  obtain ⟨⟨c0, c1, c2⟩, -⟩ := threeC hb
  exact ⟨c0, c1, c2⟩
/-- steps behind a row of one's own -/
theorem wp_app {ops : Array Oper} {rest : List Oper} {o : Oper} {a : Act} {Q : Exit → Act → World → Prop} {Wc : World} (hgd : o.guard = none) (s x : Operand) (ho : o.op = .call { callee := .builtin .append, args := #[s, x], argTypes := #[24, 24] })
    (base : Nat) (v : Value) (n : Nat) (xs : List Stp) (hs : a.eval s = v) (hown : Wc.ownsRow base 29 3 v n (stpsC xs)) (g ofs m c : Nat) (l : List Stp) (hx : a.eval x = .slice (some ⟨g, ofs, none⟩) m c) (hl : l.length = m)
    (hc : ∀ (i : Nat) (hi : i < l.length), StpCells Wc g (ofs + i * 3) l[i]) (hn : n + m ≤ 1000) (hm : 0 < n + m) (hbase : base ≤ Wc.heap.size)
    (h : ∀ g' c' W', W'.ownsRow base 29 3 (.slice (some ⟨g', 0, none⟩) (n + m) c') (n + m) (stpsC (xs ++ l)) → Below base Wc W' → wpList Tryz.prog ops Q rest (a.put o.dst (.slice (some ⟨g', 0, none⟩) (n + m) c')) W') :
    wpList Tryz.prog ops Q (o :: rest) a Wc := by
  obtain ⟨i0, hi0, hz0, hz1, hz2⟩ := info_parts stpInfo
  refine wpList_append_own_at Wc hgd s x 24 ho base 29 i0 _ 3 32 Tryz.underlying24 hi0 hz0 hz1 hz2 rfl (by decide) v n (stpsC xs) hs hown ⟨g, ofs, none⟩ m c (stpsC l) hx (by rw [stpsC_short, hl]) (stps_news hc) (stpsC_cells l) (by unfold maxLen; omega) (by omega) hbase ?_
  intro v' W' hown' hg _ _
  obtain ⟨g', c', rfl, _, _⟩ := World.ownsRow.form hown' hm
  refine h g' c' W' (by rw [show stpsC (xs ++ l) = stpsC xs ++ stpsC l by simp [stpsC]]; exact hown') ((Below.refl base Wc).grown hg hbase fun b hb => (World.ownsRow.lt hown b hb).1)
theorem right_pos {l : List Stp} (h : rightB l = true) : 0 < l.length := by
  cases l with
  | nil => cases h
  | cons y r => simp

set_option maxHeartbeats 4000000 in
set_option maxRecDepth 100000 in
theorem ParseSteps_calls (va vb : Value) (k : Nat) (a b : List Stp) (w : World) (hva : StpsIn w va a) (hvb : StpsIn w vb b) (hla : a.length ≤ 1048576) (hlb : b.length ≤ 1048576) (hta : ∀ y ∈ a, y.text.length ≤ 1048575) (htb : ∀ y ∈ b, y.text.length ≤ 1048575) (he : Env w) :
    Calls Tryz.prog 6 #[va, vb, .int .u8 k] w fun e w' => e = .returned (.bool true) ∧ Below w.heap.size w w' := by
  have He := Lib.hid he
  have Hva := Lib.hid hva
  have Hvb := Lib.hid hvb
  have Hra := Lib.hid (fun (w2 : World) (hb : Below w.heap.size w w2) => Right_calls w2 va a (hva.below hb) (by omega) hta (he.below hb))
  have Hrb := Lib.hid (fun (w2 : World) (hb : Below w.heap.size w w2) => Right_calls w2 vb b (hvb.below hb) (by omega) htb (he.below hb))
  have Hca := Lib.hid (fun (w2 : World) (hb : Below w.heap.size w w2) => Closed_calls w2 va a (hva.below hb) (by omega))
  have Hcb := Lib.hid (fun (w2 : World) (hb : Below w.heap.size w w2) => Closed_calls w2 vb b (hvb.below hb) (by omega))
  have Htk := Lib.hid (fun (w2 : World) (hb : Below w.heap.size w w2) => Takes_calls (bareK k) w2 (by simp) (he.below hb))
  have Hta := Lib.hid hta
  have Htb := Lib.hid htb
  obtain ⟨aa, na, ca, rfl, hna, hca, hja⟩ := hva
  obtain ⟨ab, nb, cb, rfl, hnb, hcb, hjb⟩ := hvb
  have Hna := Lib.hid hna
  have Hnb := Lib.hid hnb
  have Hja := Lib.hid hja
  have Hjb := Lib.hid hjb
  clear he hta htb hja hjb
  unfold Stp.val at Htk
  cases hra : rightB a with
  | false =>
    rw [hra] at Hra
    clear hra
    go_enter Tryz.func6, Tryz.ntmps6
    go_wp2_with fail
    refine (lives_calls w He.out).mono ?_
    rintro e w0 ⟨rfl, hb0⟩
    have Hb0 := Lib.hid hb0
    clear hb0
    go_wp2_with fail
    refine (Hra.out _ Hb0.out).mono ?_
    rintro e w1 ⟨rfl, hb1⟩
    have Hb1 := Lib.hid (stepB Hb0.out hb1)
    clear hb1
    go_wp2_with fail
    go_ret
    exact ⟨rfl, Hb1.out⟩
  | true =>
    rw [hra] at Hra
    cases hrb : rightB b with
    | false =>
      rw [hrb] at Hrb
      clear hra hrb
      go_enter Tryz.func6, Tryz.ntmps6
      go_wp2_with fail
      refine (lives_calls w He.out).mono ?_
      rintro e w0 ⟨rfl, hb0⟩
      have Hb0 := Lib.hid hb0
      clear hb0
      go_wp2_with fail
      refine (Hra.out _ Hb0.out).mono ?_
      rintro e w1 ⟨rfl, hb1⟩
      have Hb1 := Lib.hid (stepB Hb0.out hb1)
      clear hb1
      go_wp2_with fail
      refine (Hrb.out _ Hb1.out).mono ?_
      rintro e w2 ⟨rfl, hb2⟩
      have Hb2 := Lib.hid (stepB Hb1.out hb2)
      clear hb2
      go_wp2_with fail
      go_ret
      exact ⟨rfl, Hb2.out⟩
    | true =>
      rw [hrb] at Hrb
      cases ht : takes (bareK k) with
      | none =>
        rw [ht, takesV_none] at Htk
        clear hra hrb ht
        go_enter Tryz.func6, Tryz.ntmps6
        go_wp2_with fail
        refine (lives_calls w He.out).mono ?_
        rintro e w0 ⟨rfl, hb0⟩
        have Hb0 := Lib.hid hb0
        clear hb0
        go_wp2_with fail
        refine (Hra.out _ Hb0.out).mono ?_
        rintro e w1 ⟨rfl, hb1⟩
        have Hb1 := Lib.hid (stepB Hb0.out hb1)
        clear hb1
        go_wp2_with fail
        refine (Hrb.out _ Hb1.out).mono ?_
        rintro e w2 ⟨rfl, hb2⟩
        have Hb2 := Lib.hid (stepB Hb1.out hb2)
        clear hb2
        go_wp2_with fail
        refine (Htk.out _ Hb2.out).mono ?_
        rintro e w3 ⟨rfl, hb3⟩
        have Hb3 := Lib.hid (stepB Hb2.out hb3)
        clear hb3
        go_wp2_with fail
        go_ret
        exact ⟨rfl, Hb3.out⟩
      | some n =>
        rw [ht, takesV_some] at Htk
        have hlaw := steps_law hra hrb ht
        have hn2 := takes_bare ht
        have Ha1 := Lib.hid (right_pos hra)
        have Hb1x := Lib.hid (right_pos hrb)
        have ha128 := ((right_iff a).1 hra).2
        have hb128 := ((right_iff b).1 hrb).2
        have Hlaw := Lib.hid hlaw
        clear hra hrb ht hlaw
        go_enter Tryz.func6, Tryz.ntmps6
        go_wp2_with fail
        refine (lives_calls w He.out).mono ?_
        rintro e w0 ⟨rfl, hb0⟩
        have Hb0 := Lib.hid hb0
        clear hb0
        go_wp2_with fail
        refine (Hra.out _ Hb0.out).mono ?_
        rintro e w1 ⟨rfl, hb1⟩
        have Hb1 := Lib.hid (stepB Hb0.out hb1)
        clear hb1
        go_wp2_with fail
        refine (Hrb.out _ Hb1.out).mono ?_
        rintro e w2 ⟨rfl, hb2⟩
        have Hb2 := Lib.hid (stepB Hb1.out hb2)
        clear hb2
        go_wp2_with fail
        refine (Htk.out _ Hb2.out).mono ?_
        rintro e w3 ⟨rfl, hb3⟩
        have Hb3 := Lib.hid (stepB Hb2.out hb3)
        clear hb3
        have ha1 : 0 < a.length := Ha1.out
        have hb1 : 0 < b.length := Hb1x.out
        obtain ⟨ga, oa, rfl, -⟩ := Hja.out 0 ha1
        obtain ⟨gb, ob, rfl, -⟩ := Hjb.out 0 hb1
        have Hac := Lib.hid (fun (i : Nat) (hi : i < a.length) => show StpCells w ga (oa + i * 3) a[i] by
          obtain ⟨g, o, e, h⟩ := Hja.out i hi
          simp only [Option.some.injEq, Addr.mk.injEq, and_true] at e
          obtain ⟨rfl, rfl⟩ := e
          exact h)
        have Hbc := Lib.hid (fun (i : Nat) (hi : i < b.length) => show StpCells w gb (ob + i * 3) b[i] by
          obtain ⟨g, o, e, h⟩ := Hjb.out i hi
          simp only [Option.some.injEq, Addr.mk.injEq, and_true] at e
          obtain ⟨rfl, rfl⟩ := e
          exact h)
        have hna1 : 0 < na := by rw [← Hna.out]; exact ha1
        have hnb1 : 0 < nb := by rw [← Hnb.out]; exact hb1
        have hna8 : na ≤ 128 := by rw [← Hna.out]; exact ha128
        have hnb8 : nb ≤ 128 := by rw [← Hnb.out]; exact hb128
        clear ha1 hb1 ha128 hb128
        have He4 := Lib.hid (stepB Hb3.out (alloc_below w3 (.cells #[] 29)))
        go_wp2_with (at_builtin; go_must (refine wp_app rfl _ _ rfl w3.heap.size _ 0 [] rfl (own0 w3) ga oa na ca a rfl Hna.out (fun i hi => (Hac.out i hi).below He4.out) (by omega) (by omega) (by simp) ?_))
        intro g4 c4 w4 hown4 hb4
        try simp only [Nat.zero_add, List.nil_append] at hown4
        have Hown4 := Lib.hid hown4
        have Hb4 := Lib.hid (He4.out.trans (hb4.mono Hb3.out.size))
        clear hown4 hb4
        go_wp2_with (at_builtin; go_must (refine wp_app rfl _ _ rfl w3.heap.size _ na a rfl Hown4.out gb ob nb cb b rfl Hnb.out (fun i hi => (Hbc.out i hi).below Hb4.out) (by omega) (by omega) ?cb ?_))
        case cb => have := (World.ownsRow.lt Hown4.out g4 rfl); omega
        intro g5 c5 w5 hown5 hb5
        have Hb5 := Lib.hid (Hb4.out.trans (hb5.mono Hb3.out.size))
        have Hown5 := Lib.hid hown5
        have hl5 : na + nb = (a ++ b).length := by rw [List.length_append, Hna.out, Hnb.out]
        have HC5 := Lib.hid (row_cells hown5 hl5)
        have HS5 := Lib.hid (show StpsIn w5 (.slice (some ⟨g5, 0, none⟩) (na + nb) c5) (a ++ b) from StpsIn.own hown5 hl5)
        have Hl5 := Lib.hid hl5.symm
        clear hl5
        clear hown5 hb5
        have He6 := Lib.hid (stepB Hb5.out (alloc_below w5 (.cells #[] 29)))
        go_wp2_with (at_builtin; go_must (refine wp_app rfl _ _ rfl w5.heap.size _ 0 [] rfl (own0 w5) g5 0 (na + nb) c5 (a ++ b) rfl Hl5.out (fun i hi => (HC5.out i hi).below (alloc_below w5 _)) (by omega) (by omega) (by simp) ?_))
        intro g6 c6 w6 hown6 hb6
        try simp only [Nat.zero_add, List.nil_append] at hown6
        have Hown6 := Lib.hid (hown6.alloc (.cells #[.int .u8 k, .string ⟨#[]⟩, .int .i64 0] 29))
        have Hr6 := Lib.hid ((alloc_below w5 (.cells #[] 29)).trans hb6)
        have Hn6 := Lib.hid (bare_cells w6 k)
        clear hown6 hb6
        go_wp2_with (at_builtin; go_must (refine wp_app rfl _ _ rfl w5.heap.size _ (na + nb) (a ++ b) rfl Hown6.out w6.heap.size 0 1 1 [bareK k] rfl rfl Hn6.out (by omega) (by omega) ?cb ?_))
        case cb => have := Hr6.out.size; simp; omega
        intro g7 c7 w7 hown7 hb7
        have Hr7 := Lib.hid ((stepB Hr6.out (alloc_below w6 (.cells #[.int .u8 k, .string ⟨#[]⟩, .int .i64 0] 29))).trans hb7)
        rw [← List.append_assoc] at hown7
        have hl7 : na + nb + 1 = ((a ++ b) ++ [bareK k]).length := by rw [List.length_append, Hl5.out]; rfl
        have HS7 := Lib.hid (show StpsIn w7 (.slice (some ⟨g7, 0, none⟩) (na + nb + 1) c7) ((a ++ b) ++ [bareK k]) from StpsIn.own hown7 hl7)
        have Hl7 := Lib.hid hl7.symm
        have HS5b := Lib.hid (HS5.out.below Hr7.out)
        have Hb7 := Lib.hid (stepB Hb5.out Hr7.out)
        clear hown7 hb7 hl7
        have He8 := Lib.hid (stepB Hb7.out (alloc_below w7 (.cells #[] 29)))
        go_wp2_with (at_builtin; go_must (refine wp_app rfl _ _ rfl w7.heap.size _ 0 [] rfl (own0 w7) ga oa na ca a rfl Hna.out (fun i hi => (Hac.out i hi).below He8.out) (by omega) (by omega) (by simp) ?_))
        intro g8 c8 w8 hown8 hb8
        try simp only [Nat.zero_add, List.nil_append] at hown8
        have Hown8 := Lib.hid (hown8.alloc (.cells #[.int .u8 k, .string ⟨#[]⟩, .int .i64 0] 29))
        have Hr8 := Lib.hid ((alloc_below w7 (.cells #[] 29)).trans hb8)
        have Hn8 := Lib.hid (bare_cells w8 k)
        clear hown8 hb8
        go_wp2_with (at_builtin; go_must (refine wp_app rfl _ _ rfl w7.heap.size _ na a rfl Hown8.out w8.heap.size 0 1 1 [bareK k] rfl rfl Hn8.out (by omega) (by omega) ?cb ?_))
        case cb => have := Hr8.out.size; simp; omega
        intro g9 c9 w9 hown9 hb9
        have Hr9 := Lib.hid ((stepB Hr8.out (alloc_below w8 (.cells #[.int .u8 k, .string ⟨#[]⟩, .int .i64 0] 29))).trans hb9)
        have hl9 : na + 1 = (a ++ [bareK k]).length := by rw [List.length_append, Hna.out]; rfl
        have HS9 := Lib.hid (show StpsIn w9 (.slice (some ⟨g9, 0, none⟩) (na + 1) c9) (a ++ [bareK k]) from StpsIn.own hown9 hl9)
        have Hl9 := Lib.hid hl9.symm
        have HS5c := Lib.hid (HS5b.out.below Hr9.out)
        have HS7b := Lib.hid (HS7.out.below Hr9.out)
        have Hb9 := Lib.hid (stepB Hb7.out Hr9.out)
        clear hown9 hb9 hl9
        have hbk : (bareK k).text.length ≤ 1048575 := by simp
        have hth5 : ∀ y ∈ a ++ b, y.text.length ≤ 1048575 := fun y hy => by
          rcases List.mem_append.1 hy with h | h
          · exact Hta.out y h
          · exact Htb.out y h
        have Hth5 := Lib.hid hth5
        have Hth7 := Lib.hid (show ∀ y ∈ (a ++ b) ++ [bareK k], y.text.length ≤ 1048575 from fun y hy => by
          rcases List.mem_append.1 hy with h | h
          · exact Hth5.out y h
          · simp only [List.mem_cons, List.mem_nil_iff, or_false] at h; rw [h]; exact hbk)
        have Hth9 := Lib.hid (show ∀ y ∈ a ++ [bareK k], y.text.length ≤ 1048575 from fun y hy => by
          rcases List.mem_append.1 hy with h | h
          · exact Hta.out y h
          · simp only [List.mem_cons, List.mem_nil_iff, or_false] at h; rw [h]; exact hbk)
        obtain ⟨q1, q2, q3, q4⟩ := Hlaw.out
        rw [Hl7.out] at q2
        rw [Hl9.out] at q3
        have HR5 := Lib.hid (fun (w2 : World) (hb : Below w9.heap.size w9 w2) => Right_calls w2 _ _ (HS5c.out.below hb) (by rw [Hl5.out]; omega) Hth5.out (He.out.below (stepB Hb9.out hb)))
        have HR7 := Lib.hid (fun (w2 : World) (hb : Below w9.heap.size w9 w2) => Right_calls w2 _ _ (HS7b.out.below hb) (by rw [Hl7.out]; omega) Hth7.out (He.out.below (stepB Hb9.out hb)))
        have HR9 := Lib.hid (fun (w2 : World) (hb : Below w9.heap.size w9 w2) => Right_calls w2 _ _ (HS9.out.below hb) (by rw [Hl9.out]; omega) Hth9.out (He.out.below (stepB Hb9.out hb)))
        have HC5 := Lib.hid (fun (w2 : World) (hb : Below w9.heap.size w9 w2) => Closed_calls w2 _ _ (HS5c.out.below hb) (by rw [Hl5.out]; omega))
        rw [q1] at HR5
        rw [q2] at HR7
        rw [q3] at HR9
        rw [q4] at HC5
        generalize closedB a = xa at *
        generalize closedB b = xb at *
        clear q1 q2 q3 q4 hth5 hbk
        have hcase : n = 0 ∨ (n = 1 ∧ na + 1 ≤ 128) ∨ (n = 1 ∧ ¬ na + 1 ≤ 128) ∨ (n = 2 ∧ na + nb + 1 ≤ 128) ∨ (n = 2 ∧ ¬ na + nb + 1 ≤ 128) := by omega
        rcases hcase with rfl | ⟨rfl, hq⟩ | ⟨rfl, hq⟩ | ⟨rfl, hq⟩ | ⟨rfl, hq⟩
        · rw [show (decide (0 = 2) && decide (na + nb + 1 ≤ 128)) = false from rfl] at HR7
          rw [show (decide (0 = 1) && decide (na + 1 ≤ 128)) = false from rfl] at HR9
          go_wp2_with fail
          refine (HR5.out _ (Below.refl _ _)).mono ?_
          rintro e wA ⟨rfl, hbA⟩
          have HbA := Lib.hid hbA
          clear hbA
          go_wp2_with fail
          refine (HR7.out _ HbA.out).mono ?_
          rintro e wB ⟨rfl, hbB⟩
          have HbB := Lib.hid (stepB HbA.out hbB)
          clear hbB
          go_wp2_with fail
          refine (HR9.out _ HbB.out).mono ?_
          rintro e wC ⟨rfl, hbC⟩
          have HbC := Lib.hid (stepB HbB.out hbC)
          clear hbC
          go_wp2_with fail
          refine (HC5.out _ HbC.out).mono ?_
          rintro e wD ⟨rfl, hbD⟩
          have HbD := Lib.hid (stepB HbC.out hbD)
          clear hbD
          go_wp2_with fail
          refine (Hca.out _ (stepB Hb9.out HbD.out)).mono ?_
          rintro e wE ⟨rfl, hbE⟩
          have HbE := Lib.hid (stepB HbD.out hbE)
          clear hbE
          cases xa
          · go_wp2_with fail
            go_ret
            exact ⟨ret_bool (by simp), stepB Hb9.out HbE.out⟩
          · go_wp2_with fail
            refine (Hcb.out _ (stepB Hb9.out HbE.out)).mono ?_
            rintro e wF ⟨rfl, hbF⟩
            have HbF := Lib.hid (stepB HbE.out hbF)
            clear hbF
            cases xb
            all_goals
              go_wp2_with fail
              go_ret
              exact ⟨ret_bool (by simp), stepB Hb9.out HbF.out⟩
        · rw [show (decide (1 = 2) && decide (na + nb + 1 ≤ 128)) = false from rfl] at HR7
          rw [show (decide (1 = 1) && decide (na + 1 ≤ 128)) = true from by rw [decide_eq_true hq]; rfl] at HR9
          have hqi : (na : Int) + 1 ≤ 128 := by omega
          go_wp2_with fail
          refine (HR5.out _ (Below.refl _ _)).mono ?_
          rintro e wA ⟨rfl, hbA⟩
          have HbA := Lib.hid hbA
          clear hbA
          go_wp2_with fail
          refine (HR7.out _ HbA.out).mono ?_
          rintro e wB ⟨rfl, hbB⟩
          have HbB := Lib.hid (stepB HbA.out hbB)
          clear hbB
          go_wp2_with fail
          refine (HR9.out _ HbB.out).mono ?_
          rintro e wC ⟨rfl, hbC⟩
          have HbC := Lib.hid (stepB HbB.out hbC)
          clear hbC
          go_wp2_with fail
          refine (HC5.out _ HbC.out).mono ?_
          rintro e wD ⟨rfl, hbD⟩
          have HbD := Lib.hid (stepB HbC.out hbD)
          clear hbD
          go_wp2_with fail
          refine (Hca.out _ (stepB Hb9.out HbD.out)).mono ?_
          rintro e wE ⟨rfl, hbE⟩
          have HbE := Lib.hid (stepB HbD.out hbE)
          clear hbE
          cases xa
          · go_wp2_with fail
            go_ret
            exact ⟨ret_bool (by simp), stepB Hb9.out HbE.out⟩
          · go_wp2_with fail
            refine (Hcb.out _ (stepB Hb9.out HbE.out)).mono ?_
            rintro e wF ⟨rfl, hbF⟩
            have HbF := Lib.hid (stepB HbE.out hbF)
            clear hbF
            cases xb
            all_goals
              go_wp2_with fail
              go_ret
              exact ⟨ret_bool (by simp), stepB Hb9.out HbF.out⟩
        · rw [show (decide (1 = 2) && decide (na + nb + 1 ≤ 128)) = false from rfl] at HR7
          rw [show (decide (1 = 1) && decide (na + 1 ≤ 128)) = false from by rw [decide_eq_false hq]; rfl] at HR9
          have hqi : ¬ (na : Int) + 1 ≤ 128 := by omega
          go_wp2_with fail
          refine (HR5.out _ (Below.refl _ _)).mono ?_
          rintro e wA ⟨rfl, hbA⟩
          have HbA := Lib.hid hbA
          clear hbA
          go_wp2_with fail
          refine (HR7.out _ HbA.out).mono ?_
          rintro e wB ⟨rfl, hbB⟩
          have HbB := Lib.hid (stepB HbA.out hbB)
          clear hbB
          go_wp2_with fail
          refine (HR9.out _ HbB.out).mono ?_
          rintro e wC ⟨rfl, hbC⟩
          have HbC := Lib.hid (stepB HbB.out hbC)
          clear hbC
          go_wp2_with fail
          refine (HC5.out _ HbC.out).mono ?_
          rintro e wD ⟨rfl, hbD⟩
          have HbD := Lib.hid (stepB HbC.out hbD)
          clear hbD
          go_wp2_with fail
          refine (Hca.out _ (stepB Hb9.out HbD.out)).mono ?_
          rintro e wE ⟨rfl, hbE⟩
          have HbE := Lib.hid (stepB HbD.out hbE)
          clear hbE
          cases xa
          · go_wp2_with fail
            go_ret
            exact ⟨ret_bool (by simp), stepB Hb9.out HbE.out⟩
          · go_wp2_with fail
            refine (Hcb.out _ (stepB Hb9.out HbE.out)).mono ?_
            rintro e wF ⟨rfl, hbF⟩
            have HbF := Lib.hid (stepB HbE.out hbF)
            clear hbF
            cases xb
            all_goals
              go_wp2_with fail
              go_ret
              exact ⟨ret_bool (by simp), stepB Hb9.out HbF.out⟩
        · rw [show (decide (2 = 2) && decide (na + nb + 1 ≤ 128)) = true from by rw [decide_eq_true hq]; rfl] at HR7
          rw [show (decide (2 = 1) && decide (na + 1 ≤ 128)) = false from rfl] at HR9
          have hqi : (na : Int) + (nb : Int) + 1 ≤ 128 := by omega
          go_wp2_with fail
          refine (HR5.out _ (Below.refl _ _)).mono ?_
          rintro e wA ⟨rfl, hbA⟩
          have HbA := Lib.hid hbA
          clear hbA
          go_wp2_with fail
          refine (HR7.out _ HbA.out).mono ?_
          rintro e wB ⟨rfl, hbB⟩
          have HbB := Lib.hid (stepB HbA.out hbB)
          clear hbB
          go_wp2_with fail
          refine (HR9.out _ HbB.out).mono ?_
          rintro e wC ⟨rfl, hbC⟩
          have HbC := Lib.hid (stepB HbB.out hbC)
          clear hbC
          go_wp2_with fail
          refine (HC5.out _ HbC.out).mono ?_
          rintro e wD ⟨rfl, hbD⟩
          have HbD := Lib.hid (stepB HbC.out hbD)
          clear hbD
          go_wp2_with fail
          refine (Hca.out _ (stepB Hb9.out HbD.out)).mono ?_
          rintro e wE ⟨rfl, hbE⟩
          have HbE := Lib.hid (stepB HbD.out hbE)
          clear hbE
          cases xa
          · go_wp2_with fail
            go_ret
            exact ⟨ret_bool (by simp), stepB Hb9.out HbE.out⟩
          · go_wp2_with fail
            refine (Hcb.out _ (stepB Hb9.out HbE.out)).mono ?_
            rintro e wF ⟨rfl, hbF⟩
            have HbF := Lib.hid (stepB HbE.out hbF)
            clear hbF
            cases xb
            all_goals
              go_wp2_with fail
              go_ret
              exact ⟨ret_bool (by simp), stepB Hb9.out HbF.out⟩
        · rw [show (decide (2 = 2) && decide (na + nb + 1 ≤ 128)) = false from by rw [decide_eq_false hq]; rfl] at HR7
          rw [show (decide (2 = 1) && decide (na + 1 ≤ 128)) = false from rfl] at HR9
          have hqi : ¬ (na : Int) + (nb : Int) + 1 ≤ 128 := by omega
          go_wp2_with fail
          refine (HR5.out _ (Below.refl _ _)).mono ?_
          rintro e wA ⟨rfl, hbA⟩
          have HbA := Lib.hid hbA
          clear hbA
          go_wp2_with fail
          refine (HR7.out _ HbA.out).mono ?_
          rintro e wB ⟨rfl, hbB⟩
          have HbB := Lib.hid (stepB HbA.out hbB)
          clear hbB
          go_wp2_with fail
          refine (HR9.out _ HbB.out).mono ?_
          rintro e wC ⟨rfl, hbC⟩
          have HbC := Lib.hid (stepB HbB.out hbC)
          clear hbC
          go_wp2_with fail
          refine (HC5.out _ HbC.out).mono ?_
          rintro e wD ⟨rfl, hbD⟩
          have HbD := Lib.hid (stepB HbC.out hbD)
          clear hbD
          go_wp2_with fail
          refine (Hca.out _ (stepB Hb9.out HbD.out)).mono ?_
          rintro e wE ⟨rfl, hbE⟩
          have HbE := Lib.hid (stepB HbD.out hbE)
          clear hbE
          cases xa
          · go_wp2_with fail
            go_ret
            exact ⟨ret_bool (by simp), stepB Hb9.out HbE.out⟩
          · go_wp2_with fail
            refine (Hcb.out _ (stepB Hb9.out HbE.out)).mono ?_
            rintro e wF ⟨rfl, hbF⟩
            have HbF := Lib.hid (stepB HbE.out hbF)
            clear hbF
            cases xb
            all_goals
              go_wp2_with fail
              go_ret
              exact ⟨ret_bool (by simp), stepB Hb9.out HbF.out⟩

end Go.Proofs.YtghnkgeaocpmaaaGreatDoor.Pa
