/- Parts: QbB LxT PdZ PdF. -/
import Derived.Test.YtgehjklodphogaaGreatDoorMg47
import Derived.WalkKit
import Derived.ProofKit
import Derived.OpenShut
import Derived.Deep.DeepHandedRow
import Derived.Deep.DeepWitnessRowRef
import Derived.Carry
import Derived.SevenTiedAt
import Derived.Lay
import Derived.Lib.LaidU8T
import Derived.PinnedBridge
import Derived.MakeChecks
import Derived.Shelf.Vars
import Derived.Test.YtgehjklodphogaaGreatDoorRows
import Derived.Test.YtgehjklodphogaaGreatDoorCards
import Derived.Test.YtgehjklodphogaaGreatDoorTie
import Derived.Deep.Slices
import Derived.Deep.Strs

/- CodeRight: the walk. -/
namespace Go.Proofs.YtgehjklodphogaaGreatDoor.Cd
open Go.RowKit Go.Proofs.YtgehjklodphogaaGreatDoor.Lx Go.Proofs.YtgehjklodphogaaGreatDoor.Pa

/-- what the laws of code are asked of -/
structure CdArgs (w : World) (v : Value) (l : List Stp) : Prop where
  hv : StpsIn w v l
  hl : l.length ≤ 1048576
  ht : ∀ y ∈ l, y.text.length ≤ 1048575
  hn : ∀ y ∈ l, y.num ≤ 9223372036854775807
  he : Env w
theorem CdArgs.below {w w' : World} {v : Value} {l : List Stp} (h : CdArgs w v l) (hb : Below w.heap.size w w') : CdArgs w' v l := ⟨h.hv.below hb, h.hl, h.ht, h.hn, h.he.below hb⟩
theorem CdArgs.compile {w : World} {v : Value} {l : List Stp} (h : CdArgs w v l) : Calls Tryz.prog 11 #[v] w (GaveP w l) := Compile_calls w v l h.hv h.hl h.ht h.he
theorem CdArgs.right {w : World} {v : Value} {l : List Stp} (h : CdArgs w v l) : Calls Tryz.prog 15 #[v] w fun e w' => e = .returned (.bool (rightB l)) ∧ Below w.heap.size w w' := Right_calls w v l h.hv h.hl h.ht h.he
/-- each instruction's step is one of the expression's, or none -/
theorem shift_st (b : Nat) (x : Ins) : (shift b x).st = x.st := by unfold shift; split <;> rfl
def StOk (M : Nat) (p : List Ins) : Prop := ∀ x ∈ p, x.st.text.length ≤ M ∧ x.st.num ≤ 9223372036854775807
theorem StOk.join {M : Nat} : ∀ ps : List (List Ins), (∀ p ∈ ps, StOk M p) → StOk M (joinI ps)
  | [], _ => fun x hx => nomatch hx
  | p :: ps, h => by
    rw [joinI_cons]
    intro x hx
    rcases List.mem_append.1 hx with hx | hx
    · exact h p (by simp) x hx
    · obtain ⟨y, hy, rfl⟩ := List.mem_map.1 hx
      rw [shift_st]
      exact StOk.join ps (fun q hq => h q (by simp [hq])) y hy
theorem StOk.part {M : Nat} {s : Stp} {k : Nat} (ht : takes s = some k) (hs : s.text.length ≤ M ∧ s.num ≤ 9223372036854775807) {parts : List (List Ins)} (hl : parts.length = k) (h : ∀ p ∈ parts, StOk M p) : StOk M (partC s parts) := by
  have h0 : ∀ (o : Nat) (t : Int), StOk M [⟨o, stp0, t⟩] := fun o t x hx => by rw [List.mem_singleton] at hx; subst hx; exact ⟨Nat.zero_le _, by simp [stp0]⟩
  unfold partC
  split
  · rename_i e
    obtain ⟨p, q, rfl⟩ := two_parts (hl.trans (takes_logic ht (.inl e)))
    refine StOk.join _ fun x hx => ?_
    simp only [List.mem_cons, List.not_mem_nil, or_false] at hx
    rcases hx with rfl | rfl | rfl | rfl
    · exact h _ (by simp)
    · exact h0 _ _
    · exact h _ (by simp)
    · exact h0 _ _
  · split
    · rename_i e
      obtain ⟨p, q, rfl⟩ := two_parts (hl.trans (takes_logic ht (.inr e)))
      refine StOk.join _ fun x hx => ?_
      simp only [List.mem_cons, List.not_mem_nil, or_false] at hx
      rcases hx with rfl | rfl | rfl | rfl
      · exact h _ (by simp)
      · exact h0 _ _
      · exact h _ (by simp)
      · exact h0 _ _
    · intro x hx
      rcases List.mem_append.1 hx with hx | hx
      · exact StOk.join parts h x hx
      · rw [List.mem_singleton] at hx; subst hx; exact hs
theorem stack_stok {M : Nat} : ∀ (r : List Stp) {stk : List (List Ins)} {n m : Nat} {l : List Stp}, StkOk stk n l → rightL r n = some m → (∀ y ∈ r, y.text.length ≤ M ∧ y.num ≤ 9223372036854775807) → (∀ p ∈ stk, StOk M p) → ∀ p ∈ r.foldl stepC stk, StOk M p
  | [], _, _, _, _, _, _, _, h => h
  | s :: r, stk, n, m, l, ho, hr, hs, h => by
    rw [rightL] at hr
    cases ht : takes s with
    | none => rw [ht] at hr; cases hr
    | some k =>
      rw [ht] at hr
      simp only at hr
      split at hr
      · cases hr
      · rename_i hk
        refine stack_stok r (ho.step ht (by omega)) hr (fun y hy => hs y (by simp [hy])) ?_
        intro p hp
        unfold stepC takesN at hp
        rw [ht, Option.getD_some] at hp
        rcases List.mem_append.1 hp with hp | hp
        · exact h p (List.mem_of_mem_take hp)
        · rw [List.mem_singleton.1 hp]
          have := ho.len
          exact StOk.part ht (hs s (by simp)) (by rw [List.length_drop]; omega) fun q hq => h q (List.mem_of_mem_drop hq)
theorem compile_stok {M : Nat} {l : List Stp} (h : rightB l = true) (hs : ∀ y ∈ l, y.text.length ≤ M ∧ y.num ≤ 9223372036854775807) : StOk M (compileL l) := by
  have := stack_stok l StkOk.nil ((right_iff l).1 h).1 hs (fun _ h => nomatch h)
  rw [(compile_stack h).1] at this
  exact this _ (by simp)
theorem steps_take (p : List Ins) (k : Nat) (h : k < p.length) : steps (p.take (k + 1)) = steps (p.take k) + (if p[k].op = 1 then 1 else 0) := by
  rw [List.take_succ_eq_append_getElem h, steps_app]
  unfold steps
  by_cases e : p[k].op = 1 <;> simp [e]
def logics (l : List Stp) : Nat := (l.map isLogic).sum
theorem logics_take (l : List Stp) (k : Nat) (h : k < l.length) : logics (l.take (k + 1)) = logics (l.take k) + (if 21 ≤ l[k].kind then 1 else 0) := by
  unfold logics
  rw [List.take_succ_eq_append_getElem h, List.map_append, List.sum_append]
  simp [isLogic]

set_option maxHeartbeats 4000000 in
set_option maxRecDepth 100000 in
theorem CodeRight_calls (w : World) (v : Value) (l : List Stp) (h : CdArgs w v l) :
    Calls Tryz.prog 4 #[v] w fun e w' => e = .returned (.bool true) ∧ Below w.heap.size w w' := by
  have H := Lib.hid h
  obtain ⟨a, n, c, rfl, hln, hnc, hj⟩ := id h.hv
  have Hlv := Lib.hid (lives_calls w h.he)
  have Hln := Lib.hid hln
  have Hj := Lib.hid hj
  have hl := h.hl
  cases hR : rightB l with
  | false =>
    have hG := fun w2 (hb : Below w.heap.size w w2) => (H.out.below hb).compile
    have HG := Lib.hid hG
    have HR := Lib.hid (fun w2 (hb : Below w.heap.size w w2) => (H.out.below hb).right)
    rw [hR] at HR
    have Hf := Lib.hid hR
    clear h hj hG hR
    go_enter Tryz.func4, Tryz.ntmps4
    go_wp2_with fail
    refine Hlv.out.mono ?_
    rintro e w1 ⟨rfl, hb1⟩
    have Hb1 := Lib.hid hb1
    clear hb1
    go_wp2_with fail
    refine (HG.out _ Hb1.out).mono ?_
    rintro e w2 ⟨hb2, hg⟩
    rw [if_neg (by rw [Hf.out]; simp)] at hg
    subst hg
    have Hb2 := Lib.hid (stepB Hb1.out hb2)
    clear hb2
    go_wp2_with fail
    refine (HR.out _ Hb2.out).mono ?_
    rintro e w3 ⟨rfl, hb3⟩
    have Hb3 := Lib.hid (stepB Hb2.out hb3)
    clear hb3
    go_wp2_with fail
    go_ret
    exact ⟨rfl, Hb3.out⟩
  | true =>
    have HG := Lib.hid (fun w2 (hb : Below w.heap.size w w2) => (H.out.below hb).compile)
    have Hf := Lib.hid hR
    obtain ⟨hc1, hc2⟩ := compile_len hR
    have hlg := logic_le l
    have Hck := Lib.hid (check_compile hR)
    have HT := Lib.hid (show ∀ w2, Below w.heap.size w w2 → ∀ x ∈ compileL l, TakesOk w2 x.st from fun w2 hb x hx => takes_ok (h.he.below hb) (compile_stok hR (fun y hy => ⟨h.ht y hy, h.hn y hy⟩) x hx).1)
    have h128 := ((right_iff l).1 hR).2
    have hlo : l.length = n := hln
    clear h hj hR
    go_enter Tryz.func4, Tryz.ntmps4
    go_wp2_with fail
    refine Hlv.out.mono ?_
    rintro e w1 ⟨rfl, hb1⟩
    have Hb1 := Lib.hid hb1
    clear hb1
    go_wp2_with fail
    refine (HG.out _ Hb1.out).mono ?_
    rintro e w2 ⟨hb2, hg⟩
    rw [if_pos Hf.out] at hg
    obtain ⟨vp, rfl, hp⟩ := hg
    have Hb2 := Lib.hid (stepB Hb1.out hb2)
    have Hc := Lib.hid (Check_calls w2 vp (compileL l) hp (by omega) (HT.out w2 Hb2.out))
    unfold checkC at Hc
    rw [Hck.out] at Hc
    obtain ⟨ap, np, cp, rfl, hlp, hcp, hjp⟩ := hp
    have Hlp := Lib.hid hlp
    have Hjp := Lib.hid hjp
    have hnp : np ≤ 2 * n := by omega
    have Hc1 := Lib.hid hc1
    have Hc2 := Lib.hid hc2
    have hn128 : n ≤ 128 := by omega
    clear hb2 hlp hjp hc1 hc2
    go_wp2_with fail
    refine Hc.out.mono ?_
    rintro e w3 ⟨rfl, hb3⟩
    have Hb3 := Lib.hid (stepB Hb2.out hb3)
    have Hb23 := Lib.hid hb3
    clear hb3
    go_wp2_with fail
    go_loopw [5, 41] (fun s5 i wr => ∃ (k m : Nat), k ≤ np ∧ m ≤ k ∧ i = .int .i64 k ∧ s5 = .int .i64 m ∧ Hid (Below w.heap.size w wr ∧ Below w2.heap.size w2 wr ∧ steps ((compileL l).take k) = m)) (fun _ i _ => np - (intOf i).toNat)
    case atStart => exact ⟨0, 0, Nat.zero_le _, Nat.le_refl _, rfl, rfl, Hb3.out, Hb23.out, rfl⟩
    case round =>
      obtain ⟨k, m, hk, hmk, rfl, rfl, hst⟩ := hrel
      have Hst := Lib.hid hst.out
      by_cases hlt : k < np
      · have hkl : k < (compileL l).length := by rw [Hlp.out]; exact hlt
        obtain ⟨g, o, rfl, hcl⟩ := Hjp.out k hkl
        have hgw : g < wr.heap.size := Nat.lt_of_lt_of_le hcl.lt hst.out.2.1.size
        obtain ⟨q0, q1, q2, q3, q4⟩ := hcl.below hst.out.2.1
        have Hst2 := Lib.hid (steps_take (compileL l) k hkl)
        generalize (compileL l)[k] = x at *
        have hbx := allocB wr (.cells #[.int .u8 x.op, .int .u8 x.st.kind, .string ⟨x.st.text.toArray⟩, .int .i64 x.st.num, .int .i64 x.to] 36)
        have Hbx := Lib.hid (And.intro (stepB hst.out.1 hbx) (stepB hst.out.2.1 hbx))
        by_cases h1 : x.op = 1
        · have hm2 := Hst2.out
          rw [if_pos h1, hst.out.2.2] at hm2
          have Hm2 := Lib.hid hm2
          have b1 : ((x.op : Int) == 1) = true := by rw [beq_iff_eq]; omega
          clear hst hcl hbx hm2 h1
          go_wp2_with fail
          go_roundw
          case rel => exact ⟨k + 1, m + 1, by omega, by omega, by go_num, by go_num, Hbx.out.1, Hbx.out.2, Hm2.out⟩
          case measure => simp [intOf]; omega
        · have hm2 := Hst2.out
          rw [if_neg h1, hst.out.2.2] at hm2
          have Hm2 := Lib.hid hm2
          have b1 : ((x.op : Int) == 1) = false := by rw [beq_eq_false_iff_ne]; omega
          clear hst hcl hbx hm2 h1
          go_wp2_with fail
          go_roundw
          case rel => exact ⟨k + 1, m, by omega, by omega, by go_num, rfl, Hbx.out.1, Hbx.out.2, Hm2.out⟩
          case measure => simp [intOf]; omega
      · have hkn : k = np := by omega
        subst hkn
        have hm3 : steps (compileL l) = m := by
          have := hst.out.2.2
          rw [List.take_of_length_le (by rw [Hlp.out]; exact Nat.le_refl _)] at this
          exact this
        have Hm3 := Lib.hid hm3
        have Hbr := Lib.hid hst.out.1
        clear hst hm3
        go_wp2_with fail
        go_loopw [8, 53] (fun s8 i w5 => ∃ (k g : Nat), k ≤ n ∧ g ≤ k ∧ i = .int .i64 k ∧ s8 = .int .i64 g ∧ Hid (Below w.heap.size w w5 ∧ logics (l.take k) = g)) (fun _ i _ => n - (intOf i).toNat)
        case atStart => exact ⟨0, 0, Nat.zero_le _, Nat.le_refl _, rfl, rfl, Hbr.out, rfl⟩
        case round =>
          obtain ⟨j, q, hjn, hqj, rfl, rfl, hst⟩ := hrel
          have Hst := Lib.hid hst.out
          by_cases hlt2 : j < n
          · have hjl : j < l.length := by rw [Hln.out]; exact hlt2
            obtain ⟨g, o, rfl, hcl⟩ := Hj.out j hjl
            have hgw : g < wr.heap.size := Nat.lt_of_lt_of_le (World.block_lt_of_cell? _ _ hcl.c0) hst.out.1.size
            obtain ⟨q0, q1, q2⟩ := hcl.below hst.out.1
            have Hst2 := Lib.hid (logics_take l j hjl)
            generalize l[j] = y at *
            have Hbx := Lib.hid (stepB hst.out.1 (allocB wr (.cells #[.int .u8 y.kind, .string ⟨y.text.toArray⟩, .int .i64 y.num] 34)))
            by_cases h1 : 21 ≤ y.kind
            · have hm2 := Hst2.out
              rw [if_pos h1, hst.out.2] at hm2
              have Hm2 := Lib.hid hm2
              have h12 : (21 : Int) ≤ y.kind := by omega
              clear hst hcl hm2 h1
              go_wp2_with fail
              go_roundw
              case rel => exact ⟨j + 1, q + 1, by omega, by omega, by go_num, by go_num, Hbx.out, Hm2.out⟩
              case measure => simp [intOf]; omega
            · have hm2 := Hst2.out
              rw [if_neg h1, hst.out.2] at hm2
              have Hm2 := Lib.hid hm2
              have h12 : ¬ (21 : Int) ≤ y.kind := by omega
              clear hst hcl hm2 h1
              go_wp2_with fail
              go_roundw
              case rel => exact ⟨j + 1, q, by omega, by omega, by go_num, rfl, Hbx.out, Hm2.out⟩
              case measure => simp [intOf]; omega
          · have hjn' : j = n := by omega
            subst hjn'
            have hq : logics l = q := by
              have := hst.out.2
              rw [List.take_of_length_le (by rw [Hln.out]; exact Nat.le_refl _)] at this
              exact this
            have e1 : m + q = j := by rw [← Hm3.out, ← hq, ← Hln.out]; exact Hc2.out
            have e2 : k = j + q := by rw [← Hlp.out, ← hq, ← Hln.out]; exact Hc1.out
            have b1 : ((m : Int) == (j : Int) - q) = true := by rw [beq_iff_eq]; omega
            have b2 : ((k : Int) == (j : Int) + q) = true := by rw [beq_iff_eq]; omega
            clear hst hq
            go_wp2_with fail
            go_ret
            exact ⟨rfl, Hst.out.1⟩

end Go.Proofs.YtgehjklodphogaaGreatDoor.Cd

/- The frame of a law: a call that answers true and turns nothing old meets the row's post. Nothing here speaks of the program. -/
namespace Go.Proofs.YtgehjklodphogaaGreatDoor.Lx
open Go.RowKit Go.ChangeShapes

theorem stay_all {H : Type} {enc : TypeId × Value → H} {P : Program} (hl : laidOutB P = true) {W W' : World} (hb : Below W.heap.size W W') :
    ∀ {ts : List TypeId} {vs : List Value} {ds : List (DataW H)} {ps : List MemPlace}, ts.all (fun t => P.readableRec t && decide (t < P.types.size)) = true →
      DataW.TrodAll enc P W 0 (fun _ => true) true ts vs ds ps → (∀ x ∈ ps, x.block < W.heap.size) → DataW.TrodAll enc P W' 0 (fun b => decide (b < W.heap.size)) true ts vs ds ps
  | [], _, _, _, _, h, _ => by
    obtain ⟨rfl, rfl, rfl⟩ := trodAll_nil h
    exact rfl
  | t :: ts, _, _, _, ht, h, hlt => by
    obtain ⟨v, vs, d, ds, p, q, rfl, rfl, rfl, h0, hr⟩ := trodAll_cons h
    simp only [List.all_cons, Bool.and_eq_true, decide_eq_true_eq] at ht
    exact ⟨p, q, Below.trod hl ht.1.1 ht.1.2 h0 hb fun x hx => hlt x (by simp [hx]), stay_all hl hb (by simpa using ht.2) hr fun x hx => hlt x (by simp [hx]), rfl⟩

theorem law_post {H : Type} {enc : TypeId × Value → H} {P : Program} {fn : Func} {s : ChangeSpec} {tb : TypeId} {W W' : World} {args : Array Value} {ds gs : List (DataW H)} {before : List MemPlace}
    (hl : laidOutB P = true) (hts : fn.params.toList.all (fun t => P.readableRec t && decide (t < P.types.size)) = true) (hr : fn.resultTypes = #[tb]) (hb : P.underlying tb = some .bool) (hv : s.vars = [])
    (hW : DataW.Whole enc P fn.params.toList s.vars false W args.toList ds gs before) (hfn : s.fn H (ds ++ gs) = { results := [.lit (.bool true)], args := ds }) (bel : Below W.heap.size W W') :
    s.post enc P fn false true false false W args (.bool true) W' := by
  have hW' := hW
  have hlt := hW.lt
  obtain ⟨p, q, hA, hV, rfl, _, _⟩ := hW
  rw [hv] at hV
  obtain ⟨rfl, rfl⟩ := trodVars_none hV
  refine ⟨ds, [], p ++ [], [], p, [], hW', ?_, ?_, ?_, bel.frame _, fun h => by cases h⟩
  · rw [hfn, hr]; exact trodAll_mk1 (shut_bool hb _)
  · rw [hfn]; exact stay_all hl bel hts hA fun x hx => hlt x (by simpa using hx)
  · rw [hfn, hv]; rfl
theorem law_calls {H : Type} {enc : TypeId × Value → H} {P : Program} {fid : FuncId} {fn : Func} {s : ChangeSpec} {tb : TypeId} {W : World} {args : Array Value} {ds gs : List (DataW H)} {before : List MemPlace}
    (hl : laidOutB P = true) (hts : fn.params.toList.all (fun t => P.readableRec t && decide (t < P.types.size)) = true) (hr : fn.resultTypes = #[tb]) (hb : P.underlying tb = some .bool) (hv : s.vars = [])
    (hW : DataW.Whole enc P fn.params.toList s.vars false W args.toList ds gs before) (hfn : s.fn H (ds ++ gs) = { results := [.lit (.bool true)], args := ds })
    (walk : Calls P fid args W fun e W' => e = .returned (.bool true) ∧ Below W.heap.size W W') :
    Calls P fid args W fun e W' => ∃ v, e = .returned v ∧ s.post enc P fn false true false false W args v W' :=
  walk.mono fun _ _ ⟨he, hbel⟩ => ⟨_, he, law_post hl hts hr hb hv hW hfn hbel⟩

/-- a listed error variable holds an interface value -/
theorem iface_of_reads {P : Program} {W : World} {name : String} {g : Nat} {t : TypeId} {ms : Array (String × TypeId)} {d : DataW Unit} {tn : String}
    (hg : P.globalNamed name = some g) (hty : (P.globals[g]?).map (·.type) = some t) (ht : P.underlying t = some (.interface ms)) (h : Go.Lib.VarReads P W name (.iface tn d)) :
    ∃ ev, W.cell? ⟨g, 0, none⟩ = some ev ∧ (ev = .nilIface ∨ ∃ te pe, ev = .iface te pe) := by
  obtain ⟨g', t', cs, fuel, p, hg', hty', hvar, hd⟩ := h
  obtain rfl := Option.some.inj (hg.symm.trans hg')
  obtain rfl := Option.some.inj (hty.symm.trans hty')
  have hc := World.var?_cell hg hvar 0
  cases fuel with
  | zero => simp [DataW.trod] at hd
  | succ fuel =>
    unfold DataW.trod at hd
    simp only [ht] at hd
    split at hd <;> try (first | (rename_i e1 e2; cases e1; done) | (rename_i e1; cases e1; done))
    all_goals first
      | (simp at hd; done)
      | (rename_i u v hcs; exact ⟨_, by rw [hc, ← Array.getElem?_toList, hcs]; rfl, .inr ⟨_, _, rfl⟩⟩)
      | skip
theorem cell_lt {W : World} {g c : Nat} {v : Value} (h : W.cell? ⟨g, c, none⟩ = some v) : g < W.heap.size := World.block_lt_of_cell? _ _ h

end Go.Proofs.YtgehjklodphogaaGreatDoor.Lx

/- What a row's listed variables give the walks; a start for the witness. -/
namespace Go.Proofs.YtgehjklodphogaaGreatDoor.Lx
open Go.RowKit Go.ChangeShapes

theorem own : ownKnob Tryz.prog.godebug = none := by kernel_rfl
theorem laidOut : laidOutB Tryz.prog = true := by kernel_rfl
theorem gSyn : Tryz.prog.globalNamed "strconv.ErrSyntax" = some 5 := by kernel_rfl
theorem gRng : Tryz.prog.globalNamed "strconv.ErrRange" = some 6 := by kernel_rfl

/-- the rows' list -/
abbrev laidL := Rows.parseWritesRow.laid

theorem env_of {W : World} (hL : laidMetH Tryz.prog laidL W) (hS : W.ShapedOpen Tryz.prog) : Env W := by
  rw [MakeChecks.laidMetH_plain _ _ _ (by kernel_rfl)] at hL
  have r2 := Lib.laidMet.reads hL (.tail _ (.tail _ (.head _)))
  have r3 := Lib.laidMet.reads hL (.tail _ (.tail _ (.tail _ (.head _))))
  have r4 := Lib.laidMet.reads hL (.tail _ (.tail _ (.tail _ (.tail _ (.head _)))))
  have r5 := Lib.laidMet.reads hL (.tail _ (.tail _ (.tail _ (.tail _ (.tail _ (.head _))))))
  have r6 := Lib.laidMet.reads hL (.tail _ (.tail _ (.tail _ (.tail _ (.tail _ (.tail _ (.head _)))))))
  have syn := iface_of_reads gSyn (t := 130) (by kernel_rfl) Tryz.underlying130 r5
  have rng := iface_of_reads gRng (t := 130) (by kernel_rfl) Tryz.underlying130 r4
  have max : ∃ m, W.cell? ⟨4, 0, none⟩ = some (.int .i64 m) :=
    cell_of_shapedOpen_int (zero := #[.int .i64 0]) (t := 3) hS (of_decide_eq_true (by kernel_rfl)) (by kernel_rfl) rfl (by kernel_rfl) (by kernel_rfl) Tryz.underlying3
  have pow : Lib.TabIs Tryz.prog W "internal/strconv.uint64pow10" .u64 Lib.pow10Tab := by
    obtain ⟨g, t, cs, fuel, p, hg, hty, hvar, hd⟩ := r2
    obtain rfl := Option.some.inj (gPow.symm.trans hg)
    obtain rfl := Option.some.inj ((show (Tryz.prog.globals[3]?).map (·.type) = some 208 by kernel_rfl).symm.trans hty)
    unfold Lib.TabIs
    rw [hvar, ← Lib.cells_of_tab (zs := Lib.pow10Tab) Tryz.underlying208 Tryz.underlying113 (by kernel_rfl) (by kernel_rfl) hd]
  have utf : Lib.Utf8Tabs 0 1 W :=
    utf8Tabs_of_readsT (U8Types.of196 Tryz.laysValid) ⟨by kernel_rfl, by kernel_rfl, by kernel_rfl, by kernel_rfl, by kernel_rfl, by kernel_rfl, by kernel_rfl⟩ (by have := r6; rw [show Rows.laid_unicode_utf8_first = Lib.firstData from Pinned.utf8First_eq] at this; exact this) r3
  have hp := World.var?_cell gPow pow 0
  exact {
    syn := syn, rng := rng, max := max, pow := pow, utf := utf
    ltS := let ⟨_, h, _⟩ := syn; cell_lt h
    ltR := let ⟨_, h, _⟩ := rng; cell_lt h
    ltM := let ⟨_, h⟩ := max; cell_lt h
    ltP := cell_lt (hp.trans (by rfl))
    ltF := cell_lt (utf.1 0 (by decide))
    ltA := cell_lt (utf.2 0 (by decide)).1 }

/-- a start for the witness -/
theorem laid_met (os : Os) (args : Array Value) : laidMetH Tryz.prog laidL ((World.laidAll Tryz.prog os laidL).forCall (fun _ _ => 0) ⟨#[], args, []⟩).memory := by
  rw [MakeChecks.laidMetH_plain _ _ _ (by kernel_rfl)]
  exact laidMet_laidAll _ (by kernel_rfl) (by kernel_rfl)

theorem bulk_string {H : Type} (bytes : List UInt8) : Rows.uptoBulk (DataW.lit (H := H) (.string bytes)) = bytes.length + 1 := by
  simp [Rows.uptoBulk]
theorem bulk_le {H : Type} {l : List (DataW H)} (hk : Rows.uptoSmall H l = true) : Rows.uptoBulkAll l ≤ 1048576 := by
  simpa [Rows.uptoSmall] using hk

end Go.Proofs.YtgehjklodphogaaGreatDoor.Lx

/- The parse laws' arguments, opened: a list of steps. -/
namespace Go.Proofs.YtgehjklodphogaaGreatDoor.Pa
open Go.RowKit Go.ChangeShapes Go.WideShapes Go.Deep Go.Proofs.YtgehjklodphogaaGreatDoor.Lx

theorem bulk_mem {H : Type} {d : DataW H} : ∀ {l : List (DataW H)}, d ∈ l → Rows.uptoBulk d ≤ Rows.uptoBulkAll l
  | [], h => by cases h
  | x :: l, h => by
    rcases List.mem_cons.1 h with rfl | h
    · simp [Rows.uptoBulkAll]
    · have := bulk_mem h; simp only [Rows.uptoBulkAll]; omega
theorem bulk_pos {H : Type} (d : DataW H) : 1 ≤ Rows.uptoBulk d := by
  cases d with
  | lit l => cases l <;> simp [Rows.uptoBulk]
  | _ => simp [Rows.uptoBulk]
theorem bulk_len {H : Type} : ∀ (l : List (DataW H)), l.length ≤ Rows.uptoBulkAll l
  | [] => by simp
  | x :: l => by
    have h1 := bulk_len l
    have h2 := bulk_pos x
    simp only [Rows.uptoBulkAll, List.length_cons]; omega

set_option maxRecDepth 100000 in
theorem open_stp {H : Type} {enc : TypeId × Value → H} {W : World} {n : Nat} {cs : List Value} {d : DataW H} {ps : List MemPlace} (h : DataW.trod enc Tryz.prog W 0 (fun _ => true) true n 34 cs = some (d, ps)) :
    ∃ (y : Stp), (y.text.length + 4 ≤ Rows.uptoBulk d ∧ y.num ≤ 9223372036854775807) ∧ cs = [.int .u8 y.kind, .string ⟨y.text.toArray⟩, .int .i64 y.num] := by
  obtain ⟨y0, y1, y2, k, hx, hl, h0, h1, h2⟩ := trod_struct3 Tryz.underlying34 h
  rw [show Tryz.prog.cellsOf 34 = 3 by kernel_rfl] at hl
  obtain ⟨v0, v1, v2, rfl⟩ : ∃ v0 v1 v2, cs = [v0, v1, v2] := by
    match cs, hl with
    | [v0, v1, v2], _ => exact ⟨v0, v1, v2, rfl⟩
  rw [show Tryz.prog.cellsOf 32 = 1 by kernel_rfl] at h0
  rw [show Tryz.prog.cellsOf 9 = 1 by kernel_rfl] at h1
  rw [show Tryz.prog.cellsOf 2 = 1 by kernel_rfl] at h2
  obtain ⟨n0, e0, x0, w0⟩ := DataW.trod_int Tryz.underlying32 h0
  obtain ⟨s, e1, x1, w1⟩ := DataW.trod_string Tryz.underlying9 h1
  obtain ⟨n2, e2, x2, w2⟩ := DataW.trod_int Tryz.underlying2 h2
  have e0' : v0 = .int .u8 n0 := by simpa using e0
  have e1' : v1 = .string s := by simpa using e1
  have e2' : v2 = .int .i64 n2 := by simpa using e2
  simp only [Lit.wf, Bool.and_eq_true, decide_eq_true_eq] at w0 w2
  have k0 : (0 : Int) ≤ n0 := w0.1
  have k2 : n2 ≤ (9223372036854775807 : Int) := w2.2
  simp only [Prod.mk.injEq] at hx
  refine ⟨⟨n0.toNat, s.data.toList, n2⟩, ⟨?_, k2⟩, ?_⟩
  · rw [hx.1, x0, x1, x2]
    simp only [Rows.uptoBulk, Rows.uptoBulkAll]
    omega
  · rw [e0', e1', e2', Int.toNat_of_nonneg k0]

instance : Inhabited Stp := ⟨⟨0, [], 0⟩⟩

set_option maxRecDepth 100000 in
theorem open_steps' {H : Type} {enc : TypeId × Value → H} {W : World} {fuel : Nat} {v : Value} {d : DataW H} {ps : List MemPlace} (hf : DataW.trod enc Tryz.prog W 0 (fun _ => true) true fuel 22 [v] = some (d, ps)) :
    ∃ (l : List Stp), StpsIn W v l ∧ l.length ≤ Rows.uptoBulk d ∧ ∀ y ∈ l, y.text.length + 4 ≤ Rows.uptoBulk d ∧ y.num ≤ 9223372036854775807 := by
  rcases open_slice Tryz.underlying22 hf with ⟨hc, hx⟩ | ⟨a, len, cap, mm, n, D, Pl, hc, _, hl, hm, hmm, hx, hall⟩
  · simp only [List.cons.injEq, and_true] at hc
    subst hc
    exact ⟨[], ⟨none, 0, 0, rfl, rfl, Nat.le_refl _, fun i hi => absurd hi (Nat.not_lt_zero _)⟩, Nat.zero_le _, by simp⟩
  · simp only [List.cons.injEq, and_true] at hc
    subst hc
    simp only [if_true] at hmm
    subst hmm
    simp only [Prod.mk.injEq] at hx
    obtain ⟨rfl, rfl⟩ := hx
    rw [show Tryz.prog.cellsOf 34 = 3 by kernel_rfl] at hall
    have each : ∀ i, i < len → ∃ y : Stp, (∃ g o, a = ⟨g, o, none⟩ ∧ StpCells W g (o + i * 3) y) ∧ y.text.length + 4 ≤ Rows.uptoBulk (D i) ∧ y.num ≤ 9223372036854775807 := fun i hi => by
      obtain ⟨cs', h1, h2⟩ := hall i (by omega)
      obtain ⟨y, hfit, rfl⟩ := open_stp h2
      obtain ⟨cs0, h01, _⟩ := hall 0 (by omega)
      obtain ⟨_, hl0, hcell0⟩ := World.cells?_some h01
      obtain ⟨_, _, hcell⟩ := World.cells?_some h1
      obtain ⟨g, o, spot⟩ := a
      have hspot : spot = none := by
        have h00 := hcell0 0 (by omega)
        rw [List.getElem?_eq_getElem (by omega)] at h00
        simpa [Addr.add] using World.cell?_spot h00
      subst hspot
      have q0 := hcell 0 (by omega)
      have q1 := hcell 1 (by omega)
      have q2 := hcell 2 (by omega)
      rw [add_add, Addr.add_lit] at q0 q1 q2
      exact ⟨y, ⟨g, o, rfl, q0, q1, q2⟩, hfit⟩
    obtain ⟨f, hf2⟩ := choose_lt each
    have hbd : ∀ i, i < len → Rows.uptoBulk (D i) ≤ Rows.uptoBulkAll ((List.range len).map D) := fun i hi => bulk_mem (List.mem_map.2 ⟨i, List.mem_range.2 hi, rfl⟩)
    have hlen := bulk_len ((List.range len).map D)
    rw [List.length_map, List.length_range] at hlen
    refine ⟨(List.range len).map f, ⟨_, len, _, rfl, by simp, hl, fun i hi => ?_⟩, ?_, fun y hy => ?_⟩
    · have hi' : i < len := by simpa using hi
      obtain ⟨⟨g, o, e, hcl⟩, _⟩ := hf2 i hi'
      refine ⟨g, o, by rw [e], ?_⟩
      simpa using hcl
    · simp only [Rows.uptoBulk, List.length_map, List.length_range]; omega
    · obtain ⟨i, hi, rfl⟩ := List.mem_map.1 hy
      have hi' := List.mem_range.1 hi
      have h1 := (hf2 i hi').2
      have h2 := hbd i hi'
      simp only [Rows.uptoBulk]
      exact ⟨by omega, h1.2⟩
set_option maxRecDepth 100000 in
theorem open_steps {H : Type} {enc : TypeId × Value → H} {W : World} {b0 : Nat} {v : Value} {d : DataW H} {ps : List MemPlace} (hv : Value.okWide Tryz.prog W .any b0 22 v)
    (h : DataW.Trod enc Tryz.prog W 0 (fun _ => true) true 22 v d ps) :
    ∃ (l : List Stp), StpsIn W v l ∧ l.length ≤ Rows.uptoBulk d ∧ ∀ y ∈ l, y.text.length + 4 ≤ Rows.uptoBulk d ∧ y.num ≤ 9223372036854775807 := by
  obtain ⟨a0, n0, c0, rfl⟩ := okWide_slice Tryz.underlying22 hv
  obtain ⟨fuel, hf⟩ := h
  exact open_steps' hf

end Go.Proofs.YtgehjklodphogaaGreatDoor.Pa
