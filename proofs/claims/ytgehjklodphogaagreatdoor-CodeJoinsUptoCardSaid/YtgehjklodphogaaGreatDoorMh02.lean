/- Parts: QbF LxT PdZ. -/
import Derived.Test.YtgehjklodphogaaGreatDoorMh01
import Derived.WalkKit
import Derived.ProofKit
import Derived.OpenShut
import Derived.Deep.DeepHandedRow
import Derived.Deep.DeepWitnessRowRef
import Derived.Carry
import Derived.SevenTiedAt
import Derived.Lay
import Derived.Lib.LaidU8T
import Derived.PinnedBridge
import Derived.MakeChecks
import Derived.Shelf.Vars
import Derived.Test.YtgehjklodphogaaGreatDoorRows
import Derived.Test.YtgehjklodphogaaGreatDoorCards
import Derived.Test.YtgehjklodphogaaGreatDoorTie

/- CodeJoins: the walk. -/
namespace Go.Proofs.YtgehjklodphogaaGreatDoor.Cd
open Go.RowKit Go.Proofs.YtgehjklodphogaaGreatDoor.Lx Go.Proofs.YtgehjklodphogaaGreatDoor.Pa

/-- what Compile hands back, in one form -/
def GaveK (w : World) (l : List Stp) (e : Ending) (w' : World) : Prop := Below w.heap.size w w' ∧ ∃ (v' : Value) (c : Int), e = .returned (.tuple #[v', .int .i64 c]) ∧ (rightB l = true → c = 0 ∧ InsIn w' v' (compileL l)) ∧ (rightB l = false → c = 13)
theorem GaveP.k {w w' : World} {l : List Stp} {e : Ending} (h : GaveP w l e w') : GaveK w l e w' := by
  obtain ⟨hb, h⟩ := h
  refine ⟨hb, ?_⟩
  cases hr : rightB l with
  | true =>
    rw [if_pos hr] at h
    obtain ⟨v', rfl, hp⟩ := h
    exact ⟨v', 0, rfl, fun _ => ⟨rfl, hp⟩, fun h => nomatch h⟩
  | false =>
    rw [if_neg (by rw [hr]; simp)] at h
    exact ⟨_, 13, h, fun h => (nomatch h), fun _ => rfl⟩
theorem StpsIn.ownS {w : World} {base n g c : Nat} {l : List Stp} (h : w.ownsRow base 34 3 (.slice (some ⟨g, 0, none⟩) n c) n (stpsC l)) (hn : n = l.length) : StpsIn w (.slice (some ⟨g, 0, none⟩) n c) l := StpsIn.own h hn

theorem one_ins2 (W : World) (o : Obj) (x : Ins) (i : Nat) (hi : i < [x].length) : InsCells ((W.alloc o).alloc (.cells #[.int .u8 x.op, .int .u8 x.st.kind, .string ⟨x.st.text.toArray⟩, .int .i64 x.st.num, .int .i64 x.to] 36)) (W.heap.size + 1) (0 + i * 5) [x][i] := by
  have h := one_ins (W.alloc o) x i hi
  rw [show (W.alloc o).heap.size = W.heap.size + 1 by simp] at h
  exact h
theorem stack_to : ∀ (r : List Stp) {stk : List (List Ins)} {n m : Nat} {l : List Stp}, StkOk stk n l → rightL r n = some m → (∀ p ∈ stk, ToOk p) → ∀ p ∈ r.foldl stepC stk, ToOk p
  | [], _, _, _, _, _, _, h => h
  | s :: r, stk, n, m, l, ho, hr, h => by
    rw [rightL] at hr
    cases ht : takes s with
    | none => rw [ht] at hr; cases hr
    | some k =>
      rw [ht] at hr
      simp only at hr
      split at hr
      · cases hr
      · rename_i hk
        refine stack_to r (ho.step ht (by omega)) hr ?_
        intro p hp
        unfold stepC takesN at hp
        rw [ht, Option.getD_some] at hp
        rcases List.mem_append.1 hp with hp | hp
        · exact h p (List.mem_of_mem_take hp)
        · rw [List.mem_singleton.1 hp]
          have := ho.len
          exact ToOk.part ht (by rw [List.length_drop]; omega) fun q hq => h q (List.mem_of_mem_drop hq)
theorem compile_to {l : List Stp} (h : rightB l = true) : ToOk (compileL l) := by
  have := stack_to l StkOk.nil ((right_iff l).1 h).1 (fun _ h => nomatch h)
  rw [(compile_stack h).1] at this
  exact this _ (by simp)

set_option maxHeartbeats 4000000 in
set_option maxRecDepth 100000 in
theorem CodeJoins_calls (w : World) (va vb : Value) (a b : List Stp) (ha : CdArgs w va a) (hb : CdArgs w vb b) (hab : a.length + b.length + 1 ≤ 1048576) :
    Calls Tryz.prog 5 #[va, vb] w fun e w' => e = .returned (.bool true) ∧ Below w.heap.size w w' := by
  have HA := Lib.hid ha
  have HB := Lib.hid hb
  obtain ⟨aa, na, ca, rfl, hna, -⟩ := id ha.hv
  obtain ⟨ab, nb, cb, rfl, hnb, -⟩ := id hb.hv
  have Hlv := Lib.hid (lives_calls w ha.he)
  have hla := ha.hl
  have hlb := hb.hl
  have Hna := Lib.hid hna
  have Hnb := Lib.hid hnb
  clear ha hb
  go_enter Tryz.func5, Tryz.ntmps5
  go_wp2_with fail
  refine Hlv.out.mono ?_
  rintro e w1 ⟨rfl, hb1⟩
  have Hb1 := Lib.hid hb1
  clear hb1
  go_wp2_with fail
  refine ((HA.out.below Hb1.out).compile.mono fun _ _ h => h.k).mono ?_
  rintro e w2 ⟨hb2, v2, c2, rfl, ha1, ha2⟩
  have Hb2 := Lib.hid (stepB Hb1.out hb2)
  have Ha1 := Lib.hid ha1
  have Ha2 := Lib.hid ha2
  clear hb2 ha1 ha2
  go_wp2_with fail
  refine ((HB.out.below Hb2.out).compile.mono fun _ _ h => h.k).mono ?_
  rintro e w3 ⟨hb3, v3, c3, rfl, hb1', hb2'⟩
  have Hb3 := Lib.hid (stepB Hb2.out hb3)
  have Hb23 := Lib.hid hb3
  have Hbb1 := Lib.hid hb1'
  have Hbb2 := Lib.hid hb2'
  clear hb3 hb1' hb2'
  go_wp2_with (first
    | (at_builtin; refine wp_appS rfl _ _ rfl w3.heap.size _ 0 0 [] rfl (own0S w3) _ a rfl ((HA.out.below Hb3.out).hv.below (allocB w3 _)) na Hna.out (by omega) (by simp) ?_; intro ga cga Wa hoA hbA; simp only [Nat.zero_add, List.nil_append] at hoA; have HoA := Lib.hid hoA; have HbA := Lib.hid ((allocB w3 _).trans hbA); clear hoA hbA)
    | (at_builtin; refine wp_appS rfl _ _ rfl w3.heap.size _ na _ a rfl HoA.out _ b rfl ((HB.out.below Hb3.out).hv.below HbA.out) nb Hnb.out (by omega) HbA.out.size ?_; intro gb cgb Wb hoB hbB; have HoB := Lib.hid hoB; have HbB := Lib.hid (HbA.out.trans hbB); clear hoB hbB)
    | (at_builtin; refine wp_appS rfl _ _ rfl w3.heap.size _ (na + nb) _ (a ++ b) rfl (HoB.out.alloc _) _ [equalS] rfl (one_step Wb equalS) 1 rfl (by omega) (by have := HbB.out.size; simp; omega) ?_; intro gc cgc Wc hoC hbC; have HoC := Lib.hid hoC; have HbC := Lib.hid ((HbB.out.trans ((allocB Wb _).mono HbB.out.size)).trans hbC); clear hoC hbC))
  have Hbw := Lib.hid (stepB Hb3.out HbC.out)
  have Hboth := Lib.hid (show CdArgs Wc (.slice (some ⟨gc, 0, none⟩) (na + nb + 1) cgc) ((a ++ b) ++ [equalS]) from
    ⟨StpsIn.own HoC.out (by simp only [List.length_append, List.length_singleton, Hna.out, Hnb.out]), by simp only [List.length_append, List.length_singleton]; omega, fun y hy => by
      rcases List.mem_append.1 hy with hy | hy
      · rcases List.mem_append.1 hy with hy | hy
        · exact HA.out.ht y hy
        · exact HB.out.ht y hy
      · rw [List.mem_singleton] at hy; subst hy; exact Nat.zero_le _, fun y hy => by
      rcases List.mem_append.1 hy with hy | hy
      · rcases List.mem_append.1 hy with hy | hy
        · exact HA.out.hn y hy
        · exact HB.out.hn y hy
      · rw [List.mem_singleton] at hy; subst hy; simp, HA.out.he.below Hbw.out⟩)
  refine (Hboth.out.compile.mono fun _ _ h => h.k).mono ?_
  rintro e w5 ⟨hb5, v5, c5, rfl, hc1, hc2⟩
  have Hb5 := Lib.hid (stepB Hbw.out hb5)
  have Hb35 := Lib.hid (stepB HbC.out hb5)
  have Hb25 := Lib.hid (stepB Hb23.out Hb35.out)
  have Hc1 := Lib.hid hc1
  have Hc2 := Lib.hid hc2
  clear hb5 hc1 hc2
  cases hra : rightB a with
  | false =>
    obtain rfl := Ha2.out hra
    go_wp2_with fail
    go_ret
    exact ⟨rfl, Hb5.out⟩
  | true =>
    obtain ⟨rfl, hpa⟩ := Ha1.out hra
    cases hrb : rightB b with
    | false =>
      obtain rfl := Hbb2.out hrb
      clear hpa
      go_wp2_with fail
      go_ret
      exact ⟨rfl, Hb5.out⟩
    | true =>
      obtain ⟨rfl, hpb⟩ := Hbb1.out hrb
      have hj := joins_right hra hrb
      cases hrc : rightB ((a ++ b) ++ [equalS]) with
      | false =>
        obtain rfl := Hc2.out hrc
        rw [hrc] at hj
        have hgt : (128 : Int) < (na : Int) + nb + 1 := by
          have := of_decide_eq_false hj.symm
          simp only [List.length_append, List.length_singleton, Hna.out, Hnb.out] at this
          omega
        clear hpa hpb hj
        go_wp2_with fail
        go_ret
        exact ⟨rfl, Hb5.out⟩
      | true =>
        obtain ⟨rfl, hpc⟩ := Hc1.out hrc
        have hJ := joins_law hra hrb
        have hla2 := (compile_len hra).1
        have hlb2 := (compile_len hrb).1
        have hga := logic_le a
        have hgb := logic_le b
        have hza := ((right_iff a).1 hra).2
        have hzb := ((right_iff b).1 hrb).2
        have hzc := ((right_iff _).1 hrc).2
        have hlc2 := (compile_len hrc).1
        have hgc := logic_le ((a ++ b) ++ [equalS])
        have hpp := right_pos hra
        have hlc3 : (compileL ((a ++ b) ++ [equalS])).length ≤ 256 := by omega
        have hta : ∀ x ∈ compileL a, x.to ≤ 256 := fun x hx => by
          have hst := (compile_stack hra)
          have := (compile_to hra) x hx
          omega
        have htb : ∀ x ∈ compileL b, x.to ≤ 256 := fun x hx => by
          have := (compile_to hrb) x hx
          omega
        generalize compileL ((a ++ b) ++ [equalS]) = r at *
        generalize compileL a = p at *
        generalize compileL b = q at *
        have hpa5 := hpa.below Hb25.out
        have hpb5 := hpb.below Hb35.out
        obtain ⟨ap, np, cp, rfl, hlp, hcp, hjp⟩ := id hpa5
        obtain ⟨aq, nq, cq, rfl, hlq, hcq, hjq⟩ := id hpb5
        obtain ⟨gp, op, rfl, -⟩ := hjp 0 (by omega)
        have HpC := Lib.hid (show ∀ W, Below w5.heap.size w5 W → ∀ (ii : Nat) (hi : ii < p.length), InsCells W gp (op + ii * 5) p[ii] from fun W hb ii hi => by
          obtain ⟨g', o', e', hcl⟩ := hjp ii hi
          simp only [Option.some.injEq, Addr.mk.injEq, and_true] at e'
          obtain ⟨rfl, rfl⟩ := e'
          exact hcl.below hb)
        have Hlp := Lib.hid hlp
        have Hlq := Lib.hid hlq
        have Hjq := Lib.hid hjq
        have Htb := Lib.hid htb
        have HJ := Lib.hid hJ
        have Hpc := Lib.hid hpc
        have Hr := Lib.hid hlc3
        have hnp : np ≤ 256 := by omega
        have hnq : nq ≤ 256 := by omega
        have hnp1 : 1 ≤ np := by omega
        clear hpa hpb hpa5 hpb5 hjp hjq hta htb hJ hlp hlq hpc hlc3 hla2 hlb2 hga hgb hza hzb hzc hlc2 hgc hj
        go_wp2_with (first | (at_builtin; refine wp_appI rfl _ _ rfl w5.heap.size _ 0 [] rfl (own0I w5) gp op np cp p rfl Hlp.out (fun ii hi => HpC.out _ (allocB _ _) ii hi) (by omega) (by omega) (by simp) ?_; intro g6 c6 w6 hoA hbA; simp only [Nat.zero_add, List.nil_append] at hoA; have HoA := Lib.hid hoA; have Hb6 := Lib.hid ((allocB w5 _).trans hbA); clear hoA hbA))
        go_loopw [12, 66] (fun s12 i wr => ∃ (k g7 c7 : Nat), k ≤ nq ∧ i = .int .i64 k ∧ s12 = .slice (some ⟨g7, 0, none⟩) (np + k) c7 ∧ Hid (wr.ownsRow w5.heap.size 36 5 (.slice (some ⟨g7, 0, none⟩) (np + k) c7) (np + k) (insC (p ++ (q.take k).map (shift np))) ∧ Below w5.heap.size w5 wr)) (fun _ i _ => nq - (intOf i).toNat)
        case atStart => exact ⟨0, g6, c6, Nat.zero_le _, rfl, rfl, by rw [List.take_zero, List.map_nil, List.append_nil]; exact HoA.out, Hb6.out⟩
        case round =>
          obtain ⟨k, g7, c7, hk, rfl, rfl, hst⟩ := hrel
          have Hst := Lib.hid hst.out
          by_cases hlt : k < nq
          · have hkl : k < q.length := by rw [Hlq.out]; exact hlt
            obtain ⟨gq, oq, rfl, hcl⟩ := Hjq.out k hkl
            have hgw : gq < wr.heap.size := Nat.lt_of_lt_of_le hcl.lt hst.out.2.size
            obtain ⟨q0, q1, q2, q3, q4⟩ := hcl.below hst.out.2
            have htx := Htb.out _ (List.getElem_mem hkl)
            have Hsn := Lib.hid (show (q.take (k + 1)).map (shift np) = (q.take k).map (shift np) ++ [shift np q[k]] by rw [List.take_succ_eq_append_getElem hkl, List.map_append]; rfl)
            generalize q[k] = x at *
            · by_cases hx : 0 < x.to
              · have Hsh := Lib.hid (show shift np x = ⟨x.op, x.st, (x.to + np)⟩ by unfold shift; rw [if_pos hx])
                have HoX := Lib.hid ((hst.out.1.alloc (.cells #[.int .u8 x.op, .int .u8 x.st.kind, .string ⟨x.st.text.toArray⟩, .int .i64 x.st.num, .int .i64 (x.to + np)] 36)).alloc (.cells #[.int .u8 x.op, .int .u8 x.st.kind, .string ⟨x.st.text.toArray⟩, .int .i64 x.st.num, .int .i64 (x.to + np)] 36))
                have HbX := Lib.hid (stepB hst.out.2 (stepB (allocB wr (.cells #[.int .u8 x.op, .int .u8 x.st.kind, .string ⟨x.st.text.toArray⟩, .int .i64 x.st.num, .int .i64 (x.to + np)] 36)) (allocB (wr.alloc (.cells #[.int .u8 x.op, .int .u8 x.st.kind, .string ⟨x.st.text.toArray⟩, .int .i64 x.st.num, .int .i64 (x.to + np)] 36)) (.cells #[.int .u8 x.op, .int .u8 x.st.kind, .string ⟨x.st.text.toArray⟩, .int .i64 x.st.num, .int .i64 (x.to + np)] 36))))
                have Hn1 := Lib.hid (one_ins2 wr (.cells #[.int .u8 x.op, .int .u8 x.st.kind, .string ⟨x.st.text.toArray⟩, .int .i64 x.st.num, .int .i64 (x.to + np)] 36) ⟨x.op, x.st, (x.to + np)⟩)
                clear hst hcl
                go_wp2_with (at_builtin; refine wp_appI rfl _ _ rfl w5.heap.size _ (np + k) (p ++ (q.take k).map (shift np)) rfl HoX.out (wr.heap.size + 1) 0 1 1 [⟨x.op, x.st, (x.to + np)⟩] rfl rfl (fun ii hi => Hn1.out ii hi) (by omega) (by omega) HbX.out.size ?_; intro g7 c7 w7 ho7 hb7; have Ho7 := Lib.hid ho7; have Hb7 := Lib.hid (HbX.out.trans hb7); clear ho7 hb7)
                go_roundw
                case rel => exact ⟨k + 1, _, _, by omega, by go_num, rfl, by rw [Hsn.out, Hsh.out, ← List.append_assoc]; exact Ho7.out, Hb7.out⟩
                case measure => simp [intOf]; omega
              · have Hsh := Lib.hid (show shift np x = ⟨x.op, x.st, x.to⟩ by unfold shift; rw [if_neg hx])
                have HoX := Lib.hid ((hst.out.1.alloc (.cells #[.int .u8 x.op, .int .u8 x.st.kind, .string ⟨x.st.text.toArray⟩, .int .i64 x.st.num, .int .i64 x.to] 36)).alloc (.cells #[.int .u8 x.op, .int .u8 x.st.kind, .string ⟨x.st.text.toArray⟩, .int .i64 x.st.num, .int .i64 x.to] 36))
                have HbX := Lib.hid (stepB hst.out.2 (stepB (allocB wr (.cells #[.int .u8 x.op, .int .u8 x.st.kind, .string ⟨x.st.text.toArray⟩, .int .i64 x.st.num, .int .i64 x.to] 36)) (allocB (wr.alloc (.cells #[.int .u8 x.op, .int .u8 x.st.kind, .string ⟨x.st.text.toArray⟩, .int .i64 x.st.num, .int .i64 x.to] 36)) (.cells #[.int .u8 x.op, .int .u8 x.st.kind, .string ⟨x.st.text.toArray⟩, .int .i64 x.st.num, .int .i64 x.to] 36))))
                have Hn1 := Lib.hid (one_ins2 wr (.cells #[.int .u8 x.op, .int .u8 x.st.kind, .string ⟨x.st.text.toArray⟩, .int .i64 x.st.num, .int .i64 x.to] 36) ⟨x.op, x.st, x.to⟩)
                clear hst hcl
                go_wp2_with (at_builtin; refine wp_appI rfl _ _ rfl w5.heap.size _ (np + k) (p ++ (q.take k).map (shift np)) rfl HoX.out (wr.heap.size + 1) 0 1 1 [⟨x.op, x.st, x.to⟩] rfl rfl (fun ii hi => Hn1.out ii hi) (by omega) (by omega) HbX.out.size ?_; intro g7 c7 w7 ho7 hb7; have Ho7 := Lib.hid ho7; have Hb7 := Lib.hid (HbX.out.trans hb7); clear ho7 hb7)
                go_roundw
                case rel => exact ⟨k + 1, _, _, by omega, by go_num, rfl, by rw [Hsn.out, Hsh.out, ← List.append_assoc]; exact Ho7.out, Hb7.out⟩
                case measure => simp [intOf]; omega
          · have hkn : k = nq := by omega
            subst hkn
            have hq : q.take k = q := by rw [List.take_of_length_le]; rw [Hlq.out]; exact Nat.le_refl _
            have ho := hst.out.1
            rw [hq] at ho
            have HoX := Lib.hid (ho.alloc (.cells #[.int .u8 1, .int .u8 15, .string ⟨#[]⟩, .int .i64 0, .int .i64 0] 36))
            have HbX := Lib.hid (stepB hst.out.2 (allocB wr (.cells #[.int .u8 1, .int .u8 15, .string ⟨#[]⟩, .int .i64 0, .int .i64 0] 36)))
            clear hst ho hq
            go_wp2_with (at_builtin; refine wp_appI rfl _ _ rfl w5.heap.size _ (np + k) (p ++ q.map (shift np)) rfl HoX.out wr.heap.size 0 1 1 [⟨1, equalS, 0⟩] rfl rfl (fun ii hi => one_ins wr ⟨1, equalS, 0⟩ ii hi) (by omega) (by omega) HbX.out.size ?_; intro g8 c8 w8 ho8 hb8; have Ho8 := Lib.hid ho8; have Hb8 := Lib.hid (HbX.out.trans hb8); clear ho8 hb8)
            have Hsame := Lib.hid (Same_calls w8 v5 _ r ((p ++ q.map (shift np)) ++ [⟨1, equalS, 0⟩]) (Hpc.out.below Hb8.out) (InsIn.own Ho8.out (by simp only [List.length_append, List.length_map, List.length_singleton, Hlp.out, Hlq.out])) (by have := Hr.out; omega))
            refine Hsame.out.mono ?_
            rintro e w9 ⟨rfl, hb9⟩
            have Hb9 := Lib.hid (stepB (stepB Hb5.out Hb8.out) hb9)
            clear hb9
            rw [show decide (r = (p ++ q.map (shift np)) ++ [⟨1, equalS, 0⟩]) = true from decide_eq_true (by rw [HJ.out, Hlp.out])]
            go_wp2_with fail
            go_ret
            exact ⟨rfl, Hb9.out⟩

end Go.Proofs.YtgehjklodphogaaGreatDoor.Cd

/- The frame of a law: a call that answers true and turns nothing old meets the row's post. Nothing here speaks of the program. -/
namespace Go.Proofs.YtgehjklodphogaaGreatDoor.Lx
open Go.RowKit Go.ChangeShapes

theorem stay_all {H : Type} {enc : TypeId × Value → H} {P : Program} (hl : laidOutB P = true) {W W' : World} (hb : Below W.heap.size W W') :
    ∀ {ts : List TypeId} {vs : List Value} {ds : List (DataW H)} {ps : List MemPlace}, ts.all (fun t => P.readableRec t && decide (t < P.types.size)) = true →
      DataW.TrodAll enc P W 0 (fun _ => true) true ts vs ds ps → (∀ x ∈ ps, x.block < W.heap.size) → DataW.TrodAll enc P W' 0 (fun b => decide (b < W.heap.size)) true ts vs ds ps
  | [], _, _, _, _, h, _ => by
    obtain ⟨rfl, rfl, rfl⟩ := trodAll_nil h
    exact rfl
  | t :: ts, _, _, _, ht, h, hlt => by
    obtain ⟨v, vs, d, ds, p, q, rfl, rfl, rfl, h0, hr⟩ := trodAll_cons h
    simp only [List.all_cons, Bool.and_eq_true, decide_eq_true_eq] at ht
    exact ⟨p, q, Below.trod hl ht.1.1 ht.1.2 h0 hb fun x hx => hlt x (by simp [hx]), stay_all hl hb (by simpa using ht.2) hr fun x hx => hlt x (by simp [hx]), rfl⟩

theorem law_post {H : Type} {enc : TypeId × Value → H} {P : Program} {fn : Func} {s : ChangeSpec} {tb : TypeId} {W W' : World} {args : Array Value} {ds gs : List (DataW H)} {before : List MemPlace}
    (hl : laidOutB P = true) (hts : fn.params.toList.all (fun t => P.readableRec t && decide (t < P.types.size)) = true) (hr : fn.resultTypes = #[tb]) (hb : P.underlying tb = some .bool) (hv : s.vars = [])
    (hW : DataW.Whole enc P fn.params.toList s.vars false W args.toList ds gs before) (hfn : s.fn H (ds ++ gs) = { results := [.lit (.bool true)], args := ds }) (bel : Below W.heap.size W W') :
    s.post enc P fn false true false false W args (.bool true) W' := by
  have hW' := hW
  have hlt := hW.lt
  obtain ⟨p, q, hA, hV, rfl, _, _⟩ := hW
  rw [hv] at hV
  obtain ⟨rfl, rfl⟩ := trodVars_none hV
  refine ⟨ds, [], p ++ [], [], p, [], hW', ?_, ?_, ?_, bel.frame _, fun h => by cases h⟩
  · rw [hfn, hr]; exact trodAll_mk1 (shut_bool hb _)
  · rw [hfn]; exact stay_all hl bel hts hA fun x hx => hlt x (by simpa using hx)
  · rw [hfn, hv]; rfl
theorem law_calls {H : Type} {enc : TypeId × Value → H} {P : Program} {fid : FuncId} {fn : Func} {s : ChangeSpec} {tb : TypeId} {W : World} {args : Array Value} {ds gs : List (DataW H)} {before : List MemPlace}
    (hl : laidOutB P = true) (hts : fn.params.toList.all (fun t => P.readableRec t && decide (t < P.types.size)) = true) (hr : fn.resultTypes = #[tb]) (hb : P.underlying tb = some .bool) (hv : s.vars = [])
    (hW : DataW.Whole enc P fn.params.toList s.vars false W args.toList ds gs before) (hfn : s.fn H (ds ++ gs) = { results := [.lit (.bool true)], args := ds })
    (walk : Calls P fid args W fun e W' => e = .returned (.bool true) ∧ Below W.heap.size W W') :
    Calls P fid args W fun e W' => ∃ v, e = .returned v ∧ s.post enc P fn false true false false W args v W' :=
  walk.mono fun _ _ ⟨he, hbel⟩ => ⟨_, he, law_post hl hts hr hb hv hW hfn hbel⟩

/-- a listed error variable holds an interface value -/
theorem iface_of_reads {P : Program} {W : World} {name : String} {g : Nat} {t : TypeId} {ms : Array (String × TypeId)} {d : DataW Unit} {tn : String}
    (hg : P.globalNamed name = some g) (hty : (P.globals[g]?).map (·.type) = some t) (ht : P.underlying t = some (.interface ms)) (h : Go.Lib.VarReads P W name (.iface tn d)) :
    ∃ ev, W.cell? ⟨g, 0, none⟩ = some ev ∧ (ev = .nilIface ∨ ∃ te pe, ev = .iface te pe) := by
  obtain ⟨g', t', cs, fuel, p, hg', hty', hvar, hd⟩ := h
  obtain rfl := Option.some.inj (hg.symm.trans hg')
  obtain rfl := Option.some.inj (hty.symm.trans hty')
  have hc := World.var?_cell hg hvar 0
  cases fuel with
  | zero => simp [DataW.trod] at hd
  | succ fuel =>
    unfold DataW.trod at hd
    simp only [ht] at hd
    split at hd <;> try (first | (rename_i e1 e2; cases e1; done) | (rename_i e1; cases e1; done))
    all_goals first
      | (simp at hd; done)
      | (rename_i u v hcs; exact ⟨_, by rw [hc, ← Array.getElem?_toList, hcs]; rfl, .inr ⟨_, _, rfl⟩⟩)
      | skip
theorem cell_lt {W : World} {g c : Nat} {v : Value} (h : W.cell? ⟨g, c, none⟩ = some v) : g < W.heap.size := World.block_lt_of_cell? _ _ h

end Go.Proofs.YtgehjklodphogaaGreatDoor.Lx

/- What a row's listed variables give the walks; a start for the witness. -/
namespace Go.Proofs.YtgehjklodphogaaGreatDoor.Lx
open Go.RowKit Go.ChangeShapes

theorem own : ownKnob Tryz.prog.godebug = none := by kernel_rfl
theorem laidOut : laidOutB Tryz.prog = true := by kernel_rfl
theorem gSyn : Tryz.prog.globalNamed "strconv.ErrSyntax" = some 5 := by kernel_rfl
theorem gRng : Tryz.prog.globalNamed "strconv.ErrRange" = some 6 := by kernel_rfl

/-- the rows' list -/
abbrev laidL := Rows.parseWritesRow.laid

theorem env_of {W : World} (hL : laidMetH Tryz.prog laidL W) (hS : W.ShapedOpen Tryz.prog) : Env W := by
  rw [MakeChecks.laidMetH_plain _ _ _ (by kernel_rfl)] at hL
  have r2 := Lib.laidMet.reads hL (.tail _ (.tail _ (.head _)))
  have r3 := Lib.laidMet.reads hL (.tail _ (.tail _ (.tail _ (.head _))))
  have r4 := Lib.laidMet.reads hL (.tail _ (.tail _ (.tail _ (.tail _ (.head _)))))
  have r5 := Lib.laidMet.reads hL (.tail _ (.tail _ (.tail _ (.tail _ (.tail _ (.head _))))))
  have r6 := Lib.laidMet.reads hL (.tail _ (.tail _ (.tail _ (.tail _ (.tail _ (.tail _ (.head _)))))))
  have syn := iface_of_reads gSyn (t := 130) (by kernel_rfl) Tryz.underlying130 r5
  have rng := iface_of_reads gRng (t := 130) (by kernel_rfl) Tryz.underlying130 r4
  have max : ∃ m, W.cell? ⟨4, 0, none⟩ = some (.int .i64 m) :=
    cell_of_shapedOpen_int (zero := #[.int .i64 0]) (t := 3) hS (of_decide_eq_true (by kernel_rfl)) (by kernel_rfl) rfl (by kernel_rfl) (by kernel_rfl) Tryz.underlying3
  have pow : Lib.TabIs Tryz.prog W "internal/strconv.uint64pow10" .u64 Lib.pow10Tab := by
    obtain ⟨g, t, cs, fuel, p, hg, hty, hvar, hd⟩ := r2
    obtain rfl := Option.some.inj (gPow.symm.trans hg)
    obtain rfl := Option.some.inj ((show (Tryz.prog.globals[3]?).map (·.type) = some 208 by kernel_rfl).symm.trans hty)
    unfold Lib.TabIs
    rw [hvar, ← Lib.cells_of_tab (zs := Lib.pow10Tab) Tryz.underlying208 Tryz.underlying113 (by kernel_rfl) (by kernel_rfl) hd]
  have utf : Lib.Utf8Tabs 0 1 W :=
    utf8Tabs_of_readsT (U8Types.of196 Tryz.laysValid) ⟨by kernel_rfl, by kernel_rfl, by kernel_rfl, by kernel_rfl, by kernel_rfl, by kernel_rfl, by kernel_rfl⟩ (by have := r6; rw [show Rows.laid_unicode_utf8_first = Lib.firstData from Pinned.utf8First_eq] at this; exact this) r3
  have hp := World.var?_cell gPow pow 0
  exact {
    syn := syn, rng := rng, max := max, pow := pow, utf := utf
    ltS := let ⟨_, h, _⟩ := syn; cell_lt h
    ltR := let ⟨_, h, _⟩ := rng; cell_lt h
    ltM := let ⟨_, h⟩ := max; cell_lt h
    ltP := cell_lt (hp.trans (by rfl))
    ltF := cell_lt (utf.1 0 (by decide))
    ltA := cell_lt (utf.2 0 (by decide)).1 }

/-- a start for the witness -/
theorem laid_met (os : Os) (args : Array Value) : laidMetH Tryz.prog laidL ((World.laidAll Tryz.prog os laidL).forCall (fun _ _ => 0) ⟨#[], args, []⟩).memory := by
  rw [MakeChecks.laidMetH_plain _ _ _ (by kernel_rfl)]
  exact laidMet_laidAll _ (by kernel_rfl) (by kernel_rfl)

theorem bulk_string {H : Type} (bytes : List UInt8) : Rows.uptoBulk (DataW.lit (H := H) (.string bytes)) = bytes.length + 1 := by
  simp [Rows.uptoBulk]
theorem bulk_le {H : Type} {l : List (DataW H)} (hk : Rows.uptoSmall H l = true) : Rows.uptoBulkAll l ≤ 1048576 := by
  simpa [Rows.uptoSmall] using hk

end Go.Proofs.YtgehjklodphogaaGreatDoor.Lx
