/- Parts: QaN QaO QaB. -/
import Derived.Test.YtgehjklodphogaaGreatDoorMg10

/- code: joined. -/
namespace Go.Proofs.YtgehjklodphogaaGreatDoor.Cd
open Go.RowKit Go.Proofs.YtgehjklodphogaaGreatDoor.Lx Go.Proofs.YtgehjklodphogaaGreatDoor.Pa

/-- what is put together so far -/
structure JnSt (w wr : World) (v : Value) (out : List Ins) : Prop where
  bel : Below w.heap.size w wr
  own : wr.ownsRow w.heap.size 36 5 v out.length (insC out)
theorem JnSt.step {w wr w' : World} {v : Value} {out : List Ins} (h : JnSt w wr v out) (hb : Below wr.heap.size wr w') : JnSt w w' v out :=
  ⟨stepH h.bel hb, ownSame h.own fun g _ hg => hb.block g hg⟩
theorem JnSt.more {w wr w' : World} {v v' : Value} {out : List Ins} {x : Ins} {n : Nat} {cs : List Value} (h : JnSt w wr v out) (hown : w'.ownsRow w.heap.size 36 5 v' n cs) (hg : wr.grownBy w' v.ownBlock)
    (hn : n = out.length + 1) (hc : cs = insC out ++ x.cells) : JnSt w w' v' (out ++ [x]) :=
  ⟨h.bel.grown hg h.bel.size fun b hb => (World.ownsRow.lt h.own b hb).1, by rw [insC_snoc, ← hc, List.length_append, List.length_singleton, ← hn]; exact hown⟩
theorem join_take (ps : List (List Ins)) (k : Nat) (h : k < ps.length) : joinI (ps.take (k + 1)) = joinOne (joinI (ps.take k)) ps[k] := by
  unfold joinI
  rw [List.take_succ_eq_append_getElem h, List.foldl_append]
  rfl
theorem total_take (ps : List (List Ins)) (k : Nat) (h : k < ps.length) : (joinI (ps.take k)).length + ps[k].length ≤ total ps := by
  rw [joinI_length]
  have h1 : total ps = total (ps.take (k + 1)) + total (ps.drop (k + 1)) := by rw [← total_app, List.take_append_drop]
  have h2 : total (ps.take (k + 1)) = total (ps.take k) + ps[k].length := by
    rw [List.take_succ_eq_append_getElem h, total_app]
    simp [total]
  unfold total at h1 h2 ⊢
  omega

theorem news1 (w : World) (cs : Array Value) {T : TypeId} {o : Obj} : ∀ (j : Nat) (u : Value), cs.toList[j]? = some u → ((w.alloc o).alloc (.cells cs T)).cell? ((⟨w.heap.size + 1, 0, none⟩ : Addr).add j) = some u := by
  have h := World.news_of_block (cs := cs) (t := T) (fr := (0, 0)) (heap_alloc_new (w.alloc o) (.cells cs T))
  have es : (w.alloc o).heap.size = w.heap.size + 1 := by simp
  rw [es] at h
  exact h

set_option maxHeartbeats 2000000 in
set_option maxRecDepth 100000 in
theorem joined_calls (w : World) (v : Value) (ps : List (List Ins)) (h : ProgsIn w v ps) (hn : ps.length ≤ 1000000) (hlen : total ps ≤ 1000000) (hto : ∀ p ∈ ps, ∀ x ∈ p, x.to ≤ 1000000) :
    Calls Tryz.prog 39 #[v] w fun e w' => ∃ v', e = .returned v' ∧ JnSt w w' v' (joinI ps) := by
  obtain ⟨a, n, c, rfl, hln, hnc, hj⟩ := h
  have Hln := Lib.hid hln
  have Hj := Lib.hid hj
  have Hlen := Lib.hid hlen
  have Hto := Lib.hid hto
  have hn2 : n ≤ 1000000 := by omega
  obtain ⟨i0, hi0, hz0, hz1, hz2⟩ := info_parts insInfo
  have Hi0 := Lib.hid hi0
  have Hz0 := Lib.hid hz0
  have Hz1 := Lib.hid hz1
  have Hz2 := Lib.hid hz2
  clear hi0 hz0 hz1 hz2 hln hj hlen hto hn
  go_enter Tryz.func39, Tryz.ntmps39
  go_wp2_with fail
  go_loopw [3, 11] (fun s3 i wr => ∃ (k m c3 : Nat) (b3 : Option Addr), k ≤ n ∧ i = .int .i64 k ∧ s3 = .slice b3 m c3 ∧ (joinI (ps.take k)).length = m ∧ Hid (JnSt w wr (.slice b3 m c3) (joinI (ps.take k)))) (fun _ i _ => n - (intOf i).toNat)
  case atStart => exact ⟨0, 0, 0, none, Nat.zero_le _, rfl, rfl, rfl, ⟨Below.refl _ _, World.ownsRow_nil _ _ _ _⟩⟩
  case round =>
    obtain ⟨k, m, c3, b3, hk, rfl, rfl, hm, hst⟩ := hrel
    have Hst := Lib.hid hst.out
    by_cases hlt : k < n
    · have hkl : k < ps.length := by rw [Hln.out]; exact hlt
      obtain ⟨g, o, ve, rfl, q0, hin⟩ := Hj.out k hkl
      have q0 := (hst.out.bel.cell (p := ⟨g, o + k, none⟩) (World.block_lt_of_cell? _ _ q0)).trans q0
      have hin := hin
      have Hjt := Lib.hid (join_take ps k hkl)
      have htt := Nat.le_trans (total_take ps k hkl) Hlen.out
      rw [hm] at htt
      have hto := Hto.out _ (List.getElem_mem hkl)
      generalize ps[k] = p at *
      obtain ⟨a5, n5, c5, rfl, hl5, hc5, hj5⟩ := hin
      have Hl5 := Lib.hid hl5
      have Hj5 := Lib.hid hj5
      have Hto5 := Lib.hid hto
      have Hm := Lib.hid hm
      rw [hl5] at htt
      clear hst hl5 hj5 hto hm
      go_wp2_with fail
      go_loopw [3, 19] (fun s3 i w2 => ∃ (j m3 c3 : Nat) (b3 : Option Addr), j ≤ n5 ∧ i = .int .i64 j ∧ s3 = .slice b3 m3 c3 ∧ m3 = m + j ∧ Hid (JnSt w w2 (.slice b3 m3 c3) (joinI (ps.take k) ++ (p.take j).map (shift m)))) (fun _ i _ => n5 - (intOf i).toNat)
      case atStart => exact ⟨0, m, c3, b3, Nat.zero_le _, rfl, rfl, rfl, by rw [List.take_zero, List.map_nil, List.append_nil]; exact Hst⟩
      case round =>
        obtain ⟨j, m3, c3, b3, hjn, rfl, rfl, rfl, hst⟩ := hrel
        have Hst := Lib.hid hst.out
        by_cases hlt5 : j < n5
        · have hjl : j < p.length := by rw [Hl5.out]; exact hlt5
          obtain ⟨g5, o5, rfl, hcl⟩ := Hj5.out j hjl
          have hgw : g5 < wr.heap.size := Nat.lt_of_lt_of_le hcl.lt hst.out.bel.size
          obtain ⟨q0, q1, q2, q3, q4⟩ := hcl.below hst.out.bel
          have htx := Hto5.out _ (List.getElem_mem hjl)
          have Hsn := Lib.hid (show (p.take (j + 1)).map (shift m) = (p.take j).map (shift m) ++ [shift m p[j]] by rw [List.take_succ_eq_append_getElem hjl, List.map_append]; rfl)
          have Hlo := Lib.hid (show (joinI (ps.take k) ++ (p.take j).map (shift m)).length = m + j by rw [List.length_append, List.length_map, List.length_take, Hm.out]; omega)
          generalize p[j] = x at *
          generalize hout : joinI (ps.take k) ++ (p.take j).map (shift m) = out at *
          have Hout := Lib.hid hout
          clear hout
          by_cases hx : 0 < x.to
          · have He := Lib.hid (show shift m x = ⟨x.op, x.st, (x.to + m)⟩ by unfold shift; rw [if_pos hx])
            have Hst2 := Lib.hid ((Hst.out.step (allocB wr (.cells #[.int .u8 x.op, .int .u8 x.st.kind, .string ⟨x.st.text.toArray⟩, .int .i64 x.st.num, .int .i64 (x.to + m)] 36))).step (allocB (wr.alloc (.cells #[.int .u8 x.op, .int .u8 x.st.kind, .string ⟨x.st.text.toArray⟩, .int .i64 x.st.num, .int .i64 (x.to + m)] 36)) (.cells #[.int .u8 x.op, .int .u8 x.st.kind, .string ⟨x.st.text.toArray⟩, .int .i64 x.st.num, .int .i64 (x.to + m)] 36)))
            have hown := Hst2.out.own
            rw [Hlo.out] at hown
            have Hown := Lib.hid hown
            clear hst hown hcl hin
            go_wp2_with (at_builtin; go_must (refine wpList_append_own_at _ rfl _ _ 23 rfl w.heap.size 36 i0 _ 5 48 Tryz.underlying23 Hi0.out Hz0.out Hz1.out Hz2.out rfl (by decide) _ (m + j) (insC out) rfl Hown.out ⟨wr.heap.size + 1, 0, none⟩ 1 1 (Ins.cells ⟨x.op, x.st, (x.to + m)⟩) rfl rfl ?c1 ?c2 ?c3 ?c4 ?c5 ?_))
            case c1 => first | exact news1 wr #[.int .u8 x.op, .int .u8 x.st.kind, .string ⟨x.st.text.toArray⟩, .int .i64 x.st.num, .int .i64 (x.to + m)] | exact fun j u h => h
            case c2 => simp [Ins.cells, Value.oneCell']
            case c3 => unfold maxLen; omega
            case c4 => omega
            case c5 => first | exact Hst2.out.bel.size | exact Nat.le_trans Hst.out.bel.size (Nat.le_add_right _ 2)
            intro v7 w7 hown7 hgrow7 _ hat7
            have Hst7 := Lib.hid (Hst2.out.more hown7 hgrow7 (by rw [Hlo.out]) rfl)
            obtain ⟨a7, c7, rfl⟩ := ownForm hown7
            clear hown7 hgrow7 hat7
            go_wp2_with fail
            go_roundw
            case rel => exact ⟨j + 1, m + j + 1, c7, a7, by omega, by go_num, rfl, by omega, by rw [Hsn.out, He.out, ← List.append_assoc, Hout.out]; exact Hst7⟩
            case measure => simp [intOf]; omega
          · have He := Lib.hid (show shift m x = ⟨x.op, x.st, x.to⟩ by unfold shift; rw [if_neg hx])
            have Hst2 := Lib.hid ((Hst.out.step (allocB wr (.cells #[.int .u8 x.op, .int .u8 x.st.kind, .string ⟨x.st.text.toArray⟩, .int .i64 x.st.num, .int .i64 x.to] 36))).step (allocB (wr.alloc (.cells #[.int .u8 x.op, .int .u8 x.st.kind, .string ⟨x.st.text.toArray⟩, .int .i64 x.st.num, .int .i64 x.to] 36)) (.cells #[.int .u8 x.op, .int .u8 x.st.kind, .string ⟨x.st.text.toArray⟩, .int .i64 x.st.num, .int .i64 x.to] 36)))
            have hown := Hst2.out.own
            rw [Hlo.out] at hown
            have Hown := Lib.hid hown
            clear hst hown hcl hin
            go_wp2_with (at_builtin; go_must (refine wpList_append_own_at _ rfl _ _ 23 rfl w.heap.size 36 i0 _ 5 48 Tryz.underlying23 Hi0.out Hz0.out Hz1.out Hz2.out rfl (by decide) _ (m + j) (insC out) rfl Hown.out ⟨wr.heap.size + 1, 0, none⟩ 1 1 (Ins.cells ⟨x.op, x.st, x.to⟩) rfl rfl ?c1 ?c2 ?c3 ?c4 ?c5 ?_))
            case c1 => first | exact news1 wr #[.int .u8 x.op, .int .u8 x.st.kind, .string ⟨x.st.text.toArray⟩, .int .i64 x.st.num, .int .i64 x.to] | exact fun j u h => h
            case c2 => simp [Ins.cells, Value.oneCell']
            case c3 => unfold maxLen; omega
            case c4 => omega
            case c5 => first | exact Hst2.out.bel.size | exact Nat.le_trans Hst.out.bel.size (Nat.le_add_right _ 2)
            intro v7 w7 hown7 hgrow7 _ hat7
            have Hst7 := Lib.hid (Hst2.out.more hown7 hgrow7 (by rw [Hlo.out]) rfl)
            obtain ⟨a7, c7, rfl⟩ := ownForm hown7
            clear hown7 hgrow7 hat7
            go_wp2_with fail
            go_roundw
            case rel => exact ⟨j + 1, m + j + 1, c7, a7, by omega, by go_num, rfl, by omega, by rw [Hsn.out, He.out, ← List.append_assoc, Hout.out]; exact Hst7⟩
            case measure => simp [intOf]; omega
        · have hjn' : j = n5 := by omega
          subst hjn'
          have Htk := Lib.hid (show p.take j = p by rw [List.take_of_length_le]; rw [Hl5.out]; exact Nat.le_refl _)
          have hst' := Hst.out
          rw [Htk.out] at hst'
          have Hst' := Lib.hid hst'
          have Hnx := Lib.hid (show joinI (ps.take (k + 1)) = joinI (ps.take k) ++ p.map (shift m) by rw [Hjt.out]; unfold joinOne; rw [Hm.out])
          clear hst hst'
          go_wp2_with fail
          go_roundw
          case rel => exact ⟨k + 1, m + j, c3, b3, by omega, by go_num, rfl, by rw [Hnx.out, List.length_append, List.length_map, Hm.out, Hl5.out], by rw [Hnx.out]; exact Hst'⟩
          case measure => simp [intOf]; omega
    · have hkn : k = n := by omega
      subst hkn
      have hst' := hst.out
      rw [show ps.take k = ps by rw [List.take_of_length_le]; rw [Hln.out]; exact Nat.le_refl _] at hst'
      have Hst' := Lib.hid hst'
      clear hst hst'
      go_wp2_with fail
      go_ret
      exact ⟨_, rfl, Hst'.out⟩

end Go.Proofs.YtgehjklodphogaaGreatDoor.Cd

/- code: logic. -/
namespace Go.Proofs.YtgehjklodphogaaGreatDoor.Cd
open Go.RowKit Go.Proofs.YtgehjklodphogaaGreatDoor.Lx Go.Proofs.YtgehjklodphogaaGreatDoor.Pa

theorem JnSt.later {w w1 w' : World} {v : Value} {out : List Ins} (h : JnSt w1 w' v out) (hb : Below w.heap.size w w1) : JnSt w w' v out :=
  ⟨stepH hb h.bel, ownBase h.own hb.size⟩
theorem InsIn.one {w : World} {B : Nat} {op : Nat} {to : Int} (h : w.heap[B]? = some (.cells #[.int .u8 op, .int .u8 0, .string ⟨#[]⟩, .int .i64 0, .int .i64 to] 36)) : InsIn w (.slice (some ⟨B, 0, none⟩) 1 1) [⟨op, stp0, to⟩] := by
  obtain ⟨⟨k0, k1, k2, k3, k4⟩, -⟩ := fiveB h
  refine ⟨_, _, _, rfl, rfl, Nat.le_refl _, fun i hi => ⟨B, 0, rfl, ?_⟩⟩
  obtain rfl : i = 0 := by simp at hi; omega
  exact ⟨k0, k1, k2, k3, k4⟩
theorem ProgsIn.four {w : World} {B : Nat} {va vj vb vc : Value} {a j b c : List Ins} {T : TypeId} (h : w.heap[B]? = some (.cells #[va, vj, vb, vc] T)) (ha : InsIn w va a) (hj : InsIn w vj j) (hb : InsIn w vb b) (hc : InsIn w vc c) :
    ProgsIn w (.slice (some ⟨B, 0, none⟩) 4 4) [a, j, b, c] := by
  refine ⟨_, _, _, rfl, rfl, Nat.le_refl _, fun i hi => ?_⟩
  match i, hi with
  | 0, _ => exact ⟨B, 0, va, rfl, by simp [World.cell?, h], ha⟩
  | 1, _ => exact ⟨B, 0, vj, rfl, by simp [World.cell?, h], hj⟩
  | 2, _ => exact ⟨B, 0, vb, rfl, by simp [World.cell?, h], hb⟩
  | 3, _ => exact ⟨B, 0, vc, rfl, by simp [World.cell?, h], hc⟩

set_option maxHeartbeats 2000000 in
set_option maxRecDepth 100000 in
theorem logic_calls (w : World) (jump behind : Nat) (va vb : Value) (a b : List Ins) (ha : InsIn w va a) (hb : InsIn w vb b) (hla : a.length ≤ 100000) (hlb : b.length ≤ 100000) (hta : ∀ x ∈ a, x.to ≤ 1000000) (htb : ∀ x ∈ b, x.to ≤ 1000000) :
    Calls Tryz.prog 38 #[.int .u8 jump, .int .u8 behind, va, vb] w fun e w' => ∃ v', e = .returned v' ∧ JnSt w w' v' (logicI jump behind a b) := by
  obtain ⟨aa, na, ca, rfl, -⟩ := id ha
  obtain ⟨ab, nb, cb, rfl, hnb, -⟩ := id hb
  have hnb2 : nb ≤ 100000 := by omega
  have Hlg := Lib.hid (show logicI jump behind a b = joinI [a, [⟨jump, stp0, (nb : Int) + 2⟩], b, [⟨behind, stp0, 0⟩]] by rw [← hnb]; rfl)
  have hb1 := allocB w (.cells #[.int .u8 jump, .int .u8 0, .string ⟨#[]⟩, .int .i64 0, .int .i64 ((nb : Int) + 2)] 36)
  have hb2 := allocB (w.alloc (.cells #[.int .u8 jump, .int .u8 0, .string ⟨#[]⟩, .int .i64 0, .int .i64 ((nb : Int) + 2)] 36)) (.cells #[.int .u8 behind, .int .u8 0, .string ⟨#[]⟩, .int .i64 0, .int .i64 0] 36)
  have hb3 := allocB ((w.alloc (.cells #[.int .u8 jump, .int .u8 0, .string ⟨#[]⟩, .int .i64 0, .int .i64 ((nb : Int) + 2)] 36)).alloc (.cells #[.int .u8 behind, .int .u8 0, .string ⟨#[]⟩, .int .i64 0, .int .i64 0] 36)) (.cells #[.slice aa na ca, .slice (some ⟨w.heap.size, 0, none⟩) 1 1, .slice ab nb cb, .slice (some ⟨w.heap.size + 1, 0, none⟩) 1 1] 23)
  have h1 := heap_alloc_new w (.cells #[.int .u8 jump, .int .u8 0, .string ⟨#[]⟩, .int .i64 0, .int .i64 ((nb : Int) + 2)] 36)
  have h2 := heap_alloc_new (w.alloc (.cells #[.int .u8 jump, .int .u8 0, .string ⟨#[]⟩, .int .i64 0, .int .i64 ((nb : Int) + 2)] 36)) (.cells #[.int .u8 behind, .int .u8 0, .string ⟨#[]⟩, .int .i64 0, .int .i64 0] 36)
  have h3 := heap_alloc_new ((w.alloc (.cells #[.int .u8 jump, .int .u8 0, .string ⟨#[]⟩, .int .i64 0, .int .i64 ((nb : Int) + 2)] 36)).alloc (.cells #[.int .u8 behind, .int .u8 0, .string ⟨#[]⟩, .int .i64 0, .int .i64 0] 36)) (.cells #[.slice aa na ca, .slice (some ⟨w.heap.size, 0, none⟩) 1 1, .slice ab nb cb, .slice (some ⟨w.heap.size + 1, 0, none⟩) 1 1] 23)
  have e1 : (w.alloc (.cells #[.int .u8 jump, .int .u8 0, .string ⟨#[]⟩, .int .i64 0, .int .i64 ((nb : Int) + 2)] 36)).heap.size = w.heap.size + 1 := by simp
  have e2 : ((w.alloc (.cells #[.int .u8 jump, .int .u8 0, .string ⟨#[]⟩, .int .i64 0, .int .i64 ((nb : Int) + 2)] 36)).alloc (.cells #[.int .u8 behind, .int .u8 0, .string ⟨#[]⟩, .int .i64 0, .int .i64 0] 36)).heap.size = w.heap.size + 2 := by simp
  have hp := ProgsIn.four h3 (((ha.below hb1).below hb2).below hb3) (((InsIn.one h1).below hb2).below hb3) (((hb.below hb1).below hb2).below hb3) (by
    have := (InsIn.one h2).below hb3
    rw [e1] at this
    exact this)
  rw [e2] at hp
  have Hj := Lib.hid (joined_calls _ _ _ hp (by simp) (by simp [total]; omega) (by
    intro p hpm x hx
    simp only [List.mem_cons, List.not_mem_nil, or_false] at hpm
    rcases hpm with rfl | rfl | rfl | rfl
    · exact hta x hx
    · rw [List.mem_singleton] at hx; subst hx; simp only; omega
    · exact htb x hx
    · rw [List.mem_singleton] at hx; subst hx; simp only; omega))
  have Hb := Lib.hid (stepH (stepH hb1 hb2) hb3)
  clear ha hb hla hlb hta htb hnb hb1 hb2 hb3 h1 h2 h3 e1 e2 hp
  go_enter Tryz.func38, Tryz.ntmps38
  go_wp2_with fail
  refine Hj.out.mono ?_
  rintro e w' ⟨v', rfl, hst⟩
  have Hst := Lib.hid (hst.later Hb.out)
  clear hst
  go_wp2_with fail
  go_ret
  exact ⟨_, rfl, by rw [Hlg.out]; exact Hst.out⟩

end Go.Proofs.YtgehjklodphogaaGreatDoor.Cd

/- CodeJoins, CodeShort, CodeRight: what is compiled. Plain. -/
namespace Go.Proofs.YtgehjklodphogaaGreatDoor.Cd
open Go.Proofs.YtgehjklodphogaaGreatDoor.Lx Go.Proofs.YtgehjklodphogaaGreatDoor.Pa

/-! ### two behind one another -/
theorem stepC_frame (base : List (List Ins)) {stk : List (List Ins)} {s : Stp} {k : Nat} (ht : takes s = some k) (hk : k ≤ stk.length) : stepC (base ++ stk) s = base ++ stepC stk s := by
  unfold stepC takesN
  rw [ht, Option.getD_some, List.length_append, show base.length + stk.length - k = base.length + (stk.length - k) by omega, List.take_length_add_append, List.drop_length_add_append, List.append_assoc]
theorem foldl_frame (base : List (List Ins)) : ∀ (l : List Stp) {stk : List (List Ins)} {m : Nat}, rightL l stk.length = some m → l.foldl stepC (base ++ stk) = base ++ l.foldl stepC stk
  | [], _, _, _ => rfl
  | s :: l, stk, m, h => by
    rw [rightL] at h
    cases ht : takes s with
    | none => rw [ht] at h; cases h
    | some k =>
      rw [ht] at h
      simp only at h
      split at h
      · cases h
      · rename_i hk
        rw [List.foldl_cons, List.foldl_cons, stepC_frame base ht (by omega)]
        exact foldl_frame base l (by rw [stepC_len ht]; exact h)
abbrev equalS : Stp := ⟨15, [], 0⟩
theorem takes_equal : takes equalS = some 2 := by decide
theorem joins_right {a b : List Stp} (ha : rightB a = true) (hb : rightB b = true) : rightB ((a ++ b) ++ [equalS]) = decide (((a ++ b) ++ [equalS]).length ≤ 128) :=
  (steps_law ha hb (k := 15) takes_equal).2.1.trans (by simp)
theorem joins_law {a b : List Stp} (ha : rightB a = true) (hb : rightB b = true) :
    compileL ((a ++ b) ++ [equalS]) = (compileL a ++ (compileL b).map (shift (compileL a).length)) ++ [⟨1, equalS, 0⟩] := by
  have h1 := (compile_stack ha).1
  have h2 := (compile_stack hb).1
  have h3 := foldl_frame [compileL a] b (stk := []) (m := 1) ((right_iff b).1 hb).1
  rw [List.append_nil] at h3
  have h4 : ((a ++ b) ++ [equalS]).foldl stepC [] = [(compileL a ++ (compileL b).map (shift (compileL a).length)) ++ [⟨1, equalS, 0⟩]] := by
    rw [List.foldl_append, List.foldl_append, h1, h3, h2]
    show stepC [compileL a, compileL b] equalS = _
    unfold stepC takesN
    rw [takes_equal]
    show [] ++ [partC equalS [compileL a, compileL b]] = _
    unfold partC
    rw [if_neg (by decide), if_neg (by decide), joinI_cons, joinI_cons, joinI_nil]
    simp
  unfold compileL at h4 ⊢
  rw [h4]
  rfl

/-! ### cut short -/
/-- the last instruction is a step that takes one value -/
def takesOne (x : Ins) : Bool := x.op == 1 && (x.st.kind == 9 || (x.st.kind == 10 || (x.st.kind == 11 || ((x.st.kind == 7 && x.st.num == 1) || (x.st.kind == 8 && x.st.num == 1)))))
theorem takes_one {s : Stp} (h : takes s = some 1) : takesOne ⟨1, s, 0⟩ = true := by
  unfold takesOne
  unfold takes at h
  simp only [beq_self_eq_true, Bool.true_and, Bool.or_eq_true, Bool.and_eq_true, beq_iff_eq]
  repeat' split at h
  all_goals first | (cases h; done) | (simp only [Option.some.injEq] at h; omega)
theorem last_step : ∀ {l : List Stp}, rightB l = true → ∃ s k parts, takes s = some k ∧ parts.length = k ∧ (∀ p ∈ parts, Seg 1 p) ∧ compileL l = partC s parts := by
  intro l h
  have hr := ((right_iff l).1 h).1
  have hne : l ≠ [] := by rintro rfl; cases hr
  rw [← List.dropLast_concat_getLast hne] at hr
  have hc : compileL l = ((l.dropLast ++ [l.getLast hne]).foldl stepC []).headD [] := by rw [List.dropLast_concat_getLast]; rfl
  rw [rightL_app] at hr
  generalize l.dropLast = i at *
  generalize l.getLast hne = s at *
  cases hi : rightL i 0 with
  | none => rw [hi] at hr; cases hr
  | some n =>
    rw [hi, Option.bind_some, rightL] at hr
    cases ht : takes s with
    | none => rw [ht] at hr; cases hr
    | some k =>
      rw [ht] at hr
      simp only at hr
      split at hr
      · cases hr
      · rename_i hk
        rw [rightL] at hr
        have hk2 := Option.some.inj hr
        have ho := StkOk.all i StkOk.nil hi
        have hl := ho.len
        refine ⟨s, k, i.foldl stepC [], ht, by omega, ho.seg, ?_⟩
        rw [hc, List.foldl_append]
        show (stepC (i.foldl stepC []) s).headD [] = _
        generalize i.foldl stepC [] = stk at *
        unfold stepC takesN
        rw [ht, Option.getD_some, hl, show n - k = 0 by omega]
        rfl
theorem run_short {j c : Nat} {p q : List Ins} (hp : Seg 1 p) (hj : j = 2 ∨ j = 4) {i : List Ins} (e : i ++ [ins0 c] = logicI j c p q) : checkI i = false := by
  have hl : i.length = p.length + q.length + 1 := by
    have := congrArg List.length e
    rw [logicI_length, List.length_append, List.length_singleton] at this
    omega
  have hi : i = p ++ (⟨j, stp0, ((p.length + q.length + 2 : Nat) : Int)⟩ :: q.map (shift (p.length + 1))) := by
    unfold logicI at e
    rw [joinI_cons, joinI_cons, joinI_cons, joinI_cons, joinI_nil] at e
    simp only [List.map_append, map_shift_shift, List.map_cons, List.map_nil, List.append_nil] at e
    have es : shift p.length ⟨j, stp0, q.length + 2⟩ = ⟨j, stp0, ((p.length + q.length + 2 : Nat) : Int)⟩ := by
      unfold shift
      rw [if_pos (by simp only; omega)]
      simp only [Ins.mk.injEq, true_and]
      omega
    rw [es] at e
    rw [show shift p.length (shift ([⟨j, stp0, q.length + 2⟩] : List Ins).length (shift q.length (ins0 c))) = ins0 c from rfl] at e
    have e2 : i ++ [ins0 c] = (p ++ (⟨j, stp0, ((p.length + q.length + 2 : Nat) : Int)⟩ :: q.map (shift (p.length + 1)))) ++ [ins0 c] := by
      rw [e]; simp
    exact (List.append_inj' e2 rfl).1
  obtain ⟨h1, r1, e1, _⟩ := hp i.length 0 0 hs0 (by omega) rfl fun m hm _ => by unfold hs0; rw [if_neg (by omega)]
  rw [map_shift_zero] at r1
  rw [Nat.zero_add] at e1
  have hs : stepK i.length (0 + p.length) ⟨j, stp0, ((p.length + q.length + 2 : Nat) : Int)⟩ h1 = none := by
    unfold stepK
    rw [Nat.zero_add, e1]
    simp only
    rw [if_neg (by omega), if_pos hj, if_neg (by omega)]
  have hn : runK i.length 0 i hs0 = none := by
    rw [show runK i.length 0 i hs0 = runK i.length 0 (p ++ (⟨j, stp0, ((p.length + q.length + 2 : Nat) : Int)⟩ :: q.map (shift (p.length + 1)))) hs0 by rw [← hi], runK_app, r1, Option.bind_some, runK, hs]
    rfl
  unfold checkI
  rw [hn]
  simp
theorem short_law {l : List Stp} (h : rightB l = true) : ∃ i x, compileL l = i ++ [x] ∧ (checkI i = true → takesOne x = true) := by
  obtain ⟨s, k, parts, ht, hl, hseg, hc⟩ := last_step h
  rw [hc]
  unfold partC
  split
  · rename_i e
    obtain ⟨p, q, rfl⟩ := two_parts (hl.trans (takes_logic ht (.inl e)))
    have hlast : ∃ i, logicI 2 3 p q = i ++ [ins0 3] := by
      unfold logicI
      rw [joinI_cons, joinI_cons, joinI_cons, joinI_cons, joinI_nil]
      simp only [List.map_append, List.map_cons, List.map_nil]
      exact ⟨p ++ ([shift p.length ⟨2, stp0, q.length + 2⟩] ++ List.map (shift p.length) (List.map (shift 1) q)), by simp [shift, ins0]⟩
    obtain ⟨i, hi⟩ := hlast
    exact ⟨i, _, hi, fun hch => by rw [run_short (hseg p (by simp)) (.inl rfl) hi.symm] at hch; cases hch⟩
  · split
    · rename_i e
      obtain ⟨p, q, rfl⟩ := two_parts (hl.trans (takes_logic ht (.inr e)))
      have hlast : ∃ i, logicI 4 5 p q = i ++ [ins0 5] := by
        unfold logicI
        rw [joinI_cons, joinI_cons, joinI_cons, joinI_cons, joinI_nil]
        simp only [List.map_append, List.map_cons, List.map_nil]
        exact ⟨p ++ ([shift p.length ⟨4, stp0, q.length + 2⟩] ++ List.map (shift p.length) (List.map (shift 1) q)), by simp [shift, ins0]⟩
      obtain ⟨i, hi⟩ := hlast
      exact ⟨i, _, hi, fun hch => by rw [run_short (hseg p (by simp)) (.inr rfl) hi.symm] at hch; cases hch⟩
    · refine ⟨_, _, rfl, fun hch => ?_⟩
      obtain ⟨h1, r1, e1, _⟩ := Seg.join parts hseg (joinI parts).length 0 0 hs0 (by omega) rfl fun m hm _ => by unfold hs0; rw [if_neg (by omega)]
      rw [map_shift_zero] at r1
      rw [Nat.zero_add] at e1
      unfold checkI at hch
      rw [r1] at hch
      simp only [e1, Bool.and_eq_true, decide_eq_true_eq, Option.some.injEq] at hch
      exact takes_one (by rw [ht]; congr 1; omega)
theorem more_law {l : List Stp} (h : rightB l = true) (op : Nat) : checkI (compileL l ++ [ins0 op]) = (decide (op = 3) && decide ((compileL l).length < 256)) := by
  have hpos : 1 ≤ (compileL l).length := by have := (compile_len h).1; have := right_pos h; omega
  obtain ⟨h1, r1, e1, f1⟩ := (compile_stack h).2.seg _ (List.mem_singleton.2 rfl) ((compileL l).length + 1) 0 0 hs0 (by omega) rfl fun i hi _ => by unfold hs0; rw [if_neg (by omega)]
  rw [map_shift_zero] at r1
  rw [Nat.zero_add] at e1 f1
  have hf : h1 ((compileL l).length + 1) = none := by rw [f1 _ (by omega)]; unfold hs0; rw [if_neg (by omega)]
  generalize compileL l = p at *
  have hrun : runK (p.length + 1) 0 (p ++ [ins0 op]) hs0 = stepK (p.length + 1) p.length (ins0 op) h1 := by
    rw [runK_app, r1, Option.bind_some, Nat.zero_add, runK]
    cases stepK (p.length + 1) p.length (ins0 op) h1 <;> rfl
  unfold checkI
  rw [List.length_append, List.length_singleton, hrun]
  by_cases h3 : op = 3
  · subst h3
    have hs : stepK (p.length + 1) p.length (ins0 3) h1 = some (fun j => if j = p.length + 1 then some 1 else h1 j) := by
      unfold stepK ins0
      rw [e1]
      simp only
      rw [if_neg (by omega), if_neg (by omega), if_pos trivial, if_pos ⟨trivial, trivial, by omega⟩, come_new hf]
    rw [hs]
    simp only [if_true, decide_true, Bool.and_true, Bool.true_and, decide_eq_decide]
    omega
  · have hs : stepK (p.length + 1) p.length (ins0 op) h1 = none := by
      unfold stepK ins0
      rw [e1]
      simp only
      split
      · rw [show takes stp0 = none by decide]
      · split
        · rw [if_neg (by omega)]
        · split
          · rw [if_neg (by omega)]
          · rfl
    rw [hs, decide_eq_false h3]
    simp

end Go.Proofs.YtgehjklodphogaaGreatDoor.Cd
