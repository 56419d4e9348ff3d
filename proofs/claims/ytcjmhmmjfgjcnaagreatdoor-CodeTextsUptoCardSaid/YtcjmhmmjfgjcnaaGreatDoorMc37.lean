/- Parts: QaW. -/
import Derived.Test.YtcjmhmmjfgjcnaaGreatDoorMc33
import Derived.Test.YtcjmhmmjfgjcnaaGreatDoorMc36
import Derived.Deep.RegionWith
import Derived.Deep.RegionLaw
import Derived.Deep.RegionHeld

/- code: Compile. -/
namespace Go.Proofs.YtcjmhmmjfgjcnaaGreatDoor.Cd
open Go.RowKit Go.Proofs.YtcjmhmmjfgjcnaaGreatDoor.Lx Go.Proofs.YtcjmhmmjfgjcnaaGreatDoor.Pa

theorem progInfo : (Tryz.prog.info? 23).map (fun i => (i.zero, i.size, i.bytes)) = some (some (.slice none 0 0), 1, 24) := by kernel_rfl
def GaveP (w : World) (l : List Stp) (e : Ending) (w' : World) : Prop := Below w.heap.size w w' ∧
  if rightB l then ∃ v', e = .returned (.tuple #[v', .int .i64 0]) ∧ InsIn w' v' (compileL l) else e = .returned (.tuple #[.slice none 0 0, .int .i64 13])
section
variable {P : Program} {ops : Array Oper} {o : Oper} {a : Act} {Q : Exit → Act → World → Prop} {K : Act → World → Prop} {E : Prop}
theorem step_ownAt {W : World} (base : Nat) (hw : Region.wanted o (yielded ops a.tmps) = true) (s x : Operand) (t e : TypeId) (z : Value) (size bytes : Nat)
    (ho : o.op = .call { callee := .builtin .append, args := #[s, x], argTypes := #[t, t] })
    (ht : P.underlying t = some (.slice e)) (hinfo : (P.info? e).map (fun i => (i.zero, i.size, i.bytes)) = some (some z, size, bytes)) (hz : z.cells.size = size) (hs0 : 0 < size) (hb0 : 0 < bytes)
    (v : Value) (n : Nat) (xs ys : List Value) (hs : a.eval s = v) (B0 : Nat) (hx : a.eval x = .slice (some ⟨B0, 0, none⟩) 1 1) (hnews : ∀ j u, ys[j]? = some u → W.cell? ((⟨B0, 0, none⟩ : Addr).add j) = some u) (hys : ys.length = size) (h1 : ∀ u ∈ ys, u.oneCell' = true)
    (HO : W.ownsRow base e size v n xs) (hbase : base ≤ W.heap.size) (hl : (n + 1) * bytes ≤ 140737488355328)
    (h : ∀ v1 w1, w1.ownsRow base e size v1 (n + 1) (xs ++ ys) → W.grownBy w1 v.ownBlock → (v1.ownBlock = v.ownBlock ∨ v1.ownBlock = some W.heap.size) → K (a.put o.dst v1) w1) :
    if Region.wanted o (yielded ops a.tmps) = true then Oper.wp P o a W K Q else E := by
  obtain ⟨i0, hi, hzz⟩ := Option.map_eq_some_iff.1 hinfo
  simp only [Prod.mk.injEq] at hzz
  obtain ⟨hz0, hz1, hz2⟩ := hzz
  have hlen : n + 1 ≤ 140737488355328 := Nat.le_trans (Nat.le_mul_of_pos_right _ hb0) hl
  rw [if_pos hw]
  obtain ⟨v1, w1, hr, hown, hg, _, hat⟩ := run_append_own_at (P := P) W base t o.type e i0 z size bytes ht hi hz0 hz1 hz2 hz hs0 v n xs HO ⟨B0, 0, none⟩ 1 1 ys (by rw [hys]; simp) hnews h1 (by simp only [maxLen]; omega) hl hbase
  unfold Oper.wp execOp
  simp only [ho, resolve, invoke, builtin, Sem.run_bind, Sem.run_pure, Result.andThen_ok, List.map_toArray, List.map_cons, List.map_nil, hs, hx, hr]
  exact h v1 w1 hown hg hat
end
theorem own_casesQ {w : World} {base m c : Nat} {b : Option Addr} {e : TypeId} {xs : List Value} (h : w.ownsRow base e 1 (.slice b m c) m xs) :
    (b = none ∧ m = 0 ∧ c = 0) ∨ ∃ gs, b = some ⟨gs, 0, none⟩ ∧ base ≤ gs ∧ gs < w.heap.size ∧ m ≤ c ∧ c ≤ 9223372036854775807 := by
  rcases h.2 with ⟨e, h0⟩ | ⟨g, cap, cur, e, h1, h2, h3, h4, _⟩
  · simp only [Value.slice.injEq] at e
    exact .inl ⟨e.1, e.2.1, e.2.2⟩
  · simp only [Value.slice.injEq] at e
    obtain ⟨rfl, h5, rfl⟩ := e
    unfold maxLen at h4
    exact .inr ⟨g, rfl, h1, ltH h2, by omega, by omega⟩

set_option maxHeartbeats 4000000 in
set_option maxRecDepth 100000 in
theorem Compile_calls (w : World) (v : Value) (l : List Stp) (h : StpsIn w v l) (hl : l.length ≤ 1048576) (ht : ∀ y ∈ l, y.text.length ≤ 1048575) (he : Env w) :
    Calls Tryz.prog 7 #[v] w (GaveP w l) := by
  have HRc := Lib.hid (Right_calls w v l h hl ht he)
  have He := Lib.hid he
  have Ht := Lib.hid ht
  cases hR : rightB l with
  | false =>
    rw [hR] at HRc
    have HG := Lib.hid (show ∀ e w', Below w.heap.size w w' → e = .returned (.tuple #[.slice none 0 0, .int .i64 13]) → GaveP w l e w' from fun e w' h1 h2 => ⟨h1, by rw [if_neg (by rw [hR]; simp)]; exact h2⟩)
    obtain ⟨a, n, c, rfl, -⟩ := id h
    clear h hl ht he hR
    go_enter Tryz.func7, Tryz.ntmps7
    go_wp2_with fail
    refine HRc.out.mono ?_
    rintro e w2 ⟨rfl, hb2⟩
    have Hb2 := Lib.hid hb2
    clear hb2
    go_wp2_with fail
    go_ret2
    exact HG.out _ _ Hb2.out rfl
  | true =>
    rw [hR] at HRc
    have h128 := ((right_iff l).1 hR).2
    have HG := Lib.hid (show ∀ e w' v', Below w.heap.size w w' → e = .returned (.tuple #[v', .int .i64 0]) → InsIn w' v' (compileL l) → GaveP w l e w' from fun e w' v' h1 h2 h3 => ⟨h1, by rw [if_pos hR]; exact ⟨v', h2, h3⟩⟩)
    have Hst0 := Lib.hid (fun (w2 : World) (hb : Below w.heap.size w w2) => CpSt.start hR hb)
    obtain ⟨a, n, c, rfl, hln, hnc, hj⟩ := h
    have Hln := Lib.hid hln
    have Hj := Lib.hid hj
    have hn128 : n ≤ 128 := by omega
    have H128 := Lib.hid h128
    clear hl ht he hR hln hj h128
    go_enter Tryz.func7, Tryz.ntmps7
    go_wp2_with fail
    refine HRc.out.mono ?_
    rintro e w2 ⟨rfl, hb2⟩
    have Hst1 := Lib.hid (Hst0.out w2 hb2)
    clear hb2
    go_wp2_with fail
    go_loopw [4, 17] (fun s4 i wr => ∃ (k m c4 : Nat) (b4 : Option Addr) (stk : List (List Ins)), k ≤ n ∧ i = .int .i64 k ∧ s4 = .slice b4 m c4 ∧ stk.length = m ∧ Hid (CpSt w wr l k (.slice b4 m c4) stk)) (fun _ i _ => n - (intOf i).toNat)
    case atStart => exact ⟨0, 0, 0, none, [], Nat.zero_le _, rfl, rfl, rfl, Hst1⟩
    case round =>
      obtain ⟨k, m, c4, b4, stk, hk, rfl, rfl, hm, hst⟩ := hrel
      have Hst := Lib.hid hst.out
      by_cases hlt : k < n
      · have hkl : k < l.length := by rw [Hln.out]; exact hlt
        obtain ⟨g, o, rfl, hcl⟩ := Hj.out k hkl
        obtain ⟨q0, q1, q2⟩ := hcl.below hst.out.bel
        have htx := Ht.out _ (List.getElem_mem hkl)
        have hd : l.drop k = l[k] :: l.drop (k + 1) := List.drop_eq_getElem_cons hkl
        have hrg := hst.out.rgt
        rw [hd] at hrg
        obtain ⟨kk, hty, hkm, -⟩ := rightL_step hrg
        obtain ⟨at_, rfl⟩ : ∃ at_, m = at_ + kk := ⟨m - kk, by omega⟩
        have Hy := Lib.hid (show l[k] = l[k] from rfl)
        generalize hyy : l[k] = y at *
        have Hyy := Lib.hid hyy
        have Hkl := Lib.hid hkl
        have Htk := Lib.hid (fun (w2 : World) (hb2 : Below w.heap.size w w2) => Takes_calls y w2 htx (He.out.below hb2))
        rw [hty, takesV_some] at Htk
        unfold Stp.val at Htk
        have hkk := takes_le64 hty
        have hcnt := hst.out.cnt
        rw [hm] at hcnt
        have Hty := Lib.hid hty
        have htot := hst.out.total H128.out
        have Hblk := Lib.hid (heap_alloc_new wr (.cells #[.int .u8 y.kind, .string ⟨y.text.toArray⟩, .int .i64 y.num] 48))
        have Hst1 := Lib.hid (Hst.out.step (allocB wr (.cells #[.int .u8 y.kind, .string ⟨y.text.toArray⟩, .int .i64 y.num] 48)))
        clear hst hcl hd hrg hty Hy hyy
        go_wp2_with fail
        refine (Htk.out _ Hst1.out.bel).mono ?_
        rintro e w3 ⟨rfl, hb3⟩
        have hblk3 := (hb3.block wr.heap.size (by simp)).trans Hblk.out
        obtain ⟨⟨k0, k1, k2⟩, -⟩ := threeC hblk3
        have hB3 := ltH hblk3
        have Hst3 := Lib.hid (Hst1.out.step hb3)
        clear hb3 hblk3 q0 q1 q2
        obtain ⟨vs, hM⟩ := Hst3.out.mem
        have HM := Lib.hid hM
        have hown := hM.own
        rw [hm] at hown
        have Hown := Lib.hid hown
        obtain ⟨i0, hi0, hz0, hz1, hz2⟩ := info_parts progInfo
        have Hi0 := Lib.hid hi0
        have Hz0 := Lib.hid hz0
        have Hz1 := Lib.hid hz1
        have Hz2 := Lib.hid hz2
        clear hi0 hz0 hz1 hz2
        have Htots := Lib.hid (show ∀ n, total (stk.drop n) ≤ 256 ∧ ∀ p ∈ stk.drop n, p.length ≤ 256 ∧ ∀ x ∈ p, x.to ≤ 1000000 from fun n => ⟨Nat.le_trans (total_drop _ _) htot, fun p hp => ⟨Nat.le_trans (total_mem (List.mem_of_mem_drop hp)) htot, fun x hx => by
          have h1 := Hst3.out.tos p (List.mem_of_mem_drop hp) x hx
          have h2 := total_mem (List.mem_of_mem_drop hp)
          omega⟩⟩)
        rcases own_casesQ hown with ⟨rfl, h0, rfl⟩ | ⟨gs, rfl, hgs1, hgs2, hmc, hc4⟩
        · obtain ⟨rfl, rfl⟩ : at_ = 0 ∧ kk = 0 := by omega
          have h21 : ¬ y.kind = 21 := fun e => by have := takes_logic Hty.out (.inl e); omega
          have h22 : ¬ y.kind = 22 := fun e => by have := takes_logic Hty.out (.inr e); omega
          have Hps := Lib.hid (progs_none w3 none 0 stk 0 hm)
          have b21 : ((y.kind : Int) == 21) = false := by rw [beq_eq_false_iff_ne]; omega
          have b22 : ((y.kind : Int) == 22) = false := by rw [beq_eq_false_iff_ne]; omega
          have hpart : partC y (stk.drop 0) = joinI (stk.drop 0) ++ [⟨1, y, 0⟩] := by unfold partC; rw [if_neg h21, if_neg h22]
          have hjl : (joinI (stk.drop 0)).length ≤ 256 := by have h1 := joinI_length (stk.drop 0); have h2 := (Htots.out 0).1; unfold total at h2; omega
          have Hjn := Lib.hid (fun (w4 : World) (hb : Below w3.heap.size w3 w4) => joined_calls w4 _ _ (Hps.out.below hb) (by rw [List.length_drop]; omega) (by have := (Htots.out 0).1; omega) (fun p hp => ((Htots.out 0).2 p hp).2))
          generalize hpsd : stk.drop 0 = ps at *
          have Hpsd := Lib.hid hpsd
          clear hpsd
          clear hM hown
          go_wp2_with fail
          have hSof : ∀ w' : World, Below w3.heap.size w3 w' → (w'.cell? ⟨wr.heap.size, 0, none⟩ = some (.int .u8 y.kind) ∧ w'.cell? ⟨wr.heap.size, 1, none⟩ = some (.string ⟨y.text.toArray⟩) ∧ w'.cell? ⟨wr.heap.size, 2, none⟩ = some (.int .i64 y.num)) := fun w' hb => ⟨(hb.cell (p := ⟨wr.heap.size, 0, none⟩) hB3).trans k0, (hb.cell (p := ⟨wr.heap.size, 1, none⟩) hB3).trans k1, (hb.cell (p := ⟨wr.heap.size, 2, none⟩) hB3).trans k2⟩
          have hb0 : Below w3.heap.size w3 w3.drew := (Below.refl _ _).drew
          refine wp_region_held_drew (S := fun w' => w'.cell? ⟨wr.heap.size, 0, none⟩ = some (.int .u8 y.kind) ∧ w'.cell? ⟨wr.heap.size, 1, none⟩ = some (.string ⟨y.text.toArray⟩) ∧ w'.cell? ⟨wr.heap.size, 2, none⟩ = some (.int .i64 y.num)) (by kernel_rfl) (hSof _ hb0) (fun hHeld => ?_)
          generalize w3.drew = w4 at *
          refine wpAnyH_take (i := 0) (v := ?_) rfl (by kernel_rfl) (by kernel_rfl) (by kernel_rfl) (fun _ _ _ h => h) (Or.inl ⟨by rfl, ?_⟩) (by assumption) ?_
          rotate_left
          · (intro w' hSw; (try dsimp only at hSw); go_simp; try with_reducible rfl)
          try simp only [Act.put, List.getElem_toArray, List.getElem_cons_zero, List.setIfInBounds_toArray, List.set_cons_zero, List.set_cons_succ]
          refine wpAnyH_take (i := 2) (v := ?_) rfl (by kernel_rfl) (by kernel_rfl) (by kernel_rfl) (fun _ _ _ h => h) (Or.inl ⟨by rfl, ?_⟩) (by assumption) ?_
          rotate_left
          · (intro w' hSw; (try dsimp only at hSw); go_simp; try with_reducible rfl)
          try simp only [Act.put, List.getElem_toArray, List.getElem_cons_zero, List.getElem_cons_succ, List.setIfInBounds_toArray, List.set_cons_zero, List.set_cons_succ]
          refine wpAnyH_take (i := 3) (v := ?_) rfl (by kernel_rfl) (by kernel_rfl) (by kernel_rfl) (fun _ _ _ h => h) (Or.inl ⟨by rfl, ?_⟩) (by assumption) ?_
          rotate_left
          · (intro w' hSw; (try dsimp only at hSw); go_simp; try with_reducible rfl)
          try simp only [Act.put, List.getElem_toArray, List.getElem_cons_zero, List.getElem_cons_succ, List.setIfInBounds_toArray, List.set_cons_zero, List.set_cons_succ]
          refine wpAnyH_ready (rs := [1, 4]) (by kernel_rfl) (by simp) ?_
          refine AllReadyH.cons (o := _) rfl (fun K hK => ?_) (AllReadyH.cons (o := _) rfl (fun K hK => ?_) AllReadyH.nil)
          · go_simp
            go_at_call 35
            refine (Hjn.out _ hb0).mono ?_
            rintro e w9 ⟨v9, rfl, hj9⟩
            have hb9 := stepH hb0 hj9.bel
            have hwJ : w3.heap.size ≤ w4.heap.size := hb0.size
            go_wp2_with fail
            refine hK.out _ _ (hSof _ hb9) (fun hHeld1 => ?_)
            clear hK K hHeld
            try simp only [Act.put, List.getElem_toArray, List.getElem_cons_zero, List.getElem_cons_succ, List.setIfInBounds_toArray, List.set_cons_zero, List.set_cons_succ]
            refine wpAnyH_ready (rs := [4]) (by kernel_rfl) (by simp) ?_
            refine AllReadyH.cons (o := _) rfl (fun K hK => ?_) AllReadyH.nil
            go_simp
            have hb9' := stepH hb9 (allocB w9 (.cells #[.int .u8 1, .int .u8 y.kind, .string ⟨y.text.toArray⟩, .int .i64 y.num, .int .i64 0] 63))
            refine hK.out _ _ (hSof _ hb9') (fun hHeld2 => ?_)
            clear hK K hHeld1
            try simp only [Act.put, List.getElem_toArray, List.getElem_cons_zero, List.getElem_cons_succ, List.setIfInBounds_toArray, List.set_cons_zero, List.set_cons_succ]
            have hnews := World.news_of_block (fr := (0, 0)) (heap_alloc_new w9 (.cells #[.int .u8 1, .int .u8 y.kind, .string ⟨y.text.toArray⟩, .int .i64 y.num, .int .i64 0] 63))
            have hown9 := hj9.own.alloc (.cells #[.int .u8 1, .int .u8 y.kind, .string ⟨y.text.toArray⟩, .int .i64 y.num, .int .i64 0] 63)
            refine wpAnyH_ready (rs := [5]) (by kernel_rfl) (by simp) ?_
            refine AllReadyH.cons (o := _) rfl (fun K hK => ?_) AllReadyH.nil
            refine step_ownAt w4.heap.size rfl _ _ 23 63 _ 5 48 rfl Tryz.underlying23 insInfo rfl (by decide) (by decide) v9 (joinI ps).length (insC (joinI ps)) (Ins.cells ⟨1, y, 0⟩) rfl _ rfl hnews rfl (by simp [Ins.cells, Value.oneCell']) hown9 (by have := hj9.bel.size; simp; omega) (by omega) ?_
            intro v10 w10 hown10 hg10 hat10
            have hb10 : Below w3.heap.size w3 w10 := (hb9').grown hg10 (hb9').size fun b hb => Nat.le_trans hwJ (World.ownsRow.lt hj9.own b hb).1
            refine hK.out _ _ (hSof _ hb10) (fun hHeld3 => ?_)
            clear hK K
            try simp only [Act.put, List.getElem_toArray, List.getElem_cons_zero, List.getElem_cons_succ, List.setIfInBounds_toArray, List.set_cons_zero, List.set_cons_succ]
            refine wpAnyH_take (i := 6) (v := ?_) rfl (by kernel_rfl) (by kernel_rfl) (by kernel_rfl) (fun _ _ _ h => h) (Or.inl ⟨by rfl, ?_⟩) (by assumption) ?_
            rotate_left
            · (intro w' hSw; (try dsimp only at hSw); go_simp; try with_reducible rfl)
            try simp only [Act.put, List.getElem_toArray, List.getElem_cons_zero, List.getElem_cons_succ, List.setIfInBounds_toArray, List.set_cons_zero, List.set_cons_succ]
            refine wpAnyH_done (by kernel_rfl) ?_ _
            obtain ⟨a10, c10, rfl⟩ := ownForm hown10
            have H10 := Lib.hid (show InsIn w10 (.slice a10 ((joinI ps).length + 1) c10) (partC y ps) from by
              rw [hpart, show (joinI ps).length + 1 = (joinI ps ++ [(⟨1, y, 0⟩ : Ins)]).length by simp]
              rw [show (joinI ps).length + 1 = (joinI ps ++ [(⟨1, y, 0⟩ : Ins)]).length by simp] at hown10
              exact InsIn.own (l := joinI ps ++ [⟨1, y, 0⟩]) (by rw [insC_snoc]; exact hown10) rfl)
            have Hown10 := Lib.hid (ownBase hown10 hwJ)
            have Hb10 := Lib.hid hb10
            have Hpre := Lib.hid (show (w10.alloc (.cells #[.slice a10 ((joinI ps).length + 1) c10] 23)).ownsRow w.heap.size 23 1 (.slice none 0 0) 0 (vs.take 0) from by rw [List.take_zero]; exact World.ownsRow_nil _ _ _ _)
            have Hnews2 := Lib.hid (World.news_of_block (fr := (0, 0)) (heap_alloc_new w10 (.cells #[.slice a10 ((joinI ps).length + 1) c10] 23)))
            clear hown10 hg10 hat10 hnews hown9 hj9 hb9' hb10 hSof hHeld3
            have Hbase := Lib.hid (show w.heap.size ≤ (w10.alloc (.cells #[.slice a10 ((joinI ps).length + 1) c10] 23)).heap.size from by have h1 := Hst3.out.bel.size; have h2 := Hb10.out.size; have h3 := (allocB w10 (.cells #[.slice a10 ((joinI ps).length + 1) c10] 23)).size; omega)
            have Hone := Lib.hid (show ∀ u ∈ [(.slice a10 ((joinI ps).length + 1) c10 : Value)], u.oneCell' = true from by intro u hu; rw [List.mem_singleton] at hu; subst hu; rfl)
            have Hlt := Lib.hid (show 0 + 1 ≤ maxLen ∧ (0 + 1) * 24 ≤ 140737488355328 from by unfold maxLen; omega)
            go_wp2_with (at_builtin; go_must (refine wpList_append_own_at _ rfl _ _ 58 rfl w.heap.size 23 i0 _ 1 24 Tryz.underlying58 Hi0.out Hz0.out Hz1.out Hz2.out rfl (by decide) (.slice none 0 0) 0 (vs.take 0) rfl Hpre.out ⟨w10.heap.size, 0, none⟩ 1 1 [.slice a10 ((joinI ps).length + 1) c10] rfl rfl Hnews2.out Hone.out Hlt.out.1 Hlt.out.2 Hbase.out ?_))
            intro v11 w11 hown11 hgrow11 _ hat11
            have Hst11 := Lib.hid (CpSt.round Hst3.out HM.out Hkl.out Hyy.out Hty.out hm Hb10.out (by rw [Hpsd.out]; exact H10.out) Hown10.out hown11 rfl rfl hgrow11 (by rcases hat11 with h | h; exact .inl h; exact .inr (h.trans (by simp))))
            have Hlen11 := Lib.hid (stepC_len (stk := stk) Hty.out)
            obtain ⟨a11, c11, rfl⟩ := ownForm hown11
            clear hown11 hgrow11 hat11
            go_wp2_with fail
            go_roundw
            case rel => exact ⟨k + 1, 0 + 1, c11, a11, stepC stk y, by omega, by go_num, rfl, by rw [Hlen11.out]; omega, Hst11⟩
            case measure => simp [intOf]; omega
          · go_simp
            have hb5 := stepH hb0 (allocB w4 (.cells #[.int .u8 1, .int .u8 y.kind, .string ⟨y.text.toArray⟩, .int .i64 y.num, .int .i64 0] 63))
            refine hK.out _ _ (hSof _ hb5) (fun hHeld1 => ?_)
            clear hK K hHeld
            try simp only [Act.put, List.getElem_toArray, List.getElem_cons_zero, List.getElem_cons_succ, List.setIfInBounds_toArray, List.set_cons_zero, List.set_cons_succ]
            refine wpAnyH_ready (rs := [1]) (by kernel_rfl) (by simp) ?_
            refine AllReadyH.cons (o := _) rfl (fun K hK => ?_) AllReadyH.nil
            go_simp
            go_at_call 35
            refine (Hjn.out _ hb5).mono ?_
            rintro e w9 ⟨v9, rfl, hj9⟩
            have hb9' := stepH hb5 hj9.bel
            have hwJ : w3.heap.size ≤ (w4.alloc (.cells #[.int .u8 1, .int .u8 y.kind, .string ⟨y.text.toArray⟩, .int .i64 y.num, .int .i64 0] 63)).heap.size := hb5.size
            go_wp2_with fail
            refine hK.out _ _ (hSof _ hb9') (fun hHeld2 => ?_)
            clear hK K hHeld1
            try simp only [Act.put, List.getElem_toArray, List.getElem_cons_zero, List.getElem_cons_succ, List.setIfInBounds_toArray, List.set_cons_zero, List.set_cons_succ]
            have hnews := World.news_of_block (fr := (0, 0)) ((hj9.bel.block _ (by simp)).trans (heap_alloc_new w4 (.cells #[.int .u8 1, .int .u8 y.kind, .string ⟨y.text.toArray⟩, .int .i64 y.num, .int .i64 0] 63)))
            have hown9 := hj9.own
            refine wpAnyH_ready (rs := [5]) (by kernel_rfl) (by simp) ?_
            refine AllReadyH.cons (o := _) rfl (fun K hK => ?_) AllReadyH.nil
            refine step_ownAt (w4.alloc (.cells #[.int .u8 1, .int .u8 y.kind, .string ⟨y.text.toArray⟩, .int .i64 y.num, .int .i64 0] 63)).heap.size rfl _ _ 23 63 _ 5 48 rfl Tryz.underlying23 insInfo rfl (by decide) (by decide) v9 (joinI ps).length (insC (joinI ps)) (Ins.cells ⟨1, y, 0⟩) rfl _ rfl hnews rfl (by simp [Ins.cells, Value.oneCell']) hown9 hj9.bel.size (by omega) ?_
            intro v10 w10 hown10 hg10 hat10
            have hb10 : Below w3.heap.size w3 w10 := (hb9').grown hg10 (hb9').size fun b hb => Nat.le_trans hwJ (World.ownsRow.lt hj9.own b hb).1
            refine hK.out _ _ (hSof _ hb10) (fun hHeld3 => ?_)
            clear hK K
            try simp only [Act.put, List.getElem_toArray, List.getElem_cons_zero, List.getElem_cons_succ, List.setIfInBounds_toArray, List.set_cons_zero, List.set_cons_succ]
            refine wpAnyH_take (i := 6) (v := ?_) rfl (by kernel_rfl) (by kernel_rfl) (by kernel_rfl) (fun _ _ _ h => h) (Or.inl ⟨by rfl, ?_⟩) (by assumption) ?_
            rotate_left
            · (intro w' hSw; (try dsimp only at hSw); go_simp; try with_reducible rfl)
            try simp only [Act.put, List.getElem_toArray, List.getElem_cons_zero, List.getElem_cons_succ, List.setIfInBounds_toArray, List.set_cons_zero, List.set_cons_succ]
            refine wpAnyH_done (by kernel_rfl) ?_ _
            obtain ⟨a10, c10, rfl⟩ := ownForm hown10
            have H10 := Lib.hid (show InsIn w10 (.slice a10 ((joinI ps).length + 1) c10) (partC y ps) from by
              rw [hpart, show (joinI ps).length + 1 = (joinI ps ++ [(⟨1, y, 0⟩ : Ins)]).length by simp]
              rw [show (joinI ps).length + 1 = (joinI ps ++ [(⟨1, y, 0⟩ : Ins)]).length by simp] at hown10
              exact InsIn.own (l := joinI ps ++ [⟨1, y, 0⟩]) (by rw [insC_snoc]; exact hown10) rfl)
            have Hown10 := Lib.hid (ownBase hown10 hwJ)
            have Hb10 := Lib.hid hb10
            have Hpre := Lib.hid (show (w10.alloc (.cells #[.slice a10 ((joinI ps).length + 1) c10] 23)).ownsRow w.heap.size 23 1 (.slice none 0 0) 0 (vs.take 0) from by rw [List.take_zero]; exact World.ownsRow_nil _ _ _ _)
            have Hnews2 := Lib.hid (World.news_of_block (fr := (0, 0)) (heap_alloc_new w10 (.cells #[.slice a10 ((joinI ps).length + 1) c10] 23)))
            clear hown10 hg10 hat10 hnews hown9 hj9 hb9' hb10 hSof hHeld3
            have Hbase := Lib.hid (show w.heap.size ≤ (w10.alloc (.cells #[.slice a10 ((joinI ps).length + 1) c10] 23)).heap.size from by have h1 := Hst3.out.bel.size; have h2 := Hb10.out.size; have h3 := (allocB w10 (.cells #[.slice a10 ((joinI ps).length + 1) c10] 23)).size; omega)
            have Hone := Lib.hid (show ∀ u ∈ [(.slice a10 ((joinI ps).length + 1) c10 : Value)], u.oneCell' = true from by intro u hu; rw [List.mem_singleton] at hu; subst hu; rfl)
            have Hlt := Lib.hid (show 0 + 1 ≤ maxLen ∧ (0 + 1) * 24 ≤ 140737488355328 from by unfold maxLen; omega)
            go_wp2_with (at_builtin; go_must (refine wpList_append_own_at _ rfl _ _ 58 rfl w.heap.size 23 i0 _ 1 24 Tryz.underlying58 Hi0.out Hz0.out Hz1.out Hz2.out rfl (by decide) (.slice none 0 0) 0 (vs.take 0) rfl Hpre.out ⟨w10.heap.size, 0, none⟩ 1 1 [.slice a10 ((joinI ps).length + 1) c10] rfl rfl Hnews2.out Hone.out Hlt.out.1 Hlt.out.2 Hbase.out ?_))
            intro v11 w11 hown11 hgrow11 _ hat11
            have Hst11 := Lib.hid (CpSt.round Hst3.out HM.out Hkl.out Hyy.out Hty.out hm Hb10.out (by rw [Hpsd.out]; exact H10.out) Hown10.out hown11 rfl rfl hgrow11 (by rcases hat11 with h | h; exact .inl h; exact .inr (h.trans (by simp))))
            have Hlen11 := Lib.hid (stepC_len (stk := stk) Hty.out)
            obtain ⟨a11, c11, rfl⟩ := ownForm hown11
            clear hown11 hgrow11 hat11
            go_wp2_with fail
            go_roundw
            case rel => exact ⟨k + 1, 0 + 1, c11, a11, stepC stk y, by omega, by go_num, rfl, by rw [Hlen11.out]; omega, Hst11⟩
            case measure => simp [intOf]; omega
        · have j0 : (0 : Int) ≤ (at_ : Int) := by omega
          have j1 : (at_ : Int) ≤ (c4 : Int) := by omega
          have j2 : (at_ : Int) ≤ (at_ : Int) + (kk : Int) := by omega
          have Hps := Lib.hid (hM.progs hm rfl hmc)
          by_cases h21 : y.kind = 21
          · clear j0
            have b21 : ((y.kind : Int) == 21) = true := by rw [beq_iff_eq]; omega
            obtain rfl : kk = 2 := takes_logic Hty.out (by omega)
            obtain ⟨p0, p1, hpp⟩ : ∃ p0 p1, stk.drop at_ = [p0, p1] := two_parts (by rw [List.length_drop]; omega)
            have hpart : partC y (stk.drop at_) = logicI 2 3 p0 p1 := by unfold partC; rw [if_pos h21, hpp]; rfl
            obtain ⟨ap, np, cp, ep, hlp, hcp, hjp⟩ := Hps.out
            rw [hpp] at hjp
            rw [if_neg (show ¬ c4 = at_ by omega)] at ep
            simp only [Value.slice.injEq] at ep
            obtain ⟨rfl, rfl, rfl⟩ := ep
            obtain ⟨g0, o0, va, eo0, qa, ha⟩ := hjp 0 (by simp)
            obtain ⟨g1, o1, vb, eo1, qb, hbb⟩ := hjp 1 (by simp)
            simp only [Option.some.injEq, Addr.mk.injEq, and_true] at eo0 eo1
            obtain ⟨rfl, rfl⟩ := eo0
            obtain ⟨rfl, rfl⟩ := eo1
            simp only [List.getElem_cons_zero, List.getElem_cons_succ, Nat.add_zero] at ha hbb qa
            have hs0 := (Htots.out at_).2 p0 (by rw [hpp]; simp)
            have hs1 := (Htots.out at_).2 p1 (by rw [hpp]; simp)
            have hb0 : Below w3.heap.size w3 w3.drew := (Below.refl _ _).drew
            have Hlg := Lib.hid (logic_calls w3.drew 2 3 va vb p0 p1 (ha.below hb0) (hbb.below hb0) (by omega) (by omega) hs0.2 hs1.2)
            have hne : ¬ c4 = at_ := by omega
            clear hM hown hjp hlp hcp ha hbb
            go_wp2_with fail
            have hS0 : w3.drew.cell? ⟨gs, at_, none⟩ = some va ∧ w3.drew.cell? ⟨gs, at_ + 1, none⟩ = some vb := ⟨(hb0.cell (p := ⟨gs, _, none⟩) hgs2).trans qa, (hb0.cell (p := ⟨gs, _, none⟩) hgs2).trans qb⟩
            go_region_held3 (fun w' => w'.cell? ⟨gs, at_, none⟩ = some va ∧ w'.cell? ⟨gs, at_ + 1, none⟩ = some vb) (first | exact hS0 | exact hS6)
              (first | (go_at_call 34; refine Hlg.out.mono ?_; rintro e w10 ⟨v10, rfl, hj10⟩; have hS6 : w10.cell? ⟨gs, at_, none⟩ = some va ∧ w10.cell? ⟨gs, at_ + 1, none⟩ = some vb := ⟨(hj10.bel.cell (p := ⟨gs, _, none⟩) (Nat.lt_of_lt_of_le hgs2 hb0.size)).trans hS0.1, (hj10.bel.cell (p := ⟨gs, _, none⟩) (Nat.lt_of_lt_of_le hgs2 hb0.size)).trans hS0.2⟩))
            have hwJ : w3.heap.size ≤ w3.drew.heap.size := hb0.size
            have Hb10 := Lib.hid (stepH hb0 hj10.bel)
            have hown10 := ownBase hj10.own hwJ
            obtain ⟨a10, c10, rfl⟩ := ownForm hown10
            have H10 := Lib.hid (show InsIn w10 (.slice a10 (logicI 2 3 p0 p1).length c10) (partC y (stk.drop at_)) from by rw [hpart]; exact InsIn.own hown10 rfl)
            have Hown10 := Lib.hid hown10
            have Hpre := Lib.hid (show (w10.alloc (.cells #[.slice a10 (logicI 2 3 p0 p1).length c10] 23)).ownsRow w.heap.size 23 1 (.slice (some ⟨gs, 0, none⟩) at_ c4) at_ (vs.take at_) from by have h1 := ((HM.out.step Hb10.out).step (allocB w10 (.cells #[.slice a10 (logicI 2 3 p0 p1).length c10] 23))).own; rw [hm] at h1; exact own_prefix h1 (by omega))
            have Hnews2 := Lib.hid (World.news_of_block (fr := (0, 0)) (heap_alloc_new w10 (.cells #[.slice a10 (logicI 2 3 p0 p1).length c10] 23)))
            clear hown10 hj10 hb0 qa qb hS0 hS6
            have Hbase := Lib.hid (show w.heap.size ≤ (w10.alloc (.cells #[.slice a10 (logicI 2 3 p0 p1).length c10] 23)).heap.size from by have h1 := Hst3.out.bel.size; have h2 := Hb10.out.size; have h3 := (allocB w10 (.cells #[.slice a10 (logicI 2 3 p0 p1).length c10] 23)).size; omega)
            have Hone := Lib.hid (show ∀ u ∈ [(.slice a10 (logicI 2 3 p0 p1).length c10 : Value)], u.oneCell' = true from by intro u hu; rw [List.mem_singleton] at hu; subst hu; rfl)
            have Hlt := Lib.hid (show at_ + 1 ≤ maxLen ∧ (at_ + 1) * 24 ≤ 140737488355328 from by unfold maxLen; omega)
            go_wp2_with (at_builtin; go_must (refine wpList_append_own_at _ rfl _ _ 58 rfl w.heap.size 23 i0 _ 1 24 Tryz.underlying58 Hi0.out Hz0.out Hz1.out Hz2.out rfl (by decide) (.slice (some ⟨gs, 0, none⟩) at_ c4) at_ (vs.take at_) rfl Hpre.out ⟨w10.heap.size, 0, none⟩ 1 1 [.slice a10 (logicI 2 3 p0 p1).length c10] rfl rfl Hnews2.out Hone.out Hlt.out.1 Hlt.out.2 Hbase.out ?_))
            intro v11 w11 hown11 hgrow11 _ hat11
            have Hst11 := Lib.hid (CpSt.round Hst3.out HM.out Hkl.out Hyy.out Hty.out hm Hb10.out H10.out Hown10.out hown11 rfl rfl hgrow11 (by rcases hat11 with h | h; exact .inl h; exact .inr (h.trans (by simp))))
            have Hlen11 := Lib.hid (stepC_len (stk := stk) Hty.out)
            obtain ⟨a11, c11, rfl⟩ := ownForm hown11
            clear hown11 hgrow11 hat11
            go_wp2_with fail
            go_roundw
            case rel => exact ⟨k + 1, at_ + 1, c11, a11, stepC stk y, by omega, by go_num, rfl, by rw [Hlen11.out]; omega, Hst11⟩
            case measure => simp [intOf]; omega
          by_cases h22 : y.kind = 22
          · clear j0
            have b21 : ((y.kind : Int) == 21) = false := by rw [beq_eq_false_iff_ne]; omega
            have b22 : ((y.kind : Int) == 22) = true := by rw [beq_iff_eq]; omega
            obtain rfl : kk = 2 := takes_logic Hty.out (by omega)
            obtain ⟨p0, p1, hpp⟩ : ∃ p0 p1, stk.drop at_ = [p0, p1] := two_parts (by rw [List.length_drop]; omega)
            have hpart : partC y (stk.drop at_) = logicI 4 5 p0 p1 := by unfold partC; rw [if_neg h21, if_pos h22, hpp]; rfl
            obtain ⟨ap, np, cp, ep, hlp, hcp, hjp⟩ := Hps.out
            rw [hpp] at hjp
            rw [if_neg (show ¬ c4 = at_ by omega)] at ep
            simp only [Value.slice.injEq] at ep
            obtain ⟨rfl, rfl, rfl⟩ := ep
            obtain ⟨g0, o0, va, eo0, qa, ha⟩ := hjp 0 (by simp)
            obtain ⟨g1, o1, vb, eo1, qb, hbb⟩ := hjp 1 (by simp)
            simp only [Option.some.injEq, Addr.mk.injEq, and_true] at eo0 eo1
            obtain ⟨rfl, rfl⟩ := eo0
            obtain ⟨rfl, rfl⟩ := eo1
            simp only [List.getElem_cons_zero, List.getElem_cons_succ, Nat.add_zero] at ha hbb qa
            have hs0 := (Htots.out at_).2 p0 (by rw [hpp]; simp)
            have hs1 := (Htots.out at_).2 p1 (by rw [hpp]; simp)
            have hb0 : Below w3.heap.size w3 w3.drew := (Below.refl _ _).drew
            have Hlg := Lib.hid (logic_calls w3.drew 4 5 va vb p0 p1 (ha.below hb0) (hbb.below hb0) (by omega) (by omega) hs0.2 hs1.2)
            have hne : ¬ c4 = at_ := by omega
            clear hM hown hjp hlp hcp ha hbb
            go_wp2_with fail
            have hS0 : w3.drew.cell? ⟨gs, at_, none⟩ = some va ∧ w3.drew.cell? ⟨gs, at_ + 1, none⟩ = some vb := ⟨(hb0.cell (p := ⟨gs, _, none⟩) hgs2).trans qa, (hb0.cell (p := ⟨gs, _, none⟩) hgs2).trans qb⟩
            go_region_held3 (fun w' => w'.cell? ⟨gs, at_, none⟩ = some va ∧ w'.cell? ⟨gs, at_ + 1, none⟩ = some vb) (first | exact hS0 | exact hS6)
              (first | (go_at_call 34; refine Hlg.out.mono ?_; rintro e w10 ⟨v10, rfl, hj10⟩; have hS6 : w10.cell? ⟨gs, at_, none⟩ = some va ∧ w10.cell? ⟨gs, at_ + 1, none⟩ = some vb := ⟨(hj10.bel.cell (p := ⟨gs, _, none⟩) (Nat.lt_of_lt_of_le hgs2 hb0.size)).trans hS0.1, (hj10.bel.cell (p := ⟨gs, _, none⟩) (Nat.lt_of_lt_of_le hgs2 hb0.size)).trans hS0.2⟩))
            have hwJ : w3.heap.size ≤ w3.drew.heap.size := hb0.size
            have Hb10 := Lib.hid (stepH hb0 hj10.bel)
            have hown10 := ownBase hj10.own hwJ
            obtain ⟨a10, c10, rfl⟩ := ownForm hown10
            have H10 := Lib.hid (show InsIn w10 (.slice a10 (logicI 4 5 p0 p1).length c10) (partC y (stk.drop at_)) from by rw [hpart]; exact InsIn.own hown10 rfl)
            have Hown10 := Lib.hid hown10
            have Hpre := Lib.hid (show (w10.alloc (.cells #[.slice a10 (logicI 4 5 p0 p1).length c10] 23)).ownsRow w.heap.size 23 1 (.slice (some ⟨gs, 0, none⟩) at_ c4) at_ (vs.take at_) from by have h1 := ((HM.out.step Hb10.out).step (allocB w10 (.cells #[.slice a10 (logicI 4 5 p0 p1).length c10] 23))).own; rw [hm] at h1; exact own_prefix h1 (by omega))
            have Hnews2 := Lib.hid (World.news_of_block (fr := (0, 0)) (heap_alloc_new w10 (.cells #[.slice a10 (logicI 4 5 p0 p1).length c10] 23)))
            clear hown10 hj10 hb0 qa qb hS0 hS6
            have Hbase := Lib.hid (show w.heap.size ≤ (w10.alloc (.cells #[.slice a10 (logicI 4 5 p0 p1).length c10] 23)).heap.size from by have h1 := Hst3.out.bel.size; have h2 := Hb10.out.size; have h3 := (allocB w10 (.cells #[.slice a10 (logicI 4 5 p0 p1).length c10] 23)).size; omega)
            have Hone := Lib.hid (show ∀ u ∈ [(.slice a10 (logicI 4 5 p0 p1).length c10 : Value)], u.oneCell' = true from by intro u hu; rw [List.mem_singleton] at hu; subst hu; rfl)
            have Hlt := Lib.hid (show at_ + 1 ≤ maxLen ∧ (at_ + 1) * 24 ≤ 140737488355328 from by unfold maxLen; omega)
            go_wp2_with (at_builtin; go_must (refine wpList_append_own_at _ rfl _ _ 58 rfl w.heap.size 23 i0 _ 1 24 Tryz.underlying58 Hi0.out Hz0.out Hz1.out Hz2.out rfl (by decide) (.slice (some ⟨gs, 0, none⟩) at_ c4) at_ (vs.take at_) rfl Hpre.out ⟨w10.heap.size, 0, none⟩ 1 1 [.slice a10 (logicI 4 5 p0 p1).length c10] rfl rfl Hnews2.out Hone.out Hlt.out.1 Hlt.out.2 Hbase.out ?_))
            intro v11 w11 hown11 hgrow11 _ hat11
            have Hst11 := Lib.hid (CpSt.round Hst3.out HM.out Hkl.out Hyy.out Hty.out hm Hb10.out H10.out Hown10.out hown11 rfl rfl hgrow11 (by rcases hat11 with h | h; exact .inl h; exact .inr (h.trans (by simp))))
            have Hlen11 := Lib.hid (stepC_len (stk := stk) Hty.out)
            obtain ⟨a11, c11, rfl⟩ := ownForm hown11
            clear hown11 hgrow11 hat11
            go_wp2_with fail
            go_roundw
            case rel => exact ⟨k + 1, at_ + 1, c11, a11, stepC stk y, by omega, by go_num, rfl, by rw [Hlen11.out]; omega, Hst11⟩
            case measure => simp [intOf]; omega
          by_cases hca : c4 = at_
          · subst hca
            obtain rfl : kk = 0 := by omega
            have Hps := Lib.hid (progs_none w3 (some ⟨gs, 0, none⟩) 0 stk c4 hm)
            have b21 : ((y.kind : Int) == 21) = false := by rw [beq_eq_false_iff_ne]; omega
            have b22 : ((y.kind : Int) == 22) = false := by rw [beq_eq_false_iff_ne]; omega
            have hpart : partC y (stk.drop c4) = joinI (stk.drop c4) ++ [⟨1, y, 0⟩] := by unfold partC; rw [if_neg h21, if_neg h22]
            have hjl : (joinI (stk.drop c4)).length ≤ 256 := by have h1 := joinI_length (stk.drop c4); have h2 := (Htots.out c4).1; unfold total at h2; omega
            have Hjn := Lib.hid (fun (w4 : World) (hb : Below w3.heap.size w3 w4) => joined_calls w4 _ _ (Hps.out.below hb) (by rw [List.length_drop]; omega) (by have := (Htots.out c4).1; omega) (fun p hp => ((Htots.out c4).2 p hp).2))
            generalize hpsd : stk.drop c4 = ps at *
            have Hpsd := Lib.hid hpsd
            clear hpsd
            clear hM hown
            go_wp2_with fail
            have hSof : ∀ w' : World, Below w3.heap.size w3 w' → (w'.cell? ⟨wr.heap.size, 0, none⟩ = some (.int .u8 y.kind) ∧ w'.cell? ⟨wr.heap.size, 1, none⟩ = some (.string ⟨y.text.toArray⟩) ∧ w'.cell? ⟨wr.heap.size, 2, none⟩ = some (.int .i64 y.num)) := fun w' hb => ⟨(hb.cell (p := ⟨wr.heap.size, 0, none⟩) hB3).trans k0, (hb.cell (p := ⟨wr.heap.size, 1, none⟩) hB3).trans k1, (hb.cell (p := ⟨wr.heap.size, 2, none⟩) hB3).trans k2⟩
            have hb0 : Below w3.heap.size w3 w3.drew := (Below.refl _ _).drew
            refine wp_region_held_drew (S := fun w' => w'.cell? ⟨wr.heap.size, 0, none⟩ = some (.int .u8 y.kind) ∧ w'.cell? ⟨wr.heap.size, 1, none⟩ = some (.string ⟨y.text.toArray⟩) ∧ w'.cell? ⟨wr.heap.size, 2, none⟩ = some (.int .i64 y.num)) (by kernel_rfl) (hSof _ hb0) (fun hHeld => ?_)
            generalize w3.drew = w4 at *
            refine wpAnyH_take (i := 0) (v := ?_) rfl (by kernel_rfl) (by kernel_rfl) (by kernel_rfl) (fun _ _ _ h => h) (Or.inl ⟨by rfl, ?_⟩) (by assumption) ?_
            rotate_left
            · (intro w' hSw; (try dsimp only at hSw); go_simp; try with_reducible rfl)
            try simp only [Act.put, List.getElem_toArray, List.getElem_cons_zero, List.setIfInBounds_toArray, List.set_cons_zero, List.set_cons_succ]
            refine wpAnyH_take (i := 2) (v := ?_) rfl (by kernel_rfl) (by kernel_rfl) (by kernel_rfl) (fun _ _ _ h => h) (Or.inl ⟨by rfl, ?_⟩) (by assumption) ?_
            rotate_left
            · (intro w' hSw; (try dsimp only at hSw); go_simp; try with_reducible rfl)
            try simp only [Act.put, List.getElem_toArray, List.getElem_cons_zero, List.getElem_cons_succ, List.setIfInBounds_toArray, List.set_cons_zero, List.set_cons_succ]
            refine wpAnyH_take (i := 3) (v := ?_) rfl (by kernel_rfl) (by kernel_rfl) (by kernel_rfl) (fun _ _ _ h => h) (Or.inl ⟨by rfl, ?_⟩) (by assumption) ?_
            rotate_left
            · (intro w' hSw; (try dsimp only at hSw); go_simp; try with_reducible rfl)
            try simp only [Act.put, List.getElem_toArray, List.getElem_cons_zero, List.getElem_cons_succ, List.setIfInBounds_toArray, List.set_cons_zero, List.set_cons_succ]
            refine wpAnyH_ready (rs := [1, 4]) (by kernel_rfl) (by simp) ?_
            refine AllReadyH.cons (o := _) rfl (fun K hK => ?_) (AllReadyH.cons (o := _) rfl (fun K hK => ?_) AllReadyH.nil)
            · go_simp
              go_at_call 35
              refine (Hjn.out _ hb0).mono ?_
              rintro e w9 ⟨v9, rfl, hj9⟩
              have hb9 := stepH hb0 hj9.bel
              have hwJ : w3.heap.size ≤ w4.heap.size := hb0.size
              go_wp2_with fail
              refine hK.out _ _ (hSof _ hb9) (fun hHeld1 => ?_)
              clear hK K hHeld
              try simp only [Act.put, List.getElem_toArray, List.getElem_cons_zero, List.getElem_cons_succ, List.setIfInBounds_toArray, List.set_cons_zero, List.set_cons_succ]
              refine wpAnyH_ready (rs := [4]) (by kernel_rfl) (by simp) ?_
              refine AllReadyH.cons (o := _) rfl (fun K hK => ?_) AllReadyH.nil
              go_simp
              have hb9' := stepH hb9 (allocB w9 (.cells #[.int .u8 1, .int .u8 y.kind, .string ⟨y.text.toArray⟩, .int .i64 y.num, .int .i64 0] 63))
              refine hK.out _ _ (hSof _ hb9') (fun hHeld2 => ?_)
              clear hK K hHeld1
              try simp only [Act.put, List.getElem_toArray, List.getElem_cons_zero, List.getElem_cons_succ, List.setIfInBounds_toArray, List.set_cons_zero, List.set_cons_succ]
              have hnews := World.news_of_block (fr := (0, 0)) (heap_alloc_new w9 (.cells #[.int .u8 1, .int .u8 y.kind, .string ⟨y.text.toArray⟩, .int .i64 y.num, .int .i64 0] 63))
              have hown9 := hj9.own.alloc (.cells #[.int .u8 1, .int .u8 y.kind, .string ⟨y.text.toArray⟩, .int .i64 y.num, .int .i64 0] 63)
              refine wpAnyH_ready (rs := [5]) (by kernel_rfl) (by simp) ?_
              refine AllReadyH.cons (o := _) rfl (fun K hK => ?_) AllReadyH.nil
              refine step_ownAt w4.heap.size rfl _ _ 23 63 _ 5 48 rfl Tryz.underlying23 insInfo rfl (by decide) (by decide) v9 (joinI ps).length (insC (joinI ps)) (Ins.cells ⟨1, y, 0⟩) rfl _ rfl hnews rfl (by simp [Ins.cells, Value.oneCell']) hown9 (by have := hj9.bel.size; simp; omega) (by omega) ?_
              intro v10 w10 hown10 hg10 hat10
              have hb10 : Below w3.heap.size w3 w10 := (hb9').grown hg10 (hb9').size fun b hb => Nat.le_trans hwJ (World.ownsRow.lt hj9.own b hb).1
              refine hK.out _ _ (hSof _ hb10) (fun hHeld3 => ?_)
              clear hK K
              try simp only [Act.put, List.getElem_toArray, List.getElem_cons_zero, List.getElem_cons_succ, List.setIfInBounds_toArray, List.set_cons_zero, List.set_cons_succ]
              refine wpAnyH_take (i := 6) (v := ?_) rfl (by kernel_rfl) (by kernel_rfl) (by kernel_rfl) (fun _ _ _ h => h) (Or.inl ⟨by rfl, ?_⟩) (by assumption) ?_
              rotate_left
              · (intro w' hSw; (try dsimp only at hSw); go_simp; try with_reducible rfl)
              try simp only [Act.put, List.getElem_toArray, List.getElem_cons_zero, List.getElem_cons_succ, List.setIfInBounds_toArray, List.set_cons_zero, List.set_cons_succ]
              refine wpAnyH_done (by kernel_rfl) ?_ _
              obtain ⟨a10, c10, rfl⟩ := ownForm hown10
              have H10 := Lib.hid (show InsIn w10 (.slice a10 ((joinI ps).length + 1) c10) (partC y ps) from by
                rw [hpart, show (joinI ps).length + 1 = (joinI ps ++ [(⟨1, y, 0⟩ : Ins)]).length by simp]
                rw [show (joinI ps).length + 1 = (joinI ps ++ [(⟨1, y, 0⟩ : Ins)]).length by simp] at hown10
                exact InsIn.own (l := joinI ps ++ [⟨1, y, 0⟩]) (by rw [insC_snoc]; exact hown10) rfl)
              have Hown10 := Lib.hid (ownBase hown10 hwJ)
              have Hb10 := Lib.hid hb10
              have Hpre := Lib.hid (show (w10.alloc (.cells #[.slice a10 ((joinI ps).length + 1) c10] 23)).ownsRow w.heap.size 23 1 (.slice (some ⟨gs, 0, none⟩) c4 c4) c4 (vs.take c4) from by have h1 := ((HM.out.step Hb10.out).step (allocB w10 (.cells #[.slice a10 ((joinI ps).length + 1) c10] 23))).own; rw [hm] at h1; exact own_prefix h1 (by omega))
              have Hnews2 := Lib.hid (World.news_of_block (fr := (0, 0)) (heap_alloc_new w10 (.cells #[.slice a10 ((joinI ps).length + 1) c10] 23)))
              clear hown10 hg10 hat10 hnews hown9 hj9 hb9' hb10 hSof hHeld3
              have Hbase := Lib.hid (show w.heap.size ≤ (w10.alloc (.cells #[.slice a10 ((joinI ps).length + 1) c10] 23)).heap.size from by have h1 := Hst3.out.bel.size; have h2 := Hb10.out.size; have h3 := (allocB w10 (.cells #[.slice a10 ((joinI ps).length + 1) c10] 23)).size; omega)
              have Hone := Lib.hid (show ∀ u ∈ [(.slice a10 ((joinI ps).length + 1) c10 : Value)], u.oneCell' = true from by intro u hu; rw [List.mem_singleton] at hu; subst hu; rfl)
              have Hlt := Lib.hid (show c4 + 1 ≤ maxLen ∧ (c4 + 1) * 24 ≤ 140737488355328 from by unfold maxLen; omega)
              go_wp2_with (at_builtin; go_must (refine wpList_append_own_at _ rfl _ _ 58 rfl w.heap.size 23 i0 _ 1 24 Tryz.underlying58 Hi0.out Hz0.out Hz1.out Hz2.out rfl (by decide) (.slice (some ⟨gs, 0, none⟩) c4 c4) c4 (vs.take c4) rfl Hpre.out ⟨w10.heap.size, 0, none⟩ 1 1 [.slice a10 ((joinI ps).length + 1) c10] rfl rfl Hnews2.out Hone.out Hlt.out.1 Hlt.out.2 Hbase.out ?_))
              intro v11 w11 hown11 hgrow11 _ hat11
              have Hst11 := Lib.hid (CpSt.round Hst3.out HM.out Hkl.out Hyy.out Hty.out hm Hb10.out (by rw [Hpsd.out]; exact H10.out) Hown10.out hown11 rfl rfl hgrow11 (by rcases hat11 with h | h; exact .inl h; exact .inr (h.trans (by simp))))
              have Hlen11 := Lib.hid (stepC_len (stk := stk) Hty.out)
              obtain ⟨a11, c11, rfl⟩ := ownForm hown11
              clear hown11 hgrow11 hat11
              go_wp2_with fail
              go_roundw
              case rel => exact ⟨k + 1, c4 + 1, c11, a11, stepC stk y, by omega, by go_num, rfl, by rw [Hlen11.out]; omega, Hst11⟩
              case measure => simp [intOf]; omega
            · go_simp
              have hb5 := stepH hb0 (allocB w4 (.cells #[.int .u8 1, .int .u8 y.kind, .string ⟨y.text.toArray⟩, .int .i64 y.num, .int .i64 0] 63))
              refine hK.out _ _ (hSof _ hb5) (fun hHeld1 => ?_)
              clear hK K hHeld
              try simp only [Act.put, List.getElem_toArray, List.getElem_cons_zero, List.getElem_cons_succ, List.setIfInBounds_toArray, List.set_cons_zero, List.set_cons_succ]
              refine wpAnyH_ready (rs := [1]) (by kernel_rfl) (by simp) ?_
              refine AllReadyH.cons (o := _) rfl (fun K hK => ?_) AllReadyH.nil
              go_simp
              go_at_call 35
              refine (Hjn.out _ hb5).mono ?_
              rintro e w9 ⟨v9, rfl, hj9⟩
              have hb9' := stepH hb5 hj9.bel
              have hwJ : w3.heap.size ≤ (w4.alloc (.cells #[.int .u8 1, .int .u8 y.kind, .string ⟨y.text.toArray⟩, .int .i64 y.num, .int .i64 0] 63)).heap.size := hb5.size
              go_wp2_with fail
              refine hK.out _ _ (hSof _ hb9') (fun hHeld2 => ?_)
              clear hK K hHeld1
              try simp only [Act.put, List.getElem_toArray, List.getElem_cons_zero, List.getElem_cons_succ, List.setIfInBounds_toArray, List.set_cons_zero, List.set_cons_succ]
              have hnews := World.news_of_block (fr := (0, 0)) ((hj9.bel.block _ (by simp)).trans (heap_alloc_new w4 (.cells #[.int .u8 1, .int .u8 y.kind, .string ⟨y.text.toArray⟩, .int .i64 y.num, .int .i64 0] 63)))
              have hown9 := hj9.own
              refine wpAnyH_ready (rs := [5]) (by kernel_rfl) (by simp) ?_
              refine AllReadyH.cons (o := _) rfl (fun K hK => ?_) AllReadyH.nil
              refine step_ownAt (w4.alloc (.cells #[.int .u8 1, .int .u8 y.kind, .string ⟨y.text.toArray⟩, .int .i64 y.num, .int .i64 0] 63)).heap.size rfl _ _ 23 63 _ 5 48 rfl Tryz.underlying23 insInfo rfl (by decide) (by decide) v9 (joinI ps).length (insC (joinI ps)) (Ins.cells ⟨1, y, 0⟩) rfl _ rfl hnews rfl (by simp [Ins.cells, Value.oneCell']) hown9 hj9.bel.size (by omega) ?_
              intro v10 w10 hown10 hg10 hat10
              have hb10 : Below w3.heap.size w3 w10 := (hb9').grown hg10 (hb9').size fun b hb => Nat.le_trans hwJ (World.ownsRow.lt hj9.own b hb).1
              refine hK.out _ _ (hSof _ hb10) (fun hHeld3 => ?_)
              clear hK K
              try simp only [Act.put, List.getElem_toArray, List.getElem_cons_zero, List.getElem_cons_succ, List.setIfInBounds_toArray, List.set_cons_zero, List.set_cons_succ]
              refine wpAnyH_take (i := 6) (v := ?_) rfl (by kernel_rfl) (by kernel_rfl) (by kernel_rfl) (fun _ _ _ h => h) (Or.inl ⟨by rfl, ?_⟩) (by assumption) ?_
              rotate_left
              · (intro w' hSw; (try dsimp only at hSw); go_simp; try with_reducible rfl)
              try simp only [Act.put, List.getElem_toArray, List.getElem_cons_zero, List.getElem_cons_succ, List.setIfInBounds_toArray, List.set_cons_zero, List.set_cons_succ]
              refine wpAnyH_done (by kernel_rfl) ?_ _
              obtain ⟨a10, c10, rfl⟩ := ownForm hown10
              have H10 := Lib.hid (show InsIn w10 (.slice a10 ((joinI ps).length + 1) c10) (partC y ps) from by
                rw [hpart, show (joinI ps).length + 1 = (joinI ps ++ [(⟨1, y, 0⟩ : Ins)]).length by simp]
                rw [show (joinI ps).length + 1 = (joinI ps ++ [(⟨1, y, 0⟩ : Ins)]).length by simp] at hown10
                exact InsIn.own (l := joinI ps ++ [⟨1, y, 0⟩]) (by rw [insC_snoc]; exact hown10) rfl)
              have Hown10 := Lib.hid (ownBase hown10 hwJ)
              have Hb10 := Lib.hid hb10
              have Hpre := Lib.hid (show (w10.alloc (.cells #[.slice a10 ((joinI ps).length + 1) c10] 23)).ownsRow w.heap.size 23 1 (.slice (some ⟨gs, 0, none⟩) c4 c4) c4 (vs.take c4) from by have h1 := ((HM.out.step Hb10.out).step (allocB w10 (.cells #[.slice a10 ((joinI ps).length + 1) c10] 23))).own; rw [hm] at h1; exact own_prefix h1 (by omega))
              have Hnews2 := Lib.hid (World.news_of_block (fr := (0, 0)) (heap_alloc_new w10 (.cells #[.slice a10 ((joinI ps).length + 1) c10] 23)))
              clear hown10 hg10 hat10 hnews hown9 hj9 hb9' hb10 hSof hHeld3
              have Hbase := Lib.hid (show w.heap.size ≤ (w10.alloc (.cells #[.slice a10 ((joinI ps).length + 1) c10] 23)).heap.size from by have h1 := Hst3.out.bel.size; have h2 := Hb10.out.size; have h3 := (allocB w10 (.cells #[.slice a10 ((joinI ps).length + 1) c10] 23)).size; omega)
              have Hone := Lib.hid (show ∀ u ∈ [(.slice a10 ((joinI ps).length + 1) c10 : Value)], u.oneCell' = true from by intro u hu; rw [List.mem_singleton] at hu; subst hu; rfl)
              have Hlt := Lib.hid (show c4 + 1 ≤ maxLen ∧ (c4 + 1) * 24 ≤ 140737488355328 from by unfold maxLen; omega)
              go_wp2_with (at_builtin; go_must (refine wpList_append_own_at _ rfl _ _ 58 rfl w.heap.size 23 i0 _ 1 24 Tryz.underlying58 Hi0.out Hz0.out Hz1.out Hz2.out rfl (by decide) (.slice (some ⟨gs, 0, none⟩) c4 c4) c4 (vs.take c4) rfl Hpre.out ⟨w10.heap.size, 0, none⟩ 1 1 [.slice a10 ((joinI ps).length + 1) c10] rfl rfl Hnews2.out Hone.out Hlt.out.1 Hlt.out.2 Hbase.out ?_))
              intro v11 w11 hown11 hgrow11 _ hat11
              have Hst11 := Lib.hid (CpSt.round Hst3.out HM.out Hkl.out Hyy.out Hty.out hm Hb10.out (by rw [Hpsd.out]; exact H10.out) Hown10.out hown11 rfl rfl hgrow11 (by rcases hat11 with h | h; exact .inl h; exact .inr (h.trans (by simp))))
              have Hlen11 := Lib.hid (stepC_len (stk := stk) Hty.out)
              obtain ⟨a11, c11, rfl⟩ := ownForm hown11
              clear hown11 hgrow11 hat11
              go_wp2_with fail
              go_roundw
              case rel => exact ⟨k + 1, c4 + 1, c11, a11, stepC stk y, by omega, by go_num, rfl, by rw [Hlen11.out]; omega, Hst11⟩
              case measure => simp [intOf]; omega
          · rw [if_neg hca] at Hps
            have b21 : ((y.kind : Int) == 21) = false := by rw [beq_eq_false_iff_ne]; omega
            have b22 : ((y.kind : Int) == 22) = false := by rw [beq_eq_false_iff_ne]; omega
            have hpart : partC y (stk.drop at_) = joinI (stk.drop at_) ++ [⟨1, y, 0⟩] := by unfold partC; rw [if_neg h21, if_neg h22]
            have hjl : (joinI (stk.drop at_)).length ≤ 256 := by have h1 := joinI_length (stk.drop at_); have h2 := (Htots.out at_).1; unfold total at h2; omega
            have Hjn := Lib.hid (fun (w4 : World) (hb : Below w3.heap.size w3 w4) => joined_calls w4 _ _ (Hps.out.below hb) (by rw [List.length_drop]; omega) (by have := (Htots.out at_).1; omega) (fun p hp => ((Htots.out at_).2 p hp).2))
            generalize hpsd : stk.drop at_ = ps at *
            have Hpsd := Lib.hid hpsd
            clear hpsd
            clear hM hown
            go_wp2_with fail
            have hSof : ∀ w' : World, Below w3.heap.size w3 w' → (w'.cell? ⟨wr.heap.size, 0, none⟩ = some (.int .u8 y.kind) ∧ w'.cell? ⟨wr.heap.size, 1, none⟩ = some (.string ⟨y.text.toArray⟩) ∧ w'.cell? ⟨wr.heap.size, 2, none⟩ = some (.int .i64 y.num)) := fun w' hb => ⟨(hb.cell (p := ⟨wr.heap.size, 0, none⟩) hB3).trans k0, (hb.cell (p := ⟨wr.heap.size, 1, none⟩) hB3).trans k1, (hb.cell (p := ⟨wr.heap.size, 2, none⟩) hB3).trans k2⟩
            have hb0 : Below w3.heap.size w3 w3.drew := (Below.refl _ _).drew
            refine wp_region_held_drew (S := fun w' => w'.cell? ⟨wr.heap.size, 0, none⟩ = some (.int .u8 y.kind) ∧ w'.cell? ⟨wr.heap.size, 1, none⟩ = some (.string ⟨y.text.toArray⟩) ∧ w'.cell? ⟨wr.heap.size, 2, none⟩ = some (.int .i64 y.num)) (by kernel_rfl) (hSof _ hb0) (fun hHeld => ?_)
            generalize w3.drew = w4 at *
            refine wpAnyH_take (i := 0) (v := ?_) rfl (by kernel_rfl) (by kernel_rfl) (by kernel_rfl) (fun _ _ _ h => h) (Or.inl ⟨by rfl, ?_⟩) (by assumption) ?_
            rotate_left
            · (intro w' hSw; (try dsimp only at hSw); go_simp; try with_reducible rfl)
            try simp only [Act.put, List.getElem_toArray, List.getElem_cons_zero, List.setIfInBounds_toArray, List.set_cons_zero, List.set_cons_succ]
            refine wpAnyH_take (i := 2) (v := ?_) rfl (by kernel_rfl) (by kernel_rfl) (by kernel_rfl) (fun _ _ _ h => h) (Or.inl ⟨by rfl, ?_⟩) (by assumption) ?_
            rotate_left
            · (intro w' hSw; (try dsimp only at hSw); go_simp; try with_reducible rfl)
            try simp only [Act.put, List.getElem_toArray, List.getElem_cons_zero, List.getElem_cons_succ, List.setIfInBounds_toArray, List.set_cons_zero, List.set_cons_succ]
            refine wpAnyH_take (i := 3) (v := ?_) rfl (by kernel_rfl) (by kernel_rfl) (by kernel_rfl) (fun _ _ _ h => h) (Or.inl ⟨by rfl, ?_⟩) (by assumption) ?_
            rotate_left
            · (intro w' hSw; (try dsimp only at hSw); go_simp; try with_reducible rfl)
            try simp only [Act.put, List.getElem_toArray, List.getElem_cons_zero, List.getElem_cons_succ, List.setIfInBounds_toArray, List.set_cons_zero, List.set_cons_succ]
            refine wpAnyH_ready (rs := [1, 4]) (by kernel_rfl) (by simp) ?_
            refine AllReadyH.cons (o := _) rfl (fun K hK => ?_) (AllReadyH.cons (o := _) rfl (fun K hK => ?_) AllReadyH.nil)
            · go_simp
              go_at_call 35
              refine (Hjn.out _ hb0).mono ?_
              rintro e w9 ⟨v9, rfl, hj9⟩
              have hb9 := stepH hb0 hj9.bel
              have hwJ : w3.heap.size ≤ w4.heap.size := hb0.size
              go_wp2_with fail
              refine hK.out _ _ (hSof _ hb9) (fun hHeld1 => ?_)
              clear hK K hHeld
              try simp only [Act.put, List.getElem_toArray, List.getElem_cons_zero, List.getElem_cons_succ, List.setIfInBounds_toArray, List.set_cons_zero, List.set_cons_succ]
              refine wpAnyH_ready (rs := [4]) (by kernel_rfl) (by simp) ?_
              refine AllReadyH.cons (o := _) rfl (fun K hK => ?_) AllReadyH.nil
              go_simp
              have hb9' := stepH hb9 (allocB w9 (.cells #[.int .u8 1, .int .u8 y.kind, .string ⟨y.text.toArray⟩, .int .i64 y.num, .int .i64 0] 63))
              refine hK.out _ _ (hSof _ hb9') (fun hHeld2 => ?_)
              clear hK K hHeld1
              try simp only [Act.put, List.getElem_toArray, List.getElem_cons_zero, List.getElem_cons_succ, List.setIfInBounds_toArray, List.set_cons_zero, List.set_cons_succ]
              have hnews := World.news_of_block (fr := (0, 0)) (heap_alloc_new w9 (.cells #[.int .u8 1, .int .u8 y.kind, .string ⟨y.text.toArray⟩, .int .i64 y.num, .int .i64 0] 63))
              have hown9 := hj9.own.alloc (.cells #[.int .u8 1, .int .u8 y.kind, .string ⟨y.text.toArray⟩, .int .i64 y.num, .int .i64 0] 63)
              refine wpAnyH_ready (rs := [5]) (by kernel_rfl) (by simp) ?_
              refine AllReadyH.cons (o := _) rfl (fun K hK => ?_) AllReadyH.nil
              refine step_ownAt w4.heap.size rfl _ _ 23 63 _ 5 48 rfl Tryz.underlying23 insInfo rfl (by decide) (by decide) v9 (joinI ps).length (insC (joinI ps)) (Ins.cells ⟨1, y, 0⟩) rfl _ rfl hnews rfl (by simp [Ins.cells, Value.oneCell']) hown9 (by have := hj9.bel.size; simp; omega) (by omega) ?_
              intro v10 w10 hown10 hg10 hat10
              have hb10 : Below w3.heap.size w3 w10 := (hb9').grown hg10 (hb9').size fun b hb => Nat.le_trans hwJ (World.ownsRow.lt hj9.own b hb).1
              refine hK.out _ _ (hSof _ hb10) (fun hHeld3 => ?_)
              clear hK K
              try simp only [Act.put, List.getElem_toArray, List.getElem_cons_zero, List.getElem_cons_succ, List.setIfInBounds_toArray, List.set_cons_zero, List.set_cons_succ]
              refine wpAnyH_take (i := 6) (v := ?_) rfl (by kernel_rfl) (by kernel_rfl) (by kernel_rfl) (fun _ _ _ h => h) (Or.inl ⟨by rfl, ?_⟩) (by assumption) ?_
              rotate_left
              · (intro w' hSw; (try dsimp only at hSw); go_simp; try with_reducible rfl)
              try simp only [Act.put, List.getElem_toArray, List.getElem_cons_zero, List.getElem_cons_succ, List.setIfInBounds_toArray, List.set_cons_zero, List.set_cons_succ]
              refine wpAnyH_done (by kernel_rfl) ?_ _
              obtain ⟨a10, c10, rfl⟩ := ownForm hown10
              have H10 := Lib.hid (show InsIn w10 (.slice a10 ((joinI ps).length + 1) c10) (partC y ps) from by
                rw [hpart, show (joinI ps).length + 1 = (joinI ps ++ [(⟨1, y, 0⟩ : Ins)]).length by simp]
                rw [show (joinI ps).length + 1 = (joinI ps ++ [(⟨1, y, 0⟩ : Ins)]).length by simp] at hown10
                exact InsIn.own (l := joinI ps ++ [⟨1, y, 0⟩]) (by rw [insC_snoc]; exact hown10) rfl)
              have Hown10 := Lib.hid (ownBase hown10 hwJ)
              have Hb10 := Lib.hid hb10
              have Hpre := Lib.hid (show (w10.alloc (.cells #[.slice a10 ((joinI ps).length + 1) c10] 23)).ownsRow w.heap.size 23 1 (.slice (some ⟨gs, 0, none⟩) at_ c4) at_ (vs.take at_) from by have h1 := ((HM.out.step Hb10.out).step (allocB w10 (.cells #[.slice a10 ((joinI ps).length + 1) c10] 23))).own; rw [hm] at h1; exact own_prefix h1 (by omega))
              have Hnews2 := Lib.hid (World.news_of_block (fr := (0, 0)) (heap_alloc_new w10 (.cells #[.slice a10 ((joinI ps).length + 1) c10] 23)))
              clear hown10 hg10 hat10 hnews hown9 hj9 hb9' hb10 hSof hHeld3
              have Hbase := Lib.hid (show w.heap.size ≤ (w10.alloc (.cells #[.slice a10 ((joinI ps).length + 1) c10] 23)).heap.size from by have h1 := Hst3.out.bel.size; have h2 := Hb10.out.size; have h3 := (allocB w10 (.cells #[.slice a10 ((joinI ps).length + 1) c10] 23)).size; omega)
              have Hone := Lib.hid (show ∀ u ∈ [(.slice a10 ((joinI ps).length + 1) c10 : Value)], u.oneCell' = true from by intro u hu; rw [List.mem_singleton] at hu; subst hu; rfl)
              have Hlt := Lib.hid (show at_ + 1 ≤ maxLen ∧ (at_ + 1) * 24 ≤ 140737488355328 from by unfold maxLen; omega)
              go_wp2_with (at_builtin; go_must (refine wpList_append_own_at _ rfl _ _ 58 rfl w.heap.size 23 i0 _ 1 24 Tryz.underlying58 Hi0.out Hz0.out Hz1.out Hz2.out rfl (by decide) (.slice (some ⟨gs, 0, none⟩) at_ c4) at_ (vs.take at_) rfl Hpre.out ⟨w10.heap.size, 0, none⟩ 1 1 [.slice a10 ((joinI ps).length + 1) c10] rfl rfl Hnews2.out Hone.out Hlt.out.1 Hlt.out.2 Hbase.out ?_))
              intro v11 w11 hown11 hgrow11 _ hat11
              have Hst11 := Lib.hid (CpSt.round Hst3.out HM.out Hkl.out Hyy.out Hty.out hm Hb10.out (by rw [Hpsd.out]; exact H10.out) Hown10.out hown11 rfl rfl hgrow11 (by rcases hat11 with h | h; exact .inl h; exact .inr (h.trans (by simp))))
              have Hlen11 := Lib.hid (stepC_len (stk := stk) Hty.out)
              obtain ⟨a11, c11, rfl⟩ := ownForm hown11
              clear hown11 hgrow11 hat11
              go_wp2_with fail
              go_roundw
              case rel => exact ⟨k + 1, at_ + 1, c11, a11, stepC stk y, by omega, by go_num, rfl, by rw [Hlen11.out]; omega, Hst11⟩
              case measure => simp [intOf]; omega
            · go_simp
              have hb5 := stepH hb0 (allocB w4 (.cells #[.int .u8 1, .int .u8 y.kind, .string ⟨y.text.toArray⟩, .int .i64 y.num, .int .i64 0] 63))
              refine hK.out _ _ (hSof _ hb5) (fun hHeld1 => ?_)
              clear hK K hHeld
              try simp only [Act.put, List.getElem_toArray, List.getElem_cons_zero, List.getElem_cons_succ, List.setIfInBounds_toArray, List.set_cons_zero, List.set_cons_succ]
              refine wpAnyH_ready (rs := [1]) (by kernel_rfl) (by simp) ?_
              refine AllReadyH.cons (o := _) rfl (fun K hK => ?_) AllReadyH.nil
              go_simp
              go_at_call 35
              refine (Hjn.out _ hb5).mono ?_
              rintro e w9 ⟨v9, rfl, hj9⟩
              have hb9' := stepH hb5 hj9.bel
              have hwJ : w3.heap.size ≤ (w4.alloc (.cells #[.int .u8 1, .int .u8 y.kind, .string ⟨y.text.toArray⟩, .int .i64 y.num, .int .i64 0] 63)).heap.size := hb5.size
              go_wp2_with fail
              refine hK.out _ _ (hSof _ hb9') (fun hHeld2 => ?_)
              clear hK K hHeld1
              try simp only [Act.put, List.getElem_toArray, List.getElem_cons_zero, List.getElem_cons_succ, List.setIfInBounds_toArray, List.set_cons_zero, List.set_cons_succ]
              have hnews := World.news_of_block (fr := (0, 0)) ((hj9.bel.block _ (by simp)).trans (heap_alloc_new w4 (.cells #[.int .u8 1, .int .u8 y.kind, .string ⟨y.text.toArray⟩, .int .i64 y.num, .int .i64 0] 63)))
              have hown9 := hj9.own
              refine wpAnyH_ready (rs := [5]) (by kernel_rfl) (by simp) ?_
              refine AllReadyH.cons (o := _) rfl (fun K hK => ?_) AllReadyH.nil
              refine step_ownAt (w4.alloc (.cells #[.int .u8 1, .int .u8 y.kind, .string ⟨y.text.toArray⟩, .int .i64 y.num, .int .i64 0] 63)).heap.size rfl _ _ 23 63 _ 5 48 rfl Tryz.underlying23 insInfo rfl (by decide) (by decide) v9 (joinI ps).length (insC (joinI ps)) (Ins.cells ⟨1, y, 0⟩) rfl _ rfl hnews rfl (by simp [Ins.cells, Value.oneCell']) hown9 hj9.bel.size (by omega) ?_
              intro v10 w10 hown10 hg10 hat10
              have hb10 : Below w3.heap.size w3 w10 := (hb9').grown hg10 (hb9').size fun b hb => Nat.le_trans hwJ (World.ownsRow.lt hj9.own b hb).1
              refine hK.out _ _ (hSof _ hb10) (fun hHeld3 => ?_)
              clear hK K
              try simp only [Act.put, List.getElem_toArray, List.getElem_cons_zero, List.getElem_cons_succ, List.setIfInBounds_toArray, List.set_cons_zero, List.set_cons_succ]
              refine wpAnyH_take (i := 6) (v := ?_) rfl (by kernel_rfl) (by kernel_rfl) (by kernel_rfl) (fun _ _ _ h => h) (Or.inl ⟨by rfl, ?_⟩) (by assumption) ?_
              rotate_left
              · (intro w' hSw; (try dsimp only at hSw); go_simp; try with_reducible rfl)
              try simp only [Act.put, List.getElem_toArray, List.getElem_cons_zero, List.getElem_cons_succ, List.setIfInBounds_toArray, List.set_cons_zero, List.set_cons_succ]
              refine wpAnyH_done (by kernel_rfl) ?_ _
              obtain ⟨a10, c10, rfl⟩ := ownForm hown10
              have H10 := Lib.hid (show InsIn w10 (.slice a10 ((joinI ps).length + 1) c10) (partC y ps) from by
                rw [hpart, show (joinI ps).length + 1 = (joinI ps ++ [(⟨1, y, 0⟩ : Ins)]).length by simp]
                rw [show (joinI ps).length + 1 = (joinI ps ++ [(⟨1, y, 0⟩ : Ins)]).length by simp] at hown10
                exact InsIn.own (l := joinI ps ++ [⟨1, y, 0⟩]) (by rw [insC_snoc]; exact hown10) rfl)
              have Hown10 := Lib.hid (ownBase hown10 hwJ)
              have Hb10 := Lib.hid hb10
              have Hpre := Lib.hid (show (w10.alloc (.cells #[.slice a10 ((joinI ps).length + 1) c10] 23)).ownsRow w.heap.size 23 1 (.slice (some ⟨gs, 0, none⟩) at_ c4) at_ (vs.take at_) from by have h1 := ((HM.out.step Hb10.out).step (allocB w10 (.cells #[.slice a10 ((joinI ps).length + 1) c10] 23))).own; rw [hm] at h1; exact own_prefix h1 (by omega))
              have Hnews2 := Lib.hid (World.news_of_block (fr := (0, 0)) (heap_alloc_new w10 (.cells #[.slice a10 ((joinI ps).length + 1) c10] 23)))
              clear hown10 hg10 hat10 hnews hown9 hj9 hb9' hb10 hSof hHeld3
              have Hbase := Lib.hid (show w.heap.size ≤ (w10.alloc (.cells #[.slice a10 ((joinI ps).length + 1) c10] 23)).heap.size from by have h1 := Hst3.out.bel.size; have h2 := Hb10.out.size; have h3 := (allocB w10 (.cells #[.slice a10 ((joinI ps).length + 1) c10] 23)).size; omega)
              have Hone := Lib.hid (show ∀ u ∈ [(.slice a10 ((joinI ps).length + 1) c10 : Value)], u.oneCell' = true from by intro u hu; rw [List.mem_singleton] at hu; subst hu; rfl)
              have Hlt := Lib.hid (show at_ + 1 ≤ maxLen ∧ (at_ + 1) * 24 ≤ 140737488355328 from by unfold maxLen; omega)
              go_wp2_with (at_builtin; go_must (refine wpList_append_own_at _ rfl _ _ 58 rfl w.heap.size 23 i0 _ 1 24 Tryz.underlying58 Hi0.out Hz0.out Hz1.out Hz2.out rfl (by decide) (.slice (some ⟨gs, 0, none⟩) at_ c4) at_ (vs.take at_) rfl Hpre.out ⟨w10.heap.size, 0, none⟩ 1 1 [.slice a10 ((joinI ps).length + 1) c10] rfl rfl Hnews2.out Hone.out Hlt.out.1 Hlt.out.2 Hbase.out ?_))
              intro v11 w11 hown11 hgrow11 _ hat11
              have Hst11 := Lib.hid (CpSt.round Hst3.out HM.out Hkl.out Hyy.out Hty.out hm Hb10.out (by rw [Hpsd.out]; exact H10.out) Hown10.out hown11 rfl rfl hgrow11 (by rcases hat11 with h | h; exact .inl h; exact .inr (h.trans (by simp))))
              have Hlen11 := Lib.hid (stepC_len (stk := stk) Hty.out)
              obtain ⟨a11, c11, rfl⟩ := ownForm hown11
              clear hown11 hgrow11 hat11
              go_wp2_with fail
              go_roundw
              case rel => exact ⟨k + 1, at_ + 1, c11, a11, stepC stk y, by omega, by go_num, rfl, by rw [Hlen11.out]; omega, Hst11⟩
              case measure => simp [intOf]; omega
      · have hkn : k = n := by omega
        subst hkn
        have hdn : l.drop k = [] := List.drop_of_length_le (by rw [Hln.out]; exact Nat.le_refl _)
        have hf := hst.out.fold
        rw [hdn] at hf
        have hf : stk = [compileL l] := hf
        subst hf
        obtain rfl : m = 1 := by rw [← hm]; rfl
        obtain ⟨vs, hM⟩ := hst.out.mem
        obtain ⟨hin, -⟩ := hM.each 0 (by simp) (by have := hM.len; simp at this; omega)
        obtain ⟨gs, rfl, hgs1, hgs2, hmc, hc4⟩ : ∃ gs, b4 = some ⟨gs, 0, none⟩ ∧ w.heap.size ≤ gs ∧ gs < wr.heap.size ∧ 1 ≤ c4 ∧ c4 ≤ 9223372036854775807 := by
          rcases own_casesQ hM.own with ⟨_, h0, _⟩ | h
          · simp at h0
          · exact h
        have q0 : wr.cell? ⟨gs, 0, none⟩ = some (vs[0]'(by have := hM.len; simp at this; omega)) := by
          rw [World.ownsRow.cellAt hM.own 0 (by simp)]
          exact List.getElem?_eq_getElem _
        generalize vs[0]'(by have := hM.len; simp at this; omega) = v0 at *
        have Hin := Lib.hid hin
        clear hst hdn hM hin
        go_wp2_with fail
        go_ret2
        exact HG.out _ _ _ Hst.out.bel rfl Hin.out

end Go.Proofs.YtcjmhmmjfgjcnaaGreatDoor.Cd
