/- Parts: RdK RdL. -/
import Derived.Test.YtcjmhmmjfgjcnaaGreatDoorMe32
import Derived.Deep.RegionLawGrows

/- codicilref10: shown; texts behind a row of one's own. -/
namespace Go.Proofs.YtcjmhmmjfgjcnaaGreatDoor.Rf
open Go.RowKit Go.Proofs.YtcjmhmmjfgjcnaaGreatDoor.Lx Go.Proofs.YtcjmhmmjfgjcnaaGreatDoor.Pa

theorem ShownR_calls (y : Stp) (k : Nat) (l : List Txt) (v : Value) (w : World) (h : ShArgs w y k v l) :
    Calls Tryz.prog 54 #[y.val, v] w fun e w' => e = .returned (.string ⟨(shown y l).toArray⟩) ∧ Below w.heap.size w w' := by
  have hk := kind_of_takes h.ht
  by_cases h12 : 12 ≤ y.kind
  · exact shownR_op y k l v w h h12
  by_cases h1 : y.kind = 1
  · exact shownR_1 y k l v w h h1
  by_cases h2 : y.kind = 2
  · exact shownR_2 y k l v w h h2
  by_cases h3 : y.kind = 3
  · exact shownR_3 y k l v w h h3
  by_cases h4 : y.kind = 4
  · exact shownR_4 y k l v w h h4
  by_cases h5 : y.kind = 5
  · exact shownR_5 y k l v w h h5
  by_cases h6 : y.kind = 6
  · exact shownR_6 y k l v w h h6
  by_cases h7 : y.kind = 7
  · exact shownR_7 y k l v w h h7
  by_cases h8 : y.kind = 8
  · exact shownR_8 y k l v w h h8
  by_cases h9 : y.kind = 9
  · exact shownR_9 y k l v w h h9
  by_cases h10 : y.kind = 10
  · exact shownR_10 y k l v w h h10
  exact shownR_11 y k l v w h (by omega)

/-- texts that are put behind a row -/
def TxsFrom (W : World) (v : Value) (m : List Txt) : Prop :=
  (v = .slice none 0 0 ∧ m = []) ∨ ∃ (ad : Addr) (n c : Nat), v = .slice (some ad) n c ∧ m.length = n ∧ ∀ j u, (strsR m)[j]? = some u → W.cell? (ad.add j) = some u
theorem TxsFrom.below {w w' : World} {v : Value} {m : List Txt} (h : TxsFrom w v m) (hb : Below w.heap.size w w') : TxsFrom w' v m := by
  rcases h with h | ⟨ad, n, c, rfl, hn, hj⟩
  · exact .inl h
  · refine .inr ⟨ad, n, c, rfl, hn, fun j u hu => ?_⟩
    have hc := hj j u hu
    exact (hb.cell (World.block_lt_of_cell? _ _ hc)).trans hc
theorem TxsFrom.take {w : World} {base m c gs : Nat} {st : List Txt} (h : OwnStrs w base (.slice (some ⟨gs, 0, none⟩) m c) st) (hm : st.length = m) (at_ : Nat) (ha : at_ ≤ m) : TxsFrom w (.slice (some ⟨gs, 0, none⟩) at_ c) (st.take at_) := by
  refine .inr ⟨_, _, _, rfl, by rw [List.length_take]; omega, fun j u hj => ?_⟩
  exact take_cells h hm at_ _ rfl j u hj
theorem StT.lit (w W : World) (hb : Below w.heap.size w W) : StT w (W.alloc (.cells #[] 9)) (.slice (some ⟨W.heap.size, 0, none⟩) 0 0) [] :=
  ⟨⟨World.ownsRow_lit W #[] 0 hb.size (by unfold maxLen; omega) rfl, rStep hb (rAlloc W _)⟩⟩
section
variable {ops : Array Oper} {rest : List Oper} {o : Oper} {a : Act} {Q : Exit → Act → World → Prop}
theorem wpList_texts {W : World} (hgd : o.guard = none) (sl y : Operand) (ho : o.op = .call { callee := .builtin .append, args := #[sl, y], argTypes := #[93, 93] })
    (w : World) (v : Value) (l : List Txt) (hs : a.eval sl = v) (H : StT w W v l) (vy : Value) (m : List Txt) (hx : a.eval y = vy) (src : TxsFrom W vy m) (hl : l.length + m.length ≤ 1000000000)
    (h : ∀ v' w', StT w w' v' (l ++ m) → wpList Tryz.prog ops Q rest (a.put o.dst v') w') : wpList Tryz.prog ops Q (o :: rest) a W := by
  obtain ⟨i0, hi0, hzz0, hz10, hz2⟩ := info_parts strInfoR
  refine wpList_plain hgd fun K hK => ?_
  rcases src with ⟨rfl, rfl⟩ | ⟨ad, n, c, rfl, hn, hj⟩
  · have hrun := run_append_owned_none (P := Tryz.prog) (w := W) w.heap.size 93 o.type 9 i0 1 Tryz.underlying93 hi0 v l.length (strsR l) H.row.own
    unfold Oper.wp execOp
    simp only [ho, resolve, invoke, builtin, Sem.run_bind, Sem.run_pure, Result.andThen_ok, List.map_toArray, List.map_cons, List.map_nil, hs, hx, hrun]
    exact hK _ _ (h _ _ (by rw [List.append_nil]; exact H))
  · obtain ⟨v', w', hr, hown, hg, _, _⟩ := run_append_own_at (P := Tryz.prog) W w.heap.size 93 o.type 9 i0 _ 1 16 Tryz.underlying93 hi0 hzz0 hz10 hz2 rfl (by decide) v l.length (strsR l) H.row.own ad n c (strsR m)
      (by simp [strsR, hn]) hj (by intro u hu; obtain ⟨x, _, rfl⟩ := List.mem_map.1 hu; rfl) (by unfold maxLen; omega) (by omega) H.row.bel.size
    unfold Oper.wp execOp
    simp only [ho, resolve, invoke, builtin, Sem.run_bind, Sem.run_pure, Result.andThen_ok, List.map_toArray, List.map_cons, List.map_nil, hs, hx, hr]
    refine hK _ _ (h _ _ ⟨⟨?_, H.row.bel.grown hg H.row.bel.size fun g e => (World.ownsRow.lt H.row.own g e).1⟩⟩)
    rw [List.length_append, hn, show strsR (l ++ m) = strsR l ++ strsR m by simp [strsR]]
    exact hown
end
/-- behind one round of Show -/
theorem ShSt.moreR {w wr w' : World} {l : List Stp} {k at_ kk : Nat} {v v' : Value} {st : List Txt} {y : Stp} (h : ShSt w wr l k v st) (hm : st.length = at_ + kk) (hs : StT w w' v' (st.take at_ ++ [shown y (st.drop at_)])) (hty : takes y = some kk)
    (hnum : y.num ≤ 9223372036854775807) (hsh : showG (y :: l.drop (k + 1)) st = showG l []) (hrg : rightL (l.drop (k + 1)) (st.length - kk + 1) = some 1) (hwt : wts (l.take (k + 1)) = wts (l.take k) + wt y) : ShSt w w' l (k + 1) v' (push y st) := by
  have hpl := push_length hty (st := st) (by omega)
  have hps := push_lens hty hnum (st := st) (by omega)
  have e : push y st = st.take at_ ++ [shown y (st.drop at_)] := by
    unfold push takesN
    rw [hty, Option.getD_some, show st.length - kk = at_ by omega]
  refine ⟨hs.row.bel, ?_, ?_, ?_, ?_, ?_⟩
  · rw [e]; exact hs.row.own
  · have := h.len
    omega
  · have := h.cnt
    omega
  · rw [hpl]; exact hrg
  · rw [← showG_cons]; exact hsh

end Go.Proofs.YtcjmhmmjfgjcnaaGreatDoor.Rf

/- codicilref10: Show. -/
namespace Go.Proofs.YtcjmhmmjfgjcnaaGreatDoor.Rf
open Go.RowKit Go.Proofs.YtcjmhmmjfgjcnaaGreatDoor.Lx Go.Proofs.YtcjmhmmjfgjcnaaGreatDoor.Pa

set_option maxHeartbeats 2000000 in
set_option maxRecDepth 100000 in
theorem ShowR_calls (w : World) (v : Value) (l : List Stp) (h : StpsIn w v l) (hl : l.length ≤ 1048576) (ht : ∀ y ∈ l, y.text.length ≤ 1048575) (hn : ∀ y ∈ l, y.num ≤ 9223372036854775807) (he : Env w) :
    Calls Tryz.prog 18 #[v] w fun e w' => e = .returned (showEV l) ∧ Below w.heap.size w w' := by
  have HRc := Lib.hid (RightR_calls w v l h hl fun y hy => by have := ht y hy; omega)
  have Hh := Lib.hid h
  have He := Lib.hid he
  have Ht := Lib.hid ht
  have Hnm := Lib.hid hn
  cases hR : rightB l with
  | false =>
    rw [hR] at HRc
    have HV := Lib.hid (show showEV l = .tuple #[.string ⟨#[]⟩, .int .i64 13] by unfold showEV; rw [if_neg (by rw [hR]; simp)])
    clear h hl ht hn he hR
    obtain ⟨a, n, c, rfl, -⟩ := Hh.out
    go_enter Tryz.func18, Tryz.ntmps18
    go_wp2_with fail
    refine HRc.out.mono ?_
    rintro e w2 ⟨rfl, hb2⟩
    have Hb2 := Lib.hid hb2
    clear hb2
    go_wp2_with fail
    go_ret2
    exact ⟨by rw [HV.out]; rfl, Hb2.out⟩
  | true =>
    rw [hR] at HRc
    have hr2 := hR
    unfold rightB at hr2
    simp only [Bool.and_eq_true, decide_eq_true_eq] at hr2
    have HV := Lib.hid (show showEV l = .tuple #[.string ⟨(showE l).toArray⟩, .int .i64 0] by unfold showEV; rw [if_pos hR])
    have HE := Lib.hid (show showE l = (showG l []).headD [] by unfold showE; rw [if_pos hR])
    have Hr1 := Lib.hid hr2.1
    have h128 := hr2.2
    obtain ⟨a, n, c, rfl, hln, hnc, hj⟩ := h
    have Hln := Lib.hid hln
    have Hj := Lib.hid hj
    have hn128 : n ≤ 128 := by omega
    have Hw := Lib.hid (fun k => show wts (l.take k) ≤ 8858489600 by
      have h1 := wts_le (l := l.take k) fun y hy => ht y (List.mem_of_mem_take hy)
      have h2 := Nat.mul_le_mul_right 69206950 (show (l.take k).length ≤ 128 by rw [List.length_take]; omega)
      omega)
    clear hl ht hn he hR hr2 h128 hj hln
    go_enter Tryz.func18, Tryz.ntmps18
    go_wp2_with fail
    refine HRc.out.mono ?_
    rintro e w2 ⟨rfl, hb2⟩
    have Hb2 := Lib.hid hb2
    clear hb2
    go_wp2_with fail
    go_loopw [4, 16] (fun s4 i wr => ∃ (k m c4 : Nat) (b4 : Option Addr) (st : List Txt), k ≤ n ∧ i = .int .i64 k ∧ s4 = .slice b4 m c4 ∧ st.length = m ∧ Hid (ShSt w wr l k (.slice b4 m c4) st)) (fun _ i _ => n - (intOf i).toNat)
    case atStart => exact ⟨0, 0, 0, none, [], Nat.zero_le _, rfl, rfl, rfl, ⟨Hb2.out, OwnStrs.nil _ _, Nat.zero_le _, Nat.le_refl _, Hr1.out, rfl⟩⟩
    case round =>
      obtain ⟨k, m, c4, b4, st, hk, rfl, rfl, hm, hst⟩ := hrel
      have Hst := Lib.hid hst.out
      by_cases hlt : k < n
      · have hkl : k < l.length := by rw [Hln.out]; exact hlt
        obtain ⟨g, o, rfl, hcl⟩ := Hj.out k hkl
        obtain ⟨q0, q1, q2⟩ := hcl.below hst.out.bel
        have htx := Ht.out _ (List.getElem_mem hkl)
        have hnum := Hnm.out _ (List.getElem_mem hkl)
        have hd : l.drop k = l[k] :: l.drop (k + 1) := List.drop_eq_getElem_cons hkl
        have hrg := hst.out.rgt
        have hsh := hst.out.shw
        rw [hd] at hrg hsh
        obtain ⟨kk, hty, hkm, hrg2⟩ := rightL_step hrg
        obtain ⟨at_, rfl⟩ : ∃ at_, m = at_ + kk := ⟨m - kk, by omega⟩
        have hwt : wts (l.take (k + 1)) = wts (l.take k) + wt l[k] := by
          unfold wts; rw [List.take_succ_eq_append_getElem hkl, List.map_append, List.sum_append]; simp only [List.map_cons, List.map_nil, List.sum_cons, List.sum_nil, Nat.add_zero]
        generalize l[k] = y at *
        have Htk := Lib.hid (fun (w2 : World) (_ : Below w.heap.size w w2) => TakesR_calls y w2 (by omega))
        rw [hty, takesV_some] at Htk
        unfold Stp.val at Htk
        have hkk := takes_le hty
        have hcnt := hst.out.cnt
        rw [hm] at hcnt
        have Hty := Lib.hid hty
        have Hrg := Lib.hid hrg2
        have Hsh := Lib.hid hsh
        have Hwt := Lib.hid hwt
        have hblk := heap_alloc_new wr (.cells #[.int .u8 y.kind, .string ⟨y.text.toArray⟩, .int .i64 y.num] 48)
        have Hblk := Lib.hid hblk
        have Hst1 := Lib.hid (Hst.out.step (alloc_below wr (.cells #[.int .u8 y.kind, .string ⟨y.text.toArray⟩, .int .i64 y.num] 48)))
        have hlens : Lib.lens (st.drop at_) ≤ 70368744177664 := by
          have h1 := hst.out.len
          have h2 := Hw.out k
          have h3 : Lib.lens st = Lib.lens (st.take at_) + Lib.lens (st.drop at_) := by rw [← lens_app, List.take_append_drop]
          omega
        clear hst hcl hd hrg hsh hty hrg2 hwt hblk
        go_wp2_with fail
        refine (Htk.out _ Hst1.out.bel).mono ?_
        rintro e w3 ⟨rfl, hb3⟩
        have hblk3 := (hb3.block wr.heap.size (by simp)).trans Hblk.out
        obtain ⟨⟨k0, k1, k2⟩, -⟩ := threeC hblk3
        have Hst3 := Lib.hid (Hst1.out.step hb3)
        clear hb3 hblk3 q0 q1 q2
        go_wp2_with fail
        have Hsha := Lib.hid (fun (w4 : World) (vv : Value) (hb : Below w3.heap.size w3 w4) (hv : TxtsIn w3 vv (st.drop at_)) => ShownR_calls y kk (st.drop at_) vv w4 ⟨Hty.out, by rw [List.length_drop]; omega, hv.below hb, htx, hnum, hlens, He.out.below (Hst3.out.bel.trans (hb.mono Hst3.out.bel.size))⟩)
        unfold Stp.val at Hsha
        rcases own_cases Hst3.out.own hm with ⟨rfl, h0, rfl⟩ | ⟨gs, rfl, hgs1, hgs2, hmc, hc4⟩
        · obtain ⟨rfl, rfl⟩ : at_ = 0 ∧ kk = 0 := by omega
          have Hdt := Lib.hid (txts_none w3 none 0 st 0 hm)
          have Hsrc := Lib.hid (fun (w9 : World) (_ : Below w3.heap.size w3 w9) => show TxsFrom w9 (.slice none 0 0) (st.take 0) from .inl ⟨rfl, rfl⟩)
          have Hlt := Lib.hid (show (st.take 0).length ≤ 128 by rw [List.length_take]; omega)
          have Hla := Lib.hid (show (st.take 0).length = 0 by rw [List.length_take]; omega)
          go_region_law (first | (go_simp; go_at_call 54; refine (Hsha.out _ _ ((Below.refl _ _).drew) Hdt.out).mono ?_; rintro e w9 ⟨rfl, hb9⟩))
          have Hb9 := Lib.hid ((Below.refl w3.heap.size w3).drew.trans hb9)
          have Hb0 := Lib.hid (rStep Hst3.out.bel Hb9.out)
          clear hb9 k0 k1 k2
          go_wp2_with (at_builtin; first | (refine wpList_texts rfl _ _ rfl w (.slice (some ⟨w9.heap.size, 0, none⟩) 0 0) [] rfl (StT.lit w w9 Hb0.out) (.slice none 0 0) (st.take 0) rfl (Hsrc.out _ (rStep Hb9.out (rAlloc w9 _))) (by have := Hlt.out; simp only [List.length_nil]; omega) ?_; intro v10 w10 h10; rw [List.nil_append] at h10; obtain ⟨a10, c10, rfl⟩ := h10.form; rw [Hla.out] at h10 ⊢; have H10 := Lib.hid h10; clear h10) | (refine wpList_text rfl _ _ rfl w (.slice a10 0 c10) (st.take 0) rfl w10.heap.size rfl _ (shown y (st.drop 0)) rfl H10.out rfl (by have := Hlt.out; omega) ?_; intro a7 n7 c7 w7 hn7 h7; have Hn7 := Lib.hid hn7.out; have H7 := Lib.hid h7; clear hn7 h7))
          have Hst7 := Lib.hid (ShSt.moreR Hst3.out hm H7.out Hty.out hnum Hsh.out Hrg.out Hwt.out)
          have Hpl := Lib.hid (push_length Hty.out (st := st) (by omega))
          go_roundw
          case rel => exact ⟨k + 1, n7, c7, a7, push y st, by omega, by go_num, rfl, by rw [Hpl.out, Hn7.out, Hla.out]; omega, Hst7.out⟩
          case measure => simp [intOf]; omega
        · by_cases hca : at_ = c4
          · obtain rfl : kk = 0 := by omega
            obtain rfl : c4 = at_ := hca.symm
            clear hca
            have Hdt := Lib.hid (txts_none w3 (some ⟨gs, 0, none⟩) 0 st c4 hm)
            have Hsrc := Lib.hid (fun (w9 : World) (hb : Below w3.heap.size w3 w9) => (TxsFrom.take Hst3.out.own hm c4 (by omega)).below hb)
            have j0 : (0 : Int) ≤ (c4 : Int) := by omega
            have j2 : (c4 : Int) ≤ (c4 : Int) := by omega
            have Hlt := Lib.hid (show (st.take c4).length ≤ 128 by rw [List.length_take]; omega)
            have Hla := Lib.hid (show (st.take c4).length = c4 by rw [List.length_take]; omega)
            go_region_law (first | (go_simp; go_at_call 54; refine (Hsha.out _ _ ((Below.refl _ _).drew) Hdt.out).mono ?_; rintro e w9 ⟨rfl, hb9⟩))
            have Hb9 := Lib.hid ((Below.refl w3.heap.size w3).drew.trans hb9)
            have Hb0 := Lib.hid (rStep Hst3.out.bel Hb9.out)
            clear hb9 k0 k1 k2
            go_wp2_with (at_builtin; first | (refine wpList_texts rfl _ _ rfl w (.slice (some ⟨w9.heap.size, 0, none⟩) 0 0) [] rfl (StT.lit w w9 Hb0.out) (.slice (some ⟨gs, 0, none⟩) c4 c4) (st.take c4) rfl (Hsrc.out _ (rStep Hb9.out (rAlloc w9 _))) (by have := Hlt.out; simp only [List.length_nil]; omega) ?_; intro v10 w10 h10; rw [List.nil_append] at h10; obtain ⟨a10, c10, rfl⟩ := h10.form; rw [Hla.out] at h10 ⊢; have H10 := Lib.hid h10; clear h10) | (refine wpList_text rfl _ _ rfl w (.slice a10 c4 c10) (st.take c4) rfl w10.heap.size rfl _ (shown y (st.drop c4)) rfl H10.out rfl (by have := Hlt.out; omega) ?_; intro a7 n7 c7 w7 hn7 h7; have Hn7 := Lib.hid hn7.out; have H7 := Lib.hid h7; clear hn7 h7))
            have Hst7 := Lib.hid (ShSt.moreR Hst3.out hm H7.out Hty.out hnum Hsh.out Hrg.out Hwt.out)
            have Hpl := Lib.hid (push_length Hty.out (st := st) (by omega))
            go_roundw
            case rel => exact ⟨k + 1, n7, c7, a7, push y st, by omega, by go_num, rfl, by rw [Hpl.out, Hn7.out, Hla.out]; omega, Hst7.out⟩
            case measure => simp [intOf]; omega
          · have hca2 : ¬ c4 = at_ := fun e => hca e.symm
            have hac : at_ ≤ c4 := by omega
            have Hdt := Lib.hid (drop_txts Hst3.out.own hm hmc)
            have Hsrc := Lib.hid (fun (w9 : World) (hb : Below w3.heap.size w3 w9) => (TxsFrom.take Hst3.out.own hm at_ (by omega)).below hb)
            have j0 : (0 : Int) ≤ (at_ : Int) := by omega
            have j1 : (at_ : Int) ≤ (c4 : Int) := by omega
            have j2 : (at_ : Int) ≤ (at_ : Int) + (kk : Int) := by omega
            have Hlt := Lib.hid (show (st.take at_).length ≤ 128 by rw [List.length_take]; omega)
            have Hla := Lib.hid (show (st.take at_).length = at_ by rw [List.length_take]; omega)
            go_region_law (first | (go_simp; go_at_call 54; refine (Hsha.out _ _ ((Below.refl _ _).drew) Hdt.out).mono ?_; rintro e w9 ⟨rfl, hb9⟩))
            have Hb9 := Lib.hid ((Below.refl w3.heap.size w3).drew.trans hb9)
            have Hb0 := Lib.hid (rStep Hst3.out.bel Hb9.out)
            clear hb9 k0 k1 k2
            go_wp2_with (at_builtin; first | (refine wpList_texts rfl _ _ rfl w (.slice (some ⟨w9.heap.size, 0, none⟩) 0 0) [] rfl (StT.lit w w9 Hb0.out) (.slice (some ⟨gs, 0, none⟩) at_ c4) (st.take at_) rfl (Hsrc.out _ (rStep Hb9.out (rAlloc w9 _))) (by have := Hlt.out; simp only [List.length_nil]; omega) ?_; intro v10 w10 h10; rw [List.nil_append] at h10; obtain ⟨a10, c10, rfl⟩ := h10.form; rw [Hla.out] at h10 ⊢; have H10 := Lib.hid h10; clear h10) | (refine wpList_text rfl _ _ rfl w (.slice a10 at_ c10) (st.take at_) rfl w10.heap.size rfl _ (shown y (st.drop at_)) rfl H10.out rfl (by have := Hlt.out; omega) ?_; intro a7 n7 c7 w7 hn7 h7; have Hn7 := Lib.hid hn7.out; have H7 := Lib.hid h7; clear hn7 h7))
            have Hst7 := Lib.hid (ShSt.moreR Hst3.out hm H7.out Hty.out hnum Hsh.out Hrg.out Hwt.out)
            have Hpl := Lib.hid (push_length Hty.out (st := st) (by omega))
            go_roundw
            case rel => exact ⟨k + 1, n7, c7, a7, push y st, by omega, by go_num, rfl, by rw [Hpl.out, Hn7.out, Hla.out]; omega, Hst7.out⟩
            case measure => simp [intOf]; omega
      · have hkn : k = n := by omega
        subst hkn
        have hdn : l.drop k = [] := List.drop_of_length_le (by rw [Hln.out]; exact Nat.le_refl _)
        have hrg := hst.out.rgt
        have hsh := hst.out.shw
        rw [hdn] at hrg hsh
        simp only [rightL, Option.some.injEq] at hrg
        simp only [showG] at hsh
        obtain ⟨x, rfl⟩ : ∃ x, st = [x] := by
          match st, hrg with
          | [x], _ => exact ⟨x, rfl⟩
        have HX := Lib.hid (show showE l = x by rw [HE.out, ← hsh]; rfl)
        obtain ⟨_, _, _, e1, e2, e3, e4⟩ := TxtsIn.own hst.out.own
        obtain ⟨g4, o4, e5, e6⟩ := e4 0 (by simp)
        simp only [Value.slice.injEq] at e1
        obtain ⟨rfl, rfl, rfl⟩ := e1
        subst e5
        have hm1 : m = 1 := by rw [← hm]; rfl
        subst hm1
        rw [Nat.add_zero] at e6
        simp only [List.getElem_cons_zero] at e6
        clear hst hdn hrg hsh e2 e3 e4
        go_wp2_with fail
        go_ret2
        exact ⟨by rw [HV.out, HX.out]; rfl, Hst.out.bel⟩

end Go.Proofs.YtcjmhmmjfgjcnaaGreatDoor.Rf
