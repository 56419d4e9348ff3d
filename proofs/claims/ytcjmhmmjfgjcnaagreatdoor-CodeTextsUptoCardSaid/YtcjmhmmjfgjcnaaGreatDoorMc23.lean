/- Parts: PaR PbA PbB. -/
import Derived.Test.YtcjmhmmjfgjcnaaGreatDoorMc21
import Derived.Test.YtcjmhmmjfgjcnaaGreatDoorMc22
import Derived.Deep.LoopGhost
import Derived.IntWalk
import Derived.Laws.StructEq

/- The parser: rows of operators, signs ahead. -/
namespace Go.Proofs.YtcjmhmmjfgjcnaaGreatDoor.Pa
open Go.RowKit Go.Proofs.YtcjmhmmjfgjcnaaGreatDoor.Lx

def TextsAt (w : World) (g n : Nat) (l : List Txt) : Prop := l.length = n ∧ ∀ (j : Nat) (hj : j < l.length), w.cell? ⟨g, j, none⟩ = some (.string ⟨l[j].toArray⟩)
theorem TextsAt.strs {w : World} {g n : Nat} {l : List Txt} (h : TextsAt w g n l) : StrsAt w (.slice (some ⟨g, 0, none⟩) n n) l := ⟨_, n, n, rfl, h.1, Nat.le_refl _, fun j hj => ⟨g, rfl, h.2 j hj⟩⟩
theorem TextsAt.new (w : World) (l : List Txt) (n : Nat) (cs : Array Value) (T : TypeId) (mk : Nat × Nat) (hcs : cs = (strsC l).toArray) (hn : l.length = n) : TextsAt (w.alloc (.cells cs T mk)) w.heap.size n l := by
  refine ⟨hn, fun j hj => ?_⟩
  have hb := heap_alloc_new w (.cells cs T mk)
  have key : ∀ (W : World) (B : Nat), W.heap[B]? = some (.cells cs T mk) → W.cell? ⟨B, j, none⟩ = cs[j]? := fun W B h => by simp [World.cell?, h]
  rw [key _ _ hb, hcs]
  simp [strsC, List.getElem?_eq_getElem hj]
theorem TextsAt.now {x : Px} {w w' : World} {sv lv' sv' : Value} {s' : St} {g n : Nat} {l : List Txt} (h : TextsAt w g n l) (hg1 : g ≠ x.B) (hg2 : sv.ownBlock ≠ some g) (hn : Now x w sv w' lv' sv' s') : TextsAt w' g n l :=
  ⟨h.1, fun j hj => (World.cell?_of_block (w := w) (a := ⟨g, j, none⟩) (hn.keep.2 g (World.block_lt_of_cell? _ _ (h.2 j hj)) hg1 hg2)).trans (h.2 j hj)⟩

theorem operators_calls (w : World) : Calls Tryz.prog 103 #[] w fun e w' => e = .returned (.slice (some ⟨w.heap.size, 0, none⟩) 11 11) ∧ w.alloc (.cells (strsC operators).toArray 9) = w' := by
  go_enter Tryz.func103, Tryz.ntmps103
  go_wp2_with fail
  go_ret
  exact ⟨rfl, rfl⟩
theorem opVal (t : Txt) : IntKind.u8.wrap (12 + IntKind.u8.wrap (idxI operators t)) = (opKind t : Nat) := by
  unfold idxI opKind
  by_cases h : t ∈ operators
  · rw [if_pos h, if_pos h]
    have h1 := List.idxOf_lt_length_of_mem h
    have h2 : operators.length = 11 := rfl
    simp only [IntKind.wrap_u8]
    omega
  · rw [if_neg h, if_neg h]
    rfl

variable {x : Px} {w : World} {lv sv : Value} {s : St}

def Enters (g : FuncId) : Prop := ∀ (args : Array Value) (W : World), (callFunc g args).run Tryz.prog W = .ok (.enter g args) W
theorem enters_of {g : FuncId} {fn : Func} (hf : Tryz.prog.funcs[g]? = some fn) (hn : (fn.name == "runtime.NumGoroutine") = false) (hb : fn.body.isNone = false) : Enters g := fun args W => by
  have hn' : ¬ fn.name = "runtime.NumGoroutine" := by simpa using hn
  have hb' : ¬ fn.body = none := fun e => by rw [e] at hb; cases hb
  simp [callFunc, go_sem, hf, hn', hb']
theorem enters_signed : Enters 209 := enters_of Tryz.func209 (by kernel_rfl) (by kernel_rfl)
def Reads (x : Px) (g : FuncId) (d : Nat) (one : St → Option St) : Prop := ∀ (w : World) (lv sv : Value) (s s' : St), PS x w lv sv s → one s = some s' →
  Calls Tryz.prog g #[.pointer (some ⟨x.B, 0, none⟩), .int .i64 d] w (Did x w sv s')

set_option maxHeartbeats 1000000 in
set_option maxRecDepth 100000 in
theorem row_calls (h : PS x w lv sv s) (k : Nat) (g d gt nt : Nat) (texts : List Txt) (one : St → Option St) (hone : Reads x g d one) (hent : Enters g) (ht : TextsAt w gt nt texts) (hg1 : gt ≠ x.B) (hg2 : sv.ownBlock ≠ some gt) (hn100 : nt ≤ 100) (n : Nat) (s' : St)
    (hr : row one k texts n s = some s') :
    Calls Tryz.prog 149 #[.pointer (some ⟨x.B, 0, none⟩), .int .u8 k, .func (.func g) #[.pointer (some ⟨x.B, 0, none⟩)] #[], .int .i64 d, .slice (some ⟨gt, 0, none⟩) nt nt] w (Did x w sv s') := by
  obtain ⟨s1, hs1, hr1⟩ := Option.bind_eq_some_iff.1 hr
  have H1 := Lib.hid (hone w lv sv s s1 h hs1)
  have Ht := Lib.hid (fun w' lv' sv' s' hn => ht.now (w' := w') (lv' := lv') (sv' := sv') (s' := s') hg1 hg2 hn)
  have Hr := Lib.hid hr1
  have Hone := Lib.hid hone
  have Hlen := Lib.hid (show texts.length ≤ 100 by have := ht.1; omega)
  unfold Enters at hent
  clear h hr hr1 hs1 hone ht hg1 hg2
  go_enter Tryz.func149, Tryz.ntmps149
  go_wp2_with fail
  refine H1.out.mono ?_
  rintro e w1 ⟨rfl, lv1, sv1, h1⟩
  have Hn1 := Lib.hid h1
  clear h1
  go_wp2_with fail
  go_loopg [] n (fun gk wr => Hid (∃ lv2 sv2 s2, Now x w sv wr lv2 sv2 s2 ∧ rowL one k texts gk s2 = some s'))
  case atStart => exact ⟨_, _, _, Hn1.out, Hr.out⟩
  case round =>
    obtain ⟨lv2, sv2, s2, h2, hr2⟩ := hrel
    have Ht2 := Lib.hid (take_calls h2.ps k _ texts (Ht.out _ _ _ _ h2).strs Hlen.out)
    cases gk with
    | zero => simp [rowL] at hr2
    | succ m =>
      rw [rowL] at hr2
      have hkept := fun o w2 lv2 sv2 s2 h2' => kept (o := o) (w' := w2) (lv' := lv2) (sv' := sv2) (s' := s2) h2.ps h2'
      have H2 := Lib.hid h2
      cases hx : s2.next k texts with
      | false =>
        rw [hx] at hr2 Ht2
        rw [(need_no hx).2] at Ht2
        have hs : s2 = s' := by simpa using hr2
        subst hs
        clear hr2 hx hkept h2
        generalize s2.taken k texts = T at *
        go_wp2_with fail
        refine Ht2.out.mono ?_
        rintro e w3 ⟨rfl, lv3, sv3, h3⟩
        have H3 := Lib.hid (H2.out.trans h3)
        unfold Tok.val
        clear h3
        go_wp2_with fail
        go_end0
        exact ⟨rfl, _, _, H3.out.alloc _⟩
      | true =>
        rw [hx] at hr2 Ht2
        have e1 : s2.after k texts = s2.drop := by unfold St.after; rw [hx]; rfl
        have e2 : s2.taken k texts = s2.head := by unfold St.taken; rw [hx]; rfl
        rw [e1, e2] at Ht2
        simp only [if_true] at hr2
        obtain ⟨s3, hs3, hr3⟩ := Option.bind_eq_some_iff.1 hr2
        have Hs3 := Lib.hid hs3
        have Hr3 := Lib.hid hr3
        clear hr2 hx hkept h2 e1 e2 hs3 hr3
        generalize s2.head = T at *
        go_wp2_with fail
        refine Ht2.out.mono ?_
        rintro e w3 ⟨rfl, lv3, sv3, h3⟩
        have H3 := Lib.hid (H2.out.trans h3)
        have Hkept := Lib.hid (fun o w2 lv2 sv2 s2 h2' => kept (o := o) (w' := w2) (lv' := lv2) (sv' := sv2) (s' := s2) h3.ps h2')
        unfold Tok.val
        clear h3
        go_wp2_with fail
        refine (Hone.out _ _ _ _ s3 (H3.out.ps.step (alloc_below _ _)) Hs3.out).mono ?_
        rintro e w4 ⟨rfl, lv4, sv4, h4⟩
        have H4 := Lib.hid ((H3.out.alloc _).trans h4)
        obtain ⟨⟨k0, k1, k2, k3⟩, -⟩ := four (Hkept.out _ _ _ _ _ h4)
        have hlt4 : w3.heap.size < w4.heap.size := World.block_lt_of_cell? _ _ k0
        clear h4 Hkept
        go_wp2_with fail
        have Hops := Lib.hid (((TextsAt.new w4 operators 11 _ 9 (0, 0) rfl rfl).strs).below ((Below.refl _ (w4.alloc (.cells (strsC operators).toArray 9))).drew))
        have Hd := Lib.hid ((H4.out.alloc (.cells (strsC operators).toArray 9)).drew)
        have Hv := Lib.hid (opVal T.text)
        have hput := put_calls Hd.out.ps ⟨opKind T.text, [], 0⟩
        unfold Stp.val at hput
        simp only [] at hput
        rw [← Hv.out] at hput
        have Hput := Lib.hid hput
        clear hput
        go_region_with ((first | (go_at_call 103; refine (operators_calls _).mono ?_; rintro e w5 ⟨rfl, rfl⟩) | (go_at_call 174; refine (index_calls _ _ operators T.text Hops.out (by decide)).mono ?_; rintro e w5 ⟨rfl, rfl⟩) | (go_at_call 173; refine Hput.out.mono ?_; rintro e w6 ⟨rfl, lv6, sv6, h6⟩)))
        all_goals
          have Hn6 := Lib.hid (Hd.out.trans h6)
          clear h6
          go_wp2_with fail
          go_roundg m
          case measure => omega
          case rel => exact ⟨_, _, _, Hn6.out, Hr3.out⟩

def ReadsAt (x : Px) (g : FuncId) (one : Nat → St → Option St) : Prop := ∀ d, d ≤ 16 → Reads x g d (one d)

set_option maxRecDepth 100000 in
theorem ahead_calls (k : Nat) (g : FuncId) (text : Txt) (step : Nat) (other : Nat → St → Option St) (hoth : ReadsAt x g other) (hent : Enters g) : ∀ (n d : Nat) (w : World) (lv sv : Value) (s s' : St), d ≤ 16 → PS x w lv sv s → aheadF k text step other n d s = some s' →
    Calls Tryz.prog 196 #[.pointer (some ⟨x.B, 0, none⟩), .int .u8 k, .string ⟨text.toArray⟩, .int .u8 step, .int .i64 d, .func (.func g) #[.pointer (some ⟨x.B, 0, none⟩)] #[]] w (Did x w sv s')
  | 0, _, _, _, _, _, _, _, _, hr => by simp [aheadF] at hr
  | n + 1, d, w, lv, sv, s, s', hd, h, hr => by
    have Hn := Lib.hid (next_calls (h.step (alloc_below w (.cells #[.string ⟨text.toArray⟩] 9))) k _ [text] (StrsAt.new w [text] 1 _ _ _ rfl rfl) (by simp))
    have Hh := Lib.hid ((Now.refl h).alloc (.cells #[.string ⟨text.toArray⟩] 9))
    have hent' := hent
    unfold Enters at hent'
    rw [aheadF] at hr
    cases hx : s.next k [text] with
    | false =>
      rw [hx] at hr Hn
      have Ho := Lib.hid (hoth d hd _ _ _ _ s' Hh.out.ps (by simpa using hr))
      clear h hr hx hoth
      go_enter Tryz.func196, Tryz.ntmps196
      go_wp2_with fail
      refine Hn.out.mono ?_
      rintro e w1 ⟨rfl, rfl⟩
      go_wp2_with fail
      refine Ho.out.mono ?_
      rintro e w1 ⟨rfl, lv1, sv1, h1⟩
      have H1 := Lib.hid (Hh.out.trans h1)
      clear h1
      go_wp2_with fail
      go_end0
      exact ⟨rfl, _, _, H1.out⟩
    | true =>
      rw [hx] at hr Hn
      obtain ⟨t, r, hl⟩ : ∃ t r, s.left = t :: r := by
        cases hl : s.left with
        | nil => rw [next_nil hl] at hx; cases hx
        | cons t r => exact ⟨t, r, rfl⟩
      simp only [if_true] at hr
      by_cases hd16 : 16 ≤ d
      · rw [if_pos hd16] at hr
        have hs : s.deep = s' := by simpa using hr
        subst hs
        have Ho := Lib.hid (nest_deep Hh.out.ps d hd16 (by omega))
        clear h hr hx hoth hl
        go_enter Tryz.func196, Tryz.ntmps196
        go_wp2_with fail
        refine Hn.out.mono ?_
        rintro e w1 ⟨rfl, rfl⟩
        go_wp2_with fail
        refine Ho.out.mono ?_
        rintro e w1 ⟨rfl, lv1, sv1, h1⟩
        have H1 := Lib.hid (Hh.out.trans h1)
        clear h1
        go_wp2_with fail
        go_end0
        exact ⟨rfl, _, _, H1.out⟩
      · rw [if_neg hd16] at hr
        obtain ⟨s1, hs1, hr1⟩ := Option.bind_eq_some_iff.1 hr
        have hs : s1.put ⟨step, [], 0⟩ = s' := by simpa using hr1
        subst hs
        have Ho := Lib.hid (nest_yes Hh.out.ps d (by omega) hl)
        have Hs1 := Lib.hid hs1
        have Hoth := Lib.hid hoth
        have hdd : (d : Int) < 16 := by omega
        clear h hr hx hoth hl hs1 hr1
        go_enter Tryz.func196, Tryz.ntmps196
        go_wp2_with fail
        refine Hn.out.mono ?_
        rintro e w1 ⟨rfl, rfl⟩
        go_wp2_with fail
        refine Ho.out.mono ?_
        rintro e w1 ⟨rfl, lv1, sv1, h1⟩
        have H1 := Lib.hid (Hh.out.trans h1)
        clear h1
        go_wp2_with fail
        refine (ahead_calls k g text step other Hoth.out hent n (d + 1) w1 lv1 sv1 s.drop s1 (by omega) H1.out.ps Hs1.out).mono ?_
        rintro e w2 ⟨rfl, lv2, sv2, h2⟩
        have H2 := Lib.hid (H1.out.trans h2)
        clear h2
        go_wp2_with fail
        refine (put_calls H2.out.ps ⟨step, [], 0⟩).mono ?_
        rintro e w3 ⟨rfl, lv3, sv3, h3⟩
        have H3 := Lib.hid (H2.out.trans h3)
        clear h3
        go_wp2_with fail
        go_end0
        exact ⟨rfl, _, _, H3.out⟩

end Go.Proofs.YtcjmhmmjfgjcnaaGreatDoor.Pa

/- parse: paths, a struct's names. -/
namespace Go.Proofs.YtcjmhmmjfgjcnaaGreatDoor.Pa
open Go.RowKit Go.Proofs.YtcjmhmmjfgjcnaaGreatDoor.Lx

theorem pathParts_drop (l : List Txt) (k : Nat) (h : k < l.length) : pathParts k (l.drop k) = ((nameB l[k] || (k != 0 && numberB l[k])) && pathParts (k + 1) (l.drop (k + 1))) := by
  rw [List.drop_eq_getElem_cons h]; rfl

set_option maxRecDepth 100000 in
theorem pathS_calls (s : Txt) (w : World) (hs : s.length ≤ 1073741823) (he : Env w) :
    Calls Tryz.prog 56 #[.string ⟨s.toArray⟩] w fun e w' => e = .returned (.bool (pathB s)) ∧ Below w.heap.size w w' := by
  have Hs := Lib.hid (split_calls s 46 w (by omega) he)
  have hcount := split_count s 46
  have Heach := Lib.hid (split_each s 46)
  have He := Lib.hid he
  have hsz : (⟨s.toArray⟩ : ByteArray).size = s.length := size_mk s
  unfold pathB
  generalize Lib.split s [46] = l at *
  have HT := Lib.hid (TextsAt.new w l l.length _ 9 (0, 0) rfl rfl)
  generalize hn : l.length = n at *
  have Hn := Lib.hid hn
  have Hsz := Lib.hid hsz
  have hn2 : n ≤ 1073741824 := by omega
  have Hs2 := Lib.hid hs
  generalize hR : pathParts 0 l = R at *
  have HR := Lib.hid (show pathParts 0 (l.drop 0) = R by rw [List.drop_zero]; exact hR)
  clear he hn hR hs hsz hcount
  go_enter Tryz.func56, Tryz.ntmps56
  go_wp2_with fail
  refine Hs.out.mono ?_
  rintro e w1 ⟨rfl, rfl⟩
  go_wp2_with fail
  go_loopw [8] (fun i wr => ∃ k : Nat, k ≤ n ∧ i = .int .i64 k ∧ Hid (Below (w.heap.size + 1) (w.alloc (.cells (strsC l).toArray 9)) wr ∧ pathParts k (l.drop k) = R)) (fun i _ => n - (intOf i).toNat)
  case atStart => exact ⟨0, Nat.zero_le _, rfl, Below.refl _ _, HR.out⟩
  case round =>
    obtain ⟨k, hk, rfl, hb, hR⟩ := hrel
    have Hb := Lib.hid hb
    have Hb0 := Lib.hid (show Below w.heap.size w wr from (alloc_below w _).trans (hb.mono (by omega)))
    by_cases hlt : k < n
    · have hkl : k < l.length := by rw [Hn.out]; exact hlt
      have hcell : wr.cell? ⟨w.heap.size, k, none⟩ = some (.string ⟨l[k].toArray⟩) := (hb.cell (p := ⟨w.heap.size, k, none⟩) (by simp)).trans (HT.out.2 k hkl)
      rw [pathParts_drop l k hkl] at hR
      have hlk := Heach.out _ (List.getElem_mem hkl)
      have hlk2 : l[k].length ≤ 1073741824 := by have := Hs2.out; omega
      have Hnm := Lib.hid (nameS_calls l[k] wr hlk2 (He.out.below Hb0.out))
      have Hnu := Lib.hid (fun (w2 : World) (hb2 : Below wr.heap.size wr w2) => number_calls' l[k] w2 hlk2 ((He.out.below Hb0.out).below hb2))
      clear hb hlk hlk2
      generalize l[k] = t at *
      cases hnb : nameB t with
      | true =>
        rw [hnb] at Hnm
        have hR' : pathParts (k + 1) (l.drop (k + 1)) = R := by rw [hnb] at hR; simpa using hR
        have HR' := Lib.hid hR'
        clear hR hR' hnb
        go_wp2_with fail
        refine Hnm.out.mono ?_
        rintro e w2 ⟨rfl, hb2⟩
        have Hb2 := Lib.hid (Hb.out.trans (hb2.mono (by have := Hb.out.size; simpa using this)))
        clear hb2
        go_wp2_with fail
        go_roundw
        case rel => exact ⟨k + 1, by omega, by go_num, Hb2.out, HR'.out⟩
        case measure => simp [intOf]; omega
      | false =>
        rw [hnb] at Hnm
        rcases Nat.eq_zero_or_pos k with h0 | h0
        · subst h0
          have hR' : R = false := by rw [hnb] at hR; simpa using hR.symm
          have HR' := Lib.hid hR'
          clear hR hR' hnb
          go_wp2_with fail
          refine Hnm.out.mono ?_
          rintro e w2 ⟨rfl, hb2⟩
          have Hb2 := Lib.hid (Hb0.out.trans (hb2.mono Hb0.out.size))
          clear hb2
          go_wp2_with fail
          go_ret
          exact ⟨ret_bool (by rw [HR'.out]; rfl), Hb2.out⟩
        · have hk0 : ((k : Int) == 0) = false := by rw [beq_eq_false_iff_ne]; omega
          cases hub : numberB t with
          | true =>
            have hR' : pathParts (k + 1) (l.drop (k + 1)) = R := by rw [hnb, hub, show (k != 0) = true by rw [bne_iff_ne]; omega] at hR; simpa using hR
            have HR' := Lib.hid hR'
            rw [hub] at Hnu
            clear hR hR' hnb hub
            go_wp2_with fail
            refine Hnm.out.mono ?_
            rintro e w2 ⟨rfl, hb2⟩
            have Hb1 := Lib.hid hb2
            clear hb2
            go_wp2_with fail
            refine (Hnu.out _ Hb1.out).mono ?_
            rintro e w3 ⟨rfl, hb3⟩
            have Hb2 := Lib.hid (Hb.out.trans ((Hb1.out.trans (hb3.mono Hb1.out.size)).mono (by have := Hb.out.size; simpa using this)))
            clear hb3
            go_wp2_with fail
            go_roundw
            case rel => exact ⟨k + 1, by omega, by go_num, Hb2.out, HR'.out⟩
            case measure => simp [intOf]; omega
          | false =>
            have hR' : R = false := by rw [hnb, hub] at hR; simpa using hR.symm
            have HR' := Lib.hid hR'
            rw [hub] at Hnu
            clear hR hR' hnb hub
            go_wp2_with fail
            refine Hnm.out.mono ?_
            rintro e w2 ⟨rfl, hb2⟩
            have Hb1 := Lib.hid hb2
            clear hb2
            go_wp2_with fail
            refine (Hnu.out _ Hb1.out).mono ?_
            rintro e w3 ⟨rfl, hb3⟩
            have Hb2 := Lib.hid (Hb0.out.trans ((Hb1.out.trans (hb3.mono Hb1.out.size)).mono Hb0.out.size))
            clear hb3
            go_wp2_with fail
            go_ret
            exact ⟨ret_bool (by rw [HR'.out]; rfl), Hb2.out⟩
    · have HR' := Lib.hid (show R = true by
        rw [List.drop_of_length_le (by rw [Hn.out]; omega)] at hR
        exact hR.symm)
      clear hR hb
      go_wp2_with fail
      go_ret
      exact ⟨ret_bool (by rw [HR'.out]; simp; omega), Hb0.out⟩

/-! ### a struct's names -/
theorem bad_calls (s : Txt) (w : World) (hs : s.length ≤ 1073741824) (he : Env w) :
    Calls Tryz.prog 113 #[.string ⟨s.toArray⟩] w fun e w' => e = .returned (.bool (!nameB s)) ∧ Below w.heap.size w w' := by
  have Hs := Lib.hid (nameS_calls s w hs he)
  clear he hs
  go_enter Tryz.func113, Tryz.ntmps113
  go_wp2_with fail
  refine Hs.out.mono ?_
  rintro e w1 ⟨rfl, hb⟩
  have Hb := Lib.hid hb
  clear hb
  go_wp2_with fail
  go_ret
  exact ⟨ret_bool (by simp), Hb.out⟩

def badI (l : List Txt) : Int := if l.all nameB then -1 else (l.findIdx fun t => !nameB t : Nat)
theorem badI_ge (l : List Txt) : decide (0 ≤ badI l) = !l.all nameB := by
  unfold badI
  split
  · rename_i h; rw [h]; rfl
  · rename_i h; simp at h ⊢; simpa using h
theorem badI_none {l : List Txt} (h : ∀ j (hj : j < l.length), nameB l[j] = true) : badI l = -1 := by
  unfold badI
  rw [if_pos]
  rw [List.all_eq_true]
  intro t ht
  obtain ⟨j, hj, e⟩ := List.getElem_of_mem ht
  rw [← e]; exact h j hj
theorem badI_at {l : List Txt} {k : Nat} (hk : k < l.length) (e : nameB l[k] = false) (h : ∀ j (hj : j < l.length), j < k → nameB l[j] = true) : badI l = k := by
  unfold badI
  rw [if_neg]
  · congr 1
    rw [List.findIdx_eq hk]
    exact ⟨by rw [e]; rfl, fun j hj => by rw [h j (by omega) hj]; rfl⟩
  · intro ha
    rw [List.all_eq_true] at ha
    rw [ha _ (List.getElem_mem hk)] at e
    cases e

set_option maxRecDepth 100000 in
theorem indexBad_calls (w : World) (v : Value) (l : List Txt) (h : StrsAt w v l) (hl : l.length ≤ 1073741824) (hs : ∀ t ∈ l, t.length ≤ 1073741824) (he : Env w) :
    Calls Tryz.prog 144 #[v, .func (.func 113) #[] #[]] w fun e w' => e = .returned (.int .i64 (badI l)) ∧ Below w.heap.size w w' := by
  obtain ⟨a, n, c, rfl, hn, hc, hj⟩ := h
  have Hn := Lib.hid hn
  have Hj := Lib.hid hj
  have Hs := Lib.hid hs
  have He := Lib.hid he
  have hn2 : n ≤ 1073741824 := by omega
  clear hn hj hs he
  go_enter Tryz.func144, Tryz.ntmps144
  go_wp2_with fail
  go_loopw [8] (fun i wr => ∃ k : Nat, k ≤ n ∧ i = .int .i64 k ∧ Hid (Below w.heap.size w wr ∧ ∀ j (hj : j < l.length), j < k → nameB l[j] = true)) (fun i _ => n - (intOf i).toNat)
  case atStart => exact ⟨0, Nat.zero_le _, rfl, Below.refl _ _, fun j _ hj => absurd hj (Nat.not_lt_zero _)⟩
  case round =>
    obtain ⟨k, hk, rfl, hb, hno⟩ := hrel
    have Hb := Lib.hid hb
    have Hno := Lib.hid hno
    by_cases hlt : k < n
    · have hkl : k < l.length := by rw [Hn.out]; exact hlt
      obtain ⟨g, rfl, hcell0⟩ := Hj.out k hkl
      have hcell := (hb.cell (p := ⟨g, k, none⟩) (World.block_lt_of_cell? _ _ hcell0)).trans hcell0
      have hc := bad_calls l[k] wr (Hs.out _ (List.getElem_mem hkl)) (He.out.below hb)
      cases e : nameB l[k] with
      | false =>
        have Hr := Lib.hid (badI_at hkl e hno)
        rw [e] at hc
        have Hc := Lib.hid hc
        generalize l[k] = t at *
        clear hc e hb hno hcell0
        go_wp2_with fail
        refine Hc.out.mono ?_
        rintro e w2 ⟨rfl, hb2⟩
        have Hb2 := Lib.hid (Hb.out.trans (hb2.mono Hb.out.size))
        clear hb2
        go_wp2_with fail
        go_ret
        exact ⟨ret_intI Hr.out.symm, Hb2.out⟩
      | true =>
        have Hr := Lib.hid (show ∀ j (hj : j < l.length), j < k + 1 → nameB l[j] = true from fun j h hj => by
          rcases Nat.lt_or_ge j k with h' | h'
          · exact hno j h h'
          · obtain rfl : j = k := by omega
            exact e)
        rw [e] at hc
        have Hc := Lib.hid hc
        generalize l[k] = t at *
        clear hc e hb hno hcell0
        go_wp2_with fail
        refine Hc.out.mono ?_
        rintro e w2 ⟨rfl, hb2⟩
        have Hb2 := Lib.hid (Hb.out.trans (hb2.mono Hb.out.size))
        clear hb2
        go_wp2_with fail
        go_roundw
        case rel => exact ⟨k + 1, by omega, by go_num, Hb2.out, Hr.out⟩
        case measure => simp [intOf]; omega
    · have Hr := Lib.hid (badI_none (l := l) fun j h => hno j h (by have := Hn.out; omega))
      clear hb hno
      go_wp2_with fail
      go_ret
      exact ⟨ret_intI Hr.out.symm, Hb.out⟩
theorem containsBad_calls (w : World) (v : Value) (l : List Txt) (h : StrsAt w v l) (hl : l.length ≤ 1073741824) (hs : ∀ t ∈ l, t.length ≤ 1073741824) (he : Env w) :
    Calls Tryz.prog 112 #[v, .func (.func 113) #[] #[]] w fun e w' => e = .returned (.bool (!l.all nameB)) ∧ Below w.heap.size w w' := by
  have Hi := Lib.hid (indexBad_calls w v l h hl hs he)
  have hb : -1 ≤ badI l ∧ badI l ≤ 1073741824 := by
    unfold badI
    split
    · omega
    · have := List.findIdx_le_length (p := fun t => !nameB t) (xs := l); omega
  obtain ⟨a, n, c, rfl, -⟩ := h
  have Hg := Lib.hid (badI_ge l)
  clear he hs
  go_enter Tryz.func112, Tryz.ntmps112
  go_wp2_with fail
  refine Hi.out.mono ?_
  rintro e w2 ⟨rfl, hb2⟩
  have Hb2 := Lib.hid hb2
  clear hb2
  go_wp2_with fail
  go_ret
  exact ⟨ret_bool Hg.out, Hb2.out⟩

end Go.Proofs.YtcjmhmmjfgjcnaaGreatDoor.Pa

/- parse: names of a struct, Takes. -/
namespace Go.Proofs.YtcjmhmmjfgjcnaaGreatDoor.Pa
open Go.RowKit Go.Proofs.YtcjmhmmjfgjcnaaGreatDoor.Lx

theorem empty_beq (s : Txt) : ((⟨s.toArray⟩ : ByteArray).toList == (⟨#[]⟩ : ByteArray).toList) = decide (s = []) := bytes_beq s []
set_option maxRecDepth 100000 in
theorem namesS_calls (s : Txt) (n : Int) (w : World) (hs : s.length ≤ 1048575) (he : Env w) :
    Calls Tryz.prog 57 #[.string ⟨s.toArray⟩, .int .i64 n] w fun e w' => e = .returned (.bool (namesB s n)) ∧ Below w.heap.size w w' := by
  have Hq := Lib.hid (empty_beq s)
  by_cases h0 : n = 0
  · subst h0
    have Hn := Lib.hid (show namesB s 0 = decide (s = []) by unfold namesB; rw [if_pos rfl])
    clear he hs
    go_enter Tryz.func57, Tryz.ntmps57
    go_wp2_with fail
    go_ret
    exact ⟨ret_bool (by rw [Hn.out, ← Hq.out]; simp), Below.refl _ _⟩
  · have hb0 : (n == 0) = false := by rw [beq_eq_false_iff_ne]; exact h0
    have Hs := Lib.hid (split_calls s 44 w (by omega) he)
    have hcount := split_count s 44
    have Heach := Lib.hid (split_each s 44)
    have He := Lib.hid he
    have Hn := Lib.hid (show namesB s n = (decide (((Lib.split s [44]).length : Int) = n) && (apartB (Lib.split s [44]) && (Lib.split s [44]).all nameB)) by unfold namesB; rw [if_neg h0])
    generalize namesB s n = R at *
    generalize Lib.split s [44] = l at *
    have HT := Lib.hid (TextsAt.new w l l.length _ 9 (0, 0) rfl rfl).strs
    have Hbel := Lib.hid (alloc_below w (.cells (strsC l).toArray 9))
    generalize hw1 : w.alloc (.cells (strsC l).toArray 9) = w1 at *
    have Hcount := Lib.hid hcount
    have Hs2 := Lib.hid hs
    generalize hm : l.length = m at *
    have Hm := Lib.hid hm
    clear he h0 hs hcount hw1 hm
    by_cases hl : (m : Int) = n
    · have hb1 : ((m : Int) == n) = true := by rw [beq_iff_eq]; exact hl
      have Ha := Lib.hid (apart_calls w1 _ l HT.out (by rw [Hm.out]; have := Hcount.out; have := Hs2.out; omega) (fun t ht => by have := Heach.out t ht; have := Hs2.out; omega))
      cases hap : apartB l with
      | false =>
        have HR := Lib.hid (show R = false by rw [Hn.out, hap]; simp)
        have e1 : decide l.Nodup = false := hap
        rw [e1] at Ha
        clear hl hap e1
        go_enter Tryz.func57, Tryz.ntmps57
        go_wp2_with fail
        refine Hs.out.mono ?_
        rintro e w2 ⟨rfl, rfl⟩
        go_wp2_with fail
        refine Ha.out.mono ?_
        rintro e w3 ⟨rfl, hb3⟩
        have Hb3 := Lib.hid (Hbel.out.trans (hb3.mono Hbel.out.size))
        clear hb3
        go_wp2_with fail
        go_ret
        exact ⟨ret_bool HR.out.symm, Hb3.out⟩
      | true =>
        have HR := Lib.hid (show R = l.all nameB by rw [Hn.out, hap]; simp [hl])
        have e1 : decide l.Nodup = true := hap
        rw [e1] at Ha
        have Hc := Lib.hid (fun (w2 : World) (hb : Below w1.heap.size w1 w2) => containsBad_calls w2 _ l (HT.out.below hb) (by rw [Hm.out]; have := Hcount.out; have := Hs2.out; omega) (fun t ht => by have := Heach.out t ht; have := Hs2.out; omega) ((He.out.below Hbel.out).below hb))
        clear hl hap e1
        go_enter Tryz.func57, Tryz.ntmps57
        go_wp2_with fail
        refine Hs.out.mono ?_
        rintro e w2 ⟨rfl, rfl⟩
        go_wp2_with fail
        refine Ha.out.mono ?_
        rintro e w3 ⟨rfl, hb3⟩
        have Hb3 := Lib.hid hb3
        clear hb3
        go_wp2_with fail
        refine (Hc.out _ Hb3.out).mono ?_
        rintro e w4 ⟨rfl, hb4⟩
        have Hb4 := Lib.hid (Hbel.out.trans ((Hb3.out.trans (hb4.mono Hb3.out.size)).mono Hbel.out.size))
        clear hb4
        go_wp2_with fail
        go_ret
        exact ⟨ret_bool (by rw [HR.out]), Hb4.out⟩
    · have hb1 : ((m : Int) == n) = false := by rw [beq_eq_false_iff_ne]; exact hl
      have HR := Lib.hid (show R = false by rw [Hn.out]; simp [hl])
      clear hl
      go_enter Tryz.func57, Tryz.ntmps57
      go_wp2_with fail
      refine Hs.out.mono ?_
      rintro e w2 ⟨rfl, rfl⟩
      go_wp2_with fail
      go_ret
      exact ⟨ret_bool HR.out.symm, Hbel.out⟩

/-! ### two steps compared -/
def stpB (x0 y0 : Int) (x1 y1 : ByteArray) (x2 y2 : Int) : Bool := (x0 == y0) && ((x1.toList == y1.toList) && (x2 == y2))
theorem stp_equal (d : Nat) (w : World) (x0 y0 : Int) (x1 y1 : ByteArray) (x2 y2 : Int) :
    (Op.equalIn (d + 2) 48 (.agg #[.int .u8 x0, .string x1, .int .i64 x2]) (.agg #[.int .u8 y0, .string y1, .int .i64 y2])).run Tryz.prog w = .ok (stpB x0 y0 x1 y1 x2 y2) w := by
  refine agg_of Tryz.underlying48 (by kernel_rfl) ?_
  refine fields_cons (by rfl) (by go_simp; rfl) (by go_simp; rfl) (by go_simp) ?_
  refine fields_cons (by rfl) (by go_simp; rfl) (by go_simp; rfl) (by go_simp) ?_
  exact fields_last (by rfl) (by go_simp; rfl) (by go_simp; rfl) (by go_simp)
theorem stpB_eq (x y : Stp) : stpB x.kind y.kind ⟨x.text.toArray⟩ ⟨y.text.toArray⟩ x.num y.num = decide (x = y) := by
  rw [Bool.eq_iff_iff, decide_eq_true_iff]
  cases x; cases y
  unfold stpB
  simp only [Bool.and_eq_true, beq_iff_eq, ByteArray.toList_eq, Stp.mk.injEq, Int.natCast_inj]

def takesV (o : Option Nat) : Value := .tuple #[.int .i64 (o.getD 0 : Nat), .bool o.isSome]

end Go.Proofs.YtcjmhmmjfgjcnaaGreatDoor.Pa
