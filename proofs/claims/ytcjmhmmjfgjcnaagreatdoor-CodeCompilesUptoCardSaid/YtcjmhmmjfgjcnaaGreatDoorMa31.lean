/- Parts: QaU QaY. -/
import Derived.Test.YtcjmhmmjfgjcnaaGreatDoorMa28
import Derived.Test.YtcjmhmmjfgjcnaaGreatDoorMa30
import Derived.BigFrame

/- code: Check. -/
namespace Go.Proofs.YtcjmhmmjfgjcnaaGreatDoor.Cd
open Go.RowKit Go.Proofs.YtcjmhmmjfgjcnaaGreatDoor.Lx Go.Proofs.YtcjmhmmjfgjcnaaGreatDoor.Pa Go.Maps

/-- an entry of a map that is written out -/
theorem wpList_insert_own {H : Type} {P : Program} (w : World) {ops : Array Oper} {rest : List Oper} {o : Oper} {a : Act} {Q : Exit → Act → World → Prop}
    (hg : o.guard = none) (m x v : Operand) (t : TypeId) (hop : o.op = Op.insert t m x v)
    (k e : TypeId) (K : Keyed P k) (ht : P.underlying t = some (.map k e)) (R : Value → Option (DataW H × List MemPlace)) (b n : Nat) (D : DataW H)
    (hm : a.eval m = .map (some b)) (hown : w.ownsMap P k R b n D) (hn : n < maxLen) (key val : Value) (kl : Lit) (hx : a.eval x = key) (hv : a.eval v = val) (hkey : keyOf P k key = some kl)
    (d : DataW H) (ps : List MemPlace) (hval : R val = some (d, ps))
    (hK : ∀ w', w'.ownsMap P k R b (n + 1) (D.put kl d) → w.grownBy w' (some b) → wpList P ops Q rest (a.put o.dst undef) w') :
    wpList P ops Q (o :: rest) a w := by
  refine wpList_plain hg fun K' hK' => ?_
  obtain ⟨w', hrun, r1, r2⟩ := hown.update K ht hn hkey hval
  unfold Oper.wp
  simp [execOp, hop, hm, hx, hv, hrun, Result.andThen]
  exact hK' _ _ (hK w' r1 r2)

/-- a look-up that a guard lets in -/
theorem wpList_lookup_want_int {H : Type} {P : Program} (w : World) {ops : Array Oper} {rest : List Oper} {o : Oper} {a : Act} {Q : Exit → Act → World → Prop}
    (hw : Region.wanted o (yielded ops a.tmps) = true) (m x : Operand) (t : TypeId) (hop : o.op = Op.lookup t m x false)
    (k e : TypeId) (q : IntKind) (K : Keyed P k) (ht : P.underlying t = some (.map k e)) (he : P.underlying e = some (.int q)) (hz : (zeroValue e).run P w = .ok (.int q 0) w) (b n : Nat) (D : DataW H)
    (hm : a.eval m = .map (some b)) (hown : w.ownsMap P k (plainElem P e) b n D) (key : Value) (kl : Lit) (hx : a.eval x = key) (hkey : keyOf P k key = some kl)
    (hK : ∀ c : Int, D.atKey kl (.lit (.int q 0)) = .lit (.int q c) → (Lit.int q c).wf = true → wpList P ops Q rest (a.put o.dst (.int q c)) w) :
    wpList P ops Q (o :: rest) a w := by
  refine BigFrame.wpList_want hw fun K' hK' => ?_
  obtain ⟨c, hrun, hat, hwc⟩ := hown.lookup_int K ht he hz hkey
  unfold Oper.wp
  simp [execOp, hop, hm, hx, hrun, Result.andThen]
  exact hK' _ _ (hK c hat hwc)

def checkC (p : List Ins) : Value := .int .i64 (if checkI p then 0 else 11)
/-- what the loop keeps -/
structure CkR (w wr : World) (B : Nat) (v : Value) (p : List Ins) (k : Nat) (ok : Bool) : Prop where
  bel : Below w.heap.size w wr
  no : ok = false → checkI p = false
  yes : ok = true → (1 ≤ p.length ∧ p.length ≤ 256) ∧ ∃ m hs, m ≤ 2 * k + 1 ∧ k ≤ p.length ∧ ChkM w wr B w.heap.size m v hs ∧ Low hs k ∧ runK p.length k (p.drop k) hs = runK p.length 0 p hs0
theorem hs0_low : Low hs0 0 := fun j v h => by
  unfold hs0 at h
  split at h
  · cases h; exact Nat.le_refl _
  · cases h
theorem checkI_none {p : List Ins} (h : runK p.length 0 p hs0 = none) : checkI p = false := by
  unfold checkI
  rw [h]
  simp

set_option maxHeartbeats 4000000 in
set_option maxRecDepth 100000 in
theorem Check_calls (w : World) (v : Value) (p : List Ins) (h : InsIn w v p) (hl : p.length ≤ 1000000) (HT : ∀ x ∈ p, TakesOk w x.st) :
    Calls Tryz.prog 32 #[v] w fun e w' => e = .returned (checkC p) ∧ Below w.heap.size w w' := by
  have Hin := Lib.hid h
  have HTk := Lib.hid HT
  obtain ⟨a, n, c, rfl, rfl, hc, -⟩ := h
  have Hmade := Lib.hid (World.ownsMap_made (H := Unit) w Tryz.prog 3 (plainElem Tryz.prog 3))
  have Hkey := Lib.hid (keyOf_int_mk (P := Tryz.prog) (k := 3) Tryz.underlying3 (a := 0) (WalkArith.wf_i64 (by omega)))
  have hmm := @run_makeMap Tryz.prog
  clear HT
  by_cases h1 : 1 ≤ p.length
  · by_cases h2 : p.length ≤ 256
    · have Hr := Lib.hid (show p.length = p.length from rfl)
      have HC := Lib.hid (show ∀ hs, runK p.length 0 p hs0 = some hs → checkC p = .int .i64 (if hs p.length = some 1 then 0 else 11) from fun hs e => by
        unfold checkC checkI
        rw [e]
        simp [h1, h2])
      generalize hN : p.length = N at *
      have HN := Lib.hid hN
      clear Hr hN
      go_enter Tryz.func32, Tryz.ntmps32
      go_wp2_with (refine wpList_insert_own _ rfl _ _ _ 115 rfl 3 3 keyI Tryz.underlying115 _ w.heap.size 0 _ rfl Hmade.out (by unfold maxLen; omega) _ _ _ rfl rfl Hkey.out _ [] (plainElem_int Tryz.underlying3 (WalkArith.wf_i64 (by omega))) ?_; intro w1 hown1 hgrow1)
      have Hw1 := Lib.hid (show ChkM w (w1.alloc (.cells #[.slice a N c, .map (some w.heap.size)] 117)) w1.heap.size w.heap.size 1 (.slice a N c) hs0 from by
        have hz : w.heap.size + 1 ≤ w1.heap.size := by have := hgrow1.size; simpa using this
        refine ⟨heap_alloc_new _ _, ⟨_, hown1.alloc _, holds_new.put 0 0⟩, ?_, by omega, Nat.le_refl _, by omega⟩
        have hb1 : Below w.heap.size w w1 := (allocB w _).grown hgrow1 (allocB w _).size fun b hb => by cases hb; exact Nat.le_refl _
        exact stepH hb1 (allocB w1 _))
      clear hown1 hgrow1
      go_loopw [4, 5] (fun s4 i wr => ∃ (k : Nat) (ok : Bool), k ≤ N ∧ i = .int .i64 k ∧ s4 = .bool ok ∧ Hid (CkR w wr w1.heap.size (.slice a N c) p k ok)) (fun _ i _ => N - (intOf i).toNat)
      case atStart => exact ⟨0, true, Nat.zero_le _, rfl, (by first | rfl | (simp; omega)), Hw1.out.bel, (fun h => by cases h), fun _ => ⟨by rw [HN.out]; exact ⟨h1, h2⟩, 1, hs0, Nat.le_refl _, Nat.zero_le _, Hw1.out, hs0_low, by rw [List.drop_zero]⟩⟩
      case round =>
        obtain ⟨k, ok, hk, rfl, rfl, hst⟩ := hrel
        have Hst := Lib.hid hst.out
        cases ok with
        | false =>
          have HCN := Lib.hid (show checkC p = .int .i64 11 by unfold checkC; rw [hst.out.no rfl]; rfl)
          clear hst
          go_wp2_with fail
          all_goals
            go_ret
            exact ⟨by rw [HCN.out]; rfl, Hst.out.bel⟩
        | true =>
          obtain ⟨-, m, hs, hm, hkp, hchk, hlow, hrun⟩ := hst.out.yes rfl
          have Hchk := Lib.hid hchk
          have Hrun := Lib.hid hrun
          have Hlow := Lib.hid hlow
          by_cases hlt : k < N
          · have hkl : k < p.length := by rw [HN.out]; exact hlt
            have Hs := Lib.hid (step_calls w wr w1.heap.size w.heap.size m (.slice a N c) hs p k hchk Hin.out hkl (by rw [HN.out]; omega) (by omega) (hlow.mono (by omega)) ((HTk.out _ (List.getElem_mem hkl))))
            have hd : p.drop k = p[k] :: p.drop (k + 1) := List.drop_eq_getElem_cons hkl
            rw [HN.out, hd] at hrun
            have hsl := fun hs' => stepK_low (N := p.length) (i := k) (x := p[k]) (hs' := hs') hlow
            cases hsk : stepK p.length k p[k] hs with
            | none =>
              rw [hsk] at Hs
              have Hno := Lib.hid (show checkI p = false from checkI_none (by rw [HN.out, ← hrun, runK, ← HN.out, hsk]; rfl))
              clear hst hchk hlow hrun hd hsl hsk
              go_wp2_with fail
              refine Hs.out.mono ?_
              rintro e w2 ⟨rfl, hb2⟩
              have Hb2 := Lib.hid hb2
              clear hb2
              go_wp2_with fail
              go_roundw
              case rel => exact ⟨k + 1, false, by omega, by go_num, rfl, Hb2.out, fun _ => Hno.out, (fun h => by cases h)⟩
              case measure => simp [intOf]; omega
            | some hs' =>
              rw [hsk] at Hs
              have Hlo2 := Lib.hid (hsl hs' hsk)
              have Hru2 := Lib.hid (show runK N (k + 1) (p.drop (k + 1)) hs' = runK N 0 p hs0 by rw [← hrun, runK, ← HN.out, hsk]; rfl)
              clear hst hchk hlow hrun hd hsl hsk
              go_wp2_with fail
              refine Hs.out.mono ?_
              rintro e w2 ⟨rfl, m2, hm2, hst2⟩
              have Hst2 := Lib.hid hst2
              clear hst2
              go_wp2_with fail
              go_roundw
              case rel => exact ⟨k + 1, true, by omega, by go_num, rfl, Hst2.out.bel, (fun h => by cases h), fun _ => ⟨by rw [HN.out]; exact ⟨h1, h2⟩, m2, hs', by omega, by rw [HN.out]; omega, Hst2.out, Hlo2.out, by rw [HN.out]; exact Hru2.out⟩⟩
              case measure => simp [intOf]; omega
          · have hkn : k = N := by omega
            subst hkn
            obtain ⟨⟨c0, c1⟩, -⟩ := twoB hchk.blk
            obtain ⟨D, hown, hD⟩ := hchk.map
            have hB := ltH hchk.blk
            have Hown := Lib.hid hown
            have HkeyN := Lib.hid (keyOf_int_mk (P := Tryz.prog) (k := 3) Tryz.underlying3 (a := (k : Int)) (WalkArith.wf_i64 (by omega)))
            have Hat := Lib.hid (show ∀ c : Int, D.atKey (.int .i64 (k : Int)) (.lit (.int .i64 0)) = .lit (.int .i64 c) → c = (((hs k).getD 0 : Nat) : Int) from fun c hc => by
              rw [hD.atK k] at hc
              simp only [DataW.lit.injEq, Lit.int.injEq, true_and] at hc
              exact hc.symm)
            have HR := Lib.hid (show checkC p = .int .i64 (if hs k = some 1 then 0 else 11) from HC.out hs (by
              rw [HN.out] at hrun
              rw [← hrun, List.drop_of_length_le (by rw [HN.out]; exact Nat.le_refl _), runK]))
            clear hst hchk hlow hrun hown hD
            by_cases h11 : hs k = some 1
            · rw [h11] at Hat HR
              simp only [Option.getD_some, if_true, Int.natCast_one] at Hat HR
              clear h11
              go_wp2_with (at_lookup; refine wpList_lookup_want_int _ rfl _ _ 115 rfl 3 3 .i64 keyI Tryz.underlying115 Tryz.underlying3 (zeroH _) w.heap.size m D rfl Hown.out _ _ rfl HkeyN.out ?_; intro c2 hat hwc; clear hwc; obtain rfl := Hat.out c2 hat; clear hat)
              go_ret
              exact ⟨by rw [HR.out]; rfl, Hst.out.bel⟩
            · rw [if_neg h11] at HR
              have hne : ¬ (((hs k).getD 0 : Nat) : Int) = 1 := by
                cases hv : hs k with
                | none => simp
                | some u => rw [hv] at h11; simp only [Option.some.injEq] at h11; simp only [Option.getD_some]; omega
              generalize (((hs k).getD 0 : Nat) : Int) = z at *
              clear h11
              go_wp2_with (at_lookup; refine wpList_lookup_want_int _ rfl _ _ 115 rfl 3 3 .i64 keyI Tryz.underlying115 Tryz.underlying3 (zeroH _) w.heap.size m D rfl Hown.out _ _ rfl HkeyN.out ?_; intro c2 hat hwc; clear hwc; obtain rfl := Hat.out c2 hat; clear hat)
              go_ret
              exact ⟨by rw [HR.out]; rfl, Hst.out.bel⟩
    · have HCN := Lib.hid (show checkC p = .int .i64 11 by unfold checkC checkI; rw [decide_eq_false (by omega)]; rfl)
      go_enter Tryz.func32, Tryz.ntmps32
      go_wp2_with (refine wpList_insert_own _ rfl _ _ _ 115 rfl 3 3 keyI Tryz.underlying115 _ w.heap.size 0 _ rfl Hmade.out (by unfold maxLen; omega) _ _ _ rfl rfl Hkey.out _ [] (plainElem_int Tryz.underlying3 (WalkArith.wf_i64 (by omega))) ?_; intro w1 hown1 hgrow1)
      have Hw1 := Lib.hid (show Below w.heap.size w (w1.alloc (.cells #[.slice a p.length c, .map (some w.heap.size)] 117)) from by
        have hb1 : Below w.heap.size w w1 := (allocB w _).grown hgrow1 (allocB w _).size fun b hb => by cases hb; exact Nat.le_refl _
        exact stepH hb1 (allocB w1 _))
      clear hown1 hgrow1
      go_loopw [4, 5] (fun s4 i wr => i = .int .i64 0 ∧ s4 = .bool false ∧ Hid (Below w.heap.size w wr)) (fun _ _ _ => 0)
      case atStart => exact ⟨rfl, (by first | rfl | (simp; omega)), Hw1⟩
      case round =>
        obtain ⟨rfl, rfl, hst⟩ := hrel
        go_wp2_with fail
        all_goals
          go_ret
          exact ⟨by rw [HCN.out]; rfl, hst.out⟩
  · have HCN := Lib.hid (show checkC p = .int .i64 11 by unfold checkC checkI; rw [decide_eq_false (by omega)]; rfl)
    go_enter Tryz.func32, Tryz.ntmps32
    go_wp2_with (refine wpList_insert_own _ rfl _ _ _ 115 rfl 3 3 keyI Tryz.underlying115 _ w.heap.size 0 _ rfl Hmade.out (by unfold maxLen; omega) _ _ _ rfl rfl Hkey.out _ [] (plainElem_int Tryz.underlying3 (WalkArith.wf_i64 (by omega))) ?_; intro w1 hown1 hgrow1)
    have Hw1 := Lib.hid (show Below w.heap.size w (w1.alloc (.cells #[.slice a p.length c, .map (some w.heap.size)] 117)) from by
      have hb1 : Below w.heap.size w w1 := (allocB w _).grown hgrow1 (allocB w _).size fun b hb => by cases hb; exact Nat.le_refl _
      exact stepH hb1 (allocB w1 _))
    clear hown1 hgrow1
    go_loopw [4, 5] (fun s4 i wr => i = .int .i64 0 ∧ s4 = .bool false ∧ Hid (Below w.heap.size w wr)) (fun _ _ _ => 0)
    case atStart => exact ⟨rfl, (by first | rfl | (simp; omega)), Hw1⟩
    case round =>
      obtain ⟨rfl, rfl, hst⟩ := hrel
      go_wp2_with fail
      all_goals
        go_ret
        exact ⟨by rw [HCN.out]; rfl, hst.out⟩

end Go.Proofs.YtcjmhmmjfgjcnaaGreatDoor.Cd

/- bin: Number; code: Text. -/
namespace Go.Proofs.YtcjmhmmjfgjcnaaGreatDoor.Cd
open Go.RowKit Go.Proofs.YtcjmhmmjfgjcnaaGreatDoor.Lx Go.Proofs.YtcjmhmmjfgjcnaaGreatDoor.Pa

set_option maxRecDepth 100000 in
theorem Number_calls (w : World) (n : Nat) (hn : n < 18446744073709551616) :
    Calls Tryz.prog 67 #[.int .u64 n] w fun e w' => e = .returned (.string ⟨(numT n).toArray⟩) ∧ Below w.heap.size w w' := by
  have h0 : BufM w (w.alloc (.cells #[.slice none 0 0] 163)) w.heap.size (.slice none 0 0) [] := ⟨heap_alloc_new _ _, OwnB.nil _ _, allocB _ _, Nat.le_refl _⟩
  have Hn := Lib.hid (number_calls w _ w.heap.size _ n h0 hn)
  have Hne := Lib.hid (show numT n ≠ [] from fun e => by have := (numB_length 9 n).1; unfold numT at e; rw [e] at this; simp at this)
  clear h0
  go_enter Tryz.func67, Tryz.ntmps67
  go_wp2_with fail
  refine Hn.out.mono ?_
  rintro e w1 ⟨rfl, v1, h1⟩
  have Hb := Lib.hid h1.bel
  obtain ⟨k0, -⟩ := oneB h1.blk
  obtain ⟨g, c, rfl, hby, -, -⟩ := h1.own.at Hne.out
  have hback := conv_string Tryz.prog 104 9 5 Tryz.underlying104 Tryz.underlying9 Tryz.underlying5 w1 g (numT n).length c (numT n) rfl hby
  clear h1 hby
  go_wp2_with fail
  go_ret
  exact ⟨rfl, Hb.out⟩

/-! ### Text -/
/-- the bytes so far, and the instruction at hand -/
structure TxM (w wr wx : World) (x : Ins) (v : Value) (l : Txt) : Prop where
  blk : wx.heap[wr.heap.size]? = some (.cells #[.int .u8 x.op, .int .u8 x.st.kind, .string ⟨x.st.text.toArray⟩, .int .i64 x.st.num, .int .i64 x.to] 63)
  own : OwnB wx w.heap.size v l
  bel : Below w.heap.size w wx
theorem TxM.step {w wr wx w' : World} {x : Ins} {v : Value} {l : Txt} (h : TxM w wr wx x v l) (hb : Below wx.heap.size wx w') : TxM w wr w' x v l :=
  ⟨(hb.block _ (ltH h.blk)).trans h.blk, ownSame h.own fun g _ hg => hb.block g hg, stepH h.bel hb⟩
theorem TxM.ne {w wr wx : World} {x : Ins} {v : Value} {l : Txt} (h : TxM w wr wx x v l) : v.ownBlock ≠ some wr.heap.size := by
  rcases h.own.2 with ⟨rfl, _⟩ | ⟨g, cap, cur, e, h1, h2, _⟩
  · exact fun e => nomatch e
  · subst e
    intro e
    obtain rfl : g = wr.heap.size := Option.some.inj e
    rw [h.blk] at h2
    have := Option.some.inj h2
    simp only [Obj.cells.injEq] at this
    exact absurd this.2.1 (by decide)
theorem TxM.more {w wr wx w' : World} {x : Ins} {v v' : Value} {l l' : Txt} {n : Nat} {cs : List Value} (h : TxM w wr wx x v l) (hown : w'.ownsRow w.heap.size 5 1 v' n cs) (hg : wx.grownBy w' v.ownBlock) (hn : n = l'.length) (hc : cs = bytesC l') : TxM w wr w' x v' l' :=
  ⟨(hg.block _ (ltH h.blk) fun e => h.ne e.symm).trans h.blk, by unfold OwnB; rw [← hn, ← hc]; exact hown, h.bel.grown hg h.bel.size fun g e => (World.ownsRow.lt h.own g e).1⟩
section
variable {ops : Array Oper} {rest : List Oper} {o : Oper} {a : Act} {Q : Exit → Act → World → Prop}
theorem wpList_tx_byte {W : World} (hgd : o.guard = none) (sl y : Operand) (ho : o.op = .call { callee := .builtin .append, args := #[sl, y], argTypes := #[104, 104] })
    (w wr : World) (x : Ins) (v : Value) (l : Txt) (hs : a.eval sl = v) (B0 : Nat) (hx : a.eval y = .slice (some ⟨B0, 0, none⟩) 1 1) (z : Int) (H : TxM w wr W x v l) (hB0 : W.heap.size = B0) (hz0 : 0 ≤ z) (hz1 : z < 256) (hl : l.length + 1 ≤ 1000000000)
    (h : ∀ a' n' c' w', Hid (n' = l.length + 1) → TxM w wr w' x (.slice a' n' c') (l ++ [UInt8.ofNat z.toNat]) → wpList Tryz.prog ops Q rest (a.put o.dst (.slice a' n' c')) w') : wpList Tryz.prog ops Q (o :: rest) a (W.alloc (.cells #[.int .u8 z] 5)) := by
  subst hB0
  obtain ⟨i0, hi0, hzz0, hz10, hz2⟩ := info_parts u8Info
  have H1 := H.step (allocB W (.cells #[.int .u8 z] 5))
  refine wpList_append_own_at _ hgd sl y 104 ho w.heap.size 5 i0 _ 1 1 Tryz.underlying104 hi0 hzz0 hz10 hz2 rfl (by decide) v l.length (bytesC l) hs H1.own ⟨W.heap.size, 0, none⟩ 1 1 [.int .u8 z] hx rfl (cell_one_new W (.int .u8 z) 5)
    (by intro u hu; rw [List.mem_singleton] at hu; subst hu; rfl) (by unfold maxLen; omega) (by omega) H1.bel.size ?_
  intro v' w' hown hg _ _
  obtain ⟨a', c', rfl⟩ := ownForm hown
  refine h a' _ c' w' (Lib.hid rfl) (H1.more hown hg (by rw [List.length_append, List.length_singleton]) ?_)
  rw [bytesC_snoc, byte_toNat (by omega), Int.toNat_of_nonneg hz0]
theorem wpList_tx_str {W : World} (hgd : o.guard = none) (sl y : Operand) (ho : o.op = .call { callee := .builtin .append, args := #[sl, y], argTypes := #[104, 9] })
    (w wr : World) (x : Ins) (v : Value) (l : Txt) (hs : a.eval sl = v) (t : Txt) (hx : a.eval y = .string ⟨t.toArray⟩) (H : TxM w wr W x v l) (hl : l.length + t.length ≤ 1000000000)
    (h : ∀ a' n' c' w', Hid (n' = l.length + t.length) → TxM w wr w' x (.slice a' n' c') (l ++ t) → wpList Tryz.prog ops Q rest (a.put o.dst (.slice a' n' c')) w') : wpList Tryz.prog ops Q (o :: rest) a W := by
  obtain ⟨i0, hi0, hzz0, hz10, hz2⟩ := info_parts u8Info
  refine Lib.wpList_append_own_string _ hgd sl y 104 9 ho w.heap.size 5 i0 Tryz.underlying104 Tryz.underlying9 hi0 hzz0 hz10 hz2 v l.length (bytesC l) hs H.own ⟨t.toArray⟩ hx (by rw [size_mk]; unfold maxLen; omega) (by rw [size_mk]; omega) H.bel.size ?_
  intro v' w' hown hg _
  rw [size_mk] at hown
  obtain ⟨a', c', rfl⟩ := ownForm hown
  exact h a' _ c' w' (Lib.hid rfl) (H.more hown hg (by rw [List.length_append]) (by unfold bytesC Lib.strCells; rw [List.map_append]))
end
/-- what Text hands back -/
def textV (p : List Ins) : Value := .tuple (if checkI p then (if (textL p).length ≤ 16384 then #[.string ⟨(textL p).toArray⟩, .int .i64 0] else #[.string ⟨#[]⟩, .int .i64 4]) else #[.string ⟨#[]⟩, .int .i64 11])
theorem textL_take (p : List Ins) (k : Nat) (h : k < p.length) : textL (p.take (k + 1)) = textL (p.take k) ++ textI p[k] := by
  unfold textL
  rw [List.take_succ_eq_append_getElem h, List.flatMap_append]
  simp
theorem textI_len {x : Ins} (h : x.st.text.length ≤ 1048575) : (textI x).length ≤ 1100000 := by
  unfold textI
  have h1 := (numB_length 9 (u64 x.st.num)).2
  have h2 := (numB_length 9 x.st.text.length).2
  have h3 := (numB_length 9 (u64 x.to)).2
  split
  · simp only [List.length_cons, List.length_append, numT]; omega
  · split
    · simp only [List.length_cons, numT]; omega
    · simp
theorem textL_len {p : List Ins} (h : ∀ x ∈ p, x.st.text.length ≤ 1048575) : (textL p).length ≤ p.length * 1100000 := by
  induction p with
  | nil => simp [textL]
  | cons x p ih =>
    have e : textL (x :: p) = textI x ++ textL p := rfl
    have h1 := textI_len (h x (by simp))
    have h2 := ih fun y hy => h y (by simp [hy])
    rw [e, List.length_append, List.length_cons, Nat.add_mul]
    omega

end Go.Proofs.YtcjmhmmjfgjcnaaGreatDoor.Cd
