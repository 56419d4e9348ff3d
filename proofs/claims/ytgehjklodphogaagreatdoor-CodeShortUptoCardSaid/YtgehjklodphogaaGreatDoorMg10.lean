/- Parts: QaY QaZ. -/
import Derived.Test.YtgehjklodphogaaGreatDoorMg09

/- bin: Number; code: Text. -/
namespace Go.Proofs.YtgehjklodphogaaGreatDoor.Cd
open Go.RowKit Go.Proofs.YtgehjklodphogaaGreatDoor.Lx Go.Proofs.YtgehjklodphogaaGreatDoor.Pa

set_option maxRecDepth 100000 in
theorem Number_calls (w : World) (n : Nat) (hn : n < 18446744073709551616) :
    Calls Tryz.prog 72 #[.int .u64 n] w fun e w' => e = .returned (.string ⟨(numT n).toArray⟩) ∧ Below w.heap.size w w' := by
  have h0 : BufM w (w.alloc (.cells #[.slice none 0 0] 166)) w.heap.size (.slice none 0 0) [] := ⟨heap_alloc_new _ _, OwnB.nil _ _, allocB _ _, Nat.le_refl _⟩
  have Hn := Lib.hid (number_calls w _ w.heap.size _ n h0 hn)
  have Hne := Lib.hid (show numT n ≠ [] from fun e => by have := (numB_length 9 n).1; unfold numT at e; rw [e] at this; simp at this)
  clear h0
  go_enter Tryz.func72, Tryz.ntmps72
  go_wp2_with fail
  refine Hn.out.mono ?_
  rintro e w1 ⟨rfl, v1, h1⟩
  have Hb := Lib.hid h1.bel
  obtain ⟨k0, -⟩ := oneB h1.blk
  obtain ⟨g, c, rfl, hby, -, -⟩ := h1.own.at Hne.out
  have hback := conv_string Tryz.prog 111 9 5 Tryz.underlying111 Tryz.underlying9 Tryz.underlying5 w1 g (numT n).length c (numT n) rfl hby
  clear h1 hby
  go_wp2_with fail
  go_ret
  exact ⟨rfl, Hb.out⟩

/-! ### Text -/
/-- the bytes so far, and the instruction at hand -/
structure TxM (w wr wx : World) (x : Ins) (v : Value) (l : Txt) : Prop where
  blk : wx.heap[wr.heap.size]? = some (.cells #[.int .u8 x.op, .int .u8 x.st.kind, .string ⟨x.st.text.toArray⟩, .int .i64 x.st.num, .int .i64 x.to] 36)
  own : OwnB wx w.heap.size v l
  bel : Below w.heap.size w wx
theorem TxM.step {w wr wx w' : World} {x : Ins} {v : Value} {l : Txt} (h : TxM w wr wx x v l) (hb : Below wx.heap.size wx w') : TxM w wr w' x v l :=
  ⟨(hb.block _ (ltH h.blk)).trans h.blk, ownSame h.own fun g _ hg => hb.block g hg, stepH h.bel hb⟩
theorem TxM.ne {w wr wx : World} {x : Ins} {v : Value} {l : Txt} (h : TxM w wr wx x v l) : v.ownBlock ≠ some wr.heap.size := by
  rcases h.own.2 with ⟨rfl, _⟩ | ⟨g, cap, cur, e, h1, h2, _⟩
  · exact fun e => nomatch e
  · subst e
    intro e
    obtain rfl : g = wr.heap.size := Option.some.inj e
    rw [h.blk] at h2
    have := Option.some.inj h2
    simp only [Obj.cells.injEq] at this
    exact absurd this.2.1 (by decide)
theorem TxM.more {w wr wx w' : World} {x : Ins} {v v' : Value} {l l' : Txt} {n : Nat} {cs : List Value} (h : TxM w wr wx x v l) (hown : w'.ownsRow w.heap.size 5 1 v' n cs) (hg : wx.grownBy w' v.ownBlock) (hn : n = l'.length) (hc : cs = bytesC l') : TxM w wr w' x v' l' :=
  ⟨(hg.block _ (ltH h.blk) fun e => h.ne e.symm).trans h.blk, by unfold OwnB; rw [← hn, ← hc]; exact hown, h.bel.grown hg h.bel.size fun g e => (World.ownsRow.lt h.own g e).1⟩
section
variable {ops : Array Oper} {rest : List Oper} {o : Oper} {a : Act} {Q : Exit → Act → World → Prop}
theorem wpList_tx_byte {W : World} (hgd : o.guard = none) (sl y : Operand) (ho : o.op = .call { callee := .builtin .append, args := #[sl, y], argTypes := #[111, 111] })
    (w wr : World) (x : Ins) (v : Value) (l : Txt) (hs : a.eval sl = v) (B0 : Nat) (hx : a.eval y = .slice (some ⟨B0, 0, none⟩) 1 1) (z : Int) (H : TxM w wr W x v l) (hB0 : W.heap.size = B0) (hz0 : 0 ≤ z) (hz1 : z < 256) (hl : l.length + 1 ≤ 1000000000)
    (h : ∀ a' n' c' w', Hid (n' = l.length + 1) → TxM w wr w' x (.slice a' n' c') (l ++ [UInt8.ofNat z.toNat]) → wpList Tryz.prog ops Q rest (a.put o.dst (.slice a' n' c')) w') : wpList Tryz.prog ops Q (o :: rest) a (W.alloc (.cells #[.int .u8 z] 5)) := by
  subst hB0
  obtain ⟨i0, hi0, hzz0, hz10, hz2⟩ := info_parts u8Info
  have H1 := H.step (allocB W (.cells #[.int .u8 z] 5))
  refine wpList_append_own_at _ hgd sl y 111 ho w.heap.size 5 i0 _ 1 1 Tryz.underlying111 hi0 hzz0 hz10 hz2 rfl (by decide) v l.length (bytesC l) hs H1.own ⟨W.heap.size, 0, none⟩ 1 1 [.int .u8 z] hx rfl (cell_one_new W (.int .u8 z) 5)
    (by intro u hu; rw [List.mem_singleton] at hu; subst hu; rfl) (by unfold maxLen; omega) (by omega) H1.bel.size ?_
  intro v' w' hown hg _ _
  obtain ⟨a', c', rfl⟩ := ownForm hown
  refine h a' _ c' w' (Lib.hid rfl) (H1.more hown hg (by rw [List.length_append, List.length_singleton]) ?_)
  rw [bytesC_snoc, byte_toNat (by omega), Int.toNat_of_nonneg hz0]
theorem wpList_tx_str {W : World} (hgd : o.guard = none) (sl y : Operand) (ho : o.op = .call { callee := .builtin .append, args := #[sl, y], argTypes := #[111, 9] })
    (w wr : World) (x : Ins) (v : Value) (l : Txt) (hs : a.eval sl = v) (t : Txt) (hx : a.eval y = .string ⟨t.toArray⟩) (H : TxM w wr W x v l) (hl : l.length + t.length ≤ 1000000000)
    (h : ∀ a' n' c' w', Hid (n' = l.length + t.length) → TxM w wr w' x (.slice a' n' c') (l ++ t) → wpList Tryz.prog ops Q rest (a.put o.dst (.slice a' n' c')) w') : wpList Tryz.prog ops Q (o :: rest) a W := by
  obtain ⟨i0, hi0, hzz0, hz10, hz2⟩ := info_parts u8Info
  refine Lib.wpList_append_own_string _ hgd sl y 111 9 ho w.heap.size 5 i0 Tryz.underlying111 Tryz.underlying9 hi0 hzz0 hz10 hz2 v l.length (bytesC l) hs H.own ⟨t.toArray⟩ hx (by rw [size_mk]; unfold maxLen; omega) (by rw [size_mk]; omega) H.bel.size ?_
  intro v' w' hown hg _
  rw [size_mk] at hown
  obtain ⟨a', c', rfl⟩ := ownForm hown
  exact h a' _ c' w' (Lib.hid rfl) (H.more hown hg (by rw [List.length_append]) (by unfold bytesC Lib.strCells; rw [List.map_append]))
end
/-- what Text hands back -/
def textV (p : List Ins) : Value := .tuple (if checkI p then (if (textL p).length ≤ 16384 then #[.string ⟨(textL p).toArray⟩, .int .i64 0] else #[.string ⟨#[]⟩, .int .i64 4]) else #[.string ⟨#[]⟩, .int .i64 11])
theorem textL_take (p : List Ins) (k : Nat) (h : k < p.length) : textL (p.take (k + 1)) = textL (p.take k) ++ textI p[k] := by
  unfold textL
  rw [List.take_succ_eq_append_getElem h, List.flatMap_append]
  simp
theorem textI_len {x : Ins} (h : x.st.text.length ≤ 1048575) : (textI x).length ≤ 1100000 := by
  unfold textI
  have h1 := (numB_length 9 (u64 x.st.num)).2
  have h2 := (numB_length 9 x.st.text.length).2
  have h3 := (numB_length 9 (u64 x.to)).2
  split
  · simp only [List.length_cons, List.length_append, numT]; omega
  · split
    · simp only [List.length_cons, numT]; omega
    · simp
theorem textL_len {p : List Ins} (h : ∀ x ∈ p, x.st.text.length ≤ 1048575) : (textL p).length ≤ p.length * 1100000 := by
  induction p with
  | nil => simp [textL]
  | cons x p ih =>
    have e : textL (x :: p) = textI x ++ textL p := rfl
    have h1 := textI_len (h x (by simp))
    have h2 := ih fun y hy => h y (by simp [hy])
    rw [e, List.length_append, List.length_cons, Nat.add_mul]
    omega

end Go.Proofs.YtgehjklodphogaaGreatDoor.Cd

/- code: Text. -/
namespace Go.Proofs.YtgehjklodphogaaGreatDoor.Cd
open Go.RowKit Go.Proofs.YtgehjklodphogaaGreatDoor.Lx Go.Proofs.YtgehjklodphogaaGreatDoor.Pa

theorem tn1 : (1 : Int).toNat = 1 := rfl
theorem tn2 : (2 : Int).toNat = 2 := rfl
theorem tn4 : (4 : Int).toNat = 4 := rfl
set_option maxHeartbeats 4000000 in
set_option maxRecDepth 100000 in
theorem Text_calls (w : World) (v : Value) (p : List Ins) (h : InsIn w v p) (hl : p.length ≤ 1000000) (HT : ∀ x ∈ p, TakesOk w x.st) (hn : ∀ x ∈ p, x.st.num ≤ 9223372036854775807) (ht : ∀ x ∈ p, x.st.text.length ≤ 1048575) :
    Calls Tryz.prog 33 #[v] w fun e w' => e = .returned (textV p) ∧ Below w.heap.size w w' := by
  have HCk := Lib.hid (Check_calls w v p h hl HT)
  unfold checkC at HCk
  cases hC : checkI p with
  | false =>
    rw [hC] at HCk
    have HV := Lib.hid (show textV p = .tuple #[.string ⟨#[]⟩, .int .i64 11] by unfold textV; rw [hC]; rfl)
    obtain ⟨a, n, c, rfl, -⟩ := h
    clear hC HT hn ht
    go_enter Tryz.func33, Tryz.ntmps33
    go_wp2_with fail
    refine HCk.out.mono ?_
    rintro e w2 ⟨rfl, hb2⟩
    have Hb2 := Lib.hid hb2
    clear hb2
    go_wp2_with fail
    go_ret2
    exact ⟨by rw [HV.out]; rfl, Hb2.out⟩
  | true =>
    rw [hC] at HCk
    have HV := Lib.hid (show textV p = .tuple (if (textL p).length ≤ 16384 then #[.string ⟨(textL p).toArray⟩, .int .i64 0] else #[.string ⟨#[]⟩, .int .i64 4]) by unfold textV; rw [hC]; rfl)
    obtain ⟨hok, hp1, hp2⟩ := check_ok hC
    have Hok := Lib.hid hok
    have Hnum := Lib.hid hn
    have Htxt := Lib.hid ht
    obtain ⟨a, n, c, rfl, hln, hnc, hj⟩ := h
    have Hln := Lib.hid hln
    have Hj := Lib.hid hj
    have hn256 : n ≤ 256 := by omega
    have hn1 : 1 ≤ n := by omega
    clear hC HT hn ht hok hln hj hl hp1 hp2
    go_enter Tryz.func33, Tryz.ntmps33
    go_wp2_with fail
    refine HCk.out.mono ?_
    rintro e w2 ⟨rfl, hb2⟩
    have Hb2 := Lib.hid hb2
    clear hb2
    go_wp2_with fail
    go_loopw [5, 15] (fun s5 i wr => ∃ (k m c5 : Nat) (b5 : Option Addr), k ≤ n ∧ i = .int .i64 k ∧ s5 = .slice b5 m c5 ∧ (textL (p.take k)).length = m ∧ Hid (OwnB wr w.heap.size (.slice b5 m c5) (textL (p.take k)) ∧ Below w.heap.size w wr)) (fun _ i _ => n - (intOf i).toNat)
    case atStart => exact ⟨0, 0, 0, none, Nat.zero_le _, rfl, rfl, rfl, OwnB.nil _ _, Hb2.out⟩
    case round =>
      obtain ⟨k, m, c5, b5, hk, rfl, rfl, hm, hst⟩ := hrel
      have Hst := Lib.hid hst.out
      have Hm := Lib.hid hm
      by_cases hlt : k < n
      · have hkl : k < p.length := by rw [Hln.out]; exact hlt
        obtain ⟨g, o, rfl, hcl⟩ := Hj.out k hkl
        have hgw : g < wr.heap.size := Nat.lt_of_lt_of_le hcl.lt hst.out.2.size
        obtain ⟨q0, q1, q2, q3, q4⟩ := hcl.below hst.out.2
        have htx := Htxt.out _ (List.getElem_mem hkl)
        have hnum := Hnum.out _ (List.getElem_mem hkl)
        have hox := Hok.out _ (List.getElem_mem hkl)
        have Htk := Lib.hid (textL_take p k hkl)
        have hsm : (textL (p.take k)).length ≤ 281600000 := by
          have h1 := textL_len (p := p.take k) fun x hx => Htxt.out x (List.mem_of_mem_take hx)
          have h2 : (p.take k).length ≤ 256 := by rw [List.length_take]; omega
          have := Nat.mul_le_mul_right 1100000 h2
          omega
        generalize p[k] = x at *
        generalize hl0 : textL (p.take k) = l at *
        have Hl0 := Lib.hid hl0
        have hbx := allocB wr (.cells #[.int .u8 x.op, .int .u8 x.st.kind, .string ⟨x.st.text.toArray⟩, .int .i64 x.st.num, .int .i64 x.to] 36)
        have Htx := Lib.hid (show TxM w wr (wr.alloc (.cells #[.int .u8 x.op, .int .u8 x.st.kind, .string ⟨x.st.text.toArray⟩, .int .i64 x.st.num, .int .i64 x.to] 36)) x (.slice b5 m c5) l from ⟨heap_alloc_new _ _, ownSame hst.out.1 fun g _ hg => hbx.block g hg, stepH hst.out.2 hbx⟩)
        have hop : x.op < 6 := by rcases hox.op with e | e | e | e | e <;> omega
        clear hst hm hcl hl0 hbx Hst
        subst m
        by_cases h1 : x.op = 1
        · obtain ⟨g1, g2, g3, g4⟩ := hox.step h1
          obtain ⟨nn, hnn⟩ : ∃ nn : Nat, x.st.num = nn := ⟨x.st.num.toNat, by omega⟩
          have hnn2 : nn ≤ 9223372036854775807 := by omega
          have b1 : ((x.op : Int) == 1) = true := by rw [beq_iff_eq]; omega
          have hu : u64 x.st.num = nn := by rw [hnn, u64_small (by omega) (by omega)]; exact Int.toNat_natCast nn
          have He := Lib.hid (show textI x = UInt8.ofNat x.op :: UInt8.ofNat x.st.kind :: (numT nn ++ (numT x.st.text.length ++ x.st.text)) by unfold textI; rw [if_pos h1, hu])
          have hl1 := (numB_length 9 nn).2
          have hl2 := (numB_length 9 x.st.text.length).2
          have HN1 := Lib.hid (fun w2 => Number_calls w2 nn (by omega))
          have HN2 := Lib.hid (fun w2 => Number_calls w2 x.st.text.length (by omega))
          unfold numT at He HN1 HN2
          generalize numB 9 nn = t1 at *
          generalize numB 9 x.st.text.length = t2 at *
          obtain ⟨op, ⟨kind, text, num⟩, to⟩ := x
          simp only at hnn h1 g2 hnum htx
          subst hnn h1
          clear b1 g4 hu hox
          go_wp2_with (first | (at_builtin; (refine wpList_tx_byte rfl _ _ rfl w wr _ _ _ rfl _ rfl _ Htx.out (by first | rfl | simp) (by omega) (by omega) (by first | omega | (simp only [List.length_append, List.length_cons, List.length_nil]; omega)) ?_); intro a7 n7 c7 w7 hn7 h7; have Htx := Lib.hid h7; obtain ⟨⟨k0, k1, k2, k3, k4⟩, -⟩ := fiveB h7.blk; have hXB := ltH h7.blk; clear h7))
          refine (HN1.out _).mono ?_
          rintro e w8 ⟨rfl, hb8⟩
          have h8 := Htx.out.step hb8
          have Htx := Lib.hid h8
          obtain ⟨⟨k0, k1, k2, k3, k4⟩, -⟩ := fiveB h8.blk
          have hXB := ltH h8.blk
          clear h8 hb8
          go_wp2_with (first | (at_builtin; refine wpList_tx_str rfl _ _ rfl w wr _ _ _ rfl _ rfl Htx.out (by first | omega | (simp only [List.length_append, List.length_cons, List.length_nil]; omega)) ?_; intro a7 n7 c7 w7 hn7 h7; have Htx := Lib.hid h7; obtain ⟨⟨k0, k1, k2, k3, k4⟩, -⟩ := fiveB h7.blk; have hXB := ltH h7.blk; clear h7))
          refine (HN2.out _).mono ?_
          rintro e w8 ⟨rfl, hb8⟩
          have h8 := Htx.out.step hb8
          have Htx := Lib.hid h8
          obtain ⟨⟨k0, k1, k2, k3, k4⟩, -⟩ := fiveB h8.blk
          have hXB := ltH h8.blk
          clear h8 hb8
          go_wp2_with (first | (at_builtin; refine wpList_tx_str rfl _ _ rfl w wr _ _ _ rfl _ rfl Htx.out (by first | omega | (simp only [List.length_append, List.length_cons, List.length_nil]; omega)) ?_; intro a7 n7 c7 w7 hn7 h7; have Htx := Lib.hid h7; obtain ⟨⟨k0, k1, k2, k3, k4⟩, -⟩ := fiveB h7.blk; have hXB := ltH h7.blk; clear h7))
          go_roundw
          case rel => exact ⟨k + 1, _, _, _, by omega, by go_num, rfl, by (obtain ⟨_, _, e⟩ := Htx.out.own.form; simp only [Value.slice.injEq] at e; rw [Htk.out, He.out, e.2.1]; simp only [Int.toNat_natCast, tn1, List.append_assoc, List.cons_append, List.nil_append]), by rw [Htk.out, He.out]; exact (by have h := Htx.out; simp only [Int.toNat_natCast, tn1, List.append_assoc, List.cons_append, List.nil_append] at h; exact ⟨h.own, h.bel⟩)⟩
          case measure => simp [intOf]; omega
        by_cases h2 : x.op = 2
        · obtain ⟨g1, g2, g3⟩ := hox.jump (by omega)
          obtain ⟨nn, hnn⟩ : ∃ nn : Nat, x.to = nn := ⟨x.to.toNat, by omega⟩
          have hnn2 : nn ≤ 256 := by omega
          have b1 : ((x.op : Int) == 1) = false := by rw [beq_eq_false_iff_ne]; omega
          have b2 : ((x.op : Int) == 2) = true := by rw [beq_iff_eq]; omega
          have hu : u64 x.to = nn := by rw [hnn, u64_small (by omega) (by omega)]; exact Int.toNat_natCast nn
          have He := Lib.hid (show textI x = UInt8.ofNat x.op :: numT nn by unfold textI; rw [if_neg h1, if_pos (by omega), hu])
          have hl1 := (numB_length 9 nn).2
          have HN1 := Lib.hid (fun w2 => Number_calls w2 nn (by omega))
          unfold numT at He HN1
          generalize numB 9 nn = t1 at *
          obtain ⟨op, st, to⟩ := x
          simp only at hnn h2
          subst hnn h2
          clear h1 hu hox b1 b2
          go_wp2_with (first | (at_builtin; (refine wpList_tx_byte rfl _ _ rfl w wr _ _ _ rfl _ rfl _ Htx.out (by first | rfl | simp) (by omega) (by omega) (by first | omega | (simp only [List.length_append, List.length_cons, List.length_nil]; omega)) ?_); intro a7 n7 c7 w7 hn7 h7; have Htx := Lib.hid h7; obtain ⟨⟨k0, k1, k2, k3, k4⟩, -⟩ := fiveB h7.blk; have hXB := ltH h7.blk; clear h7))
          refine (HN1.out _).mono ?_
          rintro e w8 ⟨rfl, hb8⟩
          have h8 := Htx.out.step hb8
          have Htx := Lib.hid h8
          obtain ⟨⟨k0, k1, k2, k3, k4⟩, -⟩ := fiveB h8.blk
          have hXB := ltH h8.blk
          clear h8 hb8
          go_wp2_with (first | (at_builtin; refine wpList_tx_str rfl _ _ rfl w wr _ _ _ rfl _ rfl Htx.out (by first | omega | (simp only [List.length_append, List.length_cons, List.length_nil]; omega)) ?_; intro a7 n7 c7 w7 hn7 h7; have Htx := Lib.hid h7; obtain ⟨⟨k0, k1, k2, k3, k4⟩, -⟩ := fiveB h7.blk; have hXB := ltH h7.blk; clear h7))
          go_roundw
          case rel => exact ⟨k + 1, _, _, _, by omega, by go_num, rfl, by (obtain ⟨_, _, e⟩ := Htx.out.own.form; simp only [Value.slice.injEq] at e; rw [Htk.out, He.out, e.2.1]; simp only [tn2, List.append_assoc, List.cons_append, List.nil_append]), by rw [Htk.out, He.out]; exact (by have h := Htx.out; simp only [tn2, List.append_assoc, List.cons_append, List.nil_append] at h; exact ⟨h.own, h.bel⟩)⟩
          case measure => simp [intOf]; omega
        by_cases h4 : x.op = 4
        · obtain ⟨g1, g2, g3⟩ := hox.jump (by omega)
          obtain ⟨nn, hnn⟩ : ∃ nn : Nat, x.to = nn := ⟨x.to.toNat, by omega⟩
          have hnn2 : nn ≤ 256 := by omega
          have b1 : ((x.op : Int) == 1) = false := by rw [beq_eq_false_iff_ne]; omega
          have b2 : ((x.op : Int) == 2) = false := by rw [beq_eq_false_iff_ne]; omega
          have b4 : ((x.op : Int) == 4) = true := by rw [beq_iff_eq]; omega
          have hu : u64 x.to = nn := by rw [hnn, u64_small (by omega) (by omega)]; exact Int.toNat_natCast nn
          have He := Lib.hid (show textI x = UInt8.ofNat x.op :: numT nn by unfold textI; rw [if_neg h1, if_pos (by omega), hu])
          have hl1 := (numB_length 9 nn).2
          have HN1 := Lib.hid (fun w2 => Number_calls w2 nn (by omega))
          unfold numT at He HN1
          generalize numB 9 nn = t1 at *
          obtain ⟨op, st, to⟩ := x
          simp only at hnn h4
          subst hnn h4
          clear h1 hu hox b1 b2 b4
          go_wp2_with (first | (at_builtin; (refine wpList_tx_byte rfl _ _ rfl w wr _ _ _ rfl _ rfl _ Htx.out (by first | rfl | simp) (by omega) (by omega) (by first | omega | (simp only [List.length_append, List.length_cons, List.length_nil]; omega)) ?_); intro a7 n7 c7 w7 hn7 h7; have Htx := Lib.hid h7; obtain ⟨⟨k0, k1, k2, k3, k4⟩, -⟩ := fiveB h7.blk; have hXB := ltH h7.blk; clear h7))
          refine (HN1.out _).mono ?_
          rintro e w8 ⟨rfl, hb8⟩
          have h8 := Htx.out.step hb8
          have Htx := Lib.hid h8
          obtain ⟨⟨k0, k1, k2, k3, k4⟩, -⟩ := fiveB h8.blk
          have hXB := ltH h8.blk
          clear h8 hb8
          go_wp2_with (first | (at_builtin; refine wpList_tx_str rfl _ _ rfl w wr _ _ _ rfl _ rfl Htx.out (by first | omega | (simp only [List.length_append, List.length_cons, List.length_nil]; omega)) ?_; intro a7 n7 c7 w7 hn7 h7; have Htx := Lib.hid h7; obtain ⟨⟨k0, k1, k2, k3, k4⟩, -⟩ := fiveB h7.blk; have hXB := ltH h7.blk; clear h7))
          go_roundw
          case rel => exact ⟨k + 1, _, _, _, by omega, by go_num, rfl, by (obtain ⟨_, _, e⟩ := Htx.out.own.form; simp only [Value.slice.injEq] at e; rw [Htk.out, He.out, e.2.1]; simp only [tn4, List.append_assoc, List.cons_append, List.nil_append]), by rw [Htk.out, He.out]; exact (by have h := Htx.out; simp only [tn4, List.append_assoc, List.cons_append, List.nil_append] at h; exact ⟨h.own, h.bel⟩)⟩
          case measure => simp [intOf]; omega
        · have b1 : ((x.op : Int) == 1) = false := by rw [beq_eq_false_iff_ne]; omega
          have b2 : ((x.op : Int) == 2) = false := by rw [beq_eq_false_iff_ne]; omega
          have b4 : ((x.op : Int) == 4) = false := by rw [beq_eq_false_iff_ne]; omega
          have He := Lib.hid (show textI x = [UInt8.ofNat x.op] by unfold textI; rw [if_neg h1, if_neg (by omega)])
          clear h1 h2 h4 hox
          go_wp2_with (first | (at_builtin; (refine wpList_tx_byte rfl _ _ rfl w wr _ _ _ rfl _ rfl _ Htx.out (by first | rfl | simp) (by omega) (by omega) (by first | omega | (simp only [List.length_append, List.length_cons, List.length_nil]; omega)) ?_); intro a7 n7 c7 w7 hn7 h7; have Htx := Lib.hid h7; obtain ⟨⟨k0, k1, k2, k3, k4⟩, -⟩ := fiveB h7.blk; have hXB := ltH h7.blk; clear h7))
          go_roundw
          case rel => exact ⟨k + 1, _, _, _, by omega, by go_num, rfl, by (obtain ⟨_, _, e⟩ := Htx.out.own.form; simp only [Value.slice.injEq] at e; rw [Htk.out, He.out, e.2.1]; simp only [Int.toNat_natCast]), by rw [Htk.out, He.out]; exact (by have h := Htx.out; simp only [Int.toNat_natCast] at h; exact ⟨h.own, h.bel⟩)⟩
          case measure => simp [intOf]; omega
      · have hkn : k = n := by omega
        subst hkn
        have hst' := hst.out
        rw [show p.take k = p by rw [List.take_of_length_le]; rw [Hln.out]; exact Nat.le_refl _] at hst' hm
        have hne : textL p ≠ [] := fun e => by
          have : 1 ≤ (textL p).length := by
            cases p with
            | nil => have := Hln.out; simp at this; omega
            | cons x p =>
              have h1 := text_pos x
              have e2 : textL (x :: p) = textI x ++ textL p := rfl
              rw [e2, List.length_append]; omega
          rw [e] at this
          simp at this
        obtain ⟨gb, cb, ev, hby, -, -⟩ := hst'.1.at hne
        rw [hm] at ev
        simp only [Value.slice.injEq, true_and] at ev
        obtain ⟨rfl, rfl⟩ := ev
        have Hbel := Lib.hid hst'.2
        have hback := conv_string Tryz.prog 111 9 5 Tryz.underlying111 Tryz.underlying9 Tryz.underlying5 wr gb m c5 (textL p) hm hby
        clear hst hst' hby hne
        by_cases hlen : m ≤ 16384
        · have HV2 := Lib.hid (show textV p = .tuple #[.string ⟨(textL p).toArray⟩, .int .i64 0] by rw [HV.out, if_pos (by omega)])
          have hlen2 : ¬ (16384 : Int) < m := by omega
          clear hlen
          go_wp2_with fail
          go_ret2
          exact ⟨by rw [HV2.out]; rfl, Hbel.out⟩
        · have HV2 := Lib.hid (show textV p = .tuple #[.string ⟨#[]⟩, .int .i64 4] by rw [HV.out, if_neg (by omega)])
          have hlen2 : (16384 : Int) < m := by omega
          clear hlen
          go_wp2_with fail
          go_ret2
          exact ⟨by rw [HV2.out]; rfl, Hbel.out⟩

end Go.Proofs.YtgehjklodphogaaGreatDoor.Cd
