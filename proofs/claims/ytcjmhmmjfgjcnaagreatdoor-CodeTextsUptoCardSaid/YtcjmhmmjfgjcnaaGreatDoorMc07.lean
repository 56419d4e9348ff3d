/- Parts: QaY QcA QbG QcB. -/
import Derived.Test.YtcjmhmmjfgjcnaaGreatDoorMc04
import Derived.Test.YtcjmhmmjfgjcnaaGreatDoorMc06

/- bin: Number; code: Text. -/
namespace Go.Proofs.YtcjmhmmjfgjcnaaGreatDoor.Cd
open Go.RowKit Go.Proofs.YtcjmhmmjfgjcnaaGreatDoor.Lx Go.Proofs.YtcjmhmmjfgjcnaaGreatDoor.Pa

set_option maxRecDepth 100000 in
theorem Number_calls (w : World) (n : Nat) (hn : n < 18446744073709551616) :
    Calls Tryz.prog 67 #[.int .u64 n] w fun e w' => e = .returned (.string ⟨(numT n).toArray⟩) ∧ Below w.heap.size w w' := by
  have h0 : BufM w (w.alloc (.cells #[.slice none 0 0] 163)) w.heap.size (.slice none 0 0) [] := ⟨heap_alloc_new _ _, OwnB.nil _ _, allocB _ _, Nat.le_refl _⟩
  have Hn := Lib.hid (number_calls w _ w.heap.size _ n h0 hn)
  have Hne := Lib.hid (show numT n ≠ [] from fun e => by have := (numB_length 9 n).1; unfold numT at e; rw [e] at this; simp at this)
  clear h0
  go_enter Tryz.func67, Tryz.ntmps67
  go_wp2_with fail
  refine Hn.out.mono ?_
  rintro e w1 ⟨rfl, v1, h1⟩
  have Hb := Lib.hid h1.bel
  obtain ⟨k0, -⟩ := oneB h1.blk
  obtain ⟨g, c, rfl, hby, -, -⟩ := h1.own.at Hne.out
  have hback := conv_string Tryz.prog 104 9 5 Tryz.underlying104 Tryz.underlying9 Tryz.underlying5 w1 g (numT n).length c (numT n) rfl hby
  clear h1 hby
  go_wp2_with fail
  go_ret
  exact ⟨rfl, Hb.out⟩

/-! ### Text -/
structure TxM (w wr wx : World) (x : Ins) (v : Value) (l : Txt) : Prop where
  blk : wx.heap[wr.heap.size]? = some (.cells #[.int .u8 x.op, .int .u8 x.st.kind, .string ⟨x.st.text.toArray⟩, .int .i64 x.st.num, .int .i64 x.to] 63)
  own : OwnB wx w.heap.size v l
  bel : Below w.heap.size w wx
theorem TxM.step {w wr wx w' : World} {x : Ins} {v : Value} {l : Txt} (h : TxM w wr wx x v l) (hb : Below wx.heap.size wx w') : TxM w wr w' x v l :=
  ⟨(hb.block _ (ltH h.blk)).trans h.blk, ownSame h.own fun g _ hg => hb.block g hg, stepH h.bel hb⟩
theorem TxM.ne {w wr wx : World} {x : Ins} {v : Value} {l : Txt} (h : TxM w wr wx x v l) : v.ownBlock ≠ some wr.heap.size := by
  rcases h.own.2 with ⟨rfl, _⟩ | ⟨g, cap, cur, e, h1, h2, _⟩
  · exact fun e => nomatch e
  · subst e
    intro e
    obtain rfl : g = wr.heap.size := Option.some.inj e
    rw [h.blk] at h2
    have := Option.some.inj h2
    simp only [Obj.cells.injEq] at this
    exact absurd this.2.1 (by decide)
theorem TxM.more {w wr wx w' : World} {x : Ins} {v v' : Value} {l l' : Txt} {n : Nat} {cs : List Value} (h : TxM w wr wx x v l) (hown : w'.ownsRow w.heap.size 5 1 v' n cs) (hg : wx.grownBy w' v.ownBlock) (hn : n = l'.length) (hc : cs = bytesC l') : TxM w wr w' x v' l' :=
  ⟨(hg.block _ (ltH h.blk) fun e => h.ne e.symm).trans h.blk, by unfold OwnB; rw [← hn, ← hc]; exact hown, h.bel.grown hg h.bel.size fun g e => (World.ownsRow.lt h.own g e).1⟩
section
variable {ops : Array Oper} {rest : List Oper} {o : Oper} {a : Act} {Q : Exit → Act → World → Prop}
theorem wpList_tx_byte {W : World} (hgd : o.guard = none) (sl y : Operand) (ho : o.op = .call { callee := .builtin .append, args := #[sl, y], argTypes := #[104, 104] })
    (w wr : World) (x : Ins) (v : Value) (l : Txt) (hs : a.eval sl = v) (B0 : Nat) (hx : a.eval y = .slice (some ⟨B0, 0, none⟩) 1 1) (z : Int) (H : TxM w wr W x v l) (hB0 : W.heap.size = B0) (hz0 : 0 ≤ z) (hz1 : z < 256) (hl : l.length + 1 ≤ 1000000000)
    (h : ∀ a' n' c' w', Hid (n' = l.length + 1) → TxM w wr w' x (.slice a' n' c') (l ++ [UInt8.ofNat z.toNat]) → wpList Tryz.prog ops Q rest (a.put o.dst (.slice a' n' c')) w') : wpList Tryz.prog ops Q (o :: rest) a (W.alloc (.cells #[.int .u8 z] 5)) := by
  subst hB0
  obtain ⟨i0, hi0, hzz0, hz10, hz2⟩ := info_parts u8Info
  have H1 := H.step (allocB W (.cells #[.int .u8 z] 5))
  refine wpList_append_own_at _ hgd sl y 104 ho w.heap.size 5 i0 _ 1 1 Tryz.underlying104 hi0 hzz0 hz10 hz2 rfl (by decide) v l.length (bytesC l) hs H1.own ⟨W.heap.size, 0, none⟩ 1 1 [.int .u8 z] hx rfl (cell_one_new W (.int .u8 z) 5)
    (by intro u hu; rw [List.mem_singleton] at hu; subst hu; rfl) (by unfold maxLen; omega) (by omega) H1.bel.size ?_
  intro v' w' hown hg _ _
  obtain ⟨a', c', rfl⟩ := ownForm hown
  refine h a' _ c' w' (Lib.hid rfl) (H1.more hown hg (by rw [List.length_append, List.length_singleton]) ?_)
  rw [bytesC_snoc, byte_toNat (by omega), Int.toNat_of_nonneg hz0]
theorem wpList_tx_str {W : World} (hgd : o.guard = none) (sl y : Operand) (ho : o.op = .call { callee := .builtin .append, args := #[sl, y], argTypes := #[104, 9] })
    (w wr : World) (x : Ins) (v : Value) (l : Txt) (hs : a.eval sl = v) (t : Txt) (hx : a.eval y = .string ⟨t.toArray⟩) (H : TxM w wr W x v l) (hl : l.length + t.length ≤ 1000000000)
    (h : ∀ a' n' c' w', Hid (n' = l.length + t.length) → TxM w wr w' x (.slice a' n' c') (l ++ t) → wpList Tryz.prog ops Q rest (a.put o.dst (.slice a' n' c')) w') : wpList Tryz.prog ops Q (o :: rest) a W := by
  obtain ⟨i0, hi0, hzz0, hz10, hz2⟩ := info_parts u8Info
  refine Lib.wpList_append_own_string _ hgd sl y 104 9 ho w.heap.size 5 i0 Tryz.underlying104 Tryz.underlying9 hi0 hzz0 hz10 hz2 v l.length (bytesC l) hs H.own ⟨t.toArray⟩ hx (by rw [size_mk]; unfold maxLen; omega) (by rw [size_mk]; omega) H.bel.size ?_
  intro v' w' hown hg _
  rw [size_mk] at hown
  obtain ⟨a', c', rfl⟩ := ownForm hown
  exact h a' _ c' w' (Lib.hid rfl) (H.more hown hg (by rw [List.length_append]) (by unfold bytesC Lib.strCells; rw [List.map_append]))
end
def textV (p : List Ins) : Value := .tuple (if checkI p then (if (textL p).length ≤ 16384 then #[.string ⟨(textL p).toArray⟩, .int .i64 0] else #[.string ⟨#[]⟩, .int .i64 4]) else #[.string ⟨#[]⟩, .int .i64 11])
theorem textL_take (p : List Ins) (k : Nat) (h : k < p.length) : textL (p.take (k + 1)) = textL (p.take k) ++ textI p[k] := by
  unfold textL
  rw [List.take_succ_eq_append_getElem h, List.flatMap_append]
  simp
theorem textI_len {x : Ins} (h : x.st.text.length ≤ 1048575) : (textI x).length ≤ 1100000 := by
  unfold textI
  have h1 := (numB_length 9 (u64 x.st.num)).2
  have h2 := (numB_length 9 x.st.text.length).2
  have h3 := (numB_length 9 (u64 x.to)).2
  split
  · simp only [List.length_cons, List.length_append, numT]; omega
  · split
    · simp only [List.length_cons, numT]; omega
    · simp
theorem textL_len {p : List Ins} (h : ∀ x ∈ p, x.st.text.length ≤ 1048575) : (textL p).length ≤ p.length * 1100000 := by
  induction p with
  | nil => simp [textL]
  | cons x p ih =>
    have e : textL (x :: p) = textI x ++ textL p := rfl
    have h1 := textI_len (h x (by simp))
    have h2 := ih fun y hy => h y (by simp [hy])
    rw [e, List.length_append, List.length_cons, Nat.add_mul]
    omega

end Go.Proofs.YtcjmhmmjfgjcnaaGreatDoor.Cd

/- codicilref03: Number, Bytes. -/
namespace Go.Proofs.YtcjmhmmjfgjcnaaGreatDoor.Cd
open Go.RowKit Go.Proofs.YtcjmhmmjfgjcnaaGreatDoor.Lx Go.Proofs.YtcjmhmmjfgjcnaaGreatDoor.Pa

structure ByM (w wx : World) (v : Value) (l : Txt) : Prop where
  own : OwnB wx w.heap.size v l
  bel : Below w.heap.size w wx
theorem ByM.nil (w : World) : ByM w w (.slice none 0 0) [] := ⟨OwnB.nil _ _, Below.refl _ _⟩
theorem ByM.step {w wx w' : World} {v : Value} {l : Txt} (h : ByM w wx v l) (hb : Below wx.heap.size wx w') : ByM w w' v l :=
  ⟨ownSame h.own fun g _ hg => hb.block g hg, stepH h.bel hb⟩
section
variable {ops : Array Oper} {rest : List Oper} {o : Oper} {a : Act} {Q : Exit → Act → World → Prop}
theorem wpList_by_byte {W : World} (hgd : o.guard = none) (sl y : Operand) (ho : o.op = .call { callee := .builtin .append, args := #[sl, y], argTypes := #[104, 104] })
    (w : World) (v : Value) (l : Txt) (hs : a.eval sl = v) (B0 : Nat) (hx : a.eval y = .slice (some ⟨B0, 0, none⟩) 1 1) (z : Int) (H : ByM w W v l) (hB0 : W.heap.size = B0) (hz0 : 0 ≤ z) (hz1 : z < 256) (hl : l.length + 1 ≤ 1000000000)
    (h : ∀ a' n' c' w', Hid (n' = l.length + 1) → ByM w w' (.slice a' n' c') (l ++ [UInt8.ofNat z.toNat]) → wpList Tryz.prog ops Q rest (a.put o.dst (.slice a' n' c')) w') : wpList Tryz.prog ops Q (o :: rest) a (W.alloc (.cells #[.int .u8 z] 5)) := by
  subst hB0
  obtain ⟨i0, hi0, hzz0, hz10, hz2⟩ := info_parts u8Info
  have H1 := H.step (allocB W (.cells #[.int .u8 z] 5))
  refine wpList_append_own_at _ hgd sl y 104 ho w.heap.size 5 i0 _ 1 1 Tryz.underlying104 hi0 hzz0 hz10 hz2 rfl (by decide) v l.length (bytesC l) hs H1.own ⟨W.heap.size, 0, none⟩ 1 1 [.int .u8 z] hx rfl (cell_one_new W (.int .u8 z) 5)
    (by intro u hu; rw [List.mem_singleton] at hu; subst hu; rfl) (by unfold maxLen; omega) (by omega) H1.bel.size ?_
  intro v' w' hown hg _ _
  obtain ⟨a', c', rfl⟩ := ownForm hown
  refine h a' _ c' w' (Lib.hid rfl) ⟨?_, H1.bel.grown hg H1.bel.size fun g e => (World.ownsRow.lt H1.own g e).1⟩
  unfold OwnB
  rw [List.length_append, List.length_singleton, bytesC_snoc, byte_toNat (by omega), Int.toNat_of_nonneg hz0]
  exact hown
end

theorem byEnd {w wx : World} {v : Value} {l l' : Txt} (h : ByM w wx v l) (hne : l' ≠ []) (e : l = l') : ∃ g c, v = .slice (some ⟨g, 0, none⟩) l'.length c ∧ (convert 104 9 (.slice (some ⟨g, 0, none⟩) l'.length c)).run Tryz.prog wx = .ok (.string ⟨l'.toArray⟩) wx := by
  subst e
  obtain ⟨g, c, ev, hby, -, -⟩ := h.own.at hne
  exact ⟨g, c, ev, conv_string Tryz.prog 104 9 5 Tryz.underlying104 Tryz.underlying9 Tryz.underlying5 wx g _ c l rfl hby⟩

set_option maxHeartbeats 1000000 in
set_option maxRecDepth 100000 in
theorem NumberR_calls (w : World) (n : Nat) (hn : n < 18446744073709551616) :
    Calls Tryz.prog 68 #[.int .u64 n] w fun e w' => e = .returned (.string ⟨(numT n).toArray⟩) ∧ Below w.heap.size w w' := by
  have Hne := Lib.hid (show numT n ≠ [] from fun e => by have := (numB_length 9 n).1; unfold numT at e; rw [e] at this; simp at this)
  go_enter Tryz.func68, Tryz.ntmps68
  go_wp2_with fail
  go_loopw [0, 3] (fun s0 s3 wr => ∃ (m f : Nat) (l : List UInt8) (v' : Value), s0 = .int .u64 m ∧ s3 = v' ∧ f ≤ 9 ∧ m < 2 * 128 ^ f ∧ m < 18446744073709551616 ∧ l.length + f = 9 ∧ Hid (l ++ numB f m = numT n ∧ ByM w wr v' l)) (fun s0 _ _ => (intOf s0).toNat)
  case atStart => exact ⟨n, 9, [], _, rfl, rfl, Nat.le_refl _, by rw [pow9]; exact hn, hn, rfl, Lib.hid ⟨rfl, ByM.nil w⟩⟩
  case round =>
    obtain ⟨m, f, l, v', rfl, rfl, hf, hm, hm2, hlf, hst⟩ := hrel
    have Hst := Lib.hid hst.out
    obtain ⟨av, cv, rfl⟩ := hst.out.2.own.form
    clear hst
    by_cases hgt : 127 < m
    · obtain ⟨f, rfl⟩ : ∃ f', f = f' + 1 := by
        cases f with
        | zero => simp at hm; omega
        | succ f' => exact ⟨f', rfl⟩
      have Hnum := Lib.hid (show numB (f + 1) m = UInt8.ofNat (m % 128 + 128) :: numB f (m / 128) by rw [numB, if_pos hgt])
      have hgt2 : (128 : Int) ≤ m := by omega
      have Hpow := Lib.hid (show m / 128 < 2 * 128 ^ f by rw [pow_step] at hm; omega)
      clear hm
      go_wp2_with (at_builtin; go_must (refine wpList_by_byte rfl _ _ rfl w (.slice av l.length cv) l rfl _ rfl _ Hst.out.2 rfl (by omega) (by omega) (by omega) ?_); intro a7 n7 c7 w7 hn7 h7; have Hn7 := Lib.hid hn7.out; have H7 := Lib.hid h7; clear hn7 h7)
      go_roundw
      case rel => exact ⟨m / 128, f, l ++ [UInt8.ofNat ((m : Int) % 128 + 128).toNat], _, by go_num, rfl, by omega, Hpow.out, by omega, by rw [List.length_append, List.length_singleton]; omega, Lib.hid ⟨by rw [List.append_assoc, ← Hst.out.1, Hnum.out, show ((m : Int) % 128 + 128).toNat = m % 128 + 128 by omega]; rfl, H7.out⟩⟩
      case measure => simp [intOf]; omega
    · have Hnum := Lib.hid (show numB f m = [UInt8.ofNat m] by
        cases f with
        | zero => rfl
        | succ f' => rw [numB, if_neg hgt])
      have hgt2 : ¬ (128 : Int) ≤ m := by omega
      clear hm
      go_wp2_with (at_builtin; go_must (refine wpList_by_byte rfl _ _ rfl w (.slice av l.length cv) l rfl _ rfl _ Hst.out.2 rfl (by omega) (by omega) (by omega) ?_); intro a7 n7 c7 w7 hn7 h7; have Hn7 := Lib.hid hn7.out; have H7 := Lib.hid h7; have Hb7 := Lib.hid h7.bel; obtain ⟨g, c, ev, hback⟩ := byEnd h7 Hne.out (by rw [Int.toNat_natCast, ← Hst.out.1, Hnum.out]); simp only [Value.slice.injEq] at ev; obtain ⟨rfl, rfl, rfl⟩ := ev; clear hn7 h7)
      go_ret
      exact ⟨rfl, Hb7.out⟩

end Go.Proofs.YtcjmhmmjfgjcnaaGreatDoor.Cd

/- bin: ReadNumber. -/
namespace Go.Proofs.YtcjmhmmjfgjcnaaGreatDoor.Cd
open Go.RowKit Go.Proofs.YtcjmhmmjfgjcnaaGreatDoor.Lx Go.Proofs.YtcjmhmmjfgjcnaaGreatDoor.Pa

def rnV : Option (Nat × Nat) → Value
  | none => .tuple #[.int .u64 0, .int .i64 0, .int .i64 11]
  | some r => .tuple #[.int .u64 r.1, .int .i64 r.2, .int .i64 0]
theorem byte_and (b : Nat) (h : b < 256) : bits .and .u8 (b : Int) 127 = ((b % 128 : Nat) : Int) := by
  rw [show (127 : Int) = ((127 : Nat) : Int) from rfl, u8_and_nat _ _ h (by decide)]
  have h2 : ∀ x, x < 256 → x &&& 127 = x % 128 := by decide +kernel
  rw [h2 b h]

theorem pow7 (k : Nat) : (2 : Int) ^ (7 * k) = ((128 ^ k : Nat) : Int) := by
  rw [Int.pow_mul, Int.natCast_pow]; rfl
theorem pow7n (k : Nat) : 2 ^ (7 * k) = 128 ^ k := by rw [Nat.pow_mul]
theorem pow_le9 {k : Nat} (h : k ≤ 8) : 128 * 128 ^ k ≤ 18446744073709551616 / 2 := by
  have := Nat.pow_le_pow_right (n := 128) (by decide) h
  have e : 128 ^ 8 = 72057594037927936 := by decide
  omega
theorem next_bits {acc b k : Nat} (hb : b < 256) (hk : k ≤ 9) (hacc : acc < 128 ^ k) (h64 : acc < 18446744073709551616) :
    ∃ m : Nat, bits .or .u64 (acc : Int) (IntKind.u64.wrap (IntKind.u64.wrap (bits .and .u8 (b : Int) 127) * 2 ^ (7 * k))) = (m : Int) ∧ m < 18446744073709551616 ∧ ((k ≤ 8 ∨ b % 128 ≤ 1) → m = acc + b % 128 * 128 ^ k) := by
  rw [byte_and b hb, pow7]
  have e1 : IntKind.u64.wrap ((b % 128 : Nat) : Int) = ((b % 128 : Nat) : Int) := by
    show ((b % 128 : Nat) : Int) % 18446744073709551616 = _
    omega
  rw [e1, ← Int.natCast_mul]
  have e2 : IntKind.u64.wrap ((b % 128 * 128 ^ k : Nat) : Int) = ((b % 128 * 128 ^ k % 18446744073709551616 : Nat) : Int) := by
    show ((b % 128 * 128 ^ k : Nat) : Int) % 18446744073709551616 = _
    omega
  rw [e2, u64_or_nat _ _ h64 (Nat.mod_lt _ (by decide))]
  refine ⟨_, rfl, Nat.or_lt_two_pow (n := 64) h64 (Nat.mod_lt _ (by decide)), fun h => ?_⟩
  have hlt : b % 128 * 128 ^ k < 18446744073709551616 := by
    rcases h with h | h
    · have h1 := pow_le9 h
      have h2 : b % 128 * 128 ^ k ≤ 128 * 128 ^ k := Nat.mul_le_mul_right _ (by omega)
      omega
    · have h1 := Nat.pow_le_pow_right (n := 128) (by decide) hk
      have e : 128 ^ 9 = 9223372036854775808 := by decide
      have h2 : b % 128 * 128 ^ k ≤ 1 * 128 ^ k := Nat.mul_le_mul_right _ h
      omega
  rw [Nat.mod_eq_of_lt hlt, ← pow7n, Nat.mul_comm (b % 128)]
  rw [← pow7n] at hacc
  rw [Nat.or_comm, ← Nat.two_pow_add_eq_or_of_lt hacc, Nat.add_comm]

set_option maxHeartbeats 4000000 in
set_option maxRecDepth 100000 in
theorem ReadNumber_calls (w : World) (s : ByteArray) (hs : s.size ≤ 1000000000) :
    Calls Tryz.prog 119 #[.string s] w fun e w' => e = .returned (rnV (readN (L s))) ∧ w = w' := by
  go_enter Tryz.func119, Tryz.ntmps119
  go_wp2_with fail
  go_loop [5, 6] (fun s5 i => ∃ (k acc : Nat), k ≤ s.size ∧ k ≤ 10 ∧ i = .int .i64 k ∧ s5 = .int .u64 acc ∧ (k ≤ 9 → acc < 128 ^ k) ∧ acc < 18446744073709551616 ∧ Hid (k ≤ 9 → readN (L s) = readG k acc ((L s).drop k)) ∧ Hid (k = 10 → readN (L s) = none)) (fun _ i => 10 - (intOf i).toNat)
  case atStart => exact ⟨0, 0, Nat.zero_le _, by omega, rfl, rfl, fun _ => by simp, by omega, (fun _ => by rw [List.drop_zero]; rfl), (fun h => absurd h (by decide))⟩
  case round =>
    obtain ⟨k, acc, hks, hk10, rfl, rfl, hacc, hacc2, hR, hT⟩ := hrel
    by_cases hlt : k < min s.size 10
    · have hk1 : k < s.size := by omega
      have hk2 : k < 10 := by omega
      have hk9 : k ≤ 9 := by omega
      have hkl : k < (L s).length := by rw [L_length]; exact hk1
      have hd : (L s).drop k = s[k] :: (L s).drop (k + 1) := by rw [List.drop_eq_getElem_cons hkl]; rfl
      have hr := hR.out hk9
      rw [hd, readG, if_neg (by omega)] at hr
      have hb := s[k].toNat_lt
      obtain ⟨m, hV, hm, hmv⟩ := next_bits hb hk9 (hacc hk9) hacc2
      have hkm : ((k : Int) < if (10 : Int) < s.size then 10 else s.size) := by split <;> omega
      have hend := Lib.hid (fun (n : Nat) (l : Txt) => show readG 10 n l = none by cases l with | nil => rw [readG] | cons c l => rw [readG, if_pos (by omega)])
      have Hd := Lib.hid hd
      clear hd hR hT
      by_cases hlo : s[k].toNat < 128
      · rw [if_pos hlo] at hr
        have hlo2 : (s[k].toNat : Int) < 128 := by omega
        by_cases hbad : k = 9 ∧ 1 < s[k].toNat ∨ 0 < k ∧ s[k].toNat = 0
        · rw [if_pos hbad] at hr
          have Hr := Lib.hid hr
          clear hr hmv
          by_cases h9 : k = 9
          · have k9 : ((k : Int) == 9) = true := by rw [beq_iff_eq]; omega
            have k00 : 0 < k := by omega
            by_cases hb1 : 1 < s[k].toNat
            · have hb2 : (1 : Int) < s[k].toNat := by omega
              clear hbad h9
              go_wp2_with fail
              all_goals
                go_ret3
                exact ⟨by rw [Hr.out]; rfl, rfl⟩
            · have hb2 : ¬ (1 : Int) < s[k].toNat := by omega
              have hb3 : s[k].toNat = 0 := by omega
              clear hbad h9
              go_wp2_with fail
              all_goals
                go_ret3
                exact ⟨by rw [Hr.out]; rfl, rfl⟩
          · have k9 : ((k : Int) == 9) = false := by rw [beq_eq_false_iff_ne]; omega
            have k0 : (0 : Int) < k := by omega
            have hb3 : s[k].toNat = 0 := by omega
            clear hbad h9
            go_wp2_with fail
            all_goals
              go_ret3
              exact ⟨by rw [Hr.out]; rfl, rfl⟩
        · rw [if_neg hbad] at hr
          have hme : m = acc + s[k].toNat * 128 ^ k := by
            have := hmv (by omega)
            rw [Nat.mod_eq_of_lt hlo] at this
            exact this
          have Hr := Lib.hid (show readN (L s) = some (m, k + 1) by rw [hr, hme])
          clear hr hmv hme
          by_cases h9 : k = 9
          · have k9 : ((k : Int) == 9) = true := by rw [beq_iff_eq]; omega
            have k00 : 0 < k := by omega
            have hk10' : k + 1 = 10 := by omega
            have Hk10 := Lib.hid hk10'
            clear hk10'
            have hb2 : ¬ (1 : Int) < s[k].toNat := by omega
            have hb3 : ((s[k].toNat : Int) == 0) = false := by rw [beq_eq_false_iff_ne]; omega
            clear hbad h9
            go_wp2_with fail
            all_goals
              go_ret3
              first | exact ⟨by rw [Hr.out]; rfl, rfl⟩ | exact ⟨by rw [Hr.out, Hk10.out]; rfl, rfl⟩
          · have k9 : ((k : Int) == 9) = false := by rw [beq_eq_false_iff_ne]; omega
            by_cases h0 : 0 < k
            · have k0 : (0 : Int) < k := by omega
              have hb3 : ((s[k].toNat : Int) == 0) = false := by rw [beq_eq_false_iff_ne]; omega
              clear hbad h9 h0
              go_wp2_with fail
              all_goals
                go_ret3
                exact ⟨by rw [Hr.out]; rfl, rfl⟩
            · have k0 : ¬ (0 : Int) < k := by omega
              clear hbad h9 h0
              go_wp2_with fail
              all_goals
                go_ret3
                exact ⟨by rw [Hr.out]; rfl, rfl⟩
      · rw [if_neg hlo] at hr
        have hlo2 : ¬ (s[k].toNat : Int) < 128 := by omega
        have Hnx := Lib.hid (show (k + 1 ≤ 9 → m < 128 ^ (k + 1)) ∧ (k + 1 ≤ 9 → readN (L s) = readG (k + 1) m ((L s).drop (k + 1))) ∧ (k + 1 = 10 → readN (L s) = none) from by
          have hme : k ≤ 8 → m = acc + (s[k].toNat - 128) * 128 ^ k := fun h => by
            rw [hmv (.inl h), show s[k].toNat % 128 = s[k].toNat - 128 by omega]
          refine ⟨fun h => ?_, fun h => ?_, fun h => ?_⟩
          · rw [hme (by omega), pow_step]
            have h1 := hacc hk9
            have h2 : (s[k].toNat - 128) * 128 ^ k ≤ 127 * 128 ^ k := Nat.mul_le_mul_right _ (by omega)
            omega
          · rw [hr, hme (by omega)]
          · rw [hr, show k + 1 = 10 by omega]
            exact hend.out _ _)
        clear hr hmv hlo
        go_wp2_with fail
        all_goals
          go_round
          case rel => exact ⟨k + 1, m, by omega, by omega, by go_num, rfl, Hnx.out.1, hm, Hnx.out.2.1, Hnx.out.2.2⟩
          case measure => simp [intOf]; omega
    · have Hr := Lib.hid (show readN (L s) = none by
        by_cases h10 : k = 10
        · exact hT.out h10
        · rw [hR.out (by omega), List.drop_of_length_le (by rw [L_length]; omega), readG])
      have hkm : ¬ ((k : Int) < if (10 : Int) < s.size then 10 else s.size) := by split <;> omega
      clear hR hT
      go_wp2_with fail
      all_goals
        go_ret3
        exact ⟨by rw [Hr.out]; rfl, rfl⟩

end Go.Proofs.YtcjmhmmjfgjcnaaGreatDoor.Cd

/- codicilref03: Bytes, ReadNumber. -/
namespace Go.Proofs.YtcjmhmmjfgjcnaaGreatDoor.Cd
open Go.RowKit Go.Proofs.YtcjmhmmjfgjcnaaGreatDoor.Lx Go.Proofs.YtcjmhmmjfgjcnaaGreatDoor.Pa

set_option maxRecDepth 100000 in
theorem BytesR_calls (w : World) (t : Txt) (ht : t.length ≤ 1000000000) :
    Calls Tryz.prog 69 #[.string ⟨t.toArray⟩] w fun e w' => e = .returned (.string ⟨(numT t.length ++ t).toArray⟩) ∧ Below w.heap.size w w' := by
  have Hn := Lib.hid (NumberR_calls w t.length (by omega))
  have hno : ¬ 9223372036854775807 < (numT t.length).length + t.length := by
    have := (numB_length 9 t.length).2
    unfold numT
    omega
  go_enter Tryz.func69, Tryz.ntmps69
  go_wp2_with fail
  refine Hn.out.mono ?_
  rintro e w1 ⟨rfl, hb1⟩
  have Hb1 := Lib.hid hb1
  clear hb1
  go_wp2_with fail
  go_ret
  exact ⟨by rw [show ((⟨(numT t.length).toArray⟩ : ByteArray) ++ (⟨t.toArray⟩ : ByteArray)) = ⟨(numT t.length ++ t).toArray⟩ by apply ByteArray.ext; simp]; rfl, Hb1.out⟩

theorem num_is {l : Txt} {v k : Nat} (h : readN l = some (v, k)) : numT v = l.take k := by
  obtain ⟨n, h1, -, -, h4, r, rfl⟩ := read_back l 0 0 v k (by omega) h
  rw [Nat.pow_zero, Nat.mul_one, Nat.zero_add] at h1
  subst h1
  rw [Nat.zero_add] at h4
  rw [← h4, List.take_left']
  · rfl
  · rfl
theorem num_isnt {l : Txt} {v k : Nat} (h : readN l = none) (hv : v < 18446744073709551616) : numT v ≠ l.take k := by
  intro e
  have h1 := readN_num hv (l.drop k)
  rw [e, List.take_append_drop, h] at h1
  cases h1

theorem take_toList (s : ByteArray) (n : Nat) : (s.extract 0 n).toList = (L s).take n := by
  rw [toList_L, L_take]

set_option maxHeartbeats 4000000 in
set_option maxRecDepth 100000 in
theorem ReadNumberR_calls (w : World) (s : ByteArray) (hs : s.size ≤ 1000000000) :
    Calls Tryz.prog 120 #[.string s] w fun e w' => e = .returned (rnV (readN (L s))) ∧ Below w.heap.size w w' := by
  go_enter Tryz.func120, Tryz.ntmps120
  go_wp2_with fail
  go_loop [5, 6, 7] (fun s5 s6 i => ∃ (k acc pl : Nat), k ≤ s.size ∧ k ≤ 9 ∧ i = .int .i64 k ∧ s5 = .int .u64 acc ∧ s6 = .int .u64 pl ∧ pl = 128 ^ k ∧ acc < 128 ^ k ∧ Hid (readN (L s) = readG k acc ((L s).drop k))) (fun _ _ i => 10 - (intOf i).toNat)
  case atStart => exact ⟨0, 0, 1, Nat.zero_le _, by omega, rfl, rfl, rfl, by simp, by simp, Lib.hid (by rw [List.drop_zero]; rfl)⟩
  case round =>
    obtain ⟨k, acc, pl, hks, hk9, rfl, rfl, rfl, hpl, hacc, hR⟩ := hrel
    by_cases hlt : k < s.size
    · have hkl : k < (L s).length := by rw [L_length]; exact hlt
      have hd : (L s).drop k = s[k] :: (L s).drop (k + 1) := by rw [List.drop_eq_getElem_cons hkl]; rfl
      have hr := hR.out
      rw [hd, readG, if_neg (by omega)] at hr
      have hb := s[k].toNat_lt
      have hpow : pl ≤ 9223372036854775808 := by
        have h1 := Nat.pow_le_pow_right (n := 128) (by decide) hk9
        have e : 128 ^ 9 = 9223372036854775808 := by decide
        omega
      have hpow8 : k ≤ 8 → pl ≤ 72057594037927936 := fun h => by
        have h1 := Nat.pow_le_pow_right (n := 128) (by decide) h
        have e : 128 ^ 8 = 72057594037927936 := by decide
        omega
      clear hR hd
      by_cases h9 : k = 9 ∧ 1 < s[k].toNat
      · have Hr := Lib.hid (show readN (L s) = none by
          rw [hr]
          split
          · rw [if_pos (Or.inl h9)]
          · cases (L s).drop (k + 1) with
            | nil => rw [readG]
            | cons c l => rw [readG, if_pos (by omega)])
        obtain ⟨rfl, h1⟩ := h9
        have hb2 : (1 : Int) < s[9].toNat := by omega
        clear hr hpow hpow8 hpl h1
        go_wp2_with fail
        go_ret3
        exact ⟨by rw [Hr.out]; rfl, Below.refl _ _⟩
      · have hm1 : pl * (s[k].toNat % 128) + acc < 18446744073709551616 := by
          by_cases h8 : k ≤ 8
          · have h1 := hpow8 h8
            have h2 : pl * (s[k].toNat % 128) ≤ pl * 127 := Nat.mul_le_mul_left _ (by omega)
            omega
          · have h2 : pl * (s[k].toNat % 128) ≤ pl * 1 := Nat.mul_le_mul_left _ (by omega)
            omega
        obtain ⟨m, hV, hm64, hme⟩ : ∃ m : Nat, IntKind.u64.wrap ((acc : Int) + IntKind.u64.wrap ((pl : Int) * ((s[k].toNat : Int) % 128))) = (m : Int) ∧ m < 18446744073709551616 ∧ m = acc + (s[k].toNat % 128) * 128 ^ k := by
          refine ⟨acc + (s[k].toNat % 128) * 128 ^ k, ?_, by rw [← hpl, Nat.mul_comm]; omega, rfl⟩
          rw [show ((s[k].toNat : Int) % 128) = ((s[k].toNat % 128 : Nat) : Int) by omega, ← Int.natCast_mul]
          rw [← hpl, Nat.mul_comm (s[k].toNat % 128)]
          generalize pl * (s[k].toNat % 128) = q at *
          show ((acc : Int) + (q : Int) % 18446744073709551616) % 18446744073709551616 = _
          omega
        obtain ⟨pl', hP, hpl'⟩ : ∃ pl' : Nat, IntKind.u64.wrap ((pl : Int) * 128) = (pl' : Int) ∧ (k ≤ 8 → pl' = 128 ^ (k + 1)) := by
          refine ⟨pl * 128 % 18446744073709551616, ?_, fun h => ?_⟩
          · show ((pl : Int) * 128) % 18446744073709551616 = _
            omega
          · have := hpow8 h
            rw [pow_step, ← hpl]
            omega
        have Hn := Lib.hid (fun W => NumberR_calls W m hm64)
        have Hme := Lib.hid hme
        clear hme
        have hks2 : (k : Int) + 1 ≤ s.size := by omega
        have hw1 : IntKind.i64.wrap ((k : Int) + 1) = (k : Int) + 1 := by rw [IntKind.wrap_i64]; omega
        have hk0 : (0 : Int) ≤ (k : Int) + 1 := by omega
        by_cases hlo : s[k].toNat < 128
        · rw [if_pos hlo] at hr
          have hlo2 : (s[k].toNat : Int) < 128 := by omega
          by_cases h99 : k = 9
          · skip
            have k9 : ((k : Int) == 9) = true := by rw [beq_iff_eq]; omega
            have hb2 : ¬ (1 : Int) < s[k].toNat := by omega
            have hk10 : (k : Int) < 10 := by omega
            by_cases hbad : k = 9 ∧ 1 < s[k].toNat ∨ 0 < k ∧ s[k].toNat = 0
            · rw [if_pos hbad] at hr
              have Hr := Lib.hid hr
              have hcmp : (numT m == (s.extract 0 (k + 1)).toList) = false := by
                rw [take_toList, beq_eq_false_iff_ne]
                exact num_isnt hr hm64
              clear hr hpow hpow8 hpl h9 h99 hpl' hbad
              go_wp2_with fail
              go_region_with (first | (go_at_call 68; refine (Hn.out _).mono ?_; rintro e w6 ⟨rfl, hb6⟩; have Hb6' := Lib.hid hb6; clear hb6))
              have Hb6 := Lib.hid (stepH (Below.drew (Below.refl w.heap.size w)) Hb6'.out)
              go_wp2_with fail
              go_ret3
              exact ⟨by rw [Hr.out]; rfl, Hb6.out⟩
            · rw [if_neg hbad, show acc + s[k].toNat * 128 ^ k = m by rw [Hme.out, Nat.mod_eq_of_lt hlo]] at hr
              have Hr := Lib.hid hr
              have hcmp : (numT m == (s.extract 0 (k + 1)).toList) = true := by
                rw [take_toList, beq_iff_eq]
                exact num_is hr
              clear hr hpow hpow8 hpl h9 h99 hpl' hbad
              go_wp2_with fail
              go_region_with (first | (go_at_call 68; refine (Hn.out _).mono ?_; rintro e w6 ⟨rfl, hb6⟩; have Hb6' := Lib.hid hb6; clear hb6))
              have Hb6 := Lib.hid (stepH (Below.drew (Below.refl w.heap.size w)) Hb6'.out)
              go_wp2_with fail
              go_ret3
              exact ⟨by rw [Hr.out]; rfl, Hb6.out⟩
          · skip
            have k9 : ((k : Int) == 9) = false := by rw [beq_eq_false_iff_ne]; omega
            have hk10 : (k : Int) < 10 := by omega
            by_cases hbad : k = 9 ∧ 1 < s[k].toNat ∨ 0 < k ∧ s[k].toNat = 0
            · rw [if_pos hbad] at hr
              have Hr := Lib.hid hr
              have hcmp : (numT m == (s.extract 0 (k + 1)).toList) = false := by
                rw [take_toList, beq_eq_false_iff_ne]
                exact num_isnt hr hm64
              clear hr hpow hpow8 hpl h9 h99 hpl' hbad
              go_wp2_with fail
              go_region_with (first | (go_at_call 68; refine (Hn.out _).mono ?_; rintro e w6 ⟨rfl, hb6⟩; have Hb6' := Lib.hid hb6; clear hb6))
              have Hb6 := Lib.hid (stepH (Below.drew (Below.refl w.heap.size w)) Hb6'.out)
              go_wp2_with fail
              go_ret3
              exact ⟨by rw [Hr.out]; rfl, Hb6.out⟩
            · rw [if_neg hbad, show acc + s[k].toNat * 128 ^ k = m by rw [Hme.out, Nat.mod_eq_of_lt hlo]] at hr
              have Hr := Lib.hid hr
              have hcmp : (numT m == (s.extract 0 (k + 1)).toList) = true := by
                rw [take_toList, beq_iff_eq]
                exact num_is hr
              clear hr hpow hpow8 hpl h9 h99 hpl' hbad
              go_wp2_with fail
              go_region_with (first | (go_at_call 68; refine (Hn.out _).mono ?_; rintro e w6 ⟨rfl, hb6⟩; have Hb6' := Lib.hid hb6; clear hb6))
              have Hb6 := Lib.hid (stepH (Below.drew (Below.refl w.heap.size w)) Hb6'.out)
              go_wp2_with fail
              go_ret3
              exact ⟨by rw [Hr.out]; rfl, Hb6.out⟩
        · rw [if_neg hlo] at hr
          have hlo2 : ¬ (s[k].toNat : Int) < 128 := by omega
          have hk8 : k ≤ 8 := by omega
          have k9 : ((k : Int) == 9) = false := by rw [beq_eq_false_iff_ne]; omega
          have hk10 : (k : Int) < 10 := by omega
          have Hnx := Lib.hid (show m < 128 ^ (k + 1) ∧ readN (L s) = readG (k + 1) m ((L s).drop (k + 1)) ∧ pl' = 128 ^ (k + 1) from by
            have hme2 : m = acc + (s[k].toNat - 128) * 128 ^ k := by
              rw [Hme.out, show s[k].toNat % 128 = s[k].toNat - 128 by omega]
            refine ⟨?_, by rw [hr, hme2], hpl' hk8⟩
            rw [hme2, pow_step]
            have h2 : (s[k].toNat - 128) * 128 ^ k ≤ 127 * 128 ^ k := Nat.mul_le_mul_right _ (by omega)
            omega)
          clear hr hpow hpow8 hpl h9 hpl' hlo
          go_wp2_with fail
          all_goals
            go_round
            case rel => exact ⟨k + 1, m, pl', by omega, by omega, by go_num, rfl, rfl, Hnx.out.2.2, Hnx.out.1, Lib.hid Hnx.out.2.1⟩
            case measure => simp [intOf]; omega
    · have Hr := Lib.hid (show readN (L s) = none by rw [hR.out, List.drop_of_length_le (by rw [L_length]; omega), readG])
      clear hR
      go_wp2_with fail
      all_goals
        go_ret3
        exact ⟨by rw [Hr.out]; rfl, Below.refl _ _⟩

end Go.Proofs.YtcjmhmmjfgjcnaaGreatDoor.Cd
