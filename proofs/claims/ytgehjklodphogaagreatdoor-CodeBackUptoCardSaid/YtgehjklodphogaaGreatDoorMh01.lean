/- Parts: QbG QbH QbB. -/
import Derived.Test.YtgehjklodphogaaGreatDoorMg47

/- bin: ReadNumber. -/
namespace Go.Proofs.YtgehjklodphogaaGreatDoor.Cd
open Go.RowKit Go.Proofs.YtgehjklodphogaaGreatDoor.Lx Go.Proofs.YtgehjklodphogaaGreatDoor.Pa

/-- what ReadNumber hands back -/
def rnV : Option (Nat × Nat) → Value
  | none => .tuple #[.int .u64 0, .int .i64 0, .int .i64 11]
  | some r => .tuple #[.int .u64 r.1, .int .i64 r.2, .int .i64 0]
theorem byte_and (b : Nat) (h : b < 256) : bits .and .u8 (b : Int) 127 = ((b % 128 : Nat) : Int) := by
  rw [show (127 : Int) = ((127 : Nat) : Int) from rfl, u8_and_nat _ _ h (by decide)]
  have h2 : ∀ x, x < 256 → x &&& 127 = x % 128 := by decide +kernel
  rw [h2 b h]

theorem pow7 (k : Nat) : (2 : Int) ^ (7 * k) = ((128 ^ k : Nat) : Int) := by
  rw [Int.pow_mul, Int.natCast_pow]; rfl
theorem pow7n (k : Nat) : 2 ^ (7 * k) = 128 ^ k := by rw [Nat.pow_mul]
theorem pow_le9 {k : Nat} (h : k ≤ 8) : 128 * 128 ^ k ≤ 18446744073709551616 / 2 := by
  have := Nat.pow_le_pow_right (n := 128) (by decide) h
  have e : 128 ^ 8 = 72057594037927936 := by decide
  omega
/-- a number's next bits -/
theorem next_bits {acc b k : Nat} (hb : b < 256) (hk : k ≤ 9) (hacc : acc < 128 ^ k) (h64 : acc < 18446744073709551616) :
    ∃ m : Nat, bits .or .u64 (acc : Int) (IntKind.u64.wrap (IntKind.u64.wrap (bits .and .u8 (b : Int) 127) * 2 ^ (7 * k))) = (m : Int) ∧ m < 18446744073709551616 ∧ ((k ≤ 8 ∨ b % 128 ≤ 1) → m = acc + b % 128 * 128 ^ k) := by
  rw [byte_and b hb, pow7]
  have e1 : IntKind.u64.wrap ((b % 128 : Nat) : Int) = ((b % 128 : Nat) : Int) := by
    show ((b % 128 : Nat) : Int) % 18446744073709551616 = _
    omega
  rw [e1, ← Int.natCast_mul]
  have e2 : IntKind.u64.wrap ((b % 128 * 128 ^ k : Nat) : Int) = ((b % 128 * 128 ^ k % 18446744073709551616 : Nat) : Int) := by
    show ((b % 128 * 128 ^ k : Nat) : Int) % 18446744073709551616 = _
    omega
  rw [e2, u64_or_nat _ _ h64 (Nat.mod_lt _ (by decide))]
  refine ⟨_, rfl, Nat.or_lt_two_pow (n := 64) h64 (Nat.mod_lt _ (by decide)), fun h => ?_⟩
  have hlt : b % 128 * 128 ^ k < 18446744073709551616 := by
    rcases h with h | h
    · have h1 := pow_le9 h
      have h2 : b % 128 * 128 ^ k ≤ 128 * 128 ^ k := Nat.mul_le_mul_right _ (by omega)
      omega
    · have h1 := Nat.pow_le_pow_right (n := 128) (by decide) hk
      have e : 128 ^ 9 = 9223372036854775808 := by decide
      have h2 : b % 128 * 128 ^ k ≤ 1 * 128 ^ k := Nat.mul_le_mul_right _ h
      omega
  rw [Nat.mod_eq_of_lt hlt, ← pow7n, Nat.mul_comm (b % 128)]
  rw [← pow7n] at hacc
  rw [Nat.or_comm, ← Nat.two_pow_add_eq_or_of_lt hacc, Nat.add_comm]

set_option maxHeartbeats 4000000 in
set_option maxRecDepth 100000 in
theorem ReadNumber_calls (w : World) (s : ByteArray) (hs : s.size ≤ 1000000000) :
    Calls Tryz.prog 124 #[.string s] w fun e w' => e = .returned (rnV (readN (L s))) ∧ w = w' := by
  go_enter Tryz.func124, Tryz.ntmps124
  go_wp2_with fail
  go_loop [5, 6] (fun s5 i => ∃ (k acc : Nat), k ≤ s.size ∧ k ≤ 10 ∧ i = .int .i64 k ∧ s5 = .int .u64 acc ∧ (k ≤ 9 → acc < 128 ^ k) ∧ acc < 18446744073709551616 ∧ Hid (k ≤ 9 → readN (L s) = readG k acc ((L s).drop k)) ∧ Hid (k = 10 → readN (L s) = none)) (fun _ i => 10 - (intOf i).toNat)
  case atStart => exact ⟨0, 0, Nat.zero_le _, by omega, rfl, rfl, fun _ => by simp, by omega, (fun _ => by rw [List.drop_zero]; rfl), (fun h => absurd h (by decide))⟩
  case round =>
    obtain ⟨k, acc, hks, hk10, rfl, rfl, hacc, hacc2, hR, hT⟩ := hrel
    by_cases hlt : k < min s.size 10
    · have hk1 : k < s.size := by omega
      have hk2 : k < 10 := by omega
      have hk9 : k ≤ 9 := by omega
      have hkl : k < (L s).length := by rw [L_length]; exact hk1
      have hd : (L s).drop k = s[k] :: (L s).drop (k + 1) := by rw [List.drop_eq_getElem_cons hkl]; rfl
      have hr := hR.out hk9
      rw [hd, readG, if_neg (by omega)] at hr
      have hb := s[k].toNat_lt
      obtain ⟨m, hV, hm, hmv⟩ := next_bits hb hk9 (hacc hk9) hacc2
      have hkm : ((k : Int) < if (10 : Int) < s.size then 10 else s.size) := by split <;> omega
      have hend := Lib.hid (fun (n : Nat) (l : Txt) => show readG 10 n l = none by cases l with | nil => rw [readG] | cons c l => rw [readG, if_pos (by omega)])
      have Hd := Lib.hid hd
      clear hd hR hT
      by_cases hlo : s[k].toNat < 128
      · rw [if_pos hlo] at hr
        have hlo2 : (s[k].toNat : Int) < 128 := by omega
        by_cases hbad : k = 9 ∧ 1 < s[k].toNat ∨ 0 < k ∧ s[k].toNat = 0
        · rw [if_pos hbad] at hr
          have Hr := Lib.hid hr
          clear hr hmv
          by_cases h9 : k = 9
          · have k9 : ((k : Int) == 9) = true := by rw [beq_iff_eq]; omega
            have k00 : 0 < k := by omega
            by_cases hb1 : 1 < s[k].toNat
            · have hb2 : (1 : Int) < s[k].toNat := by omega
              clear hbad h9
              go_wp2_with fail
              all_goals
                go_ret3
                exact ⟨by rw [Hr.out]; rfl, rfl⟩
            · have hb2 : ¬ (1 : Int) < s[k].toNat := by omega
              have hb3 : s[k].toNat = 0 := by omega
              clear hbad h9
              go_wp2_with fail
              all_goals
                go_ret3
                exact ⟨by rw [Hr.out]; rfl, rfl⟩
          · have k9 : ((k : Int) == 9) = false := by rw [beq_eq_false_iff_ne]; omega
            have k0 : (0 : Int) < k := by omega
            have hb3 : s[k].toNat = 0 := by omega
            clear hbad h9
            go_wp2_with fail
            all_goals
              go_ret3
              exact ⟨by rw [Hr.out]; rfl, rfl⟩
        · rw [if_neg hbad] at hr
          have hme : m = acc + s[k].toNat * 128 ^ k := by
            have := hmv (by omega)
            rw [Nat.mod_eq_of_lt hlo] at this
            exact this
          have Hr := Lib.hid (show readN (L s) = some (m, k + 1) by rw [hr, hme])
          clear hr hmv hme
          by_cases h9 : k = 9
          · have k9 : ((k : Int) == 9) = true := by rw [beq_iff_eq]; omega
            have k00 : 0 < k := by omega
            have hk10' : k + 1 = 10 := by omega
            have Hk10 := Lib.hid hk10'
            clear hk10'
            have hb2 : ¬ (1 : Int) < s[k].toNat := by omega
            have hb3 : ((s[k].toNat : Int) == 0) = false := by rw [beq_eq_false_iff_ne]; omega
            clear hbad h9
            go_wp2_with fail
            all_goals
              go_ret3
              first | exact ⟨by rw [Hr.out]; rfl, rfl⟩ | exact ⟨by rw [Hr.out, Hk10.out]; rfl, rfl⟩
          · have k9 : ((k : Int) == 9) = false := by rw [beq_eq_false_iff_ne]; omega
            by_cases h0 : 0 < k
            · have k0 : (0 : Int) < k := by omega
              have hb3 : ((s[k].toNat : Int) == 0) = false := by rw [beq_eq_false_iff_ne]; omega
              clear hbad h9 h0
              go_wp2_with fail
              all_goals
                go_ret3
                exact ⟨by rw [Hr.out]; rfl, rfl⟩
            · have k0 : ¬ (0 : Int) < k := by omega
              clear hbad h9 h0
              go_wp2_with fail
              all_goals
                go_ret3
                exact ⟨by rw [Hr.out]; rfl, rfl⟩
      · rw [if_neg hlo] at hr
        have hlo2 : ¬ (s[k].toNat : Int) < 128 := by omega
        have Hnx := Lib.hid (show (k + 1 ≤ 9 → m < 128 ^ (k + 1)) ∧ (k + 1 ≤ 9 → readN (L s) = readG (k + 1) m ((L s).drop (k + 1))) ∧ (k + 1 = 10 → readN (L s) = none) from by
          have hme : k ≤ 8 → m = acc + (s[k].toNat - 128) * 128 ^ k := fun h => by
            rw [hmv (.inl h), show s[k].toNat % 128 = s[k].toNat - 128 by omega]
          refine ⟨fun h => ?_, fun h => ?_, fun h => ?_⟩
          · rw [hme (by omega), pow_step]
            have h1 := hacc hk9
            have h2 : (s[k].toNat - 128) * 128 ^ k ≤ 127 * 128 ^ k := Nat.mul_le_mul_right _ (by omega)
            omega
          · rw [hr, hme (by omega)]
          · rw [hr, show k + 1 = 10 by omega]
            exact hend.out _ _)
        clear hr hmv hlo
        go_wp2_with fail
        all_goals
          go_round
          case rel => exact ⟨k + 1, m, by omega, by omega, by go_num, rfl, Hnx.out.1, hm, Hnx.out.2.1, Hnx.out.2.2⟩
          case measure => simp [intOf]; omega
    · have Hr := Lib.hid (show readN (L s) = none by
        by_cases h10 : k = 10
        · exact hT.out h10
        · rw [hR.out (by omega), List.drop_of_length_le (by rw [L_length]; omega), readG])
      have hkm : ¬ ((k : Int) < if (10 : Int) < s.size then 10 else s.size) := by split <;> omega
      clear hR hT
      go_wp2_with fail
      all_goals
        go_ret3
        exact ⟨by rw [Hr.out]; rfl, rfl⟩

end Go.Proofs.YtgehjklodphogaaGreatDoor.Cd

/- code: the cursor over bytes. -/
namespace Go.Proofs.YtgehjklodphogaaGreatDoor.Cd
open Go.RowKit Go.Proofs.YtgehjklodphogaaGreatDoor.Lx Go.Proofs.YtgehjklodphogaaGreatDoor.Pa

/-- nothing but a block has turned -/
structure Only (B : Nat) (w w' : World) : Prop where
  size : w'.heap.size = w.heap.size
  block : ∀ b, b ≠ B → w'.heap[b]? = w.heap[b]?
theorem Only.refl (B : Nat) (w : World) : Only B w w := ⟨rfl, fun _ _ => rfl⟩
theorem Only.trans {B : Nat} {w1 w2 w3 : World} (h : Only B w1 w2) (h2 : Only B w2 w3) : Only B w1 w3 := ⟨h2.size.trans h.size, fun b hb => (h2.block b hb).trans (h.block b hb)⟩
theorem Only.set (B i : Nat) (w : World) (v : Value) : Only B w (w.setCell ⟨B, i, none⟩ v) := ⟨by simp, fun _ hb => Below.heap_setCell _ _ _ _ hb⟩
/-- the cursor in memory -/
structure CurM (w0 w : World) (B : Nat) (c : Cu) : Prop where
  blk : w.heap[B]? = some (.cells #[.string ⟨c.left.toArray⟩, .bool c.bad] 116)
  bel : Below w0.heap.size w0 w
  low : w0.heap.size ≤ B
theorem mk_take (l : Txt) (n : Nat) : (⟨l.toArray⟩ : ByteArray).extract 0 n = ⟨(l.take n).toArray⟩ := L_inj (by rw [L_take, L_mk, L_mk])
theorem mk_drop (l : Txt) (n : Nat) : (⟨l.toArray⟩ : ByteArray).extract n (⟨l.toArray⟩ : ByteArray).size = ⟨(l.drop n).toArray⟩ := L_inj (by rw [L_drop, L_mk, L_mk])
theorem mk_drop' (l : Txt) (n : Nat) : (⟨l.toArray⟩ : ByteArray).extract n l.length = ⟨(l.drop n).toArray⟩ := by have := mk_drop l n; rw [size_mk] at this; exact this

set_option maxHeartbeats 1000000 in
set_option maxRecDepth 100000 in
theorem take_calls (w0 w : World) (B : Nat) (c : Cu) (n : Nat) (H : CurM w0 w B c) (hl : c.left.length ≤ 1000000000) (hn : n < 18446744073709551616) :
    Calls Tryz.prog 77 #[.pointer (some ⟨B, 0, none⟩), .int .u64 n] w fun e w' => e = .returned (.string ⟨(c.take n).1.toArray⟩) ∧ CurM w0 w' B (c.take n).2 ∧ Only B w w' := by
  have HM := Lib.hid H
  obtain ⟨⟨c0, c1⟩, f0, f1⟩ := twoB H.blk
  have hB := ltH H.blk
  have hset : ∀ (i : Nat) (v : Value) (c' : Cu), (#[.string ⟨c.left.toArray⟩, .bool c.bad] : Array Value).setIfInBounds i v = #[.string ⟨c'.left.toArray⟩, .bool c'.bad] → CurM w0 (w.setCell ⟨B, i, none⟩ v) B c' := fun i v c' e => by
    refine ⟨?_, H.bel.setCell H.low _, H.low⟩
    have hb := H.blk
    simp only [World.setCell, Array.getElem?_modify, if_true, hb, Option.map_some, ← e]
    rfl
  have Hset := Lib.hid hset
  obtain ⟨l, bad⟩ := c
  simp only at hl c0 c1 f0 f1
  clear H hset
  go_enter Tryz.func77, Tryz.ntmps77
  cases bad with
  | true =>
    have Ht := Lib.hid (take_bad l n)
    go_wp2_with fail
    go_ret
    rw [Ht.out]
    exact ⟨rfl, Hset.out 1 _ ⟨l, true⟩ rfl, Only.set _ _ _ _⟩
  | false =>
    by_cases hgt : l.length < n
    · have Ht := Lib.hid (show (⟨l, false⟩ : Cu).take n = ([], ⟨l, true⟩) by unfold Cu.take; rw [if_pos (.inr hgt)])
      have hgt2 : (l.length : Int) < n := by omega
      go_wp2_with fail
      go_ret
      rw [Ht.out]
      exact ⟨rfl, Hset.out 1 _ ⟨l, true⟩ rfl, Only.set _ _ _ _⟩
    · have Ht := Lib.hid (show (⟨l, false⟩ : Cu).take n = (l.take n, ⟨l.drop n, false⟩) by unfold Cu.take; rw [if_neg (by simp; omega)])
      have hgt2 : ¬ (l.length : Int) < n := by omega
      have hle : n ≤ l.length := by omega
      have hle2 : (n : Int) ≤ l.length := by omega
      have hn0 : (0 : Int) ≤ n := by omega
      have Hd := Lib.hid (mk_drop' l n)
      go_wp2_with fail
      go_ret
      rw [Ht.out]
      exact ⟨ret_str (mk_take l n), by rw [mk_drop' l n]; exact Hset.out 0 _ ⟨l.drop n, false⟩ rfl, Only.set _ _ _ _⟩

set_option maxHeartbeats 1000000 in
set_option maxRecDepth 100000 in
theorem byte_calls (w0 w : World) (B : Nat) (c : Cu) (H : CurM w0 w B c) (hl : c.left.length ≤ 1000000000) :
    Calls Tryz.prog 75 #[.pointer (some ⟨B, 0, none⟩)] w fun e w' => e = .returned (.int .u8 c.byte.1.toNat) ∧ CurM w0 w' B c.byte.2 ∧ Only B w w' := by
  have Hk := Lib.hid (take_calls w0 w B c 1 H hl (by omega))
  have Hb := Lib.hid (show c.byte = ((c.take 1).1.headD 0, (c.take 1).2) from rfl)
  have h1 : (c.take 1).1 = [] ∨ ∃ b, (c.take 1).1 = [b] := by
    unfold Cu.take
    split
    · exact .inl rfl
    · rename_i hn
      simp only [not_or] at hn
      cases hc : c.left with
      | nil => rw [hc] at hn; simp at hn
      | cons b l => exact .inr ⟨b, by simp⟩
  clear H
  go_enter Tryz.func75, Tryz.ntmps75
  go_wp2_with fail
  refine Hk.out.mono ?_
  rintro e w1 ⟨rfl, hM, hO⟩
  have HM := Lib.hid hM
  have HO := Lib.hid hO
  clear hM hO
  rcases h1 with h1 | ⟨b, h1⟩
  · have He := Lib.hid (show (c.byte).1 = 0 by rw [Hb.out, h1]; rfl)
    rw [h1]
    clear h1
    go_wp2_with fail
    go_ret
    rw [He.out, Hb.out]
    exact ⟨rfl, HM.out, HO.out⟩
  · have He := Lib.hid (show (c.byte).1 = b by rw [Hb.out, h1]; rfl)
    rw [h1]
    clear h1
    go_wp2_with fail
    go_ret
    rw [He.out, Hb.out]
    exact ⟨rfl, HM.out, HO.out⟩

set_option maxHeartbeats 1000000 in
set_option maxRecDepth 100000 in
theorem number_callsC (w0 w : World) (B : Nat) (c : Cu) (H : CurM w0 w B c) (hl : c.left.length ≤ 1000000000) :
    Calls Tryz.prog 76 #[.pointer (some ⟨B, 0, none⟩)] w fun e w' => e = .returned (.int .u64 c.number.1) ∧ CurM w0 w' B c.number.2 ∧ Only B w w' := by
  have HM := Lib.hid H
  obtain ⟨⟨c0, c1⟩, f0, f1⟩ := twoB H.blk
  have hB := ltH H.blk
  have Hr := Lib.hid (ReadNumber_calls w ⟨c.left.toArray⟩ (by rw [size_mk]; exact hl))
  rw [L_mk] at Hr
  have hset : ∀ b : Bool, CurM w0 (w.setCell ⟨B, 1, none⟩ (.bool b)) B ⟨c.left, b⟩ := fun b => by
    refine ⟨?_, H.bel.setCell H.low _, H.low⟩
    have hb := H.blk
    simp only [World.setCell, Array.getElem?_modify, if_true, hb, Option.map_some]
    rfl
  have Hset := Lib.hid hset
  obtain ⟨l, bad⟩ := c
  simp only at hl c0 c1 f0 f1 Hr
  clear H hset
  cases hR : readN l with
  | none =>
    rw [hR] at Hr
    have Hn := Lib.hid (show (⟨l, bad⟩ : Cu).number = (0, ⟨l, true⟩) by unfold Cu.number; rw [hR])
    have Hk := Lib.hid (take_calls w0 _ B ⟨l, true⟩ 0 (Hset.out true) hl (by omega))
    rw [take_bad] at Hk
    unfold rnV at Hr
    clear hR
    go_enter Tryz.func76, Tryz.ntmps76
    go_wp2_with fail
    refine Hr.out.mono ?_
    rintro e w1 ⟨rfl, rfl⟩
    cases bad
    all_goals
      go_wp2_with fail
      refine Hk.out.mono ?_
      rintro e w2 ⟨rfl, hM, hO⟩
      have HM2 := Lib.hid hM
      have HO2 := Lib.hid ((Only.set B 1 w (.bool true)).trans hO)
      clear hM hO
      go_wp2_with fail
      go_ret
      rw [Hn.out]
      exact ⟨rfl, HM2.out, HO2.out⟩
  | some r =>
    obtain ⟨n, k⟩ := r
    obtain ⟨hn64, hkk, r', hr'⟩ := readN_back hR
    have hkl : k ≤ l.length := by rw [hr', List.length_append, hkk]; omega
    rw [hR] at Hr
    have Hn := Lib.hid (show (⟨l, bad⟩ : Cu).number = (n, ((⟨l, bad⟩ : Cu).take k).2) by unfold Cu.number; rw [hR])
    have Hk := Lib.hid (take_calls w0 _ B ⟨l, bad⟩ k (Hset.out bad) hl (by omega))
    unfold rnV at Hr
    clear hR hr' hkk
    go_enter Tryz.func76, Tryz.ntmps76
    go_wp2_with fail
    refine Hr.out.mono ?_
    rintro e w1 ⟨rfl, rfl⟩
    cases bad
    all_goals
      go_wp2_with fail
      refine Hk.out.mono ?_
      rintro e w2 ⟨rfl, hM, hO⟩
      have HM2 := Lib.hid hM
      have HO2 := Lib.hid ((Only.set B 1 w _).trans hO)
      clear hM hO
      go_wp2_with fail
      go_ret
      rw [Hn.out]
      exact ⟨rfl, HM2.out, HO2.out⟩

end Go.Proofs.YtgehjklodphogaaGreatDoor.Cd

/- CodeRight: the walk. -/
namespace Go.Proofs.YtgehjklodphogaaGreatDoor.Cd
open Go.RowKit Go.Proofs.YtgehjklodphogaaGreatDoor.Lx Go.Proofs.YtgehjklodphogaaGreatDoor.Pa

/-- what the laws of code are asked of -/
structure CdArgs (w : World) (v : Value) (l : List Stp) : Prop where
  hv : StpsIn w v l
  hl : l.length ≤ 1048576
  ht : ∀ y ∈ l, y.text.length ≤ 1048575
  hn : ∀ y ∈ l, y.num ≤ 9223372036854775807
  he : Env w
theorem CdArgs.below {w w' : World} {v : Value} {l : List Stp} (h : CdArgs w v l) (hb : Below w.heap.size w w') : CdArgs w' v l := ⟨h.hv.below hb, h.hl, h.ht, h.hn, h.he.below hb⟩
theorem CdArgs.compile {w : World} {v : Value} {l : List Stp} (h : CdArgs w v l) : Calls Tryz.prog 11 #[v] w (GaveP w l) := Compile_calls w v l h.hv h.hl h.ht h.he
theorem CdArgs.right {w : World} {v : Value} {l : List Stp} (h : CdArgs w v l) : Calls Tryz.prog 15 #[v] w fun e w' => e = .returned (.bool (rightB l)) ∧ Below w.heap.size w w' := Right_calls w v l h.hv h.hl h.ht h.he
/-- each instruction's step is one of the expression's, or none -/
theorem shift_st (b : Nat) (x : Ins) : (shift b x).st = x.st := by unfold shift; split <;> rfl
def StOk (M : Nat) (p : List Ins) : Prop := ∀ x ∈ p, x.st.text.length ≤ M ∧ x.st.num ≤ 9223372036854775807
theorem StOk.join {M : Nat} : ∀ ps : List (List Ins), (∀ p ∈ ps, StOk M p) → StOk M (joinI ps)
  | [], _ => fun x hx => nomatch hx
  | p :: ps, h => by
    rw [joinI_cons]
    intro x hx
    rcases List.mem_append.1 hx with hx | hx
    · exact h p (by simp) x hx
    · obtain ⟨y, hy, rfl⟩ := List.mem_map.1 hx
      rw [shift_st]
      exact StOk.join ps (fun q hq => h q (by simp [hq])) y hy
theorem StOk.part {M : Nat} {s : Stp} {k : Nat} (ht : takes s = some k) (hs : s.text.length ≤ M ∧ s.num ≤ 9223372036854775807) {parts : List (List Ins)} (hl : parts.length = k) (h : ∀ p ∈ parts, StOk M p) : StOk M (partC s parts) := by
  have h0 : ∀ (o : Nat) (t : Int), StOk M [⟨o, stp0, t⟩] := fun o t x hx => by rw [List.mem_singleton] at hx; subst hx; exact ⟨Nat.zero_le _, by simp [stp0]⟩
  unfold partC
  split
  · rename_i e
    obtain ⟨p, q, rfl⟩ := two_parts (hl.trans (takes_logic ht (.inl e)))
    refine StOk.join _ fun x hx => ?_
    simp only [List.mem_cons, List.not_mem_nil, or_false] at hx
    rcases hx with rfl | rfl | rfl | rfl
    · exact h _ (by simp)
    · exact h0 _ _
    · exact h _ (by simp)
    · exact h0 _ _
  · split
    · rename_i e
      obtain ⟨p, q, rfl⟩ := two_parts (hl.trans (takes_logic ht (.inr e)))
      refine StOk.join _ fun x hx => ?_
      simp only [List.mem_cons, List.not_mem_nil, or_false] at hx
      rcases hx with rfl | rfl | rfl | rfl
      · exact h _ (by simp)
      · exact h0 _ _
      · exact h _ (by simp)
      · exact h0 _ _
    · intro x hx
      rcases List.mem_append.1 hx with hx | hx
      · exact StOk.join parts h x hx
      · rw [List.mem_singleton] at hx; subst hx; exact hs
theorem stack_stok {M : Nat} : ∀ (r : List Stp) {stk : List (List Ins)} {n m : Nat} {l : List Stp}, StkOk stk n l → rightL r n = some m → (∀ y ∈ r, y.text.length ≤ M ∧ y.num ≤ 9223372036854775807) → (∀ p ∈ stk, StOk M p) → ∀ p ∈ r.foldl stepC stk, StOk M p
  | [], _, _, _, _, _, _, _, h => h
  | s :: r, stk, n, m, l, ho, hr, hs, h => by
    rw [rightL] at hr
    cases ht : takes s with
    | none => rw [ht] at hr; cases hr
    | some k =>
      rw [ht] at hr
      simp only at hr
      split at hr
      · cases hr
      · rename_i hk
        refine stack_stok r (ho.step ht (by omega)) hr (fun y hy => hs y (by simp [hy])) ?_
        intro p hp
        unfold stepC takesN at hp
        rw [ht, Option.getD_some] at hp
        rcases List.mem_append.1 hp with hp | hp
        · exact h p (List.mem_of_mem_take hp)
        · rw [List.mem_singleton.1 hp]
          have := ho.len
          exact StOk.part ht (hs s (by simp)) (by rw [List.length_drop]; omega) fun q hq => h q (List.mem_of_mem_drop hq)
theorem compile_stok {M : Nat} {l : List Stp} (h : rightB l = true) (hs : ∀ y ∈ l, y.text.length ≤ M ∧ y.num ≤ 9223372036854775807) : StOk M (compileL l) := by
  have := stack_stok l StkOk.nil ((right_iff l).1 h).1 hs (fun _ h => nomatch h)
  rw [(compile_stack h).1] at this
  exact this _ (by simp)
theorem steps_take (p : List Ins) (k : Nat) (h : k < p.length) : steps (p.take (k + 1)) = steps (p.take k) + (if p[k].op = 1 then 1 else 0) := by
  rw [List.take_succ_eq_append_getElem h, steps_app]
  unfold steps
  by_cases e : p[k].op = 1 <;> simp [e]
def logics (l : List Stp) : Nat := (l.map isLogic).sum
theorem logics_take (l : List Stp) (k : Nat) (h : k < l.length) : logics (l.take (k + 1)) = logics (l.take k) + (if 21 ≤ l[k].kind then 1 else 0) := by
  unfold logics
  rw [List.take_succ_eq_append_getElem h, List.map_append, List.sum_append]
  simp [isLogic]

set_option maxHeartbeats 4000000 in
set_option maxRecDepth 100000 in
theorem CodeRight_calls (w : World) (v : Value) (l : List Stp) (h : CdArgs w v l) :
    Calls Tryz.prog 4 #[v] w fun e w' => e = .returned (.bool true) ∧ Below w.heap.size w w' := by
  have H := Lib.hid h
  obtain ⟨a, n, c, rfl, hln, hnc, hj⟩ := id h.hv
  have Hlv := Lib.hid (lives_calls w h.he)
  have Hln := Lib.hid hln
  have Hj := Lib.hid hj
  have hl := h.hl
  cases hR : rightB l with
  | false =>
    have hG := fun w2 (hb : Below w.heap.size w w2) => (H.out.below hb).compile
    have HG := Lib.hid hG
    have HR := Lib.hid (fun w2 (hb : Below w.heap.size w w2) => (H.out.below hb).right)
    rw [hR] at HR
    have Hf := Lib.hid hR
    clear h hj hG hR
    go_enter Tryz.func4, Tryz.ntmps4
    go_wp2_with fail
    refine Hlv.out.mono ?_
    rintro e w1 ⟨rfl, hb1⟩
    have Hb1 := Lib.hid hb1
    clear hb1
    go_wp2_with fail
    refine (HG.out _ Hb1.out).mono ?_
    rintro e w2 ⟨hb2, hg⟩
    rw [if_neg (by rw [Hf.out]; simp)] at hg
    subst hg
    have Hb2 := Lib.hid (stepB Hb1.out hb2)
    clear hb2
    go_wp2_with fail
    refine (HR.out _ Hb2.out).mono ?_
    rintro e w3 ⟨rfl, hb3⟩
    have Hb3 := Lib.hid (stepB Hb2.out hb3)
    clear hb3
    go_wp2_with fail
    go_ret
    exact ⟨rfl, Hb3.out⟩
  | true =>
    have HG := Lib.hid (fun w2 (hb : Below w.heap.size w w2) => (H.out.below hb).compile)
    have Hf := Lib.hid hR
    obtain ⟨hc1, hc2⟩ := compile_len hR
    have hlg := logic_le l
    have Hck := Lib.hid (check_compile hR)
    have HT := Lib.hid (show ∀ w2, Below w.heap.size w w2 → ∀ x ∈ compileL l, TakesOk w2 x.st from fun w2 hb x hx => takes_ok (h.he.below hb) (compile_stok hR (fun y hy => ⟨h.ht y hy, h.hn y hy⟩) x hx).1)
    have h128 := ((right_iff l).1 hR).2
    have hlo : l.length = n := hln
    clear h hj hR
    go_enter Tryz.func4, Tryz.ntmps4
    go_wp2_with fail
    refine Hlv.out.mono ?_
    rintro e w1 ⟨rfl, hb1⟩
    have Hb1 := Lib.hid hb1
    clear hb1
    go_wp2_with fail
    refine (HG.out _ Hb1.out).mono ?_
    rintro e w2 ⟨hb2, hg⟩
    rw [if_pos Hf.out] at hg
    obtain ⟨vp, rfl, hp⟩ := hg
    have Hb2 := Lib.hid (stepB Hb1.out hb2)
    have Hc := Lib.hid (Check_calls w2 vp (compileL l) hp (by omega) (HT.out w2 Hb2.out))
    unfold checkC at Hc
    rw [Hck.out] at Hc
    obtain ⟨ap, np, cp, rfl, hlp, hcp, hjp⟩ := hp
    have Hlp := Lib.hid hlp
    have Hjp := Lib.hid hjp
    have hnp : np ≤ 2 * n := by omega
    have Hc1 := Lib.hid hc1
    have Hc2 := Lib.hid hc2
    have hn128 : n ≤ 128 := by omega
    clear hb2 hlp hjp hc1 hc2
    go_wp2_with fail
    refine Hc.out.mono ?_
    rintro e w3 ⟨rfl, hb3⟩
    have Hb3 := Lib.hid (stepB Hb2.out hb3)
    have Hb23 := Lib.hid hb3
    clear hb3
    go_wp2_with fail
    go_loopw [5, 41] (fun s5 i wr => ∃ (k m : Nat), k ≤ np ∧ m ≤ k ∧ i = .int .i64 k ∧ s5 = .int .i64 m ∧ Hid (Below w.heap.size w wr ∧ Below w2.heap.size w2 wr ∧ steps ((compileL l).take k) = m)) (fun _ i _ => np - (intOf i).toNat)
    case atStart => exact ⟨0, 0, Nat.zero_le _, Nat.le_refl _, rfl, rfl, Hb3.out, Hb23.out, rfl⟩
    case round =>
      obtain ⟨k, m, hk, hmk, rfl, rfl, hst⟩ := hrel
      have Hst := Lib.hid hst.out
      by_cases hlt : k < np
      · have hkl : k < (compileL l).length := by rw [Hlp.out]; exact hlt
        obtain ⟨g, o, rfl, hcl⟩ := Hjp.out k hkl
        have hgw : g < wr.heap.size := Nat.lt_of_lt_of_le hcl.lt hst.out.2.1.size
        obtain ⟨q0, q1, q2, q3, q4⟩ := hcl.below hst.out.2.1
        have Hst2 := Lib.hid (steps_take (compileL l) k hkl)
        generalize (compileL l)[k] = x at *
        have hbx := allocB wr (.cells #[.int .u8 x.op, .int .u8 x.st.kind, .string ⟨x.st.text.toArray⟩, .int .i64 x.st.num, .int .i64 x.to] 36)
        have Hbx := Lib.hid (And.intro (stepB hst.out.1 hbx) (stepB hst.out.2.1 hbx))
        by_cases h1 : x.op = 1
        · have hm2 := Hst2.out
          rw [if_pos h1, hst.out.2.2] at hm2
          have Hm2 := Lib.hid hm2
          have b1 : ((x.op : Int) == 1) = true := by rw [beq_iff_eq]; omega
          clear hst hcl hbx hm2 h1
          go_wp2_with fail
          go_roundw
          case rel => exact ⟨k + 1, m + 1, by omega, by omega, by go_num, by go_num, Hbx.out.1, Hbx.out.2, Hm2.out⟩
          case measure => simp [intOf]; omega
        · have hm2 := Hst2.out
          rw [if_neg h1, hst.out.2.2] at hm2
          have Hm2 := Lib.hid hm2
          have b1 : ((x.op : Int) == 1) = false := by rw [beq_eq_false_iff_ne]; omega
          clear hst hcl hbx hm2 h1
          go_wp2_with fail
          go_roundw
          case rel => exact ⟨k + 1, m, by omega, by omega, by go_num, rfl, Hbx.out.1, Hbx.out.2, Hm2.out⟩
          case measure => simp [intOf]; omega
      · have hkn : k = np := by omega
        subst hkn
        have hm3 : steps (compileL l) = m := by
          have := hst.out.2.2
          rw [List.take_of_length_le (by rw [Hlp.out]; exact Nat.le_refl _)] at this
          exact this
        have Hm3 := Lib.hid hm3
        have Hbr := Lib.hid hst.out.1
        clear hst hm3
        go_wp2_with fail
        go_loopw [8, 53] (fun s8 i w5 => ∃ (k g : Nat), k ≤ n ∧ g ≤ k ∧ i = .int .i64 k ∧ s8 = .int .i64 g ∧ Hid (Below w.heap.size w w5 ∧ logics (l.take k) = g)) (fun _ i _ => n - (intOf i).toNat)
        case atStart => exact ⟨0, 0, Nat.zero_le _, Nat.le_refl _, rfl, rfl, Hbr.out, rfl⟩
        case round =>
          obtain ⟨j, q, hjn, hqj, rfl, rfl, hst⟩ := hrel
          have Hst := Lib.hid hst.out
          by_cases hlt2 : j < n
          · have hjl : j < l.length := by rw [Hln.out]; exact hlt2
            obtain ⟨g, o, rfl, hcl⟩ := Hj.out j hjl
            have hgw : g < wr.heap.size := Nat.lt_of_lt_of_le (World.block_lt_of_cell? _ _ hcl.c0) hst.out.1.size
            obtain ⟨q0, q1, q2⟩ := hcl.below hst.out.1
            have Hst2 := Lib.hid (logics_take l j hjl)
            generalize l[j] = y at *
            have Hbx := Lib.hid (stepB hst.out.1 (allocB wr (.cells #[.int .u8 y.kind, .string ⟨y.text.toArray⟩, .int .i64 y.num] 34)))
            by_cases h1 : 21 ≤ y.kind
            · have hm2 := Hst2.out
              rw [if_pos h1, hst.out.2] at hm2
              have Hm2 := Lib.hid hm2
              have h12 : (21 : Int) ≤ y.kind := by omega
              clear hst hcl hm2 h1
              go_wp2_with fail
              go_roundw
              case rel => exact ⟨j + 1, q + 1, by omega, by omega, by go_num, by go_num, Hbx.out, Hm2.out⟩
              case measure => simp [intOf]; omega
            · have hm2 := Hst2.out
              rw [if_neg h1, hst.out.2] at hm2
              have Hm2 := Lib.hid hm2
              have h12 : ¬ (21 : Int) ≤ y.kind := by omega
              clear hst hcl hm2 h1
              go_wp2_with fail
              go_roundw
              case rel => exact ⟨j + 1, q, by omega, by omega, by go_num, rfl, Hbx.out, Hm2.out⟩
              case measure => simp [intOf]; omega
          · have hjn' : j = n := by omega
            subst hjn'
            have hq : logics l = q := by
              have := hst.out.2
              rw [List.take_of_length_le (by rw [Hln.out]; exact Nat.le_refl _)] at this
              exact this
            have e1 : m + q = j := by rw [← Hm3.out, ← hq, ← Hln.out]; exact Hc2.out
            have e2 : k = j + q := by rw [← Hlp.out, ← hq, ← Hln.out]; exact Hc1.out
            have b1 : ((m : Int) == (j : Int) - q) = true := by rw [beq_iff_eq]; omega
            have b2 : ((k : Int) == (j : Int) + q) = true := by rw [beq_iff_eq]; omega
            clear hst hq
            go_wp2_with fail
            go_ret
            exact ⟨rfl, Hst.out.1⟩

end Go.Proofs.YtgehjklodphogaaGreatDoor.Cd
