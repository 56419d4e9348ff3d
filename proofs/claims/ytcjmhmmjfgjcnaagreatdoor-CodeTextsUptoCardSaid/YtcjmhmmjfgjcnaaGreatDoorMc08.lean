/- Parts: QbH QcE. -/
import Derived.Test.YtcjmhmmjfgjcnaaGreatDoorMc04
import Derived.Test.YtcjmhmmjfgjcnaaGreatDoorMc05
import Derived.Test.YtcjmhmmjfgjcnaaGreatDoorMc07

/- code: the cursor over bytes. -/
namespace Go.Proofs.YtcjmhmmjfgjcnaaGreatDoor.Cd
open Go.RowKit Go.Proofs.YtcjmhmmjfgjcnaaGreatDoor.Lx Go.Proofs.YtcjmhmmjfgjcnaaGreatDoor.Pa

structure Only (B : Nat) (w w' : World) : Prop where
  size : w'.heap.size = w.heap.size
  block : ∀ b, b ≠ B → w'.heap[b]? = w.heap[b]?
theorem Only.refl (B : Nat) (w : World) : Only B w w := ⟨rfl, fun _ _ => rfl⟩
theorem Only.trans {B : Nat} {w1 w2 w3 : World} (h : Only B w1 w2) (h2 : Only B w2 w3) : Only B w1 w3 := ⟨h2.size.trans h.size, fun b hb => (h2.block b hb).trans (h.block b hb)⟩
theorem Only.set (B i : Nat) (w : World) (v : Value) : Only B w (w.setCell ⟨B, i, none⟩ v) := ⟨by simp, fun _ hb => Below.heap_setCell _ _ _ _ hb⟩
structure CurM (w0 w : World) (B : Nat) (c : Cu) : Prop where
  blk : w.heap[B]? = some (.cells #[.string ⟨c.left.toArray⟩, .bool c.bad] 109)
  bel : Below w0.heap.size w0 w
  low : w0.heap.size ≤ B
theorem mk_take (l : Txt) (n : Nat) : (⟨l.toArray⟩ : ByteArray).extract 0 n = ⟨(l.take n).toArray⟩ := L_inj (by rw [L_take, L_mk, L_mk])
theorem mk_drop (l : Txt) (n : Nat) : (⟨l.toArray⟩ : ByteArray).extract n (⟨l.toArray⟩ : ByteArray).size = ⟨(l.drop n).toArray⟩ := L_inj (by rw [L_drop, L_mk, L_mk])
theorem mk_drop' (l : Txt) (n : Nat) : (⟨l.toArray⟩ : ByteArray).extract n l.length = ⟨(l.drop n).toArray⟩ := by have := mk_drop l n; rw [size_mk] at this; exact this

set_option maxHeartbeats 1000000 in
set_option maxRecDepth 100000 in
theorem take_calls (w0 w : World) (B : Nat) (c : Cu) (n : Nat) (H : CurM w0 w B c) (hl : c.left.length ≤ 1000000000) (hn : n < 18446744073709551616) :
    Calls Tryz.prog 72 #[.pointer (some ⟨B, 0, none⟩), .int .u64 n] w fun e w' => e = .returned (.string ⟨(c.take n).1.toArray⟩) ∧ CurM w0 w' B (c.take n).2 ∧ Only B w w' := by
  have HM := Lib.hid H
  obtain ⟨⟨c0, c1⟩, f0, f1⟩ := twoB H.blk
  have hB := ltH H.blk
  have hset : ∀ (i : Nat) (v : Value) (c' : Cu), (#[.string ⟨c.left.toArray⟩, .bool c.bad] : Array Value).setIfInBounds i v = #[.string ⟨c'.left.toArray⟩, .bool c'.bad] → CurM w0 (w.setCell ⟨B, i, none⟩ v) B c' := fun i v c' e => by
    refine ⟨?_, H.bel.setCell H.low _, H.low⟩
    have hb := H.blk
    simp only [World.setCell, Array.getElem?_modify, if_true, hb, Option.map_some, ← e]
    rfl
  have Hset := Lib.hid hset
  obtain ⟨l, bad⟩ := c
  simp only at hl c0 c1 f0 f1
  clear H hset
  go_enter Tryz.func72, Tryz.ntmps72
  cases bad with
  | true =>
    have Ht := Lib.hid (take_bad l n)
    go_wp2_with fail
    go_ret
    rw [Ht.out]
    exact ⟨rfl, Hset.out 1 _ ⟨l, true⟩ rfl, Only.set _ _ _ _⟩
  | false =>
    by_cases hgt : l.length < n
    · have Ht := Lib.hid (show (⟨l, false⟩ : Cu).take n = ([], ⟨l, true⟩) by unfold Cu.take; rw [if_pos (.inr hgt)])
      have hgt2 : (l.length : Int) < n := by omega
      go_wp2_with fail
      go_ret
      rw [Ht.out]
      exact ⟨rfl, Hset.out 1 _ ⟨l, true⟩ rfl, Only.set _ _ _ _⟩
    · have Ht := Lib.hid (show (⟨l, false⟩ : Cu).take n = (l.take n, ⟨l.drop n, false⟩) by unfold Cu.take; rw [if_neg (by simp; omega)])
      have hgt2 : ¬ (l.length : Int) < n := by omega
      have hle : n ≤ l.length := by omega
      have hle2 : (n : Int) ≤ l.length := by omega
      have hn0 : (0 : Int) ≤ n := by omega
      have Hd := Lib.hid (mk_drop' l n)
      go_wp2_with fail
      go_ret
      rw [Ht.out]
      exact ⟨ret_str (mk_take l n), by rw [mk_drop' l n]; exact Hset.out 0 _ ⟨l.drop n, false⟩ rfl, Only.set _ _ _ _⟩

set_option maxHeartbeats 1000000 in
set_option maxRecDepth 100000 in
theorem byte_calls (w0 w : World) (B : Nat) (c : Cu) (H : CurM w0 w B c) (hl : c.left.length ≤ 1000000000) :
    Calls Tryz.prog 70 #[.pointer (some ⟨B, 0, none⟩)] w fun e w' => e = .returned (.int .u8 c.byte.1.toNat) ∧ CurM w0 w' B c.byte.2 ∧ Only B w w' := by
  have Hk := Lib.hid (take_calls w0 w B c 1 H hl (by omega))
  have Hb := Lib.hid (show c.byte = ((c.take 1).1.headD 0, (c.take 1).2) from rfl)
  have h1 : (c.take 1).1 = [] ∨ ∃ b, (c.take 1).1 = [b] := by
    unfold Cu.take
    split
    · exact .inl rfl
    · rename_i hn
      simp only [not_or] at hn
      cases hc : c.left with
      | nil => rw [hc] at hn; simp at hn
      | cons b l => exact .inr ⟨b, by simp⟩
  clear H
  go_enter Tryz.func70, Tryz.ntmps70
  go_wp2_with fail
  refine Hk.out.mono ?_
  rintro e w1 ⟨rfl, hM, hO⟩
  have HM := Lib.hid hM
  have HO := Lib.hid hO
  clear hM hO
  rcases h1 with h1 | ⟨b, h1⟩
  · have He := Lib.hid (show (c.byte).1 = 0 by rw [Hb.out, h1]; rfl)
    rw [h1]
    clear h1
    go_wp2_with fail
    go_ret
    rw [He.out, Hb.out]
    exact ⟨rfl, HM.out, HO.out⟩
  · have He := Lib.hid (show (c.byte).1 = b by rw [Hb.out, h1]; rfl)
    rw [h1]
    clear h1
    go_wp2_with fail
    go_ret
    rw [He.out, Hb.out]
    exact ⟨rfl, HM.out, HO.out⟩

set_option maxHeartbeats 1000000 in
set_option maxRecDepth 100000 in
theorem number_callsC (w0 w : World) (B : Nat) (c : Cu) (H : CurM w0 w B c) (hl : c.left.length ≤ 1000000000) :
    Calls Tryz.prog 71 #[.pointer (some ⟨B, 0, none⟩)] w fun e w' => e = .returned (.int .u64 c.number.1) ∧ CurM w0 w' B c.number.2 ∧ Only B w w' := by
  have HM := Lib.hid H
  obtain ⟨⟨c0, c1⟩, f0, f1⟩ := twoB H.blk
  have hB := ltH H.blk
  have Hr := Lib.hid (ReadNumber_calls w ⟨c.left.toArray⟩ (by rw [size_mk]; exact hl))
  rw [L_mk] at Hr
  have hset : ∀ b : Bool, CurM w0 (w.setCell ⟨B, 1, none⟩ (.bool b)) B ⟨c.left, b⟩ := fun b => by
    refine ⟨?_, H.bel.setCell H.low _, H.low⟩
    have hb := H.blk
    simp only [World.setCell, Array.getElem?_modify, if_true, hb, Option.map_some]
    rfl
  have Hset := Lib.hid hset
  obtain ⟨l, bad⟩ := c
  simp only at hl c0 c1 f0 f1 Hr
  clear H hset
  cases hR : readN l with
  | none =>
    rw [hR] at Hr
    have Hn := Lib.hid (show (⟨l, bad⟩ : Cu).number = (0, ⟨l, true⟩) by unfold Cu.number; rw [hR])
    have Hk := Lib.hid (take_calls w0 _ B ⟨l, true⟩ 0 (Hset.out true) hl (by omega))
    rw [take_bad] at Hk
    unfold rnV at Hr
    clear hR
    go_enter Tryz.func71, Tryz.ntmps71
    go_wp2_with fail
    refine Hr.out.mono ?_
    rintro e w1 ⟨rfl, rfl⟩
    cases bad
    all_goals
      go_wp2_with fail
      refine Hk.out.mono ?_
      rintro e w2 ⟨rfl, hM, hO⟩
      have HM2 := Lib.hid hM
      have HO2 := Lib.hid ((Only.set B 1 w (.bool true)).trans hO)
      clear hM hO
      go_wp2_with fail
      go_ret
      rw [Hn.out]
      exact ⟨rfl, HM2.out, HO2.out⟩
  | some r =>
    obtain ⟨n, k⟩ := r
    obtain ⟨hn64, hkk, r', hr'⟩ := readN_back hR
    have hkl : k ≤ l.length := by rw [hr', List.length_append, hkk]; omega
    rw [hR] at Hr
    have Hn := Lib.hid (show (⟨l, bad⟩ : Cu).number = (n, ((⟨l, bad⟩ : Cu).take k).2) by unfold Cu.number; rw [hR])
    have Hk := Lib.hid (take_calls w0 _ B ⟨l, bad⟩ k (Hset.out bad) hl (by omega))
    unfold rnV at Hr
    clear hR hr' hkk
    go_enter Tryz.func71, Tryz.ntmps71
    go_wp2_with fail
    refine Hr.out.mono ?_
    rintro e w1 ⟨rfl, rfl⟩
    cases bad
    all_goals
      go_wp2_with fail
      refine Hk.out.mono ?_
      rintro e w2 ⟨rfl, hM, hO⟩
      have HM2 := Lib.hid hM
      have HO2 := Lib.hid ((Only.set B 1 w _).trans hO)
      clear hM hO
      go_wp2_with fail
      go_ret
      rw [Hn.out]
      exact ⟨rfl, HM2.out, HO2.out⟩

end Go.Proofs.YtcjmhmmjfgjcnaaGreatDoor.Cd

/- Texts read as codicilref13 reads them: plain; nothing here speaks of the program. -/
namespace Go.Proofs.YtcjmhmmjfgjcnaaGreatDoor.Cd
open Go.Proofs.YtcjmhmmjfgjcnaaGreatDoor.Lx Go.Proofs.YtcjmhmmjfgjcnaaGreatDoor.Pa

def instrA : Txt → Option (Ins × Nat)
  | [] => none
  | c :: r => (readN r).bind fun n => (readN (r.drop n.2)).bind fun m =>
    if (r.drop n.2).length - m.2 < m.1 then none else some (⟨1, ⟨c.toNat, ((r.drop n.2).drop m.2).take m.1, i64 n.1⟩, 0⟩, 2 + n.2 + m.2 + m.1)
def instrR : Txt → Option (Ins × Nat)
  | [] => none
  | b :: r =>
    if b.toNat = 3 ∨ b.toNat = 5 then some (⟨b.toNat, stp0, 0⟩, 1)
    else if b.toNat = 2 ∨ b.toNat = 4 then (readN r).bind fun n => if 1000 < n.1 then none else some (⟨b.toNat, stp0, n.1⟩, 1 + n.2)
    else if b.toNat = 1 then instrA r
    else none
def readR : Nat → List Ins → Txt → Option (List Ins)
  | 0, out, l => if l = [] then some out else none
  | n + 1, out, l => if l = [] then some out else (instrR l).bind fun r => readR n (out ++ [r.1]) (l.drop r.2)

theorem take_badR {c : Cu} (h : c.bad = true) (n : Nat) : (c.take n).2.bad = true := by unfold Cu.take; rw [if_pos (.inl h)]
theorem number_badR {c : Cu} (h : c.bad = true) : c.number.2.bad = true := by
  unfold Cu.number
  split
  · rfl
  · exact take_badR h _
theorem number_none {l : Txt} (h : readN l = none) : (⟨l, false⟩ : Cu).number.2.bad = true := by unfold Cu.number; simp only; rw [h]
theorem number_some {l : Txt} {n : Nat × Nat} (h : readN l = some n) : (⟨l, false⟩ : Cu).number = (n.1, ⟨l.drop n.2, false⟩) ∧ n.2 ≤ l.length := by
  obtain ⟨h1, h2, r, rfl⟩ := readN_back (n := n.1) (k := n.2) h
  have hl : n.2 ≤ (numT n.1 ++ r).length := by rw [List.length_append]; omega
  refine ⟨?_, hl⟩
  unfold Cu.number
  simp only
  rw [h]
  simp only
  unfold Cu.take
  rw [if_neg (by simp only [Bool.false_eq_true, false_or]; omega)]
theorem readF_badR : ∀ (n : Nat) (out : List Ins) (c : Cu), c.bad = true → readF n out c = (out, c)
  | 0, _, _, _ => rfl
  | n + 1, out, c, h => by rw [readF, if_neg (by simp [h])]
theorem readF_memR : ∀ (n : Nat) (out : List Ins) (c : Cu) (x : Ins), x ∈ out → x ∈ (readF n out c).1
  | 0, _, _, _, h => h
  | n + 1, out, c, x, h => by
    rw [readF]
    split
    · exact readF_memR n _ _ x (List.mem_append_left _ h)
    · exact h
theorem readR_mem : ∀ (n : Nat) (out : List Ins) (l : Txt) (x : Ins) (q : List Ins), x ∈ out → readR n out l = some q → x ∈ q
  | 0, out, l, x, q, h, e => by
    rw [readR] at e
    split at e
    · cases e; exact h
    · cases e
  | n + 1, out, l, x, q, h, e => by
    rw [readR] at e
    split at e
    · cases e; exact h
    · obtain ⟨r, _, h2⟩ := Option.bind_eq_some_iff.1 e
      exact readR_mem n _ _ x q (List.mem_append_left _ h) h2

theorem instr_some {l : Txt} {x : Ins} {n : Nat} (h : instrR l = some (x, n)) : 1 ≤ n ∧ n ≤ l.length ∧ (x.to ≤ 256 → insF ⟨l, false⟩ = (x, ⟨l.drop n, false⟩)) ∧ (¬ x.to ≤ 256 → ¬ InsOk (insF ⟨l, false⟩).1) := by
  cases l with
  | nil => cases h
  | cons b r =>
    rw [instrR] at h
    unfold insF
    rw [byte_good]
    simp only
    split at h
    · rename_i h3
      cases h
      rw [if_neg (by omega), if_neg (by omega)]
      exact ⟨Nat.le_refl _, by simp, fun _ => rfl, fun h => absurd (by decide : (0 : Int) ≤ 256) h⟩
    · split at h
      · rename_i h3 h2
        obtain ⟨v, hv, h4⟩ := Option.bind_eq_some_iff.1 h
        obtain ⟨e, hl⟩ := number_some hv
        rw [if_neg (by omega), if_pos h2, e]
        simp only
        split at h4
        · cases h4
        · rename_i hv2
          cases h4
          simp only
          refine ⟨by omega, by rw [List.length_cons]; omega, fun hb => ?_, fun hb => ?_⟩
          · rw [show min v.1 257 = v.1 by omega, Nat.add_comm 1 v.2, List.drop_succ_cons]
          · intro hok
            have h5 := hok.jump h2
            simp only at h5 hb
            omega
      · split at h
        · rename_i h3 h2 h1
          rw [if_pos h1]
          cases r with
          | nil => cases h
          | cons c r2 =>
            rw [instrA] at h
            obtain ⟨v, hv, h4⟩ := Option.bind_eq_some_iff.1 h
            obtain ⟨m, hm, h5⟩ := Option.bind_eq_some_iff.1 h4
            obtain ⟨e, hl⟩ := number_some hv
            obtain ⟨e2, hl2⟩ := number_some hm
            rw [byte_good]
            simp only
            rw [e]
            simp only
            rw [e2]
            simp only
            split at h5
            · cases h5
            · rename_i hlen
              cases h5
              have hlen2 : m.1 ≤ ((r2.drop v.2).drop m.2).length := by rw [List.length_drop]; omega
              simp only
              refine ⟨by omega, ?_, fun _ => ?_, fun hb => absurd (by decide : (0 : Int) ≤ 256) hb⟩
              · rw [List.length_drop, List.length_drop] at hlen2
                rw [List.length_drop] at hl2
                simp only [List.length_cons]
                omega
              · unfold Cu.take
                rw [if_neg (by simp only [Bool.false_eq_true, false_or]; omega)]
                simp only
                rw [List.drop_drop, List.drop_drop, show 2 + v.2 + m.2 + m.1 = (v.2 + m.2 + m.1) + 1 + 1 by omega, List.drop_succ_cons, List.drop_succ_cons]
        · cases h
theorem instr_none {l : Txt} (hl : l ≠ []) (h : instrR l = none) : (insF ⟨l, false⟩).2.bad = true ∨ ¬ InsOk (insF ⟨l, false⟩).1 := by
  cases l with
  | nil => exact absurd rfl hl
  | cons b r =>
    rw [instrR] at h
    unfold insF
    rw [byte_good]
    simp only
    split at h
    · cases h
    · rename_i h3
      split at h
      · rename_i h2
        rw [if_neg (by omega), if_pos h2]
        cases hv : readN r with
        | none => exact .inl (number_none hv)
        | some v =>
          rw [hv, Option.bind_some] at h
          split at h
          · rename_i h4
            rw [(number_some hv).1]
            refine .inr fun hok => ?_
            have h5 := hok.jump h2
            simp only at h5
            omega
          · cases h
      · split at h
        · rename_i h2 h1
          rw [if_pos h1]
          simp only
          left
          cases r with
          | nil => exact take_badR (number_badR (number_badR (by unfold Cu.byte; simp only; unfold Cu.take; rw [if_pos (.inr (by simp))]))) _
          | cons c r2 =>
            rw [byte_good]
            simp only
            rw [instrA] at h
            cases hv : readN r2 with
            | none => exact take_badR (number_badR (number_none hv)) _
            | some v =>
              rw [hv, Option.bind_some] at h
              rw [(number_some hv).1]
              simp only
              cases hm : readN (r2.drop v.2) with
              | none => exact take_badR (number_none hm) _
              | some m =>
                rw [hm, Option.bind_some] at h
                rw [(number_some hm).1]
                simp only
                split at h
                · rename_i hlen
                  unfold Cu.take
                  rw [if_pos (.inr (by simp only [List.length_drop] at hlen ⊢; omega))]
                · cases h
        · rename_i h2 h1
          rw [if_neg h1, if_neg h2]
          refine .inr fun hok => ?_
          have := hok.op
          simp only at this
          omega
theorem read_is : ∀ (n : Nat) (out : List Ins) (l : Txt), l.length ≤ n →
    (readR n out l).bind (fun q => if checkI q = true then some q else none) = if (readF n out ⟨l, false⟩).2.bad = false ∧ checkI (readF n out ⟨l, false⟩).1 = true then some (readF n out ⟨l, false⟩).1 else none
  | 0, out, l, h => by
    obtain rfl : l = [] := List.eq_nil_of_length_eq_zero (by omega)
    rw [readR, if_pos rfl, Option.bind_some, readF]
    simp
  | n + 1, out, l, h => by
    by_cases hl : l = []
    · subst hl
      have e : readF (n + 1) out ⟨[], false⟩ = (out, ⟨[], false⟩) := by rw [readF, if_neg (by simp)]
      rw [readR, if_pos rfl, Option.bind_some, e]
      simp
    · have e : readF (n + 1) out ⟨l, false⟩ = readF n (out ++ [(insF ⟨l, false⟩).1]) (insF ⟨l, false⟩).2 := by rw [readF, if_pos ⟨hl, rfl⟩]
      rw [readR, if_neg hl, e]
      cases hi : instrR l with
      | none =>
        rw [Option.bind_none, Option.bind_none, if_neg]
        rintro ⟨h1, h2⟩
        rcases instr_none hl hi with h3 | h3
        · rw [readF_badR n _ _ h3, h3] at h1
          cases h1
        · exact h3 ((check_ok h2).1 _ (readF_memR n _ _ _ (by simp)))
      | some r =>
        obtain ⟨x, k⟩ := r
        obtain ⟨h1, h2, h3, h4⟩ := instr_some hi
        rw [Option.bind_some]
        by_cases hx : x.to ≤ 256
        · rw [h3 hx]
          exact read_is n (out ++ [x]) (l.drop k) (by rw [List.length_drop]; omega)
        · rw [if_neg (fun hb => h4 hx ((check_ok hb.2).1 _ (readF_memR n _ _ _ (by simp))))]
          cases hr : readR n (out ++ [x]) (l.drop k) with
          | none => rfl
          | some q =>
            rw [Option.bind_some, if_neg]
            intro hc
            have hok := (check_ok hc).1 x (readR_mem n _ _ x q (by simp) hr)
            have : x.to ≤ 256 := by
              rcases hok.op with h5 | h5 | h5 | h5 | h5
              · have := (hok.step h5).1; omega
              · exact (hok.jump (.inl h5)).2.2
              · have := (hok.bare (.inl h5)).2; omega
              · exact (hok.jump (.inr h5)).2.2
              · have := (hok.bare (.inr h5)).2; omega
            exact hx this
end Go.Proofs.YtcjmhmmjfgjcnaaGreatDoor.Cd
