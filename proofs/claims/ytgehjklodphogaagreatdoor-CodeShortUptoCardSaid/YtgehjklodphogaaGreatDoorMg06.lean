/- Parts: QaC. -/
import Derived.Test.YtgehjklodphogaaGreatDoorMg05

/- Programs as bytes: there and back. Plain. -/
namespace Go.Proofs.YtgehjklodphogaaGreatDoor.Cd
open Go.Proofs.YtgehjklodphogaaGreatDoor.Lx Go.Proofs.YtgehjklodphogaaGreatDoor.Pa

/-! ### numbers -/
/-- a number's bytes, at most f behind the first one -/
def numB : Nat → Nat → Txt
  | 0, n => [UInt8.ofNat n]
  | f + 1, n => if 127 < n then UInt8.ofNat (n % 128 + 128) :: numB f (n / 128) else [UInt8.ofNat n]
def numT (n : Nat) : Txt := numB 9 n
/-- what a text begins with: the number, and how many bytes; i bytes of it were read already -/
def readG : Nat → Nat → Txt → Option (Nat × Nat)
  | _, _, [] => none
  | i, acc, b :: r => if 10 ≤ i then none else
      if b.toNat < 128 then if i = 9 ∧ 1 < b.toNat ∨ 0 < i ∧ b.toNat = 0 then none else some (acc + b.toNat * 128 ^ i, i + 1)
      else readG (i + 1) (acc + (b.toNat - 128) * 128 ^ i) r
def readN (l : Txt) : Option (Nat × Nat) := readG 0 0 l
theorem numB_length : ∀ f n, 1 ≤ (numB f n).length ∧ (numB f n).length ≤ f + 1
  | 0, n => by simp [numB]
  | f + 1, n => by
    unfold numB
    split
    · have := numB_length f (n / 128)
      simp only [List.length_cons]
      omega
    · simp
theorem byte_toNat {n : Nat} (h : n < 256) : (UInt8.ofNat n).toNat = n := by
  rw [UInt8.toNat_ofNat']
  exact Nat.mod_eq_of_lt h
theorem pow_step (i : Nat) : 128 ^ (i + 1) = 128 * 128 ^ i := by rw [Nat.pow_succ, Nat.mul_comm]
theorem read_num : ∀ (f i acc n : Nat) (r : Txt), f + i = 9 → n < 2 * 128 ^ f → (0 < i → 0 < n) → readG i acc (numB f n ++ r) = some (acc + n * 128 ^ i, i + (numB f n).length)
  | 0, i, acc, n, r, hi, hn, hp => by
    have h1 : n < 2 := by simpa using hn
    unfold numB
    show readG i acc (UInt8.ofNat n :: r) = _
    rw [readG, byte_toNat (by omega), if_neg (by omega), if_pos (by omega), if_neg (by omega)]
    rfl
  | f + 1, i, acc, n, r, hi, hn, hp => by
    unfold numB
    split
    · rename_i h
      rw [List.cons_append, readG, byte_toNat (by omega), if_neg (by omega), if_neg (by omega), read_num f (i + 1) _ (n / 128) r (by omega) (by rw [pow_step] at hn; omega) (by omega), List.length_cons]
      have e : n * 128 ^ i = (n % 128) * 128 ^ i + n / 128 * (128 * 128 ^ i) := by
        have h1 : (n % 128 + n / 128 * 128) * 128 ^ i = n * 128 ^ i := by rw [show n % 128 + n / 128 * 128 = n by omega]
        rw [← h1, Nat.add_mul, Nat.mul_assoc]
      rw [pow_step, e, Nat.add_sub_cancel, Nat.add_assoc, show i + 1 + (numB f (n / 128)).length = i + ((numB f (n / 128)).length + 1) by omega]
    · rename_i h
      show readG i acc (UInt8.ofNat n :: r) = _
      rw [readG, byte_toNat (by omega), if_neg (by omega), if_pos (by omega), if_neg (by omega)]
      rfl
theorem pow9 : 2 * 128 ^ 9 = 18446744073709551616 := by simp
theorem readN_num {n : Nat} (h : n < 18446744073709551616) (r : Txt) : readN (numT n ++ r) = some (n, (numT n).length) := by
  have h9 := read_num 9 0 0 n r (Nat.add_zero 9) (Nat.lt_of_lt_of_eq h pow9.symm) (fun h => absurd h (Nat.lt_irrefl 0))
  rw [Nat.zero_add, Nat.pow_zero, Nat.mul_one, Nat.zero_add] at h9
  exact h9
theorem read_back : ∀ (l : Txt) (i acc v k : Nat), i ≤ 9 → readG i acc l = some (v, k) → ∃ n, v = acc + n * 128 ^ i ∧ n < 2 * 128 ^ (9 - i) ∧ (0 < i → 0 < n) ∧ i + (numB (9 - i) n).length = k ∧ ∃ r, l = numB (9 - i) n ++ r
  | [], i, acc, v, k, _, h => by rw [readG] at h; cases h
  | b :: l, i, acc, v, k, hi, h => by
    rw [readG, if_neg (by omega)] at h
    have hb : b.toNat < 256 := b.toNat_lt
    split at h
    · rename_i hlt
      split at h
      · cases h
      · rename_i hno
        simp only [Option.some.injEq, Prod.mk.injEq] at h
        have e : numB (9 - i) b.toNat = [b] := by
          cases h9 : 9 - i with
          | zero => unfold numB; rw [UInt8.ofNat_toNat]
          | succ f => unfold numB; rw [if_neg (by omega), UInt8.ofNat_toNat]
        refine ⟨b.toNat, h.1.symm, ?_, by omega, by rw [e]; exact h.2, l, by rw [e]; rfl⟩
        cases h9 : 9 - i with
        | zero => simp; omega
        | succ f => have := Nat.one_le_pow f 128 (by omega); rw [pow_step]; omega
    · rename_i hge
      by_cases h9 : i = 9
      · subst h9
        cases l with
        | nil => rw [readG] at h; cases h
        | cons c l => rw [readG, if_pos (by omega)] at h; cases h
      · obtain ⟨n, h1, h2, h3, h4, r, h5⟩ := read_back l (i + 1) _ v k (by omega) h
        have hn0 := h3 (by omega)
        have e : numB (9 - i) (b.toNat - 128 + 128 * n) = b :: numB (9 - (i + 1)) n := by
          rw [show 9 - i = (9 - (i + 1)) + 1 by omega, numB, if_pos (by omega), show (b.toNat - 128 + 128 * n) / 128 = n by omega, show (b.toNat - 128 + 128 * n) % 128 + 128 = b.toNat by omega, UInt8.ofNat_toNat]
        refine ⟨b.toNat - 128 + 128 * n, ?_, ?_, by omega, ?_, r, ?_⟩
        · rw [h1, pow_step, Nat.add_mul, ← Nat.mul_assoc, Nat.mul_comm n 128, Nat.add_assoc]
        · rw [show 9 - i = (9 - (i + 1)) + 1 by omega, pow_step]; omega
        · rw [e, List.length_cons]; omega
        · rw [e, List.cons_append, ← h5]
theorem readN_back {l : Txt} {n k : Nat} (h : readN l = some (n, k)) : n < 18446744073709551616 ∧ (numT n).length = k ∧ ∃ r, l = numT n ++ r := by
  obtain ⟨m, h1, h2, _, h4, r, h5⟩ := read_back l 0 0 n k (by omega) h
  simp only [Nat.pow_zero, Nat.mul_one, Nat.zero_add] at h1 h4
  subst h1
  exact ⟨Nat.lt_of_lt_of_eq h2 pow9, h4, r, h5⟩

/-! ### texts -/
def u64 (n : Int) : Nat := (n % 18446744073709551616).toNat
def i64 (n : Nat) : Int := if n < 9223372036854775808 then n else (n : Int) - 18446744073709551616
def textI (x : Ins) : Txt := UInt8.ofNat x.op :: (
  if x.op = 1 then UInt8.ofNat x.st.kind :: (numT (u64 x.st.num) ++ (numT x.st.text.length ++ x.st.text))
  else if x.op = 2 ∨ x.op = 4 then numT (u64 x.to) else [])
def textL (p : List Ins) : Txt := p.flatMap textI
/-- a cursor over bytes -/
structure Cu where
  left : Txt
  bad : Bool
  deriving DecidableEq, Repr
def Cu.take (c : Cu) (n : Nat) : Txt × Cu := if c.bad = true ∨ c.left.length < n then ([], ⟨c.left, true⟩) else (c.left.take n, ⟨c.left.drop n, false⟩)
def Cu.byte (c : Cu) : UInt8 × Cu := ((c.take 1).1.headD 0, (c.take 1).2)
def Cu.number (c : Cu) : Nat × Cu := match readN c.left with
  | none => (0, ⟨c.left, true⟩)
  | some r => (r.1, (c.take r.2).2)
def insF (c : Cu) : Ins × Cu :=
  if c.byte.1.toNat = 1 then
    let k := c.byte.2.byte
    let n := k.2.number
    let m := n.2.number
    let t := m.2.take m.1
    (⟨1, ⟨k.1.toNat, t.1, i64 n.1⟩, 0⟩, t.2)
  else if c.byte.1.toNat = 2 ∨ c.byte.1.toNat = 4 then
    let n := c.byte.2.number
    (⟨c.byte.1.toNat, stp0, (min n.1 257 : Nat)⟩, n.2)
  else (⟨c.byte.1.toNat, stp0, 0⟩, c.byte.2)
/-- the loop; rounds, what was read -/
def readF : Nat → List Ins → Cu → List Ins × Cu
  | 0, out, c => (out, c)
  | n + 1, out, c => if c.left ≠ [] ∧ c.bad = false then readF n (out ++ [(insF c).1]) (insF c).2 else (out, c)

theorem take_good (a r : Txt) : (⟨a ++ r, false⟩ : Cu).take a.length = (a, ⟨r, false⟩) := by
  unfold Cu.take
  rw [if_neg (by simp), List.take_left, List.drop_left]
theorem byte_good (b : UInt8) (r : Txt) : (⟨b :: r, false⟩ : Cu).byte = (b, ⟨r, false⟩) := by
  unfold Cu.byte
  have := take_good [b] r
  rw [show ([b] ++ r : Txt) = b :: r from rfl, show ([b] : Txt).length = 1 from rfl] at this
  rw [this]
  rfl
theorem number_good {n : Nat} (h : n < 18446744073709551616) (r : Txt) : (⟨numT n ++ r, false⟩ : Cu).number = (n, ⟨r, false⟩) := by
  unfold Cu.number
  simp only [readN_num h r, take_good]
theorem take_bad (l : Txt) (n : Nat) : (⟨l, true⟩ : Cu).take n = ([], ⟨l, true⟩) := by
  unfold Cu.take
  rw [if_pos (.inl rfl)]
theorem byte_bad (l : Txt) : ((⟨l, true⟩ : Cu).byte).2.bad = true := by unfold Cu.byte; rw [take_bad]
theorem number_bad (l : Txt) : ((⟨l, true⟩ : Cu).number).2.bad = true := by
  unfold Cu.number
  split
  · rfl
  · rw [take_bad]
theorem take_ok {c : Cu} {n : Nat} (h : (c.take n).2.bad = false) : c.bad = false ∧ c.left = (c.take n).1 ++ (c.take n).2.left ∧ (c.take n).1.length = n := by
  unfold Cu.take at h ⊢
  split at h
  · cases h
  · rename_i hn
    rw [if_neg hn]
    simp only [not_or, Bool.not_eq_true, Nat.not_lt] at hn
    exact ⟨hn.1, (List.take_append_drop n c.left).symm, by simp only [List.length_take]; omega⟩
theorem byte_ok {c : Cu} (h : c.byte.2.bad = false) : c.bad = false ∧ c.left = c.byte.1 :: c.byte.2.left := by
  obtain ⟨h1, h2, h3⟩ := take_ok (n := 1) h
  refine ⟨h1, ?_⟩
  unfold Cu.byte
  match e : (c.take 1).1, h3 with
  | [b], _ =>
    rw [e] at h2
    exact h2
theorem number_ok {c : Cu} (h : c.number.2.bad = false) : c.bad = false ∧ c.left = numT c.number.1 ++ c.number.2.left ∧ c.number.1 < 18446744073709551616 := by
  unfold Cu.number at h ⊢
  cases hr : readN c.left with
  | none => rw [hr] at h; cases h
  | some r =>
    rw [hr] at h
    simp only at h ⊢
    obtain ⟨n, k⟩ := r
    obtain ⟨h1, h2, r', h3⟩ := readN_back hr
    obtain ⟨g1, g2, g3⟩ := take_ok h
    refine ⟨g1, ?_, h1⟩
    simp only at g2 g3 ⊢
    have : (c.take k).1 = numT n := by
      rw [g2] at h3
      exact (List.append_inj h3 (by rw [g3]; exact h2.symm)).1
    rw [← this]
    exact g2

/-- an instruction that a right program may have -/
structure InsOk (x : Ins) : Prop where
  op : x.op = 1 ∨ x.op = 2 ∨ x.op = 3 ∨ x.op = 4 ∨ x.op = 5
  step : x.op = 1 → x.to = 0 ∧ x.st.kind < 23 ∧ 0 ≤ x.st.num ∧ ∃ k, takes x.st = some k
  jump : x.op = 2 ∨ x.op = 4 → x.st = stp0 ∧ 0 < x.to ∧ x.to ≤ 256
  bare : x.op = 3 ∨ x.op = 5 → x.st = stp0 ∧ x.to = 0
theorem takes_num {s : Stp} {k : Nat} (h : takes s = some k) : 0 ≤ s.num := by
  unfold takes at h
  repeat' split at h
  all_goals first | (cases h; done) | omega
theorem stepK_ok {N i : Nat} {x : Ins} {hs hs' : Hts} (hN : N ≤ 256) (h : stepK N i x hs = some hs') : InsOk x := by
  unfold stepK at h
  split at h
  · cases h
  · split at h
    · rename_i h1
      split at h
      · cases h
      · rename_i k ht
        split at h
        · rename_i hc
          exact ⟨.inl h1, fun _ => ⟨hc.2.1, (takes_kind ht).2, takes_num ht, k, ht⟩, fun h' => by omega, fun h' => by omega⟩
        · cases h
    · split at h
      · rename_i h1 h2
        split at h
        · rename_i h3
          cases hc : hs.come x.to.toNat _ with
          | none => rw [hc] at h; cases h
          | some h4 =>
            rw [hc, Option.bind_some] at h
            split at h
            · rename_i h5
              exact ⟨by omega, fun h' => by omega, fun _ => ⟨h5.1, by omega, by omega⟩, fun h' => by omega⟩
            · cases h
        · cases h
      · split at h
        · rename_i h1 h2 h3
          split at h
          · rename_i h4
            exact ⟨by omega, fun h' => by omega, fun h' => by omega, fun _ => ⟨h4.1, h4.2.1⟩⟩
          · cases h
        · split at h
          · rename_i h1 h2 h3 h4
            split at h
            · rename_i h5
              exact ⟨by omega, fun h' => by omega, fun h' => by omega, fun _ => ⟨h5.1, h5.2.1⟩⟩
            · cases h
          · cases h
theorem runK_ok {N : Nat} (hN : N ≤ 256) : ∀ (p : List Ins) (i : Nat) (hs hs' : Hts), runK N i p hs = some hs' → ∀ x ∈ p, InsOk x
  | [], _, _, _, _ => fun _ h => (nomatch h)
  | y :: p, i, hs, hs', h => by
    rw [runK] at h
    cases hc : stepK N i y hs with
    | none => rw [hc] at h; cases h
    | some h1 =>
      rw [hc, Option.bind_some] at h
      intro x hx
      rcases List.mem_cons.1 hx with rfl | hx
      · exact stepK_ok hN hc
      · exact runK_ok hN p _ _ _ h x hx
theorem check_ok {p : List Ins} (h : checkI p = true) : (∀ x ∈ p, InsOk x) ∧ 1 ≤ p.length ∧ p.length ≤ 256 := by
  unfold checkI at h
  rw [Bool.and_eq_true, decide_eq_true_eq] at h
  refine ⟨?_, h.1⟩
  cases hr : runK p.length 0 p hs0 with
  | none => rw [hr] at h; cases h.2
  | some hs => exact runK_ok h.1.2 p 0 _ _ hr
theorem i64_small {n : Nat} (h : n < 9223372036854775808) : i64 n = n := by unfold i64; rw [if_pos h]
theorem u64_small {n : Int} (h0 : 0 ≤ n) (h : n < 9223372036854775808) : u64 n = n.toNat := by unfold u64; rw [Int.emod_eq_of_lt h0 (by omega)]
/-- an instruction's bytes are read as it -/
theorem ins_back {x : Ins} (h : InsOk x) (hn : x.st.num < 9223372036854775808) (ht : x.st.text.length < 9223372036854775808) (r : Txt) : insF ⟨textI x ++ r, false⟩ = (x, ⟨r, false⟩) := by
  obtain ⟨op, st, to⟩ := x
  obtain ⟨kind, text, num⟩ := st
  have hop := h.op
  simp only at hop hn ht
  have e : textI ⟨op, ⟨kind, text, num⟩, to⟩ = UInt8.ofNat op :: (if op = 1 then UInt8.ofNat kind :: (numT (u64 num) ++ (numT text.length ++ text)) else if op = 2 ∨ op = 4 then numT (u64 to) else []) := rfl
  rw [e, List.cons_append]
  unfold insF
  rw [byte_good]
  simp only
  rw [byte_toNat (by omega)]
  by_cases h1 : op = 1
  · obtain ⟨g1, g2, g3, _⟩ := h.step h1
    simp only at g1 g2 g3
    rw [if_pos h1, if_pos h1, List.cons_append, byte_good]
    simp only
    rw [List.append_assoc, List.append_assoc, number_good (by rw [u64_small g3 hn]; omega), number_good (by omega), take_good, u64_small g3 hn, byte_toNat (by omega), i64_small (by omega), Int.toNat_of_nonneg g3, g1, h1]
  · rw [if_neg h1, if_neg h1]
    by_cases h2 : op = 2 ∨ op = 4
    · obtain ⟨g1, g2, g3⟩ := h.jump h2
      simp only at g1 g2 g3
      rw [if_pos h2, if_pos h2, number_good (by rw [u64_small (by omega) (by omega)]; omega), u64_small (by omega) (by omega), g1]
      simp only [Prod.mk.injEq, Ins.mk.injEq, true_and, and_true]
      omega
    · obtain ⟨g1, g2⟩ := h.bare (by simp only; omega)
      simp only at g1 g2
      rw [if_neg h2, if_neg h2, g1, g2]
      rfl
theorem text_pos (x : Ins) : 1 ≤ (textI x).length := by unfold textI; simp
theorem read_text : ∀ (p : List Ins) (n : Nat) (out : List Ins), (∀ x ∈ p, InsOk x) → (∀ x ∈ p, x.st.num < 9223372036854775808 ∧ x.st.text.length < 9223372036854775808) → p.length ≤ n → readF n out ⟨textL p, false⟩ = (out ++ p, ⟨[], false⟩)
  | [], n, out, _, _, _ => by
    have : textL [] = [] := rfl
    rw [this]
    cases n with
    | zero => rw [readF]; simp
    | succ n => rw [readF, if_neg (by simp)]; simp
  | x :: p, n, out, h, hs, hn => by
    cases n with
    | zero => simp at hn
    | succ n =>
      have e : textL (x :: p) = textI x ++ textL p := rfl
      have hp := text_pos x
      rw [readF, if_pos ⟨by rw [e]; intro h0; have := congrArg List.length h0; simp at this; rw [this.1] at hp; simp at hp, rfl⟩, e, ins_back (h x (by simp)) (hs x (by simp)).1 (hs x (by simp)).2]
      simp only
      rw [read_text p n _ (fun y hy => h y (by simp [hy])) (fun y hy => hs y (by simp [hy])) (by simpa using hn), List.append_assoc]
      rfl

/-- what is read well, behind one round -/
theorem ins_read {c : Cu} (h : (insF c).2.bad = false) (hx : InsOk (insF c).1) : c.bad = false ∧ c.left = textI (insF c).1 ++ (insF c).2.left := by
  unfold insF at h hx ⊢
  by_cases h1 : c.byte.1.toNat = 1
  · rw [if_pos h1] at h hx ⊢
    simp only at h hx ⊢
    obtain ⟨a1, a2, a3⟩ := take_ok h
    obtain ⟨b1, b2, b3⟩ := number_ok a1
    obtain ⟨c1, c2, c3⟩ := number_ok b1
    obtain ⟨d1, d2⟩ := byte_ok c1
    obtain ⟨e1, e2⟩ := byte_ok d1
    refine ⟨e1, ?_⟩
    have hnum := (hx.step rfl).2.2.1
    simp only at hnum
    have hs : i64 c.byte.2.byte.2.number.1 = c.byte.2.byte.2.number.1 := by
      unfold i64 at hnum ⊢
      split
      · rfl
      · rename_i hbig
        rw [if_neg hbig] at hnum
        omega
    have hu : u64 (i64 c.byte.2.byte.2.number.1) = c.byte.2.byte.2.number.1 := by
      rw [hs, u64_small (by omega)]
      · simp
      · unfold i64 at hs
        split at hs <;> omega
    show c.left = (UInt8.ofNat 1 :: (if (1 : Nat) = 1 then _ else _)) ++ _
    rw [if_pos rfl]
    simp only
    rw [hu, UInt8.ofNat_toNat, a3]
    rw [e2, d2, c2, b2, a2]
    rw [show c.byte.1 = UInt8.ofNat 1 by rw [← h1, UInt8.ofNat_toNat]]
    simp
  · rw [if_neg h1] at h hx ⊢
    by_cases h2 : c.byte.1.toNat = 2 ∨ c.byte.1.toNat = 4
    · rw [if_pos h2] at h hx ⊢
      simp only at h hx ⊢
      obtain ⟨b1, b2, b3⟩ := number_ok h
      obtain ⟨e1, e2⟩ := byte_ok b1
      refine ⟨e1, ?_⟩
      have hto := hx.jump h2
      simp only at hto
      have hm : min c.byte.2.number.1 257 = c.byte.2.number.1 := by omega
      show c.left = (UInt8.ofNat c.byte.1.toNat :: (if c.byte.1.toNat = 1 then _ else if c.byte.1.toNat = 2 ∨ c.byte.1.toNat = 4 then numT (u64 (min c.byte.2.number.1 257 : Nat)) else [])) ++ _
      rw [if_neg h1, if_pos h2, hm, u64_small (by omega) (by omega), Int.toNat_natCast, UInt8.ofNat_toNat, List.cons_append, ← b2]
      exact e2
    · rw [if_neg h2] at h hx ⊢
      simp only at h hx ⊢
      obtain ⟨e1, e2⟩ := byte_ok h
      refine ⟨e1, ?_⟩
      show c.left = (UInt8.ofNat c.byte.1.toNat :: (if c.byte.1.toNat = 1 then _ else if c.byte.1.toNat = 2 ∨ c.byte.1.toNat = 4 then _ else [])) ++ _
      rw [if_neg h1, if_neg h2, UInt8.ofNat_toNat]
      exact e2
theorem readF_bad : ∀ (n : Nat) (out : List Ins) (c : Cu), c.bad = true → readF n out c = (out, c)
  | 0, _, _, _ => rfl
  | n + 1, out, c, h => by rw [readF, if_neg (by rw [h]; simp)]
theorem readF_mem : ∀ (n : Nat) (out : List Ins) (c : Cu), ∃ q, (readF n out c).1 = out ++ q
  | 0, out, _ => ⟨[], (List.append_nil _).symm⟩
  | n + 1, out, c => by
    rw [readF]
    split
    · obtain ⟨q, e⟩ := readF_mem n (out ++ [(insF c).1]) (insF c).2
      exact ⟨[(insF c).1] ++ q, by rw [e, List.append_assoc]⟩
    · exact ⟨[], (List.append_nil _).symm⟩
theorem ins_short (c : Cu) : (insF c).2.bad = true ∨ (insF c).2.left.length < c.left.length := by
  cases hbad : (insF c).2.bad with
  | true => exact .inl rfl
  | false =>
    right
    unfold insF at hbad ⊢
    by_cases h1 : c.byte.1.toNat = 1
    · rw [if_pos h1] at hbad ⊢
      simp only at hbad ⊢
      obtain ⟨a1, a2, a3⟩ := take_ok hbad
      obtain ⟨b1, b2, b3⟩ := number_ok a1
      obtain ⟨c1, c2, c3⟩ := number_ok b1
      obtain ⟨d1, d2⟩ := byte_ok c1
      obtain ⟨e1, e2⟩ := byte_ok d1
      have f1 := congrArg List.length e2
      have f2 := congrArg List.length d2
      have f3 := congrArg List.length c2
      have f4 := congrArg List.length b2
      have f5 := congrArg List.length a2
      simp only [List.length_cons, List.length_append] at f1 f2 f3 f4 f5
      omega
    · rw [if_neg h1] at hbad ⊢
      by_cases h2 : c.byte.1.toNat = 2 ∨ c.byte.1.toNat = 4
      · rw [if_pos h2] at hbad ⊢
        simp only at hbad ⊢
        obtain ⟨b1, b2, b3⟩ := number_ok hbad
        obtain ⟨e1, e2⟩ := byte_ok b1
        have f1 := congrArg List.length e2
        have f4 := congrArg List.length b2
        simp only [List.length_cons, List.length_append] at f1 f4
        omega
      · rw [if_neg h2] at hbad ⊢
        simp only at hbad ⊢
        obtain ⟨e1, e2⟩ := byte_ok hbad
        have f1 := congrArg List.length e2
        simp only [List.length_cons] at f1
        omega
/-- what is read well has the text that was read -/
theorem text_read : ∀ (n : Nat) (out : List Ins) (c : Cu), c.left.length ≤ n → c.left.length < 9223372036854775808 → (readF n out c).2.bad = false → (∀ x ∈ (readF n out c).1, InsOk x) → c.bad = false ∧ (readF n out c).2.left = [] ∧ ∃ q, (readF n out c).1 = out ++ q ∧ textL q = c.left
  | 0, out, c, hn, _, hb, _ => by
    have : c.left = [] := List.eq_nil_of_length_eq_zero (by omega)
    rw [readF] at hb ⊢
    exact ⟨hb, this, [], (List.append_nil _).symm, this.symm⟩
  | n + 1, out, c, hn, hl, hb, hx => by
    rw [readF] at hb hx ⊢
    split
    · rename_i hc
      rw [if_pos hc] at hb hx
      rcases ins_short c with hbad | hlt
      · rw [readF_bad n _ _ hbad, hbad] at hb
        cases hb
      · obtain ⟨h1, h2, q, h3, h4⟩ := text_read n _ _ (by omega) (by omega) hb hx
        rw [h3, List.append_assoc] at hx
        have hok := hx (insF c).1 (by simp)
        obtain ⟨_, g2⟩ := ins_read h1 hok
        refine ⟨hc.2, h2, [(insF c).1] ++ q, by rw [h3, List.append_assoc], ?_⟩
        rw [g2, ← h4]
        rfl
    · rename_i hc
      rw [if_neg hc] at hb
      have : c.left = [] := by
        rcases Classical.em (c.left = []) with h | h
        · exact h
        · exact absurd ⟨h, hb⟩ hc
      exact ⟨hb, this, [], (List.append_nil _).symm, this.symm⟩

end Go.Proofs.YtgehjklodphogaaGreatDoor.Cd
