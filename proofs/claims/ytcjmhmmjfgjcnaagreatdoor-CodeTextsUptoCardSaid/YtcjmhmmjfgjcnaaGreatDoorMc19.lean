/- Parts: RaJ RaK RaKa RaKb RaKc RaKz RaL. -/
import Derived.Test.YtcjmhmmjfgjcnaaGreatDoorMc13
import Derived.Test.YtcjmhmmjfgjcnaaGreatDoorMc18
import Derived.Lib.ItoaMem

/- codicilref09: Number, Quoted, Show of a word; codicilref10: Name, number. -/
namespace Go.Proofs.YtcjmhmmjfgjcnaaGreatDoor.Rf
open Go.RowKit Go.Proofs.YtcjmhmmjfgjcnaaGreatDoor.Lx Go.Proofs.YtcjmhmmjfgjcnaaGreatDoor.Pa

/-! ### Number -/
def NumTo (n : Nat) (m : Nat) (t : Txt) : Prop := if t = [] then m = n else if m = 0 then t = Lib.decDigits n else Lib.decDigits n = Lib.decDigits m ++ t
theorem NumTo.start (n : Nat) : NumTo n n [] := by unfold NumTo; rw [if_pos rfl]
theorem NumTo.step {n m : Nat} {t : Txt} (h : NumTo n m t) (hc : t = [] ∨ 0 < m) : NumTo n (m / 10) (UInt8.ofNat (48 + m % 10) :: t) := by
  unfold NumTo at h ⊢
  rw [if_neg (by simp)]
  have hd : Lib.decDigits m = if m / 10 = 0 then [UInt8.ofNat (48 + m % 10)] else Lib.decDigits (m / 10) ++ [UInt8.ofNat (48 + m % 10)] := by
    rw [Lib.decDigits]
    by_cases h10 : m < 10
    · rw [dif_pos h10, if_pos (by omega), Nat.mod_eq_of_lt h10]
    · rw [dif_neg h10, if_neg (by omega)]
  by_cases ht : t = []
  · rw [if_pos ht] at h
    subst h ht
    by_cases h0 : m / 10 = 0
    · rw [if_pos h0, hd, if_pos h0]
    · rw [if_neg h0, hd, if_neg h0]
  · have hm : m ≠ 0 := by
      rcases hc with hc | hc
      · exact absurd hc ht
      · omega
    rw [if_neg ht, if_neg hm] at h
    by_cases h0 : m / 10 = 0
    · rw [if_pos h0, h, hd, if_pos h0]; rfl
    · rw [if_neg h0, h, hd, if_neg h0, List.append_assoc]; rfl
theorem NumTo.end_ {n : Nat} {t : Txt} (h : NumTo n 0 t) (ht : t ≠ []) : t = Lib.decDigits n := by
  unfold NumTo at h
  rw [if_neg ht, if_pos rfl] at h
  exact h
theorem digit_cut (d : Nat) (h : d < 10) : (⟨#[48, 49, 50, 51, 52, 53, 54, 55, 56, 57]⟩ : ByteArray).extract d (d + 1) = ⟨[UInt8.ofNat (48 + d)].toArray⟩ := by
  have : ∀ d : Fin 10, (⟨#[48, 49, 50, 51, 52, 53, 54, 55, 56, 57]⟩ : ByteArray).extract d.val (d.val + 1) = ⟨[UInt8.ofNat (48 + d.val)].toArray⟩ := by decide +kernel
  exact this ⟨d, h⟩

set_option maxHeartbeats 1000000 in
set_option maxRecDepth 100000 in
theorem NumberI_calls (n : Nat) (hn : n ≤ 9223372036854775807) (w : World) :
    Calls Tryz.prog 104 #[.int .i64 n] w fun e w' => e = .returned (.string ⟨(Lib.itoa n).toArray⟩) ∧ w = w' := by
  rw [Lib.itoa_nonneg]
  go_enter Tryz.func104, Tryz.ntmps104
  go_wp2_with fail
  go_loop [0, 3] (fun s0 s3 => ∃ (m : Nat) (t : Txt), s0 = .int .i64 m ∧ s3 = .string ⟨t.toArray⟩ ∧ m ≤ 9223372036854775807 ∧ Hid (m * 10 ^ t.length ≤ 9223372036854775807) ∧ Hid (NumTo n m t)) (fun s0 s3 => (intOf s0).toNat + (match s3 with | .string b => if b.size = 0 then 1 else 0 | _ => 0))
  case atStart => exact ⟨n, [], rfl, rfl, hn, Lib.hid (by simpa using hn), Lib.hid (NumTo.start n)⟩
  case round =>
    obtain ⟨m, t, rfl, rfl, hm, hl, hr⟩ := hrel
    have hd := digit_cut (m % 10) (Nat.mod_lt _ (by decide))
    have Hnx := Lib.hid (fun hc => hr.out.step hc)
    generalize UInt8.ofNat (48 + m % 10) = dg at hd Hnx
    have Hl := Lib.hid (show (m / 10) * 10 ^ (dg :: t).length ≤ 9223372036854775807 by
      have h1 := hl.out
      rw [List.length_cons, Nat.pow_succ, ← Nat.mul_assoc, Nat.mul_right_comm]
      have h2 : m / 10 * 10 ≤ m := Nat.div_mul_le_self m 10
      exact Nat.le_trans (Nat.mul_le_mul_right _ h2) h1)
    by_cases ht : t = []
    · subst ht
      have HR := Lib.hid (Hnx.out (.inl rfl))
      have Hcat := Lib.hid (show (⟨[dg].toArray⟩ : ByteArray) ++ (⟨([] : Txt).toArray⟩ : ByteArray) = ⟨[dg].toArray⟩ by apply ByteArray.ext; simp)
      clear hr hl Hnx
      go_wp2_with fail
      refine ⟨⟨m / 10, [dg], by rw [Int.natCast_ediv]; rfl, congrArg Value.string Hcat.out, by omega, Hl, HR⟩, ?_⟩
      have e : ((⟨#[dg]⟩ : ByteArray) ++ (⟨#[]⟩ : ByteArray)).size = 1 := by rw [ByteArray.size_append]; rfl
      have e0 : (⟨#[]⟩ : ByteArray).size = 0 := rfl
      simp only [e, e0, intOf, Nat.one_ne_zero, if_false, if_true]
      omega
    · have hne : (t == []) = false := beq_eq_false_iff_ne.2 ht
      by_cases hm0 : 0 < m
      · have HR := Lib.hid (Hnx.out (.inr hm0))
        have Hcat := Lib.hid (show (⟨[dg].toArray⟩ : ByteArray) ++ (⟨t.toArray⟩ : ByteArray) = ⟨(dg :: t).toArray⟩ by apply ByteArray.ext; simp)
        have hlen : t.length ≤ 18 := by
          have h1 := hl.out
          rcases Nat.lt_or_ge 18 t.length with h | h
          · exfalso
            have h2 : 10 ^ 19 ≤ 10 ^ t.length := Nat.pow_le_pow_right (by decide) h
            have h3 : 1 * 10 ^ t.length ≤ m * 10 ^ t.length := Nat.mul_le_mul_right _ hm0
            have h4 : (10 : Nat) ^ 19 = 10000000000000000000 := by decide
            omega
          · exact h
        clear hr hl Hnx
        go_wp2_with fail
        refine ⟨⟨m / 10, dg :: t, by rw [Int.natCast_ediv]; rfl, congrArg Value.string Hcat.out, by omega, Hl, HR⟩, ?_⟩
        have e : ((⟨#[dg]⟩ : ByteArray) ++ (⟨t.toArray⟩ : ByteArray)).size = t.length + 1 := by rw [ByteArray.size_append, size_mk]; show 1 + t.length = _; omega
        have e0 : (⟨t.toArray⟩ : ByteArray).size = t.length := size_mk t
        simp only [e, e0, intOf]
        rw [if_neg (by omega), if_neg (by intro h; exact ht (List.eq_nil_of_length_eq_zero h))]
        omega
      · obtain rfl : m = 0 := by omega
        have HR := Lib.hid (hr.out.end_ ht)
        clear hr hl Hnx
        go_wp2_with fail
        go_ret
        exact ⟨by rw [HR.out]; rfl, rfl⟩

/-! ### Quoted -/
end Go.Proofs.YtcjmhmmjfgjcnaaGreatDoor.Rf

/- codicilref09: Show of a word; codicilref10: Name, number. -/
namespace Go.Proofs.YtcjmhmmjfgjcnaaGreatDoor.Rf
open Go.RowKit Go.Proofs.YtcjmhmmjfgjcnaaGreatDoor.Lx Go.Proofs.YtcjmhmmjfgjcnaaGreatDoor.Pa

theorem tok_cells {w : World} {base : Nat} {v : Value} {t : Tok} (h : w.ownsRow base 41 4 v 1 (toksC [t])) : ∃ g c, v = .slice (some ⟨g, 0, none⟩) 1 c ∧
    w.cell? ⟨g, 0, none⟩ = some (.int .u8 t.kind) ∧ w.cell? ⟨g, 1, none⟩ = some (.string ⟨t.text.toArray⟩) ∧ w.cell? ⟨g, 2, none⟩ = some (.int .i64 t.num) ∧ w.cell? ⟨g, 3, none⟩ = some (.int .i64 t.pos) ∧ 1 ≤ c ∧ g < w.heap.size := by
  rcases h.2 with ⟨rfl, h0⟩ | ⟨g, cap, cur, e, _, h2, h3, _⟩
  · cases h0
  · subst e
    refine ⟨g, cap, rfl, ?_, ?_, ?_, ?_, h3, rLt h2⟩
    · exact World.ownsRow.cellAt h 0 (by omega)
    · exact World.ownsRow.cellAt h 1 (by omega)
    · exact World.ownsRow.cellAt h 2 (by omega)
    · exact World.ownsRow.cellAt h 3 (by omega)

theorem lexS_codes : ∀ (k a : Nat) (l : Txt) {c p : Nat}, l.length ≤ k → lexS a l = .err c p → ((c : Int) != 0) = true
  | k, a, l, c, p, hk, h => by
    cases hd : l.drop (Lx.runN blankB l) with
    | nil => rw [lexS_blank hd] at h; cases h
    | cons x r =>
      cases hn : nextR (x :: r) with
      | err e =>
        rw [lexS_err hd hn] at h
        simp only [Lx.err.injEq] at h
        rw [← h.1]
        exact nextR_err hn
      | ok t n =>
        rw [lexS_ok hd hn] at h
        have hle := nextR_le hn
        have hdl : (l.drop (Lx.runN blankB l)).length ≤ l.length := by rw [List.length_drop]; omega
        rw [hd] at hdl
        cases hy : lexS (a + Lx.runN blankB l + n) ((x :: r).drop n) with
        | ok y => rw [hy] at h; cases h
        | err e q =>
          rw [hy] at h
          simp only [Lx.cons, Lx.err.injEq] at h
          rw [← h.1]
          match k, hk with
          | 0, hk => simp at hdl; omega
          | k + 1, hk => exact lexS_codes k _ _ (by rw [List.length_drop]; omega) hy
theorem lexL_codes {l : Txt} {c p : Nat} (h : lexL l = .err c p) : ((c : Int) != 0) = true := by
  by_cases hl : 16384 < l.length
  · unfold lexL at h
    rw [if_pos hl] at h
    simp only [Lx.err.injEq] at h
    rw [← h.1]; rfl
  · rw [lexL_small (by omega)] at h
    exact lexS_codes _ _ _ (Nat.le_refl _) h

def showV (s : ByteArray) (b : Bool) : Value := if b then .tuple #[.string s, .int .i64 0] else .tuple #[.string ⟨#[]⟩, .int .i64 13]

end Go.Proofs.YtcjmhmmjfgjcnaaGreatDoor.Rf

/- codicilref09: Show of a word: ways. -/
namespace Go.Proofs.YtcjmhmmjfgjcnaaGreatDoor.Rf
open Go.RowKit Go.Proofs.YtcjmhmmjfgjcnaaGreatDoor.Lx Go.Proofs.YtcjmhmmjfgjcnaaGreatDoor.Pa

set_option maxHeartbeats 2000000 in
set_option maxRecDepth 100000 in
theorem ShowW_err (s : ByteArray) (w : World) (c a : Nat) (Hl : Hid (∀ W, Calls Tryz.prog 145 #[.string s] W (LexPost W (.err c a)))) (hv : ((c : Int) != 0) = true) :
    Calls Tryz.prog 116 #[.agg #[.int .u8 1, .string s, .int .i64 0, .int .i64 0]] w fun e w' => e = .returned (showV s false) ∧ Below w.heap.size w w' := by
  have Hbox := Lib.hid (rAlloc w (.cells #[.int .u8 1, .string s, .int .i64 0, .int .i64 0] 41))
  go_enter Tryz.func116, Tryz.ntmps116
  go_wp2_with fail
  refine (Hl.out _).mono ?_
  rintro e w1 ⟨rfl, hb1⟩
  have Hb1 := Lib.hid (rStep Hbox.out hb1)
  clear hb1
  go_wp2_with fail
  go_region
  go_wp2_with fail
  go_ret2
  exact ⟨rfl, Below.drew Hb1.out⟩

set_option maxHeartbeats 2000000 in
set_option maxRecDepth 100000 in
theorem ShowW_yes (s : ByteArray) (w : World) (Hl : Hid (∀ W, Calls Tryz.prog 145 #[.string s] W (LexPost W (.ok [⟨1, L s, 0, 0⟩])))) :
    Calls Tryz.prog 116 #[.agg #[.int .u8 1, .string s, .int .i64 0, .int .i64 0]] w fun e w' => e = .returned (showV s true) ∧ Below w.heap.size w w' := by
  have Hbox := Lib.hid (rAlloc w (.cells #[.int .u8 1, .string s, .int .i64 0, .int .i64 0] 41))
  have hbx := heap_alloc_new w (.cells #[.int .u8 1, .string s, .int .i64 0, .int .i64 0] 41)
  have hzx : w.heap.size < (w.alloc (.cells #[.int .u8 1, .string s, .int .i64 0, .int .i64 0] 41)).heap.size := by simp
  go_enter Tryz.func116, Tryz.ntmps116
  go_wp2_with fail
  generalize w.alloc (.cells #[.int .u8 1, .string s, .int .i64 0, .int .i64 0] 41) = W at *
  refine (Hl.out _).mono ?_
  rintro e w1 ⟨⟨v, rfl, hown⟩, hb1⟩
  obtain ⟨⟨k0, k1, k2, k3⟩, -⟩ := four ((hb1.block _ hzx).trans hbx)
  have Hb1 := Lib.hid (rStep Hbox.out hb1)
  obtain ⟨g, c, rfl, m0, m1, m2, m3, hc, hg⟩ := tok_cells hown
  simp only at m0 m1 m2 m3
  clear hown hb1 hbx
  rw [mk_L] at m1
  go_wp2_with fail
  go_region
  go_wp2_with fail
  go_ret2
  exact ⟨rfl, Below.drew Hb1.out⟩

end Go.Proofs.YtcjmhmmjfgjcnaaGreatDoor.Rf

/- codicilref09: Show of a word: ways. -/
namespace Go.Proofs.YtcjmhmmjfgjcnaaGreatDoor.Rf
open Go.RowKit Go.Proofs.YtcjmhmmjfgjcnaaGreatDoor.Lx Go.Proofs.YtcjmhmmjfgjcnaaGreatDoor.Pa

set_option maxHeartbeats 2000000 in
set_option maxRecDepth 100000 in
theorem ShowW_pos (s : ByteArray) (w : World) (p : Nat) (ep : ((p : Int) != 0) = true) (Hl : Hid (∀ W, Calls Tryz.prog 145 #[.string s] W (LexPost W (.ok [⟨1, L s, 0, p⟩])))) :
    Calls Tryz.prog 116 #[.agg #[.int .u8 1, .string s, .int .i64 0, .int .i64 0]] w fun e w' => e = .returned (showV s false) ∧ Below w.heap.size w w' := by
  have Hbox := Lib.hid (rAlloc w (.cells #[.int .u8 1, .string s, .int .i64 0, .int .i64 0] 41))
  have hbx := heap_alloc_new w (.cells #[.int .u8 1, .string s, .int .i64 0, .int .i64 0] 41)
  have hzx : w.heap.size < (w.alloc (.cells #[.int .u8 1, .string s, .int .i64 0, .int .i64 0] 41)).heap.size := by simp
  go_enter Tryz.func116, Tryz.ntmps116
  go_wp2_with fail
  generalize w.alloc (.cells #[.int .u8 1, .string s, .int .i64 0, .int .i64 0] 41) = W at *
  refine (Hl.out _).mono ?_
  rintro e w1 ⟨⟨v, rfl, hown⟩, hb1⟩
  obtain ⟨⟨k0, k1, k2, k3⟩, -⟩ := four ((hb1.block _ hzx).trans hbx)
  have Hb1 := Lib.hid (rStep Hbox.out hb1)
  obtain ⟨g, c, rfl, m0, m1, m2, m3, hc, hg⟩ := tok_cells hown
  simp only at m0 m1 m2 m3
  clear hown hb1 hbx
  rw [mk_L] at m1
  go_wp2_with fail
  go_region
  go_wp2_with fail
  go_ret2
  exact ⟨rfl, Below.drew Hb1.out⟩

set_option maxHeartbeats 2000000 in
set_option maxRecDepth 100000 in
theorem ShowW_num (s : ByteArray) (w : World) (n : Int) (p : Nat) (en : (n != 0) = true) (Hl : Hid (∀ W, Calls Tryz.prog 145 #[.string s] W (LexPost W (.ok [⟨1, L s, n, p⟩])))) :
    Calls Tryz.prog 116 #[.agg #[.int .u8 1, .string s, .int .i64 0, .int .i64 0]] w fun e w' => e = .returned (showV s false) ∧ Below w.heap.size w w' := by
  have Hbox := Lib.hid (rAlloc w (.cells #[.int .u8 1, .string s, .int .i64 0, .int .i64 0] 41))
  have hbx := heap_alloc_new w (.cells #[.int .u8 1, .string s, .int .i64 0, .int .i64 0] 41)
  have hzx : w.heap.size < (w.alloc (.cells #[.int .u8 1, .string s, .int .i64 0, .int .i64 0] 41)).heap.size := by simp
  go_enter Tryz.func116, Tryz.ntmps116
  go_wp2_with fail
  generalize w.alloc (.cells #[.int .u8 1, .string s, .int .i64 0, .int .i64 0] 41) = W at *
  refine (Hl.out _).mono ?_
  rintro e w1 ⟨⟨v, rfl, hown⟩, hb1⟩
  obtain ⟨⟨k0, k1, k2, k3⟩, -⟩ := four ((hb1.block _ hzx).trans hbx)
  have Hb1 := Lib.hid (rStep Hbox.out hb1)
  obtain ⟨g, c, rfl, m0, m1, m2, m3, hc, hg⟩ := tok_cells hown
  simp only at m0 m1 m2 m3
  clear hown hb1 hbx
  rw [mk_L] at m1
  go_wp2_with fail
  go_region
  go_wp2_with fail
  go_ret2
  exact ⟨rfl, Below.drew Hb1.out⟩

end Go.Proofs.YtcjmhmmjfgjcnaaGreatDoor.Rf

/- codicilref09: Show of a word: ways. -/
namespace Go.Proofs.YtcjmhmmjfgjcnaaGreatDoor.Rf
open Go.RowKit Go.Proofs.YtcjmhmmjfgjcnaaGreatDoor.Lx Go.Proofs.YtcjmhmmjfgjcnaaGreatDoor.Pa

set_option maxHeartbeats 2000000 in
set_option maxRecDepth 100000 in
theorem ShowW_text (s : ByteArray) (w : World) (x : Txt) (n : Int) (p : Nat) (et : (x == s.toList) = false) (_ : (x != s.toList) = true) (Hl : Hid (∀ W, Calls Tryz.prog 145 #[.string s] W (LexPost W (.ok [⟨1, x, n, p⟩])))) :
    Calls Tryz.prog 116 #[.agg #[.int .u8 1, .string s, .int .i64 0, .int .i64 0]] w fun e w' => e = .returned (showV s false) ∧ Below w.heap.size w w' := by
  have Hbox := Lib.hid (rAlloc w (.cells #[.int .u8 1, .string s, .int .i64 0, .int .i64 0] 41))
  have hbx := heap_alloc_new w (.cells #[.int .u8 1, .string s, .int .i64 0, .int .i64 0] 41)
  have hzx : w.heap.size < (w.alloc (.cells #[.int .u8 1, .string s, .int .i64 0, .int .i64 0] 41)).heap.size := by simp
  go_enter Tryz.func116, Tryz.ntmps116
  go_wp2_with fail
  generalize w.alloc (.cells #[.int .u8 1, .string s, .int .i64 0, .int .i64 0] 41) = W at *
  refine (Hl.out _).mono ?_
  rintro e w1 ⟨⟨v, rfl, hown⟩, hb1⟩
  obtain ⟨⟨k0, k1, k2, k3⟩, -⟩ := four ((hb1.block _ hzx).trans hbx)
  have Hb1 := Lib.hid (rStep Hbox.out hb1)
  obtain ⟨g, c, rfl, m0, m1, m2, m3, hc, hg⟩ := tok_cells hown
  simp only at m0 m1 m2 m3
  clear hown hb1 hbx
  go_wp2_with fail
  go_region
  go_wp2_with fail
  go_ret2
  exact ⟨rfl, Below.drew Hb1.out⟩

set_option maxHeartbeats 2000000 in
set_option maxRecDepth 100000 in
theorem ShowW_kind (s : ByteArray) (w : World) (k : Nat) (x : Txt) (n : Int) (p : Nat) (ek : ((k : Int) != 1) = true) (Hl : Hid (∀ W, Calls Tryz.prog 145 #[.string s] W (LexPost W (.ok [⟨k, x, n, p⟩])))) :
    Calls Tryz.prog 116 #[.agg #[.int .u8 1, .string s, .int .i64 0, .int .i64 0]] w fun e w' => e = .returned (showV s false) ∧ Below w.heap.size w w' := by
  have Hbox := Lib.hid (rAlloc w (.cells #[.int .u8 1, .string s, .int .i64 0, .int .i64 0] 41))
  have hbx := heap_alloc_new w (.cells #[.int .u8 1, .string s, .int .i64 0, .int .i64 0] 41)
  have hzx : w.heap.size < (w.alloc (.cells #[.int .u8 1, .string s, .int .i64 0, .int .i64 0] 41)).heap.size := by simp
  go_enter Tryz.func116, Tryz.ntmps116
  go_wp2_with fail
  generalize w.alloc (.cells #[.int .u8 1, .string s, .int .i64 0, .int .i64 0] 41) = W at *
  refine (Hl.out _).mono ?_
  rintro e w1 ⟨⟨v, rfl, hown⟩, hb1⟩
  obtain ⟨⟨k0, k1, k2, k3⟩, -⟩ := four ((hb1.block _ hzx).trans hbx)
  have Hb1 := Lib.hid (rStep Hbox.out hb1)
  obtain ⟨g, c, rfl, m0, m1, m2, m3, hc, hg⟩ := tok_cells hown
  simp only at m0 m1 m2 m3
  clear hown hb1 hbx
  go_wp2_with fail
  go_region
  go_wp2_with fail
  go_ret2
  exact ⟨rfl, Below.drew Hb1.out⟩

set_option maxHeartbeats 2000000 in
set_option maxRecDepth 100000 in
theorem ShowW_len (s : ByteArray) (w : World) (l : List Tok) (Hl : Hid (∀ W, Calls Tryz.prog 145 #[.string s] W (LexPost W (.ok l)))) (el : ((l.length : Int) != 1) = true) :
    Calls Tryz.prog 116 #[.agg #[.int .u8 1, .string s, .int .i64 0, .int .i64 0]] w fun e w' => e = .returned (showV s false) ∧ Below w.heap.size w w' := by
  have Hbox := Lib.hid (rAlloc w (.cells #[.int .u8 1, .string s, .int .i64 0, .int .i64 0] 41))
  have hbx := heap_alloc_new w (.cells #[.int .u8 1, .string s, .int .i64 0, .int .i64 0] 41)
  have hzx : w.heap.size < (w.alloc (.cells #[.int .u8 1, .string s, .int .i64 0, .int .i64 0] 41)).heap.size := by simp
  go_enter Tryz.func116, Tryz.ntmps116
  go_wp2_with fail
  generalize w.alloc (.cells #[.int .u8 1, .string s, .int .i64 0, .int .i64 0] 41) = W at *
  refine (Hl.out _).mono ?_
  rintro e w1 ⟨⟨v, rfl, hown⟩, hb1⟩
  obtain ⟨⟨k0, k1, k2, k3⟩, -⟩ := four ((hb1.block _ hzx).trans hbx)
  have Hb1 := Lib.hid (rStep Hbox.out hb1)
  obtain ⟨a, c, rfl⟩ := rForm hown
  clear hown hb1 hbx
  go_wp2_with fail
  go_region
  go_wp2_with fail
  go_ret2
  exact ⟨rfl, Below.drew Hb1.out⟩

end Go.Proofs.YtcjmhmmjfgjcnaaGreatDoor.Rf

/- codicilref09: Show of a word. -/
namespace Go.Proofs.YtcjmhmmjfgjcnaaGreatDoor.Rf
open Go.RowKit Go.Proofs.YtcjmhmmjfgjcnaaGreatDoor.Lx Go.Proofs.YtcjmhmmjfgjcnaaGreatDoor.Pa

theorem ShowW_calls (s : ByteArray) (w : World) (hs : s.size ≤ maxLen) (b : Bool) (hb : nameB (L s) = b) :
    Calls Tryz.prog 116 #[.agg #[.int .u8 1, .string s, .int .i64 0, .int .i64 0]] w fun e w' => e = .returned (showV s b) ∧ Below w.heap.size w w' := by
  have Hl := fun W => LexR_calls s W hs
  rw [nameB_lex] at hb
  cases hx : lexL (L s) with
  | err c a =>
    rw [hx] at Hl hb
    have hbf : b = false := by rw [← hb]; rfl
    rw [hbf]
    exact ShowW_err s w c a (Lib.hid Hl) (lexL_codes hx)
  | ok l =>
    rw [hx] at Hl hb
    by_cases h1 : l.length = 1
    · obtain ⟨t, rfl⟩ : ∃ t, l = [t] := by
        match l, h1 with
        | [t], _ => exact ⟨t, rfl⟩
      have no : ∀ P : Prop, (⟨1, L s, 0, 0⟩ = t → P) → ¬ P → b = false := fun P h hp => by
        rw [← hb, decide_eq_false_iff_not]
        intro e
        simp only [Lx.ok.injEq, List.cons.injEq, and_true] at e
        exact hp (h e.symm)
      obtain ⟨kd, tx, nu, po⟩ := t
      by_cases hk : kd = 1
      · by_cases ht : tx = L s
        · by_cases hn : nu = 0
          · by_cases hp : po = 0
            · subst hk ht hn hp
              have hbf : b = true := by rw [← hb]; simp
              rw [hbf]
              exact ShowW_yes s w (Lib.hid Hl)
            · rw [no _ (fun e => (Tok.mk.inj e).2.2.2.symm) hp]
              subst hk ht hn
              exact ShowW_pos s w po (by rw [bne_iff_ne]; omega) (Lib.hid Hl)
          · rw [no _ (fun e => (Tok.mk.inj e).2.2.1.symm) hn]
            subst hk ht
            exact ShowW_num s w nu po (by rw [bne_iff_ne]; exact hn) (Lib.hid Hl)
        · rw [no _ (fun e => (Tok.mk.inj e).2.1.symm) ht]
          subst hk
          exact ShowW_text s w tx nu po (by rw [beq_eq_false_iff_ne, toList_L]; exact ht) (by rw [bne_iff_ne, toList_L]; exact ht) (Lib.hid Hl)
      · rw [no _ (fun e => (Tok.mk.inj e).1.symm) hk]
        exact ShowW_kind s w kd tx nu po (by rw [bne_iff_ne]; omega) (Lib.hid Hl)
    · have hbf : b = false := by
        rw [← hb, decide_eq_false_iff_not]
        intro e
        simp only [Lx.ok.injEq] at e
        rw [e] at h1
        exact h1 rfl
      rw [hbf]
      exact ShowW_len s w l (Lib.hid Hl) (by rw [bne_iff_ne]; omega)

end Go.Proofs.YtcjmhmmjfgjcnaaGreatDoor.Rf

/- codicilref10: Cut, twice. -/
namespace Go.Proofs.YtcjmhmmjfgjcnaaGreatDoor.Rf
open Go.RowKit Go.Proofs.YtcjmhmmjfgjcnaaGreatDoor.Lx Go.Proofs.YtcjmhmmjfgjcnaaGreatDoor.Pa

theorem cut_part (s : ByteArray) (a i : Nat) : s.extract a i = ⟨(((L s).drop a).take (i - a)).toArray⟩ := L_inj (by rw [L_extract, L_mk])

set_option maxHeartbeats 1000000 in
set_option maxRecDepth 100000 in
theorem CutR_calls (s : ByteArray) (c : UInt8) (w : World) (hs : s.size ≤ 100000000) :
    Calls Tryz.prog 106 #[.string s, .int .u8 c.toNat] w fun e w' => ∃ v, e = .returned v ∧ StT w w' v (Lib.split (L s) [c]) := by
  go_enter Tryz.func106, Tryz.ntmps106
  go_wp2_with fail
  go_loopw [5, 6, 7] (fun s5 s6 s7 wr => ∃ (a i : Nat) (out : List Txt) (v : Value), s6 = .int .i64 a ∧ s7 = .int .i64 i ∧ s5 = v ∧ Hid (StT w wr v out) ∧ out.length ≤ i ∧ a ≤ i ∧ i ≤ s.size + 1 ∧
      ((i ≤ s.size ∧ Hid (CutTo (L s) c a i out)) ∨ (i = s.size + 1 ∧ Hid (Lib.split (L s) [c] = out)))) (fun _ _ s7 _ => s.size + 1 - (intOf s7).toNat)
  case atStart => exact ⟨0, 0, [], _, rfl, rfl, rfl, Lib.hid (StT.nil w), Nat.le_refl _, Nat.le_refl _, by omega, .inl ⟨Nat.zero_le _, Lib.hid (CutTo.start _ _)⟩⟩
  case round =>
    obtain ⟨a, i, out, v, rfl, rfl, rfl, hst, hol, hai, hi1, hr⟩ := hrel
    have Hst := Lib.hid hst.out
    obtain ⟨av, cv, rfl⟩ := hst.out.form
    clear hst
    rcases hr with ⟨hi, hct⟩ | ⟨rfl, hend⟩
    · have hll : (L s).length = s.size := L_length s
      have Hct := Lib.hid hct.out
      clear hct
      by_cases hlt : i < s.size
      · have hget : (L s)[i]'(by rw [L_length]; exact hlt) = s[i] := rfl
        by_cases hc : s[i] = c
        · have Hn := Lib.hid (Hct.out.part (by rw [hll]; exact hlt) (by rw [hget]; exact hc))
          have hc2 : ((s[i].toNat : Int) == (c.toNat : Int)) = true := by rw [hc]; simp
          have hne : ((i : Int) == (s.size : Int)) = false := by rw [beq_eq_false_iff_ne]; omega
          have hcp := cut_part s a i
          clear hll hget hc
          go_wp2_with (at_builtin; go_must (refine wpList_text rfl _ _ rfl w (.slice av out.length cv) out rfl _ rfl _ (((L s).drop a).take (i - a)) rfl Hst.out rfl (by omega) ?_); intro a7 n7 c7 w7 hn7 h7; have Hn7 := Lib.hid hn7.out; have H7 := Lib.hid h7; clear hn7 h7)
          refine ⟨⟨i + 1, i + 1, out ++ [((L s).drop a).take (i - a)], _, by go_num, by go_num, rfl, H7, by rw [List.length_append, List.length_singleton]; omega, Nat.le_refl _, by omega, .inl ⟨by omega, Hn⟩⟩, by simp [intOf]; omega⟩
        · have Hn := Lib.hid (Hct.out.next (by rw [hll]; exact hlt) (by rw [hget]; exact hc))
          have hc2 : ((s[i].toNat : Int) == (c.toNat : Int)) = false := beq_eq_false_iff_ne.2 fun e => hc (UInt8.toNat_inj.1 (by omega))
          have hne : ((i : Int) == (s.size : Int)) = false := by rw [beq_eq_false_iff_ne]; omega
          clear hll hget hc
          go_wp2_with fail
          go_roundw
          case rel => exact ⟨a, i + 1, out, _, rfl, by go_num, rfl, Hst, by omega, by omega, by omega, .inl ⟨by omega, Hn⟩⟩
          case measure => simp [intOf]; omega
      · obtain rfl : i = s.size := by omega
        have Hn := Lib.hid (show Lib.split (L s) [c] = out ++ [((L s).drop a).take (s.size - a)] from by rw [← hll]; exact CutTo.end_ (by rw [hll]; exact Hct.out))
        have hne : ((s.size : Int) == (s.size : Int)) = true := by simp
        have hcp := cut_part s a s.size
        clear hll
        go_wp2_with (at_builtin; go_must (refine wpList_text rfl _ _ rfl w (.slice av out.length cv) out rfl _ rfl _ (((L s).drop a).take (s.size - a)) rfl Hst.out rfl (by omega) ?_); intro a7 n7 c7 w7 hn7 h7; have Hn7 := Lib.hid hn7.out; have H7 := Lib.hid h7; clear hn7 h7)
        refine ⟨⟨s.size + 1, s.size + 1, out ++ [((L s).drop a).take (s.size - a)], _, by go_num, by go_num, rfl, H7, by rw [List.length_append, List.length_singleton]; omega, Nat.le_refl _, Nat.le_refl _, .inr ⟨rfl, Hn⟩⟩, by simp [intOf]⟩
    · go_wp2_with fail
      go_ret
      exact ⟨_, rfl, by rw [hend.out]; exact Hst.out⟩

/-! ### twice -/
set_option maxHeartbeats 1000000 in
set_option maxRecDepth 100000 in
theorem twiceR_calls (w : World) (v : Value) (l : List Txt) (h : TxsIn w v l) (hl : l.length ≤ 100000000) :
    Calls Tryz.prog 115 #[v] w fun e w' => e = .returned (.bool (!decide l.Nodup)) ∧ w = w' := by
  obtain ⟨a, n, c, rfl, hn, hc, hj⟩ := h
  subst hn
  have Hj := Lib.hid hj
  clear hj
  go_enter Tryz.func115, Tryz.ntmps115
  go_wp2_with fail
  go_loop [9] (fun s9 => ∃ k : Nat, s9 = .int .i64 k ∧ k ≤ l.length ∧ Hid ((l.take k).Nodup)) (fun s9 => l.length - (intOf s9).toNat)
  case atStart => exact ⟨0, rfl, Nat.zero_le _, Lib.hid (by simp)⟩
  case round =>
    obtain ⟨k, rfl, hk, hnd⟩ := hrel
    by_cases hlt : k < l.length
    · obtain ⟨g, o, ha, hcell⟩ := Hj.out k hlt
      subst ha
      generalize hxv : l[k] = x at hcell
      have Hx := Lib.hid hxv
      clear hxv
      go_wp2_with fail
      go_loop [18] (fun s18 => ∃ j : Nat, s18 = .int .i64 j ∧ j ≤ k ∧ Hid (x ∉ l.take j)) (fun s18 => k - (intOf s18).toNat)
      case atStart => exact ⟨0, rfl, Nat.zero_le _, Lib.hid (by simp)⟩
      case round =>
        obtain ⟨j, rfl, hjk, hno⟩ := hrel
        by_cases hlt2 : j < k
        · have hjl : j < l.length := by omega
          obtain ⟨g2, o2, ha2, hcell2⟩ := Hj.out j hjl
          simp only [Option.some.injEq, Addr.mk.injEq, and_true] at ha2
          obtain ⟨rfl, rfl⟩ := ha2
          generalize hyv : l[j] = y at hcell2
          have Hyv := Lib.hid hyv
          clear hyv
          by_cases he : y = x
          · have hR := Lib.hid (show (!decide l.Nodup) = true by
              rw [Bool.not_eq_true', decide_eq_false_iff_not]
              intro hnd2
              have h1 : l[j] = l[k] := by rw [Hyv.out, he, Hx.out]
              exact (List.pairwise_iff_getElem.1 hnd2) j k hjl hlt hlt2 h1)
            subst he
            go_wp2_with fail
            go_ret
            exact ⟨by rw [hR.out]; rfl, rfl⟩
          · have he2 : (y == x) = false := beq_eq_false_iff_ne.2 he
            have Hn := Lib.hid (show x ∉ l.take (j + 1) by
              rw [List.take_succ_eq_append_getElem hjl, Hyv.out]
              intro hm
              rcases List.mem_append.1 hm with hm | hm
              · exact hno.out hm
              · exact he (List.mem_singleton.1 hm).symm)
            go_wp2_with fail
            go_round
            case rel => exact ⟨j + 1, by go_num, by omega, Hn⟩
            case measure => simp [intOf]; omega
        · have hjk2 : j = k := by omega
          subst hjk2
          have Hn := Lib.hid (show (l.take (j + 1)).Nodup by
            rw [List.take_succ_eq_append_getElem hlt, List.nodup_append]
            refine ⟨hnd.out, by simp, fun a ha b hb e => ?_⟩
            rw [List.mem_singleton] at hb
            subst hb
            exact hno.out (by rw [← Hx.out, ← e]; exact ha))
          go_wp2_with fail
          go_round
          case rel => exact ⟨j + 1, by go_num, by omega, Hn⟩
          case measure => simp [intOf]; omega
    · have hR := Lib.hid (show (!decide l.Nodup) = false by
        have := hnd.out
        rw [List.take_of_length_le (by omega)] at this
        rw [decide_eq_true this]; rfl)
      go_wp2_with fail
      go_ret
      exact ⟨by rw [hR.out]; rfl, rfl⟩

end Go.Proofs.YtcjmhmmjfgjcnaaGreatDoor.Rf
