/- Parts: RaH LxE. -/
import Derived.Test.YtcjmhmmjfgjcnaaGreatDoorMa05
import Derived.Test.YtcjmhmmjfgjcnaaGreatDoorMa07
import Derived.Test.YtcjmhmmjfgjcnaaGreatDoorMa10
import Derived.WalkSmall

/- codicilref09: next at texts and signs. -/
namespace Go.Proofs.YtcjmhmmjfgjcnaaGreatDoor.Rf
open Go.RowKit Go.Proofs.YtcjmhmmjfgjcnaaGreatDoor.Lx Go.Proofs.YtcjmhmmjfgjcnaaGreatDoor.Pa

theorem textL_short : ∀ (l : Txt) {x : Txt} {n : Nat}, textL l = some (x, n) → x.length ≤ l.length
  | [], _, _, h => by simp [textL] at h
  | [c], x, n, h => by
    by_cases hc : c = 39
    · simp only [textL, hc, if_true, Option.some.injEq, Prod.mk.injEq] at h
      rw [← h.1]; simp
    · simp [textL, hc] at h
  | c :: d :: r, x, n, h => by
    by_cases hc : c = 39
    · by_cases hd : d = 39
      · simp only [textL, hc, hd, if_true, Option.map_eq_some_iff] at h
        obtain ⟨⟨y, m⟩, h1, h2⟩ := h
        have := textL_short r h1
        simp only [Prod.mk.injEq] at h2
        rw [← h2.1]
        simp only [List.length_cons]; omega
      · simp only [textL, hc, hd, if_true, if_false, Option.some.injEq, Prod.mk.injEq] at h
        rw [← h.1]; simp
    · rw [textL.eq_def] at h
      simp only [hc, if_false, Option.map_eq_some_iff] at h
      obtain ⟨⟨y, m⟩, h1, h2⟩ := h
      have := textL_short (d :: r) h1
      simp only [Prod.mk.injEq] at h2
      rw [← h2.1]
      simp only [List.length_cons] at this ⊢; omega

set_option maxHeartbeats 1000000 in
set_option maxRecDepth 100000 in
theorem next_text_calls (s : ByteArray) (w : World) (hs : s.size ≤ 100000) (h0 : 0 < s.size) (hl0 : letterB s[0] = false) (hd0 : digitB s[0] = false) (h39 : s[0] = 39) :
    Calls Tryz.prog 170 #[.string s] w (NextP w (nextR (L s))) := by
  rw [next_text h0 hl0 hd0 h39]
  have h39' : ((s[0].toNat : Int) == 39) = true := by rw [h39]; rfl
  clear h39
  have hT := fun W => textR_calls s W hs _ (Lib.hid rfl)
  have hR : textR (L s) = match textL ((L s).drop 1) with
    | none => .err 13
    | some (c, n) => if 1024 < c.length then .err 4 else if Lib.validD c then .ok ⟨4, c, 0, 0⟩ (n + 1) else .err 9 := rfl
  cases hx : textL ((L s).drop 1) with
  | none =>
    rw [hx] at hR hT
    have Hr := Lib.hid (show textR (L s) = .err 13 from hR)
    have Hw := Lib.hid hT
    clear hT hR hx
    go_enter Tryz.func170, Tryz.ntmps170
    go_wp2_with (first | (go_at_call 190; refine (letterR_calls _ _).mono ?_; rintro e w' ⟨rfl, rfl⟩) | (go_at_call 191; refine (digitR_calls _ _).mono ?_; rintro e w' ⟨rfl, rfl⟩))
    have Hb := Lib.hid (rAlloc w tokObj)
    have Ht := Lib.hid (heap_alloc_new w tokObj)
    have hz : w.heap.size < (w.alloc tokObj).heap.size := by simp
    generalize w.alloc tokObj = W at *
    refine (Hw.out _).mono ?_
    rintro e w1 ⟨rfl, hb1⟩
    have ht1 := (hb1.block _ hz).trans Ht.out
    obtain ⟨⟨c0, c1, c2, c3⟩, f0, f1, f2, f3⟩ := four ht1
    have Ht1 := Lib.hid ht1
    have Hb1 := Lib.hid (rStep Hb.out hb1)
    have hz1 : w.heap.size < w1.heap.size := Nat.lt_of_lt_of_le hz hb1.size
    clear hb1 ht1
    unfold textV
    go_wp2_with fail
    refine bodyPost_ret (v := .tuple #[tokV 0 [] 0 0, .int .i64 0, .int .i64 13]) (by simp [results, Tryz.results170, go_sem, tokV, c0, c1, c2, c3]) rfl (NextP.err Hr.out _ rfl ?_)
    exact below_set4 Hb1.out _ _ _ _ _ _ _ _
  | some x =>
    obtain ⟨c, n⟩ := x
    have hle := textL_le _ hx
    rw [List.length_drop, L_length] at hle
    rw [hx] at hR hT
    simp only at hR hT
    have hcl : c.length ≤ s.size := by
      have h := textL_short _ hx
      rw [List.length_drop, L_length] at h
      omega
    by_cases h4 : 1024 < c.length
    · rw [if_pos h4] at hR
      have h4' : (1024 : Int) < c.length := by omega
      have Hr := Lib.hid (show textR (L s) = .err 4 from hR)
      have Hw := Lib.hid hT
      clear hT hR hx
      go_enter Tryz.func170, Tryz.ntmps170
      go_wp2_with (first | (go_at_call 190; refine (letterR_calls _ _).mono ?_; rintro e w' ⟨rfl, rfl⟩) | (go_at_call 191; refine (digitR_calls _ _).mono ?_; rintro e w' ⟨rfl, rfl⟩))
      have Hb := Lib.hid (rAlloc w tokObj)
      have Ht := Lib.hid (heap_alloc_new w tokObj)
      have hz : w.heap.size < (w.alloc tokObj).heap.size := by simp
      generalize w.alloc tokObj = W at *
      refine (Hw.out _).mono ?_
      rintro e w1 ⟨rfl, hb1⟩
      have ht1 := (hb1.block _ hz).trans Ht.out
      obtain ⟨⟨c0, c1, c2, c3⟩, f0, f1, f2, f3⟩ := four ht1
      have Ht1 := Lib.hid ht1
      have Hb1 := Lib.hid (rStep Hb.out hb1)
      have hz1 : w.heap.size < w1.heap.size := Nat.lt_of_lt_of_le hz hb1.size
      clear hb1 ht1
      unfold textV
      go_wp2_with fail
      refine bodyPost_ret (v := .tuple #[tokV 0 [] 0 0, .int .i64 0, .int .i64 4]) (by simp [results, Tryz.results170, go_sem, tokV, c0, c1, c2, c3]) rfl (NextP.err Hr.out _ rfl ?_)
      exact below_set4 Hb1.out _ _ _ _ _ _ _ _
    · rw [if_neg h4] at hR
      have h4' : ¬ (1024 : Int) < c.length := by omega
      have hU0 := fun W => utfR_calls ⟨c.toArray⟩ W (by rw [size_mk]; omega)
      rw [L_mk] at hU0
      cases hv : Lib.validD c
      · rw [hv] at hR hU0
        have HU := Lib.hid hU0
        clear hU0
        have Hr := Lib.hid (show textR (L s) = .err 9 from hR)
        have Hw := Lib.hid hT
        clear hT hR hx
        go_enter Tryz.func170, Tryz.ntmps170
        go_wp2_with (first | (go_at_call 190; refine (letterR_calls _ _).mono ?_; rintro e w' ⟨rfl, rfl⟩) | (go_at_call 191; refine (digitR_calls _ _).mono ?_; rintro e w' ⟨rfl, rfl⟩))
        have Hb := Lib.hid (rAlloc w tokObj)
        have Ht := Lib.hid (heap_alloc_new w tokObj)
        have hz : w.heap.size < (w.alloc tokObj).heap.size := by simp
        generalize w.alloc tokObj = W at *
        refine (Hw.out _).mono ?_
        rintro e w1 ⟨rfl, hb1⟩
        have ht1 := (hb1.block _ hz).trans Ht.out
        obtain ⟨⟨c0, c1, c2, c3⟩, f0, f1, f2, f3⟩ := four ht1
        have Ht1 := Lib.hid ht1
        have Hb1 := Lib.hid (rStep Hb.out hb1)
        have hz1 : w.heap.size < w1.heap.size := Nat.lt_of_lt_of_le hz hb1.size
        clear hb1 ht1
        unfold textV
        go_wp2_with fail
        refine (HU.out _).mono ?_
        rintro e w2 ⟨rfl, hb2⟩
        have ht2 := (hb2.block _ hz1).trans Ht1.out
        clear c0 c1 c2 c3 f0 f1 f2 f3
        obtain ⟨⟨c0, c1, c2, c3⟩, f0, f1, f2, f3⟩ := four ht2
        have Hb2 := Lib.hid (rStep Hb1.out hb2)
        have hz2 : w.heap.size < w2.heap.size := Nat.lt_of_lt_of_le hz1 hb2.size
        clear hb2 ht2
        go_wp2_with fail
        refine bodyPost_ret (v := .tuple #[tokV 0 [] 0 0, .int .i64 0, .int .i64 9]) (by simp [results, Tryz.results170, go_sem, tokV, c0, c1, c2, c3]) rfl (NextP.err Hr.out _ rfl ?_)
        exact below_set4 Hb2.out _ _ _ _ _ _ _ _
      · rw [hv] at hR hU0
        have HU := Lib.hid hU0
        clear hU0
        have Hr := Lib.hid (show textR (L s) = .ok ⟨4, c, 0, 0⟩ (n + 1) from hR)
        have Hw := Lib.hid hT
        clear hT hR hx
        go_enter Tryz.func170, Tryz.ntmps170
        go_wp2_with (first | (go_at_call 190; refine (letterR_calls _ _).mono ?_; rintro e w' ⟨rfl, rfl⟩) | (go_at_call 191; refine (digitR_calls _ _).mono ?_; rintro e w' ⟨rfl, rfl⟩))
        have Hb := Lib.hid (rAlloc w tokObj)
        have Ht := Lib.hid (heap_alloc_new w tokObj)
        have hz : w.heap.size < (w.alloc tokObj).heap.size := by simp
        generalize w.alloc tokObj = W at *
        refine (Hw.out _).mono ?_
        rintro e w1 ⟨rfl, hb1⟩
        have ht1 := (hb1.block _ hz).trans Ht.out
        obtain ⟨⟨c0, c1, c2, c3⟩, f0, f1, f2, f3⟩ := four ht1
        have Ht1 := Lib.hid ht1
        have Hb1 := Lib.hid (rStep Hb.out hb1)
        have hz1 : w.heap.size < w1.heap.size := Nat.lt_of_lt_of_le hz hb1.size
        clear hb1 ht1
        unfold textV
        go_wp2_with fail
        refine (HU.out _).mono ?_
        rintro e w2 ⟨rfl, hb2⟩
        have ht2 := (hb2.block _ hz1).trans Ht1.out
        clear c0 c1 c2 c3 f0 f1 f2 f3
        obtain ⟨⟨c0, c1, c2, c3⟩, f0, f1, f2, f3⟩ := four ht2
        have Hb2 := Lib.hid (rStep Hb1.out hb2)
        have hz2 : w.heap.size < w2.heap.size := Nat.lt_of_lt_of_le hz1 hb2.size
        clear hb2 ht2
        go_wp2_with fail
        refine bodyPost_ret (v := .tuple #[tokV 4 c 0 0, .int .i64 ((n + 1 : Nat) : Int), .int .i64 0]) (by simp [results, Tryz.results170, go_sem, tokV, c0, c1, c2, c3]) rfl (NextP.ok Hr.out rfl ?_)
        exact below_set4 Hb2.out _ _ _ _ _ _ _ _

theorem sign_none_or (l : Txt) : (signR l = .err 13 ∧ signS l = []) ∨ ∃ x, x ≠ [] ∧ x.length ≤ 2 ∧ signR l = .ok ⟨5, x, 0, 0⟩ x.length ∧ signS l = x := by
  unfold signS
  unfold signR
  cases h : signs.find? fun t => Lib.hasPrefix l t with
  | none => exact .inl ⟨rfl, rfl⟩
  | some t =>
    have hm := List.mem_of_find?_eq_some h
    have h1 : ∀ t ∈ signs, t ≠ [] ∧ t.length ≤ 2 := by decide
    exact .inr ⟨t, (h1 t hm).1, (h1 t hm).2, rfl, rfl⟩
set_option maxHeartbeats 1000000 in
set_option maxRecDepth 100000 in
theorem next_sign_calls (s : ByteArray) (w : World) (hs : s.size ≤ 100000) (h0 : 0 < s.size) (hl0 : letterB s[0] = false) (hd0 : digitB s[0] = false) (h39 : s[0] ≠ 39) :
    Calls Tryz.prog 170 #[.string s] w (NextP w (nextR (L s))) := by
  rw [next_sign h0 hl0 hd0 h39]
  have h39' : ((s[0].toNat : Int) == 39) = false := beq_eq_false_iff_ne.2 fun e => h39 (UInt8.toNat_inj.1 (by show s[0].toNat = 39; omega))
  clear h39
  have hT := fun W => signR_calls s W hs (by omega)
  rcases sign_none_or (L s) with ⟨hR, hx⟩ | ⟨x, hne, hl2, hR, hx⟩
  · rw [hx] at hT
    clear hx
    have Hr := Lib.hid (show signR (L s) = .err 13 from hR)
    have Hw := Lib.hid hT
    clear hT hR
    go_enter Tryz.func170, Tryz.ntmps170
    go_wp2_with (first | (go_at_call 190; refine (letterR_calls _ _).mono ?_; rintro e w' ⟨rfl, rfl⟩) | (go_at_call 191; refine (digitR_calls _ _).mono ?_; rintro e w' ⟨rfl, rfl⟩))
    have Hb := Lib.hid (rAlloc w tokObj)
    have Ht := Lib.hid (heap_alloc_new w tokObj)
    have hz : w.heap.size < (w.alloc tokObj).heap.size := by simp
    generalize w.alloc tokObj = W at *
    refine (Hw.out _).mono ?_
    rintro e w1 ⟨rfl, hb1⟩
    have ht1 := (hb1.block _ hz).trans Ht.out
    obtain ⟨⟨c0, c1, c2, c3⟩, f0, f1, f2, f3⟩ := four ht1
    have Ht1 := Lib.hid ht1
    have Hb1 := Lib.hid (rStep Hb.out hb1)
    have hz1 : w.heap.size < w1.heap.size := Nat.lt_of_lt_of_le hz hb1.size
    clear hb1 ht1
    go_wp2_with fail
    refine bodyPost_ret (v := .tuple #[tokV 0 [] 0 0, .int .i64 0, .int .i64 13]) (by simp [results, Tryz.results170, go_sem, tokV, c0, c1, c2, c3]) rfl (NextP.err Hr.out _ rfl ?_)
    exact below_set4 Hb1.out _ _ _ _ _ _ _ _
  · rw [hx] at hT
    clear hx
    have hne' : (x == []) = false := beq_eq_false_iff_ne.2 hne
    have Hr := Lib.hid (show signR (L s) = .ok ⟨5, x, 0, 0⟩ x.length from hR)
    have Hw := Lib.hid hT
    clear hT hR
    go_enter Tryz.func170, Tryz.ntmps170
    go_wp2_with (first | (go_at_call 190; refine (letterR_calls _ _).mono ?_; rintro e w' ⟨rfl, rfl⟩) | (go_at_call 191; refine (digitR_calls _ _).mono ?_; rintro e w' ⟨rfl, rfl⟩))
    have Hb := Lib.hid (rAlloc w tokObj)
    have Ht := Lib.hid (heap_alloc_new w tokObj)
    have hz : w.heap.size < (w.alloc tokObj).heap.size := by simp
    generalize w.alloc tokObj = W at *
    refine (Hw.out _).mono ?_
    rintro e w1 ⟨rfl, hb1⟩
    have ht1 := (hb1.block _ hz).trans Ht.out
    obtain ⟨⟨c0, c1, c2, c3⟩, f0, f1, f2, f3⟩ := four ht1
    have Ht1 := Lib.hid ht1
    have Hb1 := Lib.hid (rStep Hb.out hb1)
    have hz1 : w.heap.size < w1.heap.size := Nat.lt_of_lt_of_le hz hb1.size
    clear hb1 ht1
    go_wp2_with fail
    refine bodyPost_ret (v := .tuple #[tokV 5 x 0 0, .int .i64 x.length, .int .i64 0]) (by simp [results, Tryz.results170, go_sem, tokV, c0, c1, c2, c3]) rfl (NextP.ok Hr.out rfl ?_)
    exact below_set4 Hb1.out _ _ _ _ _ _ _ _

end Go.Proofs.YtcjmhmmjfgjcnaaGreatDoor.Rf

/- What the walks ask of a world's package-level variables, and that it lasts. -/
namespace Go.Proofs.YtcjmhmmjfgjcnaaGreatDoor.Lx
open Go.RowKit

structure Env (w : World) : Prop where
  syn : ∃ ev, w.cell? ⟨5, 0, none⟩ = some ev ∧ (ev = .nilIface ∨ ∃ te pe, ev = .iface te pe)
  rng : ∃ ev, w.cell? ⟨6, 0, none⟩ = some ev ∧ (ev = .nilIface ∨ ∃ te pe, ev = .iface te pe)
  max : ∃ m, w.cell? ⟨4, 0, none⟩ = some (.int .i64 m)
  pow : Lib.TabIs Tryz.prog w "internal/strconv.uint64pow10" .u64 Lib.pow10Tab
  utf : Lib.Utf8Tabs 0 1 w
  ltS : 5 < w.heap.size
  ltR : 6 < w.heap.size
  ltM : 4 < w.heap.size
  ltP : 3 < w.heap.size
  ltF : 0 < w.heap.size
  ltA : 1 < w.heap.size

theorem gPow : Tryz.prog.globalNamed "internal/strconv.uint64pow10" = some 3 := by kernel_rfl

theorem Env.below {w w' : World} (h : Env w) (hb : Below w.heap.size w w') : Env w' where
  syn := let ⟨ev, h1, h2⟩ := h.syn; ⟨ev, (hb.cell (p := ⟨_, 0, none⟩) h.ltS).trans h1, h2⟩
  rng := let ⟨ev, h1, h2⟩ := h.rng; ⟨ev, (hb.cell (p := ⟨_, 0, none⟩) h.ltR).trans h1, h2⟩
  max := let ⟨m, h1⟩ := h.max; ⟨m, (hb.cell (p := ⟨_, 0, none⟩) h.ltM).trans h1⟩
  pow := var?_below hb gPow h.ltP h.pow
  utf := ⟨fun c hc => (hb.cell (p := ⟨_, c, none⟩) h.ltF).trans (h.utf.1 c hc), fun i hi => ⟨(hb.cell (p := ⟨_, 2 * i, none⟩) h.ltA).trans (h.utf.2 i hi).1, (hb.cell (p := ⟨_, 2 * i + 1, none⟩) h.ltA).trans (h.utf.2 i hi).2⟩⟩
  ltS := Nat.lt_of_lt_of_le h.ltS hb.size
  ltR := Nat.lt_of_lt_of_le h.ltR hb.size
  ltM := Nat.lt_of_lt_of_le h.ltM hb.size
  ltP := Nat.lt_of_lt_of_le h.ltP hb.size
  ltF := Nat.lt_of_lt_of_le h.ltF hb.size
  ltA := Nat.lt_of_lt_of_le h.ltA hb.size
theorem Env.alloc {w : World} (h : Env w) (o : Obj) : Env (w.alloc o) := h.below ((Below.refl _ _).alloc (Nat.le_refl _) o)

end Go.Proofs.YtcjmhmmjfgjcnaaGreatDoor.Lx
