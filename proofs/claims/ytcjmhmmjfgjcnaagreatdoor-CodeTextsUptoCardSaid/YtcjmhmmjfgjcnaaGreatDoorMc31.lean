/- Parts: RcH. -/
import Derived.Test.YtcjmhmmjfgjcnaaGreatDoorMc07
import Derived.Test.YtcjmhmmjfgjcnaaGreatDoorMc29
import Derived.Deep.RegionWith
import Derived.Deep.RegionHeld3

/- codicilref13: Text. -/
namespace Go.Proofs.YtcjmhmmjfgjcnaaGreatDoor.Cd
open Go.RowKit Go.Proofs.YtcjmhmmjfgjcnaaGreatDoor.Lx Go.Proofs.YtcjmhmmjfgjcnaaGreatDoor.Pa Go.Proofs.YtcjmhmmjfgjcnaaGreatDoor.Rf

theorem conv_byte (z : Int) (b : UInt8) (hz : z = (b.toNat : Int)) (W : World) (B0 : Nat) (hB : W.heap.size = B0) : (convert 104 9 (.slice (some ⟨B0, 0, none⟩) 1 1)).run Tryz.prog (W.alloc (.cells #[.int .u8 z] 5)) = .ok (.string ⟨#[b]⟩) (W.alloc (.cells #[.int .u8 z] 5)) := by
  subst hB hz
  have h := heap_alloc_new W (.cells #[.int .u8 b.toNat] 5)
  have hb : BytesAt (W.alloc (.cells #[.int .u8 b.toNat] 5)) W.heap.size [b] := by
    intro j hj
    obtain rfl : j = 0 := by simp at hj; omega
    have h1 := (ArrAt.mk (vs := [.int .u8 b.toNat]) h).get (j := 0) (by simp)
    exact h1
  exact conv_string Tryz.prog 104 9 5 Tryz.underlying104 Tryz.underlying9 Tryz.underlying5 _ _ 1 1 _ rfl hb
structure TxS (w : World) (g : Nat) (st : Stp) (wx : World) : Prop where
  c1 : wx.cell? ⟨g, 1, none⟩ = some (.int .u8 st.kind)
  c2 : wx.cell? ⟨g, 2, none⟩ = some (.string ⟨st.text.toArray⟩)
  c3 : wx.cell? ⟨g, 3, none⟩ = some (.int .i64 st.num)
  bel : Below w.heap.size w wx
structure TxS2 (w : World) (g : Nat) (st : Stp) (B : Nat) (wx : World) : Prop where
  s : TxS w g st wx
  b : BytesAt wx B [UInt8.ofNat st.kind]
  lt : B < wx.heap.size
theorem TxS.step {w : World} {g : Nat} {st : Stp} {wx w' : World} (h : TxS w g st wx) (hb : Below wx.heap.size wx w') : TxS w g st w' :=
  ⟨(hb.cell (p := ⟨g, 1, none⟩) (World.block_lt_of_cell? _ _ h.c1)).trans h.c1, (hb.cell (p := ⟨g, 2, none⟩) (World.block_lt_of_cell? _ _ h.c2)).trans h.c2, (hb.cell (p := ⟨g, 3, none⟩) (World.block_lt_of_cell? _ _ h.c3)).trans h.c3, rStep h.bel hb⟩
theorem TxS2.step {w : World} {g : Nat} {st : Stp} {B : Nat} {wx w' : World} (h : TxS2 w g st B wx) (hb : Below wx.heap.size wx w') : TxS2 w g st B w' :=
  ⟨h.s.step hb, h.b.below hb h.lt, Nat.lt_of_lt_of_le h.lt hb.size⟩
theorem TxS2.new {w : World} {g : Nat} {st : Stp} (W : World) (hk : st.kind < 256) (h : TxS w g st (W.alloc (.cells #[.int .u8 st.kind] 5))) : TxS2 w g st W.heap.size (W.alloc (.cells #[.int .u8 st.kind] 5)) :=
  ⟨h, by
    intro j hj
    obtain rfl : j = 0 := by simp at hj; omega
    have h1 := (ArrAt.mk (vs := [.int .u8 st.kind]) (heap_alloc_new W (.cells #[.int .u8 st.kind] 5))).get (j := 0) (by simp)
    simp only [List.getElem_cons_zero, byte_toNat hk]
    exact h1, by simp⟩
theorem TxS.first {w wr : World} (hb : Below w.heap.size w wr) (st : Stp) (to' : Int) : TxS w wr.heap.size st ((wr.alloc (.cells #[.int .u8 1, .int .u8 st.kind, .string ⟨st.text.toArray⟩, .int .i64 st.num, .int .i64 to'] 63)).alloc (.cells #[.int .u8 1] 5)).drew := by
  obtain ⟨⟨c0, c1, c2, c3, c4⟩, -⟩ := fiveB (((rAlloc (wr.alloc (.cells #[.int .u8 1, .int .u8 st.kind, .string ⟨st.text.toArray⟩, .int .i64 st.num, .int .i64 to'] 63)) (.cells #[.int .u8 1] 5)).block _ (by simp)).trans (heap_alloc_new wr (.cells #[.int .u8 1, .int .u8 st.kind, .string ⟨st.text.toArray⟩, .int .i64 st.num, .int .i64 to'] 63)))
  exact ⟨c1, c2, c3, Below.drew (rStep (rStep hb (rAlloc _ _)) (rAlloc _ _))⟩
theorem wpAnyH_mono {P : Program} {md : Region.Mode} {ops : Array Oper} {Q : Exit → Act → World → Prop} {S T : World → Prop} (hST : ∀ w, S w → T w) : ∀ {fuel : Nat} {listed : Array Bool} {a : Act} {w : World}, wpAnyH P md ops Q S fuel listed a w → wpAnyH P md ops Q T fuel listed a w
  | 0, _, _, _, h => h
  | _ + 1, _, _, _, h => ⟨h.1, fun i hi => wpOp_mono (fun _ _ h' => ⟨hST _ h'.1, wpAnyH_mono hST h'.2⟩) (h.2 i hi)⟩
theorem conv_at {w : World} {B : Nat} {b : UInt8} (h : BytesAt w B [b]) : (convert 104 9 (.slice (some ⟨B, 0, none⟩) 1 1)).run Tryz.prog w = .ok (.string ⟨#[b]⟩) w :=
  conv_string Tryz.prog 104 9 5 Tryz.underlying104 Tryz.underlying9 Tryz.underlying5 _ _ 1 1 _ rfl h
theorem wrapU (n : Int) : IntKind.u64.wrap n = (u64 n : Int) := by
  show n % 18446744073709551616 = _
  unfold u64
  omega
theorem u64_lt (n : Int) : u64 n < 18446744073709551616 := by unfold u64; omega

set_option maxHeartbeats 2000000 in
set_option maxRecDepth 100000 in
theorem TextR13_calls (w : World) (v : Value) (p : List Ins) (h : InsIn w v p) (hl : p.length ≤ 1000000) (ht : ∀ x ∈ p, x.st.text.length ≤ 1048575) :
    Calls Tryz.prog 29 #[v] w fun e w' => e = .returned (textV p) ∧ Below w.heap.size w w' := by
  have HC := Lib.hid (CheckR_calls w v p h hl (fun x hx => by have := ht x hx; omega))
  unfold checkRV at HC
  obtain ⟨a, n, c, rfl, hn, hc, hj⟩ := h
  subst hn
  have Hj := Lib.hid hj
  clear hj
  cases hck : checkI p
  · rw [hck] at HC
    have Hv := Lib.hid (show textV p = .tuple #[.string ⟨#[]⟩, .int .i64 11] by unfold textV; rw [hck]; rfl)
    clear hck
    go_enter Tryz.func29, Tryz.ntmps29
    go_wp2_with fail
    refine HC.out.mono ?_
    rintro e w1 ⟨rfl, hb1⟩
    have Hb1 := Lib.hid hb1
    clear hb1
    simp only [Bool.false_eq_true, if_false]
    go_wp2_with fail
    go_ret2
    exact ⟨by rw [Hv.out]; rfl, Hb1.out⟩
  · rw [hck] at HC
    have hok := check_ok hck
    have Hv := Lib.hid (show textV p = .tuple (if (textL p).length ≤ 16384 then #[.string ⟨(textL p).toArray⟩, .int .i64 0] else #[.string ⟨#[]⟩, .int .i64 4]) by unfold textV; rw [hck]; rfl)
    obtain ⟨hall, hl1, hl2⟩ := hok
    have Hall := Lib.hid hall
    have hlt0 := textL_len ht
    simp only [if_true] at HC
    clear hck hall
    go_enter Tryz.func29, Tryz.ntmps29
    go_wp2_with fail
    refine HC.out.mono ?_
    rintro e w1 ⟨rfl, hb1⟩
    have Hb1 := Lib.hid hb1
    clear hb1
    go_wp2_with fail
    go_loopw [5, 15] (fun s5 s15 wr => ∃ (k : Nat) (t : Txt), s15 = .int .i64 k ∧ s5 = .string ⟨t.toArray⟩ ∧ k ≤ p.length ∧ t.length ≤ k * 1100000 ∧ Hid (Below w.heap.size w wr) ∧ Hid (textL (p.take k) = t)) (fun _ s15 _ => p.length - (intOf s15).toNat)
    case atStart => exact ⟨0, [], rfl, rfl, Nat.zero_le _, by simp, Hb1, Lib.hid rfl⟩
    case round =>
      obtain ⟨k, t, rfl, rfl, hk, htl, hbr, hte⟩ := hrel
      have Hbr := Lib.hid hbr.out
      have Hte := Lib.hid hte.out
      clear hbr hte
      by_cases hlt : k < p.length
      · obtain ⟨g, o, ha, hcl0⟩ := Hj.out k hlt
        subst ha
        obtain ⟨q0, q1, q2, q3, q4⟩ := hcl0.below Hbr.out
        have hxok := Hall.out _ (List.getElem_mem hlt)
        have hxt := ht _ (List.getElem_mem hlt)
        have hnx := textL_take p k hlt
        have hil := textI_len hxt
        rw [Hte.out] at hnx
        generalize p[k] = x at q0 q1 q2 q3 q4 hxok hxt hnx hil
        obtain ⟨op, st, to'⟩ := x
        simp only at q0 q1 q2 q3 q4 hxt
        clear hcl0
        rcases hxok.op with ho | ho | ho | ho | ho
        · simp only at ho
          subst ho
          obtain ⟨hto, hkd, hn0, -⟩ := hxok.step rfl
          simp only at hto hkd hn0
          have HN := Lib.hid (fun W => NumberR_calls W (u64 st.num) (u64_lt _))
          have HB := Lib.hid (fun W => BytesR_calls W st.text (by omega))
          have hu := wrapU st.num
          have hcv1 := conv_byte 1 1 rfl
          have hcvk := conv_byte st.kind (UInt8.ofNat st.kind) (by rw [byte_toNat (by omega)])
          have hti : textI ⟨1, st, to'⟩ = 1 :: (UInt8.ofNat st.kind :: (numT (u64 st.num) ++ (numT st.text.length ++ st.text))) := by unfold textI; rw [if_pos rfl]; rfl
          rw [hti] at hnx hil
          have Hnx := Lib.hid hnx
          clear hnx hti hto
          generalize hA : numT (u64 st.num) = A at *
          generalize hB : numT st.text.length = B at *
          clear hA hB
          simp only [List.length_cons, List.length_append] at hil
          go_wp2_with fail
          have hS0 := TxS.first Hbr.out st to'
          have hn1 : ¬ 9223372036854775807 < 1 + A.length := by omega
          have hn2 : ¬ 9223372036854775807 < 1 + A.length + (B.length + st.text.length) := by omega
          have hn3 : ¬ 9223372036854775807 < t.length + 1 + (1 + A.length + (B.length + st.text.length)) := by omega
          refine wp_region_held_drew (S := TxS w (wr.heap.size) st) (by kernel_rfl) hS0 (fun hS1 => ?_)
          generalize World.drew _ = WD at hS1 ⊢
          refine wpAnyH_take (i := 0) (v := ?_) rfl (by kernel_rfl) (by kernel_rfl) (by kernel_rfl) (fun _ _ _ h => h) (Or.inl ⟨by rfl, ?_⟩) (by assumption) ?_
          rotate_left
          · (intro w' hSw; obtain ⟨s1, s2, s3, s4⟩ := hSw; go_simp; try with_reducible rfl)
          try simp only [Act.put, List.getElem_toArray, List.getElem_cons_zero, List.setIfInBounds_toArray, List.set_cons_zero, List.set_cons_succ]
          refine wpAnyH_take (i := 1) (v := ?_) rfl (by kernel_rfl) (by kernel_rfl) (by kernel_rfl) (fun _ _ _ h => h) (Or.inl ⟨by rfl, ?_⟩) (by assumption) ?_
          rotate_left
          · (intro w' hSw; obtain ⟨s1, s2, s3, s4⟩ := hSw; go_simp; try with_reducible rfl)
          try simp only [Act.put, List.getElem_toArray, List.getElem_cons_zero, List.getElem_cons_succ, List.setIfInBounds_toArray, List.set_cons_zero, List.set_cons_succ]
          refine wpAnyH_take (i := 2) (v := ?_) rfl (by kernel_rfl) (by kernel_rfl) (by kernel_rfl) (fun _ _ _ h => h) (Or.inl ⟨by rfl, ?_⟩) (by assumption) ?_
          rotate_left
          · (intro w' hSw; obtain ⟨s1, s2, s3, s4⟩ := hSw; go_simp; try with_reducible rfl)
          try simp only [Act.put, List.getElem_toArray, List.getElem_cons_zero, List.getElem_cons_succ, List.setIfInBounds_toArray, List.set_cons_zero, List.set_cons_succ]
          refine wpAnyH_take (i := 3) (v := ?_) rfl (by kernel_rfl) (by kernel_rfl) (by kernel_rfl) (fun _ _ _ h => h) (Or.inl ⟨by rfl, ?_⟩) (by assumption) ?_
          rotate_left
          · (intro w' hSw; obtain ⟨s1, s2, s3, s4⟩ := hSw; go_simp; try with_reducible rfl)
          try simp only [Act.put, List.getElem_toArray, List.getElem_cons_zero, List.getElem_cons_succ, List.setIfInBounds_toArray, List.set_cons_zero, List.set_cons_succ]
          refine wpAnyH_take (i := 6) (v := ?_) rfl (by kernel_rfl) (by kernel_rfl) (by kernel_rfl) (fun _ _ _ h => h) (Or.inl ⟨by rfl, ?_⟩) (by assumption) ?_
          rotate_left
          · (intro w' hSw; obtain ⟨s1, s2, s3, s4⟩ := hSw; go_simp; try with_reducible rfl)
          try simp only [Act.put, List.getElem_toArray, List.getElem_cons_zero, List.getElem_cons_succ, List.setIfInBounds_toArray, List.set_cons_zero, List.set_cons_succ]
          refine wpAnyH_take (i := 7) (v := ?_) rfl (by kernel_rfl) (by kernel_rfl) (by kernel_rfl) (fun _ _ _ h => h) (Or.inl ⟨by rfl, ?_⟩) (by assumption) ?_
          rotate_left
          · (intro w' hSw; obtain ⟨s1, s2, s3, s4⟩ := hSw; go_simp; try with_reducible rfl)
          try simp only [Act.put, List.getElem_toArray, List.getElem_cons_zero, List.getElem_cons_succ, List.setIfInBounds_toArray, List.set_cons_zero, List.set_cons_succ]
          refine wpAnyH_take (i := 8) (v := ?_) rfl (by kernel_rfl) (by kernel_rfl) (by kernel_rfl) (fun _ _ _ h => h) (Or.inl ⟨by rfl, ?_⟩) (by assumption) ?_
          rotate_left
          · (intro w' hSw; obtain ⟨s1, s2, s3, s4⟩ := hSw; go_simp; try with_reducible rfl)
          try simp only [Act.put, List.getElem_toArray, List.getElem_cons_zero, List.getElem_cons_succ, List.setIfInBounds_toArray, List.set_cons_zero, List.set_cons_succ]
          refine wpAnyH_take (i := 9) (v := ?_) rfl (by kernel_rfl) (by kernel_rfl) (by kernel_rfl) (fun _ _ _ h => h) (Or.inl ⟨by rfl, ?_⟩) (by assumption) ?_
          rotate_left
          · (intro w' hSw; obtain ⟨s1, s2, s3, s4⟩ := hSw; go_simp; try with_reducible rfl)
          try simp only [Act.put, List.getElem_toArray, List.getElem_cons_zero, List.getElem_cons_succ, List.setIfInBounds_toArray, List.set_cons_zero, List.set_cons_succ]
          refine wpAnyH_take (i := 12) (v := ?_) rfl (by kernel_rfl) (by kernel_rfl) (by kernel_rfl) (fun _ _ _ h => h) (Or.inl ⟨by rfl, ?_⟩) (by assumption) ?_
          rotate_left
          · (intro w' hSw; obtain ⟨s1, s2, s3, s4⟩ := hSw; go_simp; try with_reducible rfl)
          try simp only [Act.put, List.getElem_toArray, List.getElem_cons_zero, List.getElem_cons_succ, List.setIfInBounds_toArray, List.set_cons_zero, List.set_cons_succ]
          refine wpAnyH_take (i := 13) (v := ?_) rfl (by kernel_rfl) (by kernel_rfl) (by kernel_rfl) (fun _ _ _ h => h) (Or.inl ⟨by rfl, ?_⟩) (by assumption) ?_
          rotate_left
          · (intro w' hSw; obtain ⟨s1, s2, s3, s4⟩ := hSw; go_simp; try with_reducible rfl)
          try simp only [Act.put, List.getElem_toArray, List.getElem_cons_zero, List.getElem_cons_succ, List.setIfInBounds_toArray, List.set_cons_zero, List.set_cons_succ]
          refine wpAnyH_take (i := 14) (v := ?_) rfl (by kernel_rfl) (by kernel_rfl) (by kernel_rfl) (fun _ _ _ h => h) (Or.inl ⟨by rfl, ?_⟩) (by assumption) ?_
          rotate_left
          · (intro w' hSw; obtain ⟨s1, s2, s3, s4⟩ := hSw; go_simp; try with_reducible rfl)
          try simp only [Act.put, List.getElem_toArray, List.getElem_cons_zero, List.getElem_cons_succ, List.setIfInBounds_toArray, List.set_cons_zero, List.set_cons_succ]
          refine wpAnyH_ready (rs := [4, 10]) (by kernel_rfl) (by simp) ?_
          refine AllReadyH.cons (o := _) rfl (fun K hK => ?_) (AllReadyH.cons (o := _) rfl (fun K hK => ?_) AllReadyH.nil)
          · go_simp
            refine hK.out _ _ (TxS.step hS1 (rAlloc _ _)) (fun hs1_4' => ?_)
            have hs1_4 := TxS2.new _ (by omega) hs1_4'
            clear hK K hs1_4'
            refine wpAnyH_mono (S := TxS2 w (wr.heap.size) st WD.heap.size) (fun _ h => h.s) ?_
            try simp only [Act.put, List.getElem_toArray, List.getElem_cons_zero, List.getElem_cons_succ, List.setIfInBounds_toArray, List.set_cons_zero, List.set_cons_succ]
            refine wpAnyH_take (i := 5) (v := ?_) rfl (by kernel_rfl) (by kernel_rfl) (by kernel_rfl) (fun _ _ _ h => h) (Or.inl ⟨by rfl, ?_⟩) (by assumption) ?_
            rotate_left
            · (intro w' hSw; obtain ⟨⟨s1, s2, s3, s4⟩, s5, s6⟩ := hSw; have s7 := conv_at s5; go_simp; try with_reducible rfl)
            try simp only [Act.put, List.getElem_toArray, List.getElem_cons_zero, List.getElem_cons_succ, List.setIfInBounds_toArray, List.set_cons_zero, List.set_cons_succ]
            refine wpAnyH_ready (rs := [10]) (by kernel_rfl) (by simp) ?_
            refine AllReadyH.cons (o := _) rfl (fun K hK => ?_) AllReadyH.nil
            · go_simp
              go_at_call 68
              refine (HN.out _).mono ?_
              rintro e w210 ⟨rfl, hb2⟩
              go_wp2_with fail
              refine hK.out _ _ (TxS2.step hs1_4 hb2) (fun hs2_10 => ?_)
              clear hK K hb2
              try simp only [Act.put, List.getElem_toArray, List.getElem_cons_zero, List.getElem_cons_succ, List.setIfInBounds_toArray, List.set_cons_zero, List.set_cons_succ]
              refine wpAnyH_take (i := 11) (v := ?_) rfl (by kernel_rfl) (by kernel_rfl) (by kernel_rfl) (fun _ _ _ h => h) (Or.inl ⟨by rfl, ?_⟩) (by assumption) ?_
              rotate_left
              · (intro w' hSw; obtain ⟨⟨s1, s2, s3, s4⟩, s5, s6⟩ := hSw; have s7 := conv_at s5; go_simp; try with_reducible rfl)
              try simp only [Act.put, List.getElem_toArray, List.getElem_cons_zero, List.getElem_cons_succ, List.setIfInBounds_toArray, List.set_cons_zero, List.set_cons_succ]
              refine wpAnyH_ready (rs := [15]) (by kernel_rfl) (by simp) ?_
              refine AllReadyH.cons (o := _) rfl (fun K hK => ?_) AllReadyH.nil
              · go_simp
                go_at_call 69
                refine (HB.out _).mono ?_
                rintro e w315 ⟨rfl, hb3⟩
                go_wp2_with fail
                refine hK.out _ _ (TxS2.step hs2_10 hb3) (fun hs3_15 => ?_)
                clear hK K hb3
                try simp only [Act.put, List.getElem_toArray, List.getElem_cons_zero, List.getElem_cons_succ, List.setIfInBounds_toArray, List.set_cons_zero, List.set_cons_succ]
                refine wpAnyH_take (i := 16) (v := ?_) rfl (by kernel_rfl) (by kernel_rfl) (by kernel_rfl) (fun _ _ _ h => h) (Or.inl ⟨by rfl, ?_⟩) (by assumption) ?_
                rotate_left
                · (intro w' hSw; obtain ⟨⟨s1, s2, s3, s4⟩, s5, s6⟩ := hSw; have s7 := conv_at s5; go_simp; try with_reducible rfl)
                try simp only [Act.put, List.getElem_toArray, List.getElem_cons_zero, List.getElem_cons_succ, List.setIfInBounds_toArray, List.set_cons_zero, List.set_cons_succ]
                refine wpAnyH_take (i := 17) (v := ?_) rfl (by kernel_rfl) (by kernel_rfl) (by kernel_rfl) (fun _ _ _ h => h) (Or.inl ⟨by rfl, ?_⟩) (by assumption) ?_
                rotate_left
                · (intro w' hSw; obtain ⟨⟨s1, s2, s3, s4⟩, s5, s6⟩ := hSw; have s7 := conv_at s5; go_simp; try with_reducible rfl)
                try simp only [Act.put, List.getElem_toArray, List.getElem_cons_zero, List.getElem_cons_succ, List.setIfInBounds_toArray, List.set_cons_zero, List.set_cons_succ]
                refine wpAnyH_take (i := 18) (v := ?_) rfl (by kernel_rfl) (by kernel_rfl) (by kernel_rfl) (fun _ _ _ h => h) (Or.inl ⟨by rfl, ?_⟩) (by assumption) ?_
                rotate_left
                · (intro w' hSw; obtain ⟨⟨s1, s2, s3, s4⟩, s5, s6⟩ := hSw; have s7 := conv_at s5; go_simp; try with_reducible rfl)
                try simp only [Act.put, List.getElem_toArray, List.getElem_cons_zero, List.getElem_cons_succ, List.setIfInBounds_toArray, List.set_cons_zero, List.set_cons_succ]
                refine wpAnyH_done (by kernel_rfl) ?_ _
                have Hbf := Lib.hid hs3_15.s.bel
                go_wp2_with fail
                refine ⟨⟨k + 1, t ++ (1 :: (UInt8.ofNat st.kind :: (A ++ (B ++ st.text)))), by go_num, congrArg Value.string (by apply ByteArray.ext; simp), by omega, by simp only [List.length_append, List.length_cons]; omega, Hbf, Hnx⟩, by simp [intOf]; omega⟩
          · go_simp
            go_at_call 68
            refine (HN.out _).mono ?_
            rintro e w110 ⟨rfl, hb1⟩
            go_wp2_with fail
            refine hK.out _ _ (TxS.step hS1 hb1) (fun hs1_10 => ?_)
            clear hK K hb1
            try simp only [Act.put, List.getElem_toArray, List.getElem_cons_zero, List.getElem_cons_succ, List.setIfInBounds_toArray, List.set_cons_zero, List.set_cons_succ]
            refine wpAnyH_ready (rs := [4, 15]) (by kernel_rfl) (by simp) ?_
            refine AllReadyH.cons (o := _) rfl (fun K hK => ?_) (AllReadyH.cons (o := _) rfl (fun K hK => ?_) AllReadyH.nil)
            · go_simp
              refine hK.out _ _ (TxS.step hs1_10 (rAlloc _ _)) (fun hs4_4' => ?_)
              have hs4_4 := TxS2.new _ (by omega) hs4_4'
              clear hK K hs4_4'
              refine wpAnyH_mono (S := TxS2 w (wr.heap.size) st w110.heap.size) (fun _ h => h.s) ?_
              try simp only [Act.put, List.getElem_toArray, List.getElem_cons_zero, List.getElem_cons_succ, List.setIfInBounds_toArray, List.set_cons_zero, List.set_cons_succ]
              refine wpAnyH_take (i := 5) (v := ?_) rfl (by kernel_rfl) (by kernel_rfl) (by kernel_rfl) (fun _ _ _ h => h) (Or.inl ⟨by rfl, ?_⟩) (by assumption) ?_
              rotate_left
              · (intro w' hSw; obtain ⟨⟨s1, s2, s3, s4⟩, s5, s6⟩ := hSw; have s7 := conv_at s5; go_simp; try with_reducible rfl)
              try simp only [Act.put, List.getElem_toArray, List.getElem_cons_zero, List.getElem_cons_succ, List.setIfInBounds_toArray, List.set_cons_zero, List.set_cons_succ]
              refine wpAnyH_take (i := 11) (v := ?_) rfl (by kernel_rfl) (by kernel_rfl) (by kernel_rfl) (fun _ _ _ h => h) (Or.inl ⟨by rfl, ?_⟩) (by assumption) ?_
              rotate_left
              · (intro w' hSw; obtain ⟨⟨s1, s2, s3, s4⟩, s5, s6⟩ := hSw; have s7 := conv_at s5; go_simp; try with_reducible rfl)
              try simp only [Act.put, List.getElem_toArray, List.getElem_cons_zero, List.getElem_cons_succ, List.setIfInBounds_toArray, List.set_cons_zero, List.set_cons_succ]
              refine wpAnyH_ready (rs := [15]) (by kernel_rfl) (by simp) ?_
              refine AllReadyH.cons (o := _) rfl (fun K hK => ?_) AllReadyH.nil
              · go_simp
                go_at_call 69
                refine (HB.out _).mono ?_
                rintro e w515 ⟨rfl, hb5⟩
                go_wp2_with fail
                refine hK.out _ _ (TxS2.step hs4_4 hb5) (fun hs5_15 => ?_)
                clear hK K hb5
                try simp only [Act.put, List.getElem_toArray, List.getElem_cons_zero, List.getElem_cons_succ, List.setIfInBounds_toArray, List.set_cons_zero, List.set_cons_succ]
                refine wpAnyH_take (i := 16) (v := ?_) rfl (by kernel_rfl) (by kernel_rfl) (by kernel_rfl) (fun _ _ _ h => h) (Or.inl ⟨by rfl, ?_⟩) (by assumption) ?_
                rotate_left
                · (intro w' hSw; obtain ⟨⟨s1, s2, s3, s4⟩, s5, s6⟩ := hSw; have s7 := conv_at s5; go_simp; try with_reducible rfl)
                try simp only [Act.put, List.getElem_toArray, List.getElem_cons_zero, List.getElem_cons_succ, List.setIfInBounds_toArray, List.set_cons_zero, List.set_cons_succ]
                refine wpAnyH_take (i := 17) (v := ?_) rfl (by kernel_rfl) (by kernel_rfl) (by kernel_rfl) (fun _ _ _ h => h) (Or.inl ⟨by rfl, ?_⟩) (by assumption) ?_
                rotate_left
                · (intro w' hSw; obtain ⟨⟨s1, s2, s3, s4⟩, s5, s6⟩ := hSw; have s7 := conv_at s5; go_simp; try with_reducible rfl)
                try simp only [Act.put, List.getElem_toArray, List.getElem_cons_zero, List.getElem_cons_succ, List.setIfInBounds_toArray, List.set_cons_zero, List.set_cons_succ]
                refine wpAnyH_take (i := 18) (v := ?_) rfl (by kernel_rfl) (by kernel_rfl) (by kernel_rfl) (fun _ _ _ h => h) (Or.inl ⟨by rfl, ?_⟩) (by assumption) ?_
                rotate_left
                · (intro w' hSw; obtain ⟨⟨s1, s2, s3, s4⟩, s5, s6⟩ := hSw; have s7 := conv_at s5; go_simp; try with_reducible rfl)
                try simp only [Act.put, List.getElem_toArray, List.getElem_cons_zero, List.getElem_cons_succ, List.setIfInBounds_toArray, List.set_cons_zero, List.set_cons_succ]
                refine wpAnyH_done (by kernel_rfl) ?_ _
                have Hbf := Lib.hid hs5_15.s.bel
                go_wp2_with fail
                refine ⟨⟨k + 1, t ++ (1 :: (UInt8.ofNat st.kind :: (A ++ (B ++ st.text)))), by go_num, congrArg Value.string (by apply ByteArray.ext; simp), by omega, by simp only [List.length_append, List.length_cons]; omega, Hbf, Hnx⟩, by simp [intOf]; omega⟩
            · go_simp
              go_at_call 69
              refine (HB.out _).mono ?_
              rintro e w415 ⟨rfl, hb4⟩
              go_wp2_with fail
              refine hK.out _ _ (TxS.step hs1_10 hb4) (fun hs4_15 => ?_)
              clear hK K hb4
              try simp only [Act.put, List.getElem_toArray, List.getElem_cons_zero, List.getElem_cons_succ, List.setIfInBounds_toArray, List.set_cons_zero, List.set_cons_succ]
              refine wpAnyH_ready (rs := [4]) (by kernel_rfl) (by simp) ?_
              refine AllReadyH.cons (o := _) rfl (fun K hK => ?_) AllReadyH.nil
              · go_simp
                refine hK.out _ _ (TxS.step hs4_15 (rAlloc _ _)) (fun hs6_4' => ?_)
                have hs6_4 := TxS2.new _ (by omega) hs6_4'
                clear hK K hs6_4'
                refine wpAnyH_mono (S := TxS2 w (wr.heap.size) st w415.heap.size) (fun _ h => h.s) ?_
                try simp only [Act.put, List.getElem_toArray, List.getElem_cons_zero, List.getElem_cons_succ, List.setIfInBounds_toArray, List.set_cons_zero, List.set_cons_succ]
                refine wpAnyH_take (i := 5) (v := ?_) rfl (by kernel_rfl) (by kernel_rfl) (by kernel_rfl) (fun _ _ _ h => h) (Or.inl ⟨by rfl, ?_⟩) (by assumption) ?_
                rotate_left
                · (intro w' hSw; obtain ⟨⟨s1, s2, s3, s4⟩, s5, s6⟩ := hSw; have s7 := conv_at s5; go_simp; try with_reducible rfl)
                try simp only [Act.put, List.getElem_toArray, List.getElem_cons_zero, List.getElem_cons_succ, List.setIfInBounds_toArray, List.set_cons_zero, List.set_cons_succ]
                refine wpAnyH_take (i := 11) (v := ?_) rfl (by kernel_rfl) (by kernel_rfl) (by kernel_rfl) (fun _ _ _ h => h) (Or.inl ⟨by rfl, ?_⟩) (by assumption) ?_
                rotate_left
                · (intro w' hSw; obtain ⟨⟨s1, s2, s3, s4⟩, s5, s6⟩ := hSw; have s7 := conv_at s5; go_simp; try with_reducible rfl)
                try simp only [Act.put, List.getElem_toArray, List.getElem_cons_zero, List.getElem_cons_succ, List.setIfInBounds_toArray, List.set_cons_zero, List.set_cons_succ]
                refine wpAnyH_take (i := 16) (v := ?_) rfl (by kernel_rfl) (by kernel_rfl) (by kernel_rfl) (fun _ _ _ h => h) (Or.inl ⟨by rfl, ?_⟩) (by assumption) ?_
                rotate_left
                · (intro w' hSw; obtain ⟨⟨s1, s2, s3, s4⟩, s5, s6⟩ := hSw; have s7 := conv_at s5; go_simp; try with_reducible rfl)
                try simp only [Act.put, List.getElem_toArray, List.getElem_cons_zero, List.getElem_cons_succ, List.setIfInBounds_toArray, List.set_cons_zero, List.set_cons_succ]
                refine wpAnyH_take (i := 17) (v := ?_) rfl (by kernel_rfl) (by kernel_rfl) (by kernel_rfl) (fun _ _ _ h => h) (Or.inl ⟨by rfl, ?_⟩) (by assumption) ?_
                rotate_left
                · (intro w' hSw; obtain ⟨⟨s1, s2, s3, s4⟩, s5, s6⟩ := hSw; have s7 := conv_at s5; go_simp; try with_reducible rfl)
                try simp only [Act.put, List.getElem_toArray, List.getElem_cons_zero, List.getElem_cons_succ, List.setIfInBounds_toArray, List.set_cons_zero, List.set_cons_succ]
                refine wpAnyH_take (i := 18) (v := ?_) rfl (by kernel_rfl) (by kernel_rfl) (by kernel_rfl) (fun _ _ _ h => h) (Or.inl ⟨by rfl, ?_⟩) (by assumption) ?_
                rotate_left
                · (intro w' hSw; obtain ⟨⟨s1, s2, s3, s4⟩, s5, s6⟩ := hSw; have s7 := conv_at s5; go_simp; try with_reducible rfl)
                try simp only [Act.put, List.getElem_toArray, List.getElem_cons_zero, List.getElem_cons_succ, List.setIfInBounds_toArray, List.set_cons_zero, List.set_cons_succ]
                refine wpAnyH_done (by kernel_rfl) ?_ _
                have Hbf := Lib.hid hs6_4.s.bel
                go_wp2_with fail
                refine ⟨⟨k + 1, t ++ (1 :: (UInt8.ofNat st.kind :: (A ++ (B ++ st.text)))), by go_num, congrArg Value.string (by apply ByteArray.ext; simp), by omega, by simp only [List.length_append, List.length_cons]; omega, Hbf, Hnx⟩, by simp [intOf]; omega⟩
        · simp only at ho
          subst ho
          obtain ⟨-, hto, hto2⟩ := hxok.jump (by simp)
          simp only at hto hto2
          have HN := Lib.hid (fun W => NumberR_calls W (u64 to') (u64_lt _))
          have hu := wrapU to'
          have hcv1 := conv_byte 2 2 rfl
          have hti : textI ⟨2, st, to'⟩ = 2 :: numT (u64 to') := by unfold textI; rw [if_neg (by simp), if_pos (by simp)]; rfl
          rw [hti] at hnx hil
          have Hnx := Lib.hid hnx
          clear hnx hti
          generalize hA : numT (u64 to') = A at *
          clear hA
          simp only [List.length_cons] at hil
          have hn1 : ¬ 9223372036854775807 < t.length + 1 := by omega
          have hn2 : ¬ 9223372036854775807 < t.length + 1 + A.length := by omega
          go_wp2_with fail
          refine (HN.out _).mono ?_
          rintro e w2 ⟨rfl, hb2⟩
          have Hb2 := Lib.hid (rStep (rStep (rStep Hbr.out (rAlloc _ _)) (rAlloc _ _)) hb2)
          clear hb2
          go_wp2_with fail
          refine ⟨⟨k + 1, t ++ (2 :: A), by go_num, congrArg Value.string (by apply ByteArray.ext; simp), by omega, by simp only [List.length_append, List.length_cons]; omega, Hb2, Hnx⟩, by simp [intOf]; omega⟩
        · simp only at ho
          subst ho
          have hcv1 := conv_byte 3 3 rfl
          have hti : textI ⟨3, st, to'⟩ = [3] := by unfold textI; rw [if_neg (by simp), if_neg (by simp)]; rfl
          rw [hti] at hnx hil
          have Hnx := Lib.hid hnx
          clear hnx hti
          have hn1 : ¬ 9223372036854775807 < t.length + 1 := by omega
          go_wp2_with fail
          refine ⟨⟨k + 1, t ++ [3], by go_num, congrArg Value.string (by apply ByteArray.ext; simp), by omega, by simp only [List.length_append, List.length_cons, List.length_nil]; omega, Lib.hid (rStep (rStep Hbr.out (rAlloc _ _)) (rAlloc _ _)), Hnx⟩, by simp [intOf]; omega⟩
        · simp only at ho
          subst ho
          obtain ⟨-, hto, hto2⟩ := hxok.jump (by simp)
          simp only at hto hto2
          have HN := Lib.hid (fun W => NumberR_calls W (u64 to') (u64_lt _))
          have hu := wrapU to'
          have hcv1 := conv_byte 4 4 rfl
          have hti : textI ⟨4, st, to'⟩ = 4 :: numT (u64 to') := by unfold textI; rw [if_neg (by simp), if_pos (by simp)]; rfl
          rw [hti] at hnx hil
          have Hnx := Lib.hid hnx
          clear hnx hti
          generalize hA : numT (u64 to') = A at *
          clear hA
          simp only [List.length_cons] at hil
          have hn1 : ¬ 9223372036854775807 < t.length + 1 := by omega
          have hn2 : ¬ 9223372036854775807 < t.length + 1 + A.length := by omega
          go_wp2_with fail
          refine (HN.out _).mono ?_
          rintro e w2 ⟨rfl, hb2⟩
          have Hb2 := Lib.hid (rStep (rStep (rStep Hbr.out (rAlloc _ _)) (rAlloc _ _)) hb2)
          clear hb2
          go_wp2_with fail
          refine ⟨⟨k + 1, t ++ (4 :: A), by go_num, congrArg Value.string (by apply ByteArray.ext; simp), by omega, by simp only [List.length_append, List.length_cons]; omega, Hb2, Hnx⟩, by simp [intOf]; omega⟩
        · simp only at ho
          subst ho
          have hcv1 := conv_byte 5 5 rfl
          have hti : textI ⟨5, st, to'⟩ = [5] := by unfold textI; rw [if_neg (by simp), if_neg (by simp)]; rfl
          rw [hti] at hnx hil
          have Hnx := Lib.hid hnx
          clear hnx hti
          have hn1 : ¬ 9223372036854775807 < t.length + 1 := by omega
          go_wp2_with fail
          refine ⟨⟨k + 1, t ++ [5], by go_num, congrArg Value.string (by apply ByteArray.ext; simp), by omega, by simp only [List.length_append, List.length_cons, List.length_nil]; omega, Lib.hid (rStep (rStep Hbr.out (rAlloc _ _)) (rAlloc _ _)), Hnx⟩, by simp [intOf]; omega⟩
      · have Hte2 := Lib.hid (show textL p = t by rw [← Hte.out, List.take_of_length_le (by omega)])
        rw [Hte2.out] at Hv
        by_cases h16 : t.length ≤ 16384
        · have h16' : ¬ (16384 : Int) < t.length := by omega
          rw [if_pos h16] at Hv
          go_wp2_with fail
          go_ret2
          exact ⟨by rw [Hv.out]; rfl, Hbr.out⟩
        · have h16' : (16384 : Int) < t.length := by omega
          rw [if_neg h16] at Hv
          go_wp2_with fail
          go_ret2
          exact ⟨by rw [Hv.out]; rfl, Hbr.out⟩

end Go.Proofs.YtcjmhmmjfgjcnaaGreatDoor.Cd
