/- Parts: PfC PfE. -/
import Derived.Test.YtghnkgeaocpmaaaGreatDoorMh08

/- ParseBack: the walk. -/
namespace Go.Proofs.YtghnkgeaocpmaaaGreatDoor.Pa
open Go.RowKit Go.Proofs.YtghnkgeaocpmaaaGreatDoor.Lx

/-! ### how long what is printed may be -/
theorem lens_map {α : Type} (f : α → Txt) (B : Nat) : ∀ l : List α, (∀ x ∈ l, (f x).length ≤ B) → Lib.lens (l.map f) ≤ l.length * B
  | [], _ => by simp [Lib.lens]
  | x :: l, h => by
    have h1 := h x (by simp)
    have h2 := lens_map f B l fun y hy => h y (by simp [hy])
    rw [List.map_cons, lens_cons, List.length_cons, Nat.add_mul, Nat.one_mul]
    omega
theorem print_len {w : World} {st : Stm} {vi ve : Value} (h : PrArgs w st vi ve) (hc : checkB st = true) : (printT st).length ≤ 10000000000000 := by
  have h1 := h.ck.ht
  have h2 := h.ck.hf
  have h3 := showE_len h.hn h.ck.hy
  have h4 := check_items hc
  have hs : ∀ i ∈ st.items, (showE i.expr).length ≤ 8858489600 ∧ i.name.length ≤ 1073741824 := fun i hi => ⟨showE_len (h.hin i hi) (h.ck.his i hi).2.2, (h.ck.his i hi).1⟩
  have h5 : (setT st.items).length ≤ 64 * 10000000000 + 128 := by
    unfold setT
    have a := join_len (st.items.map fun i => i.name ++ kX ++ showE i.expr) [44, 32]
    have b := lens_map (fun i : Itm => i.name ++ kX ++ showE i.expr) 10000000000 st.items fun i hi => by
      have := hs i hi
      simp only [List.length_append, kX, List.length_cons, List.length_nil]
      omega
    have c := Nat.mul_le_mul_right 10000000000 h4
    simp only [List.length_map, List.length_cons, List.length_nil] at a
    omega
  have h6 : (asT st.items).length ≤ 64 * 10000000000 + 128 := by
    unfold asT
    have a := join_len (st.items.map fun i => showE i.expr ++ kASX ++ i.name) [44, 32]
    have b := lens_map (fun i : Itm => showE i.expr ++ kASX ++ i.name) 10000000000 st.items fun i hi => by
      have := hs i hi
      simp only [List.length_append, kASX, List.length_cons, List.length_nil]
      omega
    have c := Nat.mul_le_mul_right 10000000000 h4
    simp only [List.length_map, List.length_cons, List.length_nil] at a
    omega
  have h7 : (whereT st).length ≤ 8858489610 := by
    unfold whereT
    split
    · simp
    · simp only [List.length_append, kWHEREX, List.length_cons, List.length_nil]; omega
  unfold printT
  simp only [kCREATETABLEX, kCREATEINDEXONX, kX', kINSERTINTOX, kUPDATEX, kSETX, kDELETEFROMX, kSELECTX, kFROMX, kHISTORYX, kORDERBYX, kDESCX]
  repeat' split
  all_goals simp only [List.length_append, List.length_cons, List.length_nil]
  all_goals omega

/-! ### what is asked, in a later world -/
theorem CkArgs.below {w w' : World} {st : Stm} {vi ve : Value} (h : CkArgs w st vi ve) (hb : Below w.heap.size w w') : CkArgs w' st vi ve :=
  ⟨h.hi.below hb, h.hv.below hb, h.ht, h.hf, h.hl, h.hy, h.hil, h.his, h.he.below hb⟩
theorem PrArgs.below {w w' : World} {st : Stm} {vi ve : Value} (h : PrArgs w st vi ve) (hb : Below w.heap.size w w') : PrArgs w' st vi ve := ⟨h.ck.below hb, h.hn, h.hin⟩
theorem PrArgs.num {w : World} {st : Stm} {vi ve : Value} (h : PrArgs w st vi ve) : NumS st := ⟨h.hn, h.hin⟩

/-- what is read of what is printed -/
def GaveZ (w : World) (st : Stm) (e : Ending) (w' : World) : Prop := Below w.heap.size w w' ∧ ∃ (z : Stm) (ai : Option Addr) (ni ci : Nat) (ae : Option Addr) (ne ce : Nat) (c a : Nat),
  e = .returned (.tuple #[z.val (.slice ai ni ci) (.slice ae ne ce), .int .i64 c, .int .i64 a]) ∧
  ((c = 0 ∧ z = st ∧ ItmsIn w' (.slice ai ni ci) st.items ∧ StpsIn w' (.slice ae ne ce) st.expr) ∨ (c = 10 ∧ DeepS st))
theorem printed_parse {w : World} {st : Stm} {vi ve : Value} (h : PrArgs w st vi ve) (hc : checkB st = true) (hl : (printT st).length ≤ 16384) (w2 : World) (he : Env w2) :
    Calls Tryz.prog 24 #[.string ⟨(printT st).toArray⟩] w2 (GaveZ w2 st) := by
  obtain ⟨n0, hn⟩ := print_parse hc h.num hl
  obtain ⟨r, hr, hq⟩ := hn n0 (Nat.le_refl _)
  refine (Parse_calls n0 ⟨(printT st).toArray⟩ w2 (by rw [size_mk]; unfold maxLen; omega) he (r := r) (by rw [L_mk]; exact hr)).mono ?_
  rintro e w' ⟨hb, hg⟩
  refine ⟨hb, ?_⟩
  rcases hq with rfl | ⟨⟨a, rfl⟩, hd⟩
  · obtain ⟨vi', ve', rfl, hi, hv, -⟩ := hg
    obtain ⟨ai, ni, ci, rfl, -⟩ := id hi
    obtain ⟨ae, ne, ce, rfl, -⟩ := id hv
    exact ⟨st, ai, ni, ci, ae, ne, ce, 0, 0, rfl, .inl ⟨rfl, rfl, hi, hv⟩⟩
  · simp only at hg
    exact ⟨stm0, none, 0, 0, none, 0, 0, 10, a, hg, .inr ⟨rfl, hd⟩⟩
theorem long_parse {w : World} {st : Stm} {vi ve : Value} (h : PrArgs w st vi ve) (hc : checkB st = true) (hl : ¬ (printT st).length ≤ 16384) (w2 : World) (he : Env w2) :
    Calls Tryz.prog 24 #[.string ⟨(printT st).toArray⟩] w2 fun e w' => e = .returned (.tuple #[stm0.val (.slice none 0 0) (.slice none 0 0), .int .i64 4, .int .i64 0]) ∧ Below w2.heap.size w2 w' := by
  have hr : parseF 0 (printT st) = some (.err 4 0) := by
    unfold parseF lexL
    rw [if_pos (by omega)]
  refine (Parse_calls 0 ⟨(printT st).toArray⟩ w2 (by rw [size_mk]; have := print_len h hc; unfold maxLen; omega) he (r := .err 4 0) (by rw [L_mk]; exact hr)).mono ?_
  rintro e w' ⟨hb, hg⟩
  exact ⟨hg, hb⟩

/-- the most steps of the first items -/
structure MostS (st : Stm) (k m : Nat) : Prop where
  expr : st.expr.length ≤ m
  items : ∀ i (h : i < st.items.length), i < k → st.items[i].expr.length ≤ m
theorem MostS.deep {st : Stm} {k m : Nat} (h : MostS st k m) (hk : st.items.length ≤ k) (hd : DeepS st) : 8 < m := by
  rcases hd with hd | ⟨i, hi, hd⟩
  · have := h.expr; omega
  · obtain ⟨j, hj, rfl⟩ := List.getElem_of_mem hi
    have := h.items j hj (by omega)
    omega

/-- what the loop keeps -/
structure BkR (w wr : World) (st : Stm) (vi ve : Value) (B : Nat) (z : Stm) (zi ze : Value) (c k m : Nat) : Prop where
  bel : Below w.heap.size w wr
  c1 : wr.heap[w.heap.size]? = some (.cells (smC st vi ve) 26)
  c2 : wr.heap[B]? = some (.cells (smC z zi ze) 26)
  z : (c = 0 ∧ z = st ∧ ItmsIn wr zi st.items ∧ StpsIn wr ze st.expr) ∨ (c = 10 ∧ DeepS st)
  most : MostS st k m
theorem BkR.step {w wr wx : World} {st z : Stm} {vi ve zi ze : Value} {B c k m : Nat} (h : BkR w wr st vi ve B z zi ze c k m) (hb : Below wr.heap.size wr wx) : BkR w wx st vi ve B z zi ze c k m :=
  ⟨stepB h.bel hb, (hb.block _ (lt_of_heap h.c1)).trans h.c1, (hb.block _ (lt_of_heap h.c2)).trans h.c2, by
    rcases h.z with ⟨h1, h2, h3, h4⟩ | hz
    · exact .inl ⟨h1, h2, h3.below hb, h4.below hb⟩
    · exact .inr hz, h.most⟩
theorem BkR.more {w wr : World} {st z : Stm} {vi ve zi ze : Value} {B c k m : Nat} (h : BkR w wr st vi ve B z zi ze c k m) {hk : k < st.items.length} : BkR w wr st vi ve B z zi ze c (k + 1) (max m st.items[k].expr.length) :=
  ⟨h.bel, h.c1, h.c2, h.z, by have := h.most.expr; omega, fun i hi hlt => by
    rcases Nat.lt_or_ge i k with h1 | h1
    · have := h.most.items i hi h1; omega
    · obtain rfl : i = k := by omega
      omega⟩

set_option maxHeartbeats 4000000 in
set_option maxRecDepth 100000 in
theorem ParseBack_calls (w : World) (st : Stm) (vi ve : Value) (h : PrArgs w st vi ve) :
    Calls Tryz.prog 4 #[st.val vi ve] w fun e w' => e = .returned (.bool true) ∧ Below w.heap.size w w' := by
  obtain ⟨ai, ni, ci, rfl, hni, -⟩ := id h.ck.hi
  obtain ⟨ae, ne, ce, rfl, hne, -⟩ := id h.ck.hv
  have H := Lib.hid h
  have He := Lib.hid h.ck.he
  have Ht := Lib.hid (heap_alloc_new w (.cells (smC st (.slice ai ni ci) (.slice ae ne ce)) 26))
  have Hb := Lib.hid (alloc_below w (.cells (smC st (.slice ai ni ci) (.slice ae ne ce)) 26))
  have Hni := Lib.hid hni
  have Hne := Lib.hid hne
  have hil := h.ck.hil
  have hel := h.ck.hl
  rw [hni] at hil
  rw [hne] at hel
  have Hpr := Lib.hid (fun (w2 : World) (hb : Below w.heap.size w w2) => Print_calls st w2 _ _ (h.below hb))
  have Hck := Lib.hid (fun (w2 : World) (hb : Below w.heap.size w w2) => Check_calls st w2 _ _ (h.ck.below hb))
  clear h hni hne
  unfold Stm.val at Hpr Hck ⊢
  cases hc : checkB st with
  | false =>
    have HP := Lib.hid (show printV st = .tuple #[.string ⟨#[]⟩, .int .i64 13] by unfold printV; rw [hc]; rfl)
    have HC := Lib.hid (show checkV st = .int .i64 13 by unfold checkV; rw [hc]; rfl)
    rw [HP.out] at Hpr
    rw [HC.out] at Hck
    clear hc
    go_enter Tryz.func4, Tryz.ntmps4
    go_wp2_with fail
    refine (lives_calls _ (He.out.below Hb.out)).mono ?_
    rintro e w0 ⟨rfl, hb0⟩
    have ht0 := (hb0.block w.heap.size (lt_of_heap Ht.out)).trans Ht.out
    obtain ⟨⟨k0, k1, k2, k3, k4, k5, k6⟩, -⟩ := seven ht0
    have Hb0 := Lib.hid (stepB Hb.out hb0)
    have Ht0 := Lib.hid ht0
    clear hb0 ht0
    go_wp2_with fail
    refine (Hpr.out _ Hb0.out).mono ?_
    rintro e w1 ⟨rfl, hb1⟩
    have ht1 := (hb1.block w.heap.size (lt_of_heap Ht0.out)).trans Ht0.out
    clear k0 k1 k2 k3 k4 k5 k6
    obtain ⟨⟨k0, k1, k2, k3, k4, k5, k6⟩, -⟩ := seven ht1
    have Hb1 := Lib.hid (stepB Hb0.out hb1)
    clear hb1 ht1
    go_wp2_with fail
    refine (Hck.out _ Hb1.out).mono ?_
    rintro e w2 ⟨rfl, hb2⟩
    have Hb2 := Lib.hid (stepB Hb1.out hb2)
    clear hb2
    go_wp2_with fail
    go_ret
    exact ⟨rfl, Hb2.out⟩
  | true =>
    have HP := Lib.hid (show printV st = .tuple #[.string ⟨(printT st).toArray⟩, .int .i64 0] by unfold printV; rw [hc]; rfl)
    rw [HP.out] at Hpr
    have Hc := Lib.hid hc
    clear hc
    by_cases hlen : (printT st).length ≤ 16384
    · have Hpa := Lib.hid (fun (w2 : World) (hb : Below w.heap.size w w2) => printed_parse H.out Hc.out hlen w2 (He.out.below hb))
      have hlen' : ¬ (16384 : Int) < (printT st).length := by omega
      generalize printT st = pt at *
      go_enter Tryz.func4, Tryz.ntmps4
      go_wp2_with fail
      refine (lives_calls _ (He.out.below Hb.out)).mono ?_
      rintro e w0 ⟨rfl, hb0⟩
      have ht0 := (hb0.block w.heap.size (lt_of_heap Ht.out)).trans Ht.out
      obtain ⟨⟨k0, k1, k2, k3, k4, k5, k6⟩, -⟩ := seven ht0
      have Hb0 := Lib.hid (stepB Hb.out hb0)
      have Ht0 := Lib.hid ht0
      clear hb0 ht0
      go_wp2_with fail
      refine (Hpr.out _ Hb0.out).mono ?_
      rintro e w1 ⟨rfl, hb1⟩
      have ht1 := (hb1.block w.heap.size (lt_of_heap Ht0.out)).trans Ht0.out
      have Hb1 := Lib.hid (stepB Hb0.out hb1)
      have Ht1 := Lib.hid ht1
      clear hb1 ht1 k0 k1 k2 k3 k4 k5 k6
      go_wp2_with fail
      refine (Hpa.out _ Hb1.out).mono ?_
      rintro e w2 ⟨hb2, z, bi, mi, di, be, me, de, c, a, rfl, hz⟩
      have ht2 := (hb2.block w.heap.size (lt_of_heap Ht1.out)).trans Ht1.out
      have Hb2 := Lib.hid (stepB Hb1.out hb2)
      have Hblk := Lib.hid (heap_alloc_new w2 (.cells (smC z (.slice bi mi di) (.slice be me de)) 26))
      have hba := alloc_below w2 (.cells (smC z (.slice bi mi di) (.slice be me de)) 26)
      have Ht3 := Lib.hid ((hba.block w.heap.size (lt_of_heap ht2)).trans ht2)
      have Hb3 := Lib.hid (stepB Hb2.out hba)
      have Hz := Lib.hid (show (c = 0 ∧ z = st ∧ ItmsIn (w2.alloc (.cells (smC z (.slice bi mi di) (.slice be me de)) 26)) (.slice bi mi di) st.items ∧ StpsIn (w2.alloc (.cells (smC z (.slice bi mi di) (.slice be me de)) 26)) (.slice be me de) st.expr) ∨ (c = 10 ∧ DeepS st) by
        rcases hz with ⟨h1, h2, h3, h4⟩ | hz
        · exact .inl ⟨h1, h2, h3.below hba, h4.below hba⟩
        · exact .inr hz)
      obtain ⟨⟨k0, k1, k2, k3, k4, k5, k6⟩, -⟩ := seven ht2
      have hT : w.heap.size < w2.heap.size := lt_of_heap ht2
      have hc10 : c = 0 ∨ c = 10 := by rcases hz with ⟨h1, _⟩ | ⟨h1, _⟩ <;> simp [h1]
      clear hb2 ht2 hba hz
      unfold Stm.val
      go_wp2_with fail
      go_loopw [8, 44] (fun s8 i wr => ∃ (k m : Nat), k ≤ ni ∧ i = .int .i64 k ∧ s8 = .int .i64 m ∧ m ≤ 2000000 ∧ Hid (BkR w wr st (.slice ai ni ci) (.slice ae ne ce) w2.heap.size z (.slice bi mi di) (.slice be me de) c k m)) (fun _ i _ => ni - (intOf i).toNat)
      case atStart => exact ⟨0, ne, Nat.zero_le _, rfl, rfl, by omega, Hb3.out, Ht3.out, Hblk.out, Hz.out, by rw [Hne.out]; exact Nat.le_refl _, fun i _ h => absurd h (Nat.not_lt_zero _)⟩
      case round =>
        obtain ⟨k, m, hk, rfl, rfl, hm, HR⟩ := hrel
        clear k0 k1 k2 k3 k4 k5 k6
        obtain ⟨⟨k0, k1, k2, k3, k4, k5, k6⟩, -⟩ := seven HR.out.c1
        obtain ⟨⟨q0, q1, q2, q3, q4, q5, q6⟩, -⟩ := seven HR.out.c2
        by_cases hlt : k < ni
        · have hkl : k < st.items.length := by rw [Hni.out]; exact hlt
          obtain ⟨a2, n2, c2, e2, -, -, hax⟩ := (H.out.ck.hi.below HR.out.bel).at
          simp only [Value.slice.injEq] at e2
          obtain ⟨rfl, -, -⟩ := e2
          obtain ⟨g, o, ax, mx, cx, rfl, r0, r1, hst⟩ := hax k hkl
          have hmx : st.items[k].expr.length = mx := by
            obtain ⟨a3, n3, c3, e3, h3, -⟩ := hst
            simp only [Value.slice.injEq] at e3
            rw [e3.2.1]; exact h3
          have hmx2 : mx ≤ 1048576 := by rw [← hmx]; exact (H.out.ck.his _ (List.getElem_mem hkl)).2.1
          have Hmore := Lib.hid (HR.out.more (hk := hkl))
          rw [hmx] at Hmore
          generalize st.items[k] = it at r0
          have hgw : g < wr.heap.size := World.block_lt_of_cell? _ _ r0
          clear hst hax hmx
          go_wp2_with fail
          go_roundw
          case rel => exact ⟨k + 1, max m mx, by omega, by go_num, by congr 1; omega, by omega, Hmore.out.step (alloc_below _ _)⟩
          case measure => simp [intOf]; omega
        · have hkn : st.items.length ≤ k := by rw [Hni.out]; omega
          have hz := HR.out.z
          have hdp := fun hd => HR.out.most.deep hkn hd
          clear hkn
          rcases hz with ⟨rfl, rfl, hzi, hze⟩ | ⟨rfl, hd⟩
          · have Hs := Lib.hid (Same_calls wr z _ _ _ _ (H.out.ck.hi.below HR.out.bel) (H.out.ck.hv.below HR.out.bel) hzi hze (by unfold maxLen; have := H.out.ck.hil; omega) (by unfold maxLen; have := H.out.ck.hl; omega) (fun t ht => by unfold maxLen; have := (H.out.ck.his t ht).2.1; omega))
            unfold Stm.val at Hs
            clear hzi hze hdp
            by_cases h8 : 8 < m
            · have h8i : (8 : Int) < m := by omega
              go_wp2_with fail
              refine Hs.out.mono ?_
              rintro e w5 ⟨rfl, hb5⟩
              have Hb5 := Lib.hid (stepB HR.out.bel hb5)
              clear hb5
              go_wp2_with fail
              go_ret
              exact ⟨rfl, Hb5.out⟩
            · have h8i : ¬ (8 : Int) < m := by omega
              go_wp2_with fail
              refine Hs.out.mono ?_
              rintro e w5 ⟨rfl, hb5⟩
              have Hb5 := Lib.hid (stepB HR.out.bel hb5)
              clear hb5
              go_wp2_with fail
              go_ret
              exact ⟨rfl, Hb5.out⟩
          · have h8i : (8 : Int) < m := by have := hdp hd; omega
            clear hd hdp
            go_wp2_with fail
            go_ret
            exact ⟨rfl, HR.out.bel⟩
    · have Hpa := Lib.hid (fun (w2 : World) (hb : Below w.heap.size w w2) => long_parse H.out Hc.out hlen w2 (He.out.below hb))
      have hlen' : (16384 : Int) < (printT st).length := by omega
      have hlen2 : (printT st).length ≤ 10000000000000 := print_len H.out Hc.out
      generalize printT st = pt at *
      unfold Stm.val stm0 at Hpa
      go_enter Tryz.func4, Tryz.ntmps4
      go_wp2_with fail
      refine (lives_calls _ (He.out.below Hb.out)).mono ?_
      rintro e w0 ⟨rfl, hb0⟩
      have ht0 := (hb0.block w.heap.size (lt_of_heap Ht.out)).trans Ht.out
      obtain ⟨⟨k0, k1, k2, k3, k4, k5, k6⟩, -⟩ := seven ht0
      have Hb0 := Lib.hid (stepB Hb.out hb0)
      clear hb0 ht0
      go_wp2_with fail
      refine (Hpr.out _ Hb0.out).mono ?_
      rintro e w1 ⟨rfl, hb1⟩
      have Hb1 := Lib.hid (stepB Hb0.out hb1)
      clear hb1 k0 k1 k2 k3 k4 k5 k6
      go_wp2_with fail
      refine (Hpa.out _ Hb1.out).mono ?_
      rintro e w2 ⟨rfl, hb2⟩
      have Hb2 := Lib.hid (stepB Hb1.out hb2)
      clear hb2
      go_wp2_with fail
      go_ret
      exact ⟨rfl, stepB Hb2.out (alloc_below _ _)⟩

end Go.Proofs.YtghnkgeaocpmaaaGreatDoor.Pa

/- ParseOnce: the walk. -/
namespace Go.Proofs.YtghnkgeaocpmaaaGreatDoor.Pa
open Go.RowKit Go.Proofs.YtghnkgeaocpmaaaGreatDoor.Lx

theorem parseF_right {n : Nat} {l : Txt} {x : Stm} (h : parseF n l = some (.ok x)) : checkB x = true := by
  cases hl : lexL l with
  | err c p => unfold parseF at h; rw [hl] at h; cases h
  | ok toks =>
    rw [parseF_ok hl] at h
    unfold readT at h
    rw [Option.bind_eq_some_iff] at h
    obtain ⟨r, _, h⟩ := h
    simp only [Option.some.injEq] at h
    unfold finish at h
    split at h
    · cases h
    · split at h
      · rename_i hc
        simp only [Rs.ok.injEq] at h
        rw [← h]; exact hc
      · cases h
theorem parseF_ne {n : Nat} {l : Txt} {c a : Nat} (h : parseF n l = some (.err c a)) : c ≠ 0 := by
  cases hl : lexL l with
  | err d p =>
    unfold parseF at h
    rw [hl] at h
    simp only [Option.some.injEq, Rs.err.injEq] at h
    rw [← h.1]
    have := lexL_ne hl
    simpa using this
  | ok toks =>
    rw [parseF_ok hl] at h
    unfold readT at h
    rw [Option.bind_eq_some_iff] at h
    obtain ⟨r, _, h⟩ := h
    simp only [Option.some.injEq] at h
    unfold finish at h
    split at h
    · rename_i hc
      simp only [Rs.err.injEq] at h
      rw [← h.1]; exact hc
    · split at h
      · cases h
      · simp only [Rs.err.injEq] at h; omega
theorem itms0 (w : World) : ItmsIn w (.slice none 0 0) [] := ⟨none, 0, 0, rfl, rfl, Nat.le_refl _, fun _ hi => absurd hi (Nat.not_lt_zero _)⟩
theorem stps0 (w : World) : StpsIn w (.slice none 0 0) [] := ⟨none, 0, 0, rfl, rfl, Nat.le_refl _, fun _ hi => absurd hi (Nat.not_lt_zero _)⟩

set_option maxHeartbeats 4000000 in
set_option maxRecDepth 100000 in
theorem ParseOnce_calls (s : ByteArray) (w : World) (hs : s.size ≤ 1048576) (he : Env w) :
    Calls Tryz.prog 5 #[.string s] w fun e w' => e = .returned (.bool true) ∧ Below w.heap.size w w' := by
  have He := Lib.hid he
  have Hs := Lib.hid (show s.size ≤ maxLen by unfold maxLen; omega)
  clear he
  obtain ⟨n, hn⟩ := parseF_total (L s)
  obtain ⟨r, hr⟩ := hn n (Nat.le_refl _)
  have Hp := Lib.hid (fun (w2 : World) (hb : Below w.heap.size w w2) => Parse_calls n s w2 Hs.out (He.out.below hb) hr)
  cases r with
  | err c a =>
    have hc := parseF_ne hr
    have ha : a ≤ s.size := by have := parseF_place hr; rw [L_length] at this; exact this
    have hci : ¬ ((c : Int) = 0) := by omega
    have hcb : ((c : Int) != 0) = true := by rw [bne_iff_ne]; exact hci
    have ha0 : (0 : Int) ≤ a := by omega
    have ha1 : (a : Int) ≤ s.size := by omega
    clear hr hn hc
    go_enter Tryz.func5, Tryz.ntmps5
    go_wp2_with fail
    refine (lives_calls w He.out).mono ?_
    rintro e w0 ⟨rfl, hb0⟩
    have Hb0 := Lib.hid hb0
    clear hb0
    go_wp2_with fail
    refine (Hp.out _ Hb0.out).mono ?_
    rintro e w1 ⟨hb1, hg⟩
    simp only at hg
    subst hg
    have Hb1 := Lib.hid (stepB (stepB Hb0.out hb1) (alloc_below w1 (.cells (smC stm0 (.slice none 0 0) (.slice none 0 0)) 26)))
    have Hsm := Lib.hid (Same_calls (w1.alloc (.cells (smC stm0 (.slice none 0 0) (.slice none 0 0)) 26)) stm0 _ _ _ _ (itms0 _) (stps0 _) (itms0 _) (stps0 _) (by simp [stm0]) (by simp [stm0]) (by simp [stm0]))
    unfold Stm.val at Hsm ⊢
    unfold stm0 at Hsm ⊢
    clear hb1
    go_wp2_with fail
    refine Hsm.out.mono ?_
    rintro e w2 ⟨rfl, hb2⟩
    have Hb2 := Lib.hid (stepB Hb1.out hb2)
    clear hb2
    go_wp2_with fail
    go_ret
    exact ⟨ret_bool (by simp), Hb2.out⟩
  | ok st =>
    have hck := parseF_right hr
    clear hr hn
    have HP := Lib.hid (show printV st = .tuple #[.string ⟨(printT st).toArray⟩, .int .i64 0] by unfold printV; rw [hck]; rfl)
    have HC := Lib.hid (show checkV st = .int .i64 0 by unfold checkV; rw [hck]; rfl)
    have Hck := Lib.hid hck
    clear hck
    go_enter Tryz.func5, Tryz.ntmps5
    go_wp2_with fail
    refine (lives_calls w He.out).mono ?_
    rintro e w0 ⟨rfl, hb0⟩
    have Hb0 := Lib.hid hb0
    clear hb0
    go_wp2_with fail
    refine (Hp.out _ Hb0.out).mono ?_
    rintro e w1 ⟨hb1, vi, ve, rfl, hi, hv, hf, -⟩
    obtain ⟨ai, ni, ci, rfl, -⟩ := id hi
    obtain ⟨ae, ne, ce, rfl, -⟩ := id hv
    have hba := alloc_below w1 (.cells (smC st (.slice ai ni ci) (.slice ae ne ce)) 26)
    have hb1' := stepB Hb0.out hb1
    have Hb1 := Lib.hid (stepB hb1' hba)
    have Ht1 := Lib.hid (heap_alloc_new w1 (.cells (smC st (.slice ai ni ci) (.slice ae ne ce)) 26))
    have Hpr := Lib.hid (hf.pr (hi.below hba) (hv.below hba) (He.out.below Hb1.out))
    have Hprint := Lib.hid (fun (w2 : World) hb => Print_calls st w2 _ _ (Hpr.out.below (w' := w2) hb))
    have Hcheck := Lib.hid (fun (w2 : World) hb => Check_calls st w2 _ _ (Hpr.out.ck.below (w' := w2) hb))
    have Hsame := Lib.hid (fun (w2 : World) hb (zi ze : Value) hzi hze => Same_calls w2 st _ _ zi ze (Hpr.out.ck.hi.below (w' := w2) hb) (Hpr.out.ck.hv.below hb) hzi hze (by unfold maxLen; have := Hpr.out.ck.hil; omega) (by unfold maxLen; have := Hpr.out.ck.hl; omega) (fun t ht => by unfold maxLen; have := (Hpr.out.ck.his t ht).2.1; omega))
    rw [HP.out] at Hprint
    rw [HC.out] at Hcheck
    have hT1 : w1.heap.size < (w1.alloc (.cells (smC st (.slice ai ni ci) (.slice ae ne ce)) 26)).heap.size := by simp
    clear hi hv hf hb1 hba hb1'
    by_cases hlen : (printT st).length ≤ 16384
    · have Hpa := Lib.hid (fun (w2 : World) hb => printed_parse Hpr.out Hck.out hlen w2 (He.out.below (stepB Hb1.out hb)))
      have hlen' : ¬ (16384 : Int) < (printT st).length := by omega
      generalize printT st = pt at *
      unfold Stm.val at Hprint Hcheck Hsame ⊢
      go_wp2_with fail
      refine (Hprint.out _ (Below.refl _ _)).mono ?_
      rintro e w2 ⟨rfl, hb2⟩
      have Hb2 := Lib.hid hb2
      have ht2 := (hb2.block w1.heap.size (lt_of_heap Ht1.out)).trans Ht1.out
      have Ht2 := Lib.hid ht2
      clear hb2 ht2
      go_wp2_with fail
      refine (Hpa.out _ Hb2.out).mono ?_
      rintro e w3 ⟨hb3, z, bi, mi, di, be, me, de, c, a, rfl, hz⟩
      have Hb3 := Lib.hid (stepB Hb2.out hb3)
      have ht3 := (hb3.block w1.heap.size (lt_of_heap Ht2.out)).trans Ht2.out
      have hba3 := alloc_below w3 (.cells (smC z (.slice bi mi di) (.slice be me de)) 26)
      have Hn4 := Lib.hid (heap_alloc_new w3 (.cells (smC z (.slice bi mi di) (.slice be me de)) 26))
      have Ht4 := Lib.hid ((hba3.block w1.heap.size (lt_of_heap ht3)).trans ht3)
      have Hb4 := Lib.hid (stepB Hb3.out hba3)
      have hT : w1.heap.size < w3.heap.size := lt_of_heap ht3
      obtain ⟨⟨k0, k1, k2, k3, k4, k5, k6⟩, -⟩ := seven ht3
      have Hz := Lib.hid (show (c = 0 ∧ z = st ∧ ItmsIn (w3.alloc (.cells (smC z (.slice bi mi di) (.slice be me de)) 26)) (.slice bi mi di) st.items ∧ StpsIn (w3.alloc (.cells (smC z (.slice bi mi di) (.slice be me de)) 26)) (.slice be me de) st.expr) ∨ (c = 10 ∧ DeepS st) by
        rcases hz with ⟨h1, h2, h3, h4⟩ | hz
        · exact .inl ⟨h1, h2, h3.below hba3, h4.below hba3⟩
        · exact .inr hz)
      clear hb3 ht3 hba3 hz
      unfold Stm.val
      go_wp2_with fail
      refine (Hcheck.out _ Hb4.out).mono ?_
      rintro e w5 ⟨rfl, hb5⟩
      have Hb5 := Lib.hid (stepB Hb4.out hb5)
      clear k0 k1 k2 k3 k4 k5 k6
      obtain ⟨⟨k0, k1, k2, k3, k4, k5, k6⟩, -⟩ := seven ((hb5.block w1.heap.size (lt_of_heap Ht4.out)).trans Ht4.out)
      obtain ⟨⟨m0, m1, m2, m3, m4, m5, m6⟩, -⟩ := seven ((hb5.block w3.heap.size (lt_of_heap Hn4.out)).trans Hn4.out)
      rcases Hz.out with ⟨rfl, rfl, hzi, hze⟩ | ⟨rfl, -⟩
      · have Hsm := Lib.hid (Hsame.out _ Hb5.out _ _ (hzi.below hb5) (hze.below hb5))
        clear hb5 hzi hze
        go_wp2_with fail
        refine Hsm.out.mono ?_
        rintro e w6 ⟨rfl, hb6⟩
        have Hb6 := Lib.hid (stepB Hb1.out (stepB Hb5.out hb6))
        clear hb6
        go_wp2_with fail
        go_ret
        exact ⟨ret_bool (by simp), Hb6.out⟩
      · clear hb5
        go_wp2_with fail
        go_ret
        exact ⟨ret_bool (by simp), stepB Hb1.out Hb5.out⟩
    · have Hpa := Lib.hid (fun (w2 : World) hb => long_parse Hpr.out Hck.out hlen w2 (He.out.below (stepB Hb1.out hb)))
      have hlen' : (16384 : Int) < (printT st).length := by omega
      have hlen2 : (printT st).length ≤ 10000000000000 := print_len Hpr.out Hck.out
      generalize printT st = pt at *
      unfold Stm.val at Hprint Hcheck Hpa ⊢
      unfold stm0 at Hpa
      go_wp2_with fail
      refine (Hprint.out _ (Below.refl _ _)).mono ?_
      rintro e w2 ⟨rfl, hb2⟩
      have Hb2 := Lib.hid hb2
      have ht2 := (hb2.block w1.heap.size (lt_of_heap Ht1.out)).trans Ht1.out
      have Ht2 := Lib.hid ht2
      clear hb2 ht2
      go_wp2_with fail
      refine (Hpa.out _ Hb2.out).mono ?_
      rintro e w3 ⟨rfl, hb3⟩
      have Hb3 := Lib.hid (stepB Hb2.out hb3)
      have ht3 := (hb3.block w1.heap.size (lt_of_heap Ht2.out)).trans Ht2.out
      have hT : w1.heap.size < w3.heap.size := lt_of_heap ht3
      obtain ⟨⟨k0, k1, k2, k3, k4, k5, k6⟩, -⟩ := seven ht3
      clear hb3 ht3
      go_wp2_with fail
      refine (Hcheck.out _ (stepB Hb3.out (alloc_below _ _))).mono ?_
      rintro e w5 ⟨rfl, hb5⟩
      have Hb5 := Lib.hid (stepB (stepB Hb3.out (alloc_below _ _)) hb5)
      clear hb5
      go_wp2_with fail
      go_ret
      exact ⟨ret_bool (by simp), stepB Hb1.out Hb5.out⟩

end Go.Proofs.YtghnkgeaocpmaaaGreatDoor.Pa
