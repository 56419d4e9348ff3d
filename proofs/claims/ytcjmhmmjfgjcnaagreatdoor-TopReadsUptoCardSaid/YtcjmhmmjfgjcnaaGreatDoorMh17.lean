/- Parts: PaO PaR. -/
import Derived.Test.YtcjmhmmjfgjcnaaGreatDoorMh16
import Derived.StillTailTactics
import Derived.Maps.AppendAt
import Derived.Deep.DeepMust
import Derived.Deep.AppendLies
import Derived.Deep.RegionLaw
import Derived.Laws.AppendOwn
import Derived.Deep.LoopGhost
import Derived.IntWalk

/- The parser's cursor: keys, signs, names; steps put, depth. -/
namespace Go.Proofs.YtcjmhmmjfgjcnaaGreatDoor.Pa
open Go.RowKit Go.Proofs.YtcjmhmmjfgjcnaaGreatDoor.Lx

def strsC (l : List Txt) : List Value := l.map fun x => .string ⟨x.toArray⟩
theorem StrsAt.new (w : World) (l : List Txt) (n : Nat) (cs : Array Value) (T : TypeId) (mk : Nat × Nat) (hcs : cs = (strsC l).toArray) (hn : l.length = n) : StrsAt (w.alloc (.cells cs T mk)) (.slice (some ⟨w.heap.size, 0, none⟩) n n) l := by
  refine ⟨_, n, n, rfl, hn, Nat.le_refl _, fun j hj => ⟨w.heap.size, rfl, ?_⟩⟩
  have hb := heap_alloc_new w (.cells cs T mk)
  have key : ∀ (W : World) (B : Nat), W.heap[B]? = some (.cells cs T mk) → W.cell? ⟨B, j, none⟩ = cs[j]? := fun W B h => by simp [World.cell?, h]
  rw [key _ _ hb, hcs]
  simp [strsC, List.getElem?_eq_getElem hj]

section
variable {P : Program} {ops : Array Oper} {o : Oper} {a : Act} {Q : Exit → Act → World → Prop} {K : Act → World → Prop} {E : Prop}
theorem step_own1 {W : World} (base : Nat) (hw : Region.wanted o (yielded ops a.tmps) = true) (s x : Operand) (t e : TypeId) (z : Value) (size bytes : Nat)
    (ho : o.op = .call { callee := .builtin .append, args := #[s, x], argTypes := #[t, t] })
    (ht : P.underlying t = some (.slice e)) (hinfo : (P.info? e).map (fun i => (i.zero, i.size, i.bytes)) = some (some z, size, bytes)) (hz : z.cells.size = size) (hs0 : 0 < size) (hb0 : 0 < bytes)
    (v : Value) (n : Nat) (xs ys : List Value) (hs : a.eval s = v) (B0 : Nat) (hx : a.eval x = .slice (some ⟨B0, 0, none⟩) 1 1) (hB0 : W.heap.size = B0) (hys : ys.length = size) (h1 : ∀ u ∈ ys, u.oneCell' = true)
    (HO : W.ownsRow base e size v n xs) (hbase : base ≤ W.heap.size) (hl : (n + 1) * bytes ≤ 140737488355328)
    (h : ∀ v1 w1, w1.ownsRow base e size v1 (n + 1) (xs ++ ys) → W.grownBy w1 v.ownBlock → (v1.ownBlock = v.ownBlock ∨ ∃ b, v1.ownBlock = some b ∧ W.heap.size ≤ b) → K (a.put o.dst v1) w1) :
    if Region.wanted o (yielded ops a.tmps) = true then Oper.wp P o a (W.alloc (.cells ys.toArray e)) K Q else E := by
  subst hB0
  obtain ⟨i0, hi, hzz⟩ := Option.map_eq_some_iff.1 hinfo
  simp only [Prod.mk.injEq] at hzz
  obtain ⟨hz0, hz1, hz2⟩ := hzz
  have hlen : n + 1 ≤ 140737488355328 := Nat.le_trans (Nat.le_mul_of_pos_right _ hb0) hl
  rw [if_pos hw]
  obtain ⟨v1, w1, hr, hown, hg, _, hat⟩ := run_append_own_at (P := P) (W.alloc (.cells ys.toArray e)) base t o.type e i0 z size bytes ht hi hz0 hz1 hz2 hz hs0 v n xs (HO.alloc _) ⟨W.heap.size, 0, none⟩ 1 1 ys (by rw [hys]; simp)
    (by simpa using World.news_of_block (cs := ys.toArray) (t := e) (fr := (0, 0)) (heap_alloc_new W (.cells ys.toArray e))) h1 (by simp only [maxLen]; omega) hl (by simp; omega)
  unfold Oper.wp execOp
  simp only [ho, resolve, invoke, builtin, Sem.run_bind, Sem.run_pure, Result.andThen_ok, List.map_toArray, List.map_cons, List.map_nil, hs, hx, hr]
  refine h v1 w1 hown (World.grownBy.trans (World.grownBy_alloc W _ _) hg) ?_
  rcases hat with hat | hat
  · exact .inl hat
  · exact .inr ⟨_, hat, by simp⟩
end

variable {x : Px} {w : World} {lv sv : Value} {s : St}

set_option maxRecDepth 100000 in
theorem sign_callsC (h : PS x w lv sv s) (t : Txt) : Calls Tryz.prog 85 #[.pointer (some ⟨x.B, 0, none⟩), .string ⟨t.toArray⟩] w (DidC x w sv (s.sign t)) := by
  have Hh := Lib.hid h
  clear h
  go_enter Tryz.func85, Tryz.ntmps85
  go_wp2_with fail
  refine (need_callsC (Hh.out.step (alloc_below _ _)) 5 _ [t] (StrsAt.new w [t] 1 _ _ _ rfl rfl) (by simp)).mono ?_
  rintro e w1 ⟨rfl, lv1, h1⟩
  have H1 := Lib.hid (((Now.refl Hh.out).alloc _).trans h1)
  clear h1
  go_wp2_with fail
  go_end0
  exact ⟨rfl, _, H1.out⟩
theorem sign_calls (h : PS x w lv sv s) (t : Txt) : Calls Tryz.prog 85 #[.pointer (some ⟨x.B, 0, none⟩), .string ⟨t.toArray⟩] w (Did x w sv (s.sign t)) :=
  (sign_callsC h t).mono fun _ _ h => h.did

set_option maxRecDepth 100000 in
theorem name_callsC (h : PS x w lv sv s) : Calls Tryz.prog 83 #[.pointer (some ⟨x.B, 0, none⟩)] w (GaveC x w sv (.string ⟨s.nameT.toArray⟩) s.name) := by
  have Hh := Lib.hid h
  clear h
  go_enter Tryz.func83, Tryz.ntmps83
  go_wp2_with fail
  refine (need_callsC Hh.out 1 _ [] (StrsAt.nil w) (by decide)).mono ?_
  rintro e w1 ⟨rfl, lv1, h1⟩
  have H1 := Lib.hid h1
  clear h1
  go_wp2_with fail
  go_ret
  exact ⟨rfl, _, H1.out⟩
theorem name_calls (h : PS x w lv sv s) : Calls Tryz.prog 83 #[.pointer (some ⟨x.B, 0, none⟩)] w (Gave x w sv (.string ⟨s.nameT.toArray⟩) s.name) :=
  (name_callsC h).mono fun _ _ h => h.gave

set_option maxRecDepth 100000 in
theorem key_callsC (h : PS x w lv sv s) (t : Txt) : Calls Tryz.prog 82 #[.pointer (some ⟨x.B, 0, none⟩), .string ⟨t.toArray⟩] w (GaveC x w sv (.bool (s.next 2 [t])) (s.after 2 [t])) := by
  have Hh := Lib.hid h
  clear h
  go_enter Tryz.func82, Tryz.ntmps82
  go_wp2_with fail
  refine (take_callsC (Hh.out.step (alloc_below _ _)) 2 _ [t] (StrsAt.new w [t] 1 _ _ _ rfl rfl) (by simp)).mono ?_
  rintro e w1 ⟨rfl, lv1, h1⟩
  have H1 := Lib.hid (((Now.refl Hh.out).alloc _).trans h1)
  generalize (s.taken 2 [t]) = T at *
  unfold Tok.val
  clear h1
  go_wp2_with fail
  go_ret
  exact ⟨rfl, _, H1.out.alloc _⟩
theorem key_calls (h : PS x w lv sv s) (t : Txt) : Calls Tryz.prog 82 #[.pointer (some ⟨x.B, 0, none⟩), .string ⟨t.toArray⟩] w (Gave x w sv (.bool (s.next 2 [t])) (s.after 2 [t])) :=
  (key_callsC h t).mono fun _ _ h => h.gave

/-! ### keys -/
theorem keys_snoc (s : St) (l : List Txt) (t : Txt) : s.keys (l ++ [t]) = (s.keys l).need 2 [t] := by simp [St.keys]
set_option maxRecDepth 100000 in
theorem keys_callsC (h : PS x w lv sv s) (g n : Nat) (texts : List Txt) (hn : texts.length = n) (hn100 : n ≤ 100) (hc : ∀ (j : Nat) (hj : j < texts.length), w.cell? ⟨g, j, none⟩ = some (.string ⟨texts[j].toArray⟩)) (hg1 : g ≠ x.B) (hg2 : sv.ownBlock ≠ some g) :
    Calls Tryz.prog 84 #[.pointer (some ⟨x.B, 0, none⟩), .slice (some ⟨g, 0, none⟩) n n] w (DidC x w sv (s.keys texts)) := by
  have Hh := Lib.hid h
  have Hn := Lib.hid hn
  have Hc := Lib.hid hc
  have Hg := Lib.hid (And.intro hg1 hg2)
  clear h hn hc hg1 hg2
  go_enter Tryz.func84, Tryz.ntmps84
  go_wp2_with fail
  go_loopw [8] (fun i wr => ∃ k : Nat, k ≤ n ∧ i = .int .i64 k ∧ Hid (∃ lv', Now x w sv wr lv' sv (s.keys (texts.take k)))) (fun i _ => n - (intOf i).toNat)
  case atStart => exact ⟨0, Nat.zero_le _, rfl, _, Now.refl Hh.out⟩
  case round =>
    obtain ⟨k, hk, rfl, Hr⟩ := hrel
    obtain ⟨lv1, h1⟩ := Hr.out
    by_cases hlt : k < n
    · have hkl : k < texts.length := by rw [Hn.out]; exact hlt
      have hg : g < w.heap.size := World.block_lt_of_cell? _ _ (Hc.out k hkl)
      have hcell : wr.cell? ⟨g, k, none⟩ = some (.string ⟨texts[k].toArray⟩) := by
        have hb := h1.keep.2 g hg Hg.out.1 Hg.out.2
        exact (World.cell?_of_block (w := w) (a := ⟨g, k, none⟩) hb).trans (Hc.out k hkl)
      have H1 := Lib.hid h1
      have Hsn := Lib.hid (keys_snoc s (texts.take k) texts[k])
      have Htk := Lib.hid (show texts.take (k + 1) = texts.take k ++ [texts[k]] by rw [List.take_succ_eq_append_getElem hkl])
      generalize texts[k] = t at *
      clear h1 Hr
      go_wp2_with fail
      refine (need_callsC (H1.out.ps.step (alloc_below _ _)) 2 _ [t] (StrsAt.new wr [t] 1 _ _ _ rfl rfl) (by simp)).mono ?_
      rintro e w2 ⟨rfl, lv2, h2⟩
      have H2 := Lib.hid ((H1.out.alloc _).trans h2)
      clear h2
      go_wp2_with fail
      go_roundw
      case rel => exact ⟨k + 1, by omega, by go_num, _, by rw [Htk.out, Hsn.out]; exact H2.out⟩
      case measure => simp [intOf]; omega
    · have H1 := Lib.hid h1
      have Htk := Lib.hid (show texts.take k = texts by rw [List.take_of_length_le]; have := Hn.out; omega)
      clear h1 Hr
      go_wp2_with fail
      go_end0
      exact ⟨rfl, _, by have := H1.out; rw [Htk.out] at this; exact this⟩
theorem keys_calls (h : PS x w lv sv s) (g n : Nat) (texts : List Txt) (hn : texts.length = n) (hn100 : n ≤ 100) (hc : ∀ (j : Nat) (hj : j < texts.length), w.cell? ⟨g, j, none⟩ = some (.string ⟨texts[j].toArray⟩)) (hg1 : g ≠ x.B) (hg2 : sv.ownBlock ≠ some g) :
    Calls Tryz.prog 84 #[.pointer (some ⟨x.B, 0, none⟩), .slice (some ⟨g, 0, none⟩) n n] w (Did x w sv (s.keys texts)) :=
  (keys_callsC h g n texts hn hn100 hc hg1 hg2).mono fun _ _ h => h.did

/-! ### depth -/
set_option maxRecDepth 100000 in
theorem nest_deep (h : PS x w lv sv s) (d : Nat) (hd : 16 ≤ d) (hd2 : d ≤ 100) : Calls Tryz.prog 205 #[.pointer (some ⟨x.B, 0, none⟩), .int .i64 d] w (Gave x w sv (.bool false) s.deep) := by
  have Hh := Lib.hid h
  have Hd := Lib.hid (h.step (Below.refl w.heap.size w).drew)
  clear h
  go_enter Tryz.func205, Tryz.ntmps205
  go_wp2_with fail
  go_region_with ((first | (go_at_call 43; refine (place_calls Hd.out).mono ?_; rintro e w' ⟨rfl, rfl⟩) | (go_at_call 42; refine (fail_calls Hd.out 10 s.place).mono ?_; rintro e w' ⟨rfl, lv1, sv1, h1⟩)))
  have H1 := Lib.hid ((Now.refl Hh.out).drew.trans h1)
  clear h1
  go_wp2_with fail
  go_ret
  exact ⟨rfl, _, _, H1.out⟩

set_option maxRecDepth 100000 in
theorem nest_yes (h : PS x w lv sv s) (d : Nat) (hd : d < 16) {t : Tok} {r : List Tok} (hl : s.left = t :: r) : Calls Tryz.prog 205 #[.pointer (some ⟨x.B, 0, none⟩), .int .i64 d] w (Gave x w sv (.bool true) s.drop) := by
  obtain ⟨⟨c0, c1, c2, c3, c4⟩, f0, f1, f2, f3, f4⟩ := five h.blk
  obtain ⟨m, n, c, rfl, h1, h2, h16, ⟨k0, k1, k2, k3⟩, ⟨hall, hlen⟩, -, hgB, hgw⟩ := h.head hl
  have Hd := Lib.hid (fun lv' hl' => now_drop (w := w) h hl lv' hl')
  have Htl := Lib.hid (fun v hv => LeftIs.tail (x := x) hall hlen h2 v hv)
  have hn1 : (1 : Int) ≤ n := by omega
  have hdd : (d : Int) < 16 := by omega
  clear h hl hall hlen
  go_enter Tryz.func205, Tryz.ntmps205
  go_wp2_with fail
  · go_ret
    exact ⟨rfl, _, _, Hd.out _ (Htl.out _ (.inr ⟨by assumption, _, 0, by rw [show n - 1 = 0 by omega]⟩))⟩
  · go_ret
    exact ⟨rfl, _, _, Hd.out _ (Htl.out _ (.inl (by rw [show (m + 1) * 4 = m * 4 + 4 by omega])))⟩

/-! ### a step put -/
theorem put_no (hw : s.why ≠ 0) (y : Stp) : s.put y = s := by
  have e : s.many = s := by unfold St.many; rw [if_neg (fun h => hw h.1)]
  unfold St.put
  rw [e, if_neg hw]
theorem put_many (hw : s.why = 0) (hl : 128 ≤ s.steps.length) (y : Stp) : s.put y = s.fail 3 s.place := by
  have e : s.many = s.fail 3 s.place := by unfold St.many; rw [if_pos ⟨hw, hl⟩]
  have e2 : (s.fail 3 s.place).why = 3 := by unfold St.fail; rw [if_pos hw]
  unfold St.put
  rw [e, if_neg (by rw [e2]; decide)]
theorem put_yes (hw : s.why = 0) (hl : s.steps.length < 128) (y : Stp) : s.put y = { s with steps := s.steps ++ [y] } := by
  have e : s.many = s := by unfold St.many; rw [if_neg (fun h => by omega)]
  unfold St.put
  rw [e, if_pos hw]
theorem fail_why (s : St) (hw : s.why = 0) (e p : Nat) : (s.fail e p).why = e := by unfold St.fail; rw [if_pos hw]
theorem own_form {w : World} {base n : Nat} {e : TypeId} {size : Nat} {v : Value} {xs : List Value} (h : w.ownsRow base e size v n xs) : ∃ a c, v = .slice a n c := by
  rcases h.2 with ⟨rfl, rfl⟩ | ⟨g, cap, cur, rfl, _⟩
  · exact ⟨_, _, rfl⟩
  · exact ⟨_, _, rfl⟩

set_option maxRecDepth 100000 in
theorem put_fail (h : PS x w lv sv s) (hw : s.why = 0) (hl : 128 ≤ s.steps.length) (y : Stp) : Calls Tryz.prog 173 #[.pointer (some ⟨x.B, 0, none⟩), y.val] w (Did x w sv (s.put y)) := by
  rw [put_many hw hl]
  obtain ⟨⟨c0, c1, c2, c3, c4⟩, f0, f1, f2, f3, f4⟩ := five h.blk
  obtain ⟨a, c, rfl⟩ := own_form h.own
  have hlen := h.few
  have Hh := Lib.hid h
  have Hd := Lib.hid ((h.step (alloc_below w (.cells #[.int .u8 y.kind, .string ⟨y.text.toArray⟩, .int .i64 y.num] 48))).step (Below.refl (w.alloc (.cells #[.int .u8 y.kind, .string ⟨y.text.toArray⟩, .int .i64 y.num] 48)).heap.size (w.alloc (.cells #[.int .u8 y.kind, .string ⟨y.text.toArray⟩, .int .i64 y.num] 48))).drew)
  have hb : ((s.why : Int) == 0) = true := by rw [beq_iff_eq]; omega
  have Hfw := Lib.hid (fail_why s hw 3 s.place)
  have hBw := h.lt
  have hl' : (128 : Int) ≤ s.steps.length := by omega
  unfold Stp.val
  clear h hw
  go_enter Tryz.func173, Tryz.ntmps173
  go_wp2_with fail
  go_region_with ((first | (go_at_call 43; refine (place_calls Hd.out).mono ?_; rintro e w' ⟨rfl, rfl⟩) | (go_at_call 42; refine (fail_calls Hd.out 3 s.place).mono ?_; rintro e w' ⟨rfl, lv1, sv1, h1⟩)))
  have H1 := Lib.hid (((Now.refl Hh.out).alloc _).drew.trans h1)
  obtain ⟨⟨k0, k1, k2, k3, k4⟩, -⟩ := five h1.ps.blk
  rw [Hfw.out] at k2
  clear h1 c0 c1 c2 c3 c4 f0 f1 f2 f3 f4
  go_wp2_with fail
  go_end0
  exact ⟨rfl, _, _, H1.out⟩

set_option maxRecDepth 100000 in
theorem put_quiet (h : PS x w lv sv s) (hw : s.why ≠ 0) (y : Stp) : Calls Tryz.prog 173 #[.pointer (some ⟨x.B, 0, none⟩), y.val] w (Did x w sv (s.put y)) := by
  rw [put_no hw]
  obtain ⟨⟨c0, c1, c2, c3, c4⟩, f0, f1, f2, f3, f4⟩ := five h.blk
  have Hh := Lib.hid h
  have hb : ((s.why : Int) == 0) = false := by rw [beq_eq_false_iff_ne]; omega
  have hBw := h.lt
  unfold Stp.val
  clear h hw
  go_enter Tryz.func173, Tryz.ntmps173
  go_wp2_with fail
  go_end0
  exact ⟨rfl, _, _, (Now.refl Hh.out).alloc _⟩

theorem stpInfo : (Tryz.prog.info? 48).map (fun i => (i.zero, i.size, i.bytes)) = some (some (.agg #[.int .u8 0, .string ⟨#[]⟩, .int .i64 0]), 3, 32) := by kernel_rfl
theorem now_put (h : PS x w lv sv s) (hl : s.steps.length < 128) {W w1 : World} (hb : Below w.heap.size w W) (y : Stp) {v1 : Value} (hown : w1.ownsRow x.W.heap.size 48 3 v1 (s.steps.length + 1) (stpsC s.steps ++ y.cells))
    (hg : W.grownBy w1 sv.ownBlock) (hat : v1.ownBlock = sv.ownBlock ∨ ∃ b, v1.ownBlock = some b ∧ W.heap.size ≤ b) : Now x w sv (w1.setCell ⟨x.B, 4, none⟩ v1) lv v1 { s with steps := s.steps ++ [y] } := by
  have hW := h.step hb
  have hBw := h.lt
  have hz := hb.size
  have hne : v1.ownBlock ≠ some x.B := by
    rcases hat with e | ⟨b, e, hb'⟩
    · rw [e]; exact h.ne
    · rw [e]; intro e'; have := Option.some.inj e'; omega
  have hblk : ∀ b, b ≠ x.B → b < W.heap.size → sv.ownBlock ≠ some b → (w1.setCell ⟨x.B, 4, none⟩ v1).heap[b]? = W.heap[b]? := fun b hB hlt hs => by
    rw [Below.heap_setCell _ _ _ _ hB, hg.block b hlt (fun e => hs e.symm)]
  refine ⟨⟨h.ok, ?_, ?_, h.left, ?_, hne, by simp; omega⟩, ⟨by have := hg.size; simp; omega, fun b hlt hB hs => (hblk b hB (by omega) hs).trans (hb.block b hlt)⟩, ?_⟩
  · have hB1 : w1.heap[x.B]? = W.heap[x.B]? := hg.block _ (by omega) (fun e => h.ne e.symm)
    exact set_block (hB1.trans hW.blk) _ _ rfl
  · exact (hW.bel.grown hg hW.bel.size fun b hb' => (World.ownsRow.lt h.own b hb').1).setCell h.ok.low _
  · rw [show stpsC (s.steps ++ [y]) = stpsC s.steps ++ y.cells from stpsC_snoc _ _, List.length_append]
    exact own_same hown fun g hg' _ => Below.heap_setCell _ _ _ _ (fun e => hne (by rw [hg', e]))
  · rcases hat with e | ⟨b, e, hb'⟩
    · exact .inl e
    · exact .inr fun b2 h2 => by rw [e] at h2; have := Option.some.inj h2; omega

theorem grown_cell (h : PS x w lv sv s) {w1 : World} (hg : w.grownBy w1 sv.ownBlock) : w1.cell? ⟨x.B, 4, none⟩ = some sv ∧ w1.frozen? ⟨x.B, 4, none⟩ = false := by
  have hB1 : w1.heap[x.B]? = w.heap[x.B]? := hg.block _ h.lt (fun e => h.ne e.symm)
  obtain ⟨⟨c0, c1, c2, c3, c4⟩, f0, f1, f2, f3, f4⟩ := five (hB1.trans h.blk)
  exact ⟨c4, f4⟩

set_option maxRecDepth 100000 in
theorem put_step (h : PS x w lv sv s) (hw : s.why = 0) (hl : s.steps.length < 128) (y : Stp) : Calls Tryz.prog 173 #[.pointer (some ⟨x.B, 0, none⟩), y.val] w (Did x w sv (s.put y)) := by
  rw [put_yes hw hl]
  obtain ⟨⟨c0, c1, c2, c3, c4⟩, f0, f1, f2, f3, f4⟩ := five h.blk
  obtain ⟨a, c, rfl⟩ := own_form h.own
  have Hh := Lib.hid h
  have hb : ((s.why : Int) == 0) = true := by rw [beq_iff_eq]; omega
  have hBw := h.lt
  have hl' : (s.steps.length : Int) < 128 := by omega
  unfold Stp.val
  clear h hw
  go_enter Tryz.func173, Tryz.ntmps173
  go_wp2_with fail
  have Ho := Lib.hid ((Hh.out.step (alloc_below w (.cells #[.int .u8 y.kind, .string ⟨y.text.toArray⟩, .int .i64 y.num] 48))).step (Below.refl (w.alloc (.cells #[.int .u8 y.kind, .string ⟨y.text.toArray⟩, .int .i64 y.num] 48)).heap.size (w.alloc (.cells #[.int .u8 y.kind, .string ⟨y.text.toArray⟩, .int .i64 y.num] 48))).drew)
  go_region_law (go_must (refine step_own1 x.W.heap.size rfl _ _ 22 48 _ 3 32 rfl Tryz.underlying22 stpInfo rfl (by decide) (by decide) _ s.steps.length (stpsC s.steps) (Stp.cells y) rfl _ rfl (by simp) rfl (by simp [Stp.cells, Value.oneCell']) Ho.out.own Ho.out.bel.size (by omega) ?_); intro v1 w1 hown1 hg1 hat1; obtain ⟨q4, g4⟩ := grown_cell Ho.out hg1; obtain ⟨a1, c1, rfl⟩ := own_form hown1)
  all_goals
    go_end0
    exact ⟨rfl, _, _, now_put Hh.out (by omega) (((Below.refl _ _).alloc (Nat.le_refl _) _).drew) y hown1 hg1 hat1⟩

theorem put_calls (h : PS x w lv sv s) (y : Stp) : Calls Tryz.prog 173 #[.pointer (some ⟨x.B, 0, none⟩), y.val] w (Did x w sv (s.put y)) := by
  by_cases hw : s.why = 0
  · by_cases hl : s.steps.length < 128
    · exact put_step h hw hl y
    · exact put_fail h hw (by omega) y
  · exact put_quiet h hw y

end Go.Proofs.YtcjmhmmjfgjcnaaGreatDoor.Pa

/- The parser: rows of operators, signs ahead. -/
namespace Go.Proofs.YtcjmhmmjfgjcnaaGreatDoor.Pa
open Go.RowKit Go.Proofs.YtcjmhmmjfgjcnaaGreatDoor.Lx

def TextsAt (w : World) (g n : Nat) (l : List Txt) : Prop := l.length = n ∧ ∀ (j : Nat) (hj : j < l.length), w.cell? ⟨g, j, none⟩ = some (.string ⟨l[j].toArray⟩)
theorem TextsAt.strs {w : World} {g n : Nat} {l : List Txt} (h : TextsAt w g n l) : StrsAt w (.slice (some ⟨g, 0, none⟩) n n) l := ⟨_, n, n, rfl, h.1, Nat.le_refl _, fun j hj => ⟨g, rfl, h.2 j hj⟩⟩
theorem TextsAt.new (w : World) (l : List Txt) (n : Nat) (cs : Array Value) (T : TypeId) (mk : Nat × Nat) (hcs : cs = (strsC l).toArray) (hn : l.length = n) : TextsAt (w.alloc (.cells cs T mk)) w.heap.size n l := by
  refine ⟨hn, fun j hj => ?_⟩
  have hb := heap_alloc_new w (.cells cs T mk)
  have key : ∀ (W : World) (B : Nat), W.heap[B]? = some (.cells cs T mk) → W.cell? ⟨B, j, none⟩ = cs[j]? := fun W B h => by simp [World.cell?, h]
  rw [key _ _ hb, hcs]
  simp [strsC, List.getElem?_eq_getElem hj]
theorem TextsAt.now {x : Px} {w w' : World} {sv lv' sv' : Value} {s' : St} {g n : Nat} {l : List Txt} (h : TextsAt w g n l) (hg1 : g ≠ x.B) (hg2 : sv.ownBlock ≠ some g) (hn : Now x w sv w' lv' sv' s') : TextsAt w' g n l :=
  ⟨h.1, fun j hj => (World.cell?_of_block (w := w) (a := ⟨g, j, none⟩) (hn.keep.2 g (World.block_lt_of_cell? _ _ (h.2 j hj)) hg1 hg2)).trans (h.2 j hj)⟩

theorem operators_calls (w : World) : Calls Tryz.prog 103 #[] w fun e w' => e = .returned (.slice (some ⟨w.heap.size, 0, none⟩) 11 11) ∧ w.alloc (.cells (strsC operators).toArray 9) = w' := by
  go_enter Tryz.func103, Tryz.ntmps103
  go_wp2_with fail
  go_ret
  exact ⟨rfl, rfl⟩
theorem opVal (t : Txt) : IntKind.u8.wrap (12 + IntKind.u8.wrap (idxI operators t)) = (opKind t : Nat) := by
  unfold idxI opKind
  by_cases h : t ∈ operators
  · rw [if_pos h, if_pos h]
    have h1 := List.idxOf_lt_length_of_mem h
    have h2 : operators.length = 11 := rfl
    simp only [IntKind.wrap_u8]
    omega
  · rw [if_neg h, if_neg h]
    rfl

variable {x : Px} {w : World} {lv sv : Value} {s : St}

def Enters (g : FuncId) : Prop := ∀ (args : Array Value) (W : World), (callFunc g args).run Tryz.prog W = .ok (.enter g args) W
theorem enters_of {g : FuncId} {fn : Func} (hf : Tryz.prog.funcs[g]? = some fn) (hn : (fn.name == "runtime.NumGoroutine") = false) (hb : fn.body.isNone = false) : Enters g := fun args W => by
  have hn' : ¬ fn.name = "runtime.NumGoroutine" := by simpa using hn
  have hb' : ¬ fn.body = none := fun e => by rw [e] at hb; cases hb
  simp [callFunc, go_sem, hf, hn', hb']
theorem enters_signed : Enters 209 := enters_of Tryz.func209 (by kernel_rfl) (by kernel_rfl)
def Reads (x : Px) (g : FuncId) (d : Nat) (one : St → Option St) : Prop := ∀ (w : World) (lv sv : Value) (s s' : St), PS x w lv sv s → one s = some s' →
  Calls Tryz.prog g #[.pointer (some ⟨x.B, 0, none⟩), .int .i64 d] w (Did x w sv s')

set_option maxHeartbeats 1000000 in
set_option maxRecDepth 100000 in
theorem row_calls (h : PS x w lv sv s) (k : Nat) (g d gt nt : Nat) (texts : List Txt) (one : St → Option St) (hone : Reads x g d one) (hent : Enters g) (ht : TextsAt w gt nt texts) (hg1 : gt ≠ x.B) (hg2 : sv.ownBlock ≠ some gt) (hn100 : nt ≤ 100) (n : Nat) (s' : St)
    (hr : row one k texts n s = some s') :
    Calls Tryz.prog 149 #[.pointer (some ⟨x.B, 0, none⟩), .int .u8 k, .func (.func g) #[.pointer (some ⟨x.B, 0, none⟩)] #[], .int .i64 d, .slice (some ⟨gt, 0, none⟩) nt nt] w (Did x w sv s') := by
  obtain ⟨s1, hs1, hr1⟩ := Option.bind_eq_some_iff.1 hr
  have H1 := Lib.hid (hone w lv sv s s1 h hs1)
  have Ht := Lib.hid (fun w' lv' sv' s' hn => ht.now (w' := w') (lv' := lv') (sv' := sv') (s' := s') hg1 hg2 hn)
  have Hr := Lib.hid hr1
  have Hone := Lib.hid hone
  have Hlen := Lib.hid (show texts.length ≤ 100 by have := ht.1; omega)
  unfold Enters at hent
  clear h hr hr1 hs1 hone ht hg1 hg2
  go_enter Tryz.func149, Tryz.ntmps149
  go_wp2_with fail
  refine H1.out.mono ?_
  rintro e w1 ⟨rfl, lv1, sv1, h1⟩
  have Hn1 := Lib.hid h1
  clear h1
  go_wp2_with fail
  go_loopg [] n (fun gk wr => Hid (∃ lv2 sv2 s2, Now x w sv wr lv2 sv2 s2 ∧ rowL one k texts gk s2 = some s'))
  case atStart => exact ⟨_, _, _, Hn1.out, Hr.out⟩
  case round =>
    obtain ⟨lv2, sv2, s2, h2, hr2⟩ := hrel
    have Ht2 := Lib.hid (take_calls h2.ps k _ texts (Ht.out _ _ _ _ h2).strs Hlen.out)
    cases gk with
    | zero => simp [rowL] at hr2
    | succ m =>
      rw [rowL] at hr2
      have hkept := fun o w2 lv2 sv2 s2 h2' => kept (o := o) (w' := w2) (lv' := lv2) (sv' := sv2) (s' := s2) h2.ps h2'
      have H2 := Lib.hid h2
      cases hx : s2.next k texts with
      | false =>
        rw [hx] at hr2 Ht2
        rw [(need_no hx).2] at Ht2
        have hs : s2 = s' := by simpa using hr2
        subst hs
        clear hr2 hx hkept h2
        generalize s2.taken k texts = T at *
        go_wp2_with fail
        refine Ht2.out.mono ?_
        rintro e w3 ⟨rfl, lv3, sv3, h3⟩
        have H3 := Lib.hid (H2.out.trans h3)
        unfold Tok.val
        clear h3
        go_wp2_with fail
        go_end0
        exact ⟨rfl, _, _, H3.out.alloc _⟩
      | true =>
        rw [hx] at hr2 Ht2
        have e1 : s2.after k texts = s2.drop := by unfold St.after; rw [hx]; rfl
        have e2 : s2.taken k texts = s2.head := by unfold St.taken; rw [hx]; rfl
        rw [e1, e2] at Ht2
        simp only [if_true] at hr2
        obtain ⟨s3, hs3, hr3⟩ := Option.bind_eq_some_iff.1 hr2
        have Hs3 := Lib.hid hs3
        have Hr3 := Lib.hid hr3
        clear hr2 hx hkept h2 e1 e2 hs3 hr3
        generalize s2.head = T at *
        go_wp2_with fail
        refine Ht2.out.mono ?_
        rintro e w3 ⟨rfl, lv3, sv3, h3⟩
        have H3 := Lib.hid (H2.out.trans h3)
        have Hkept := Lib.hid (fun o w2 lv2 sv2 s2 h2' => kept (o := o) (w' := w2) (lv' := lv2) (sv' := sv2) (s' := s2) h3.ps h2')
        unfold Tok.val
        clear h3
        go_wp2_with fail
        refine (Hone.out _ _ _ _ s3 (H3.out.ps.step (alloc_below _ _)) Hs3.out).mono ?_
        rintro e w4 ⟨rfl, lv4, sv4, h4⟩
        have H4 := Lib.hid ((H3.out.alloc _).trans h4)
        obtain ⟨⟨k0, k1, k2, k3⟩, -⟩ := four (Hkept.out _ _ _ _ _ h4)
        have hlt4 : w3.heap.size < w4.heap.size := World.block_lt_of_cell? _ _ k0
        clear h4 Hkept
        go_wp2_with fail
        have Hops := Lib.hid (((TextsAt.new w4 operators 11 _ 9 (0, 0) rfl rfl).strs).below ((Below.refl _ (w4.alloc (.cells (strsC operators).toArray 9))).drew))
        have Hd := Lib.hid ((H4.out.alloc (.cells (strsC operators).toArray 9)).drew)
        have Hv := Lib.hid (opVal T.text)
        have hput := put_calls Hd.out.ps ⟨opKind T.text, [], 0⟩
        unfold Stp.val at hput
        simp only [] at hput
        rw [← Hv.out] at hput
        have Hput := Lib.hid hput
        clear hput
        go_region_with ((first | (go_at_call 103; refine (operators_calls _).mono ?_; rintro e w5 ⟨rfl, rfl⟩) | (go_at_call 174; refine (index_calls _ _ operators T.text Hops.out (by decide)).mono ?_; rintro e w5 ⟨rfl, rfl⟩) | (go_at_call 173; refine Hput.out.mono ?_; rintro e w6 ⟨rfl, lv6, sv6, h6⟩)))
        all_goals
          have Hn6 := Lib.hid (Hd.out.trans h6)
          clear h6
          go_wp2_with fail
          go_roundg m
          case measure => omega
          case rel => exact ⟨_, _, _, Hn6.out, Hr3.out⟩

def ReadsAt (x : Px) (g : FuncId) (one : Nat → St → Option St) : Prop := ∀ d, d ≤ 16 → Reads x g d (one d)

set_option maxRecDepth 100000 in
theorem ahead_calls (k : Nat) (g : FuncId) (text : Txt) (step : Nat) (other : Nat → St → Option St) (hoth : ReadsAt x g other) (hent : Enters g) : ∀ (n d : Nat) (w : World) (lv sv : Value) (s s' : St), d ≤ 16 → PS x w lv sv s → aheadF k text step other n d s = some s' →
    Calls Tryz.prog 196 #[.pointer (some ⟨x.B, 0, none⟩), .int .u8 k, .string ⟨text.toArray⟩, .int .u8 step, .int .i64 d, .func (.func g) #[.pointer (some ⟨x.B, 0, none⟩)] #[]] w (Did x w sv s')
  | 0, _, _, _, _, _, _, _, _, hr => by simp [aheadF] at hr
  | n + 1, d, w, lv, sv, s, s', hd, h, hr => by
    have Hn := Lib.hid (next_calls (h.step (alloc_below w (.cells #[.string ⟨text.toArray⟩] 9))) k _ [text] (StrsAt.new w [text] 1 _ _ _ rfl rfl) (by simp))
    have Hh := Lib.hid ((Now.refl h).alloc (.cells #[.string ⟨text.toArray⟩] 9))
    have hent' := hent
    unfold Enters at hent'
    rw [aheadF] at hr
    cases hx : s.next k [text] with
    | false =>
      rw [hx] at hr Hn
      have Ho := Lib.hid (hoth d hd _ _ _ _ s' Hh.out.ps (by simpa using hr))
      clear h hr hx hoth
      go_enter Tryz.func196, Tryz.ntmps196
      go_wp2_with fail
      refine Hn.out.mono ?_
      rintro e w1 ⟨rfl, rfl⟩
      go_wp2_with fail
      refine Ho.out.mono ?_
      rintro e w1 ⟨rfl, lv1, sv1, h1⟩
      have H1 := Lib.hid (Hh.out.trans h1)
      clear h1
      go_wp2_with fail
      go_end0
      exact ⟨rfl, _, _, H1.out⟩
    | true =>
      rw [hx] at hr Hn
      obtain ⟨t, r, hl⟩ : ∃ t r, s.left = t :: r := by
        cases hl : s.left with
        | nil => rw [next_nil hl] at hx; cases hx
        | cons t r => exact ⟨t, r, rfl⟩
      simp only [if_true] at hr
      by_cases hd16 : 16 ≤ d
      · rw [if_pos hd16] at hr
        have hs : s.deep = s' := by simpa using hr
        subst hs
        have Ho := Lib.hid (nest_deep Hh.out.ps d hd16 (by omega))
        clear h hr hx hoth hl
        go_enter Tryz.func196, Tryz.ntmps196
        go_wp2_with fail
        refine Hn.out.mono ?_
        rintro e w1 ⟨rfl, rfl⟩
        go_wp2_with fail
        refine Ho.out.mono ?_
        rintro e w1 ⟨rfl, lv1, sv1, h1⟩
        have H1 := Lib.hid (Hh.out.trans h1)
        clear h1
        go_wp2_with fail
        go_end0
        exact ⟨rfl, _, _, H1.out⟩
      · rw [if_neg hd16] at hr
        obtain ⟨s1, hs1, hr1⟩ := Option.bind_eq_some_iff.1 hr
        have hs : s1.put ⟨step, [], 0⟩ = s' := by simpa using hr1
        subst hs
        have Ho := Lib.hid (nest_yes Hh.out.ps d (by omega) hl)
        have Hs1 := Lib.hid hs1
        have Hoth := Lib.hid hoth
        have hdd : (d : Int) < 16 := by omega
        clear h hr hx hoth hl hs1 hr1
        go_enter Tryz.func196, Tryz.ntmps196
        go_wp2_with fail
        refine Hn.out.mono ?_
        rintro e w1 ⟨rfl, rfl⟩
        go_wp2_with fail
        refine Ho.out.mono ?_
        rintro e w1 ⟨rfl, lv1, sv1, h1⟩
        have H1 := Lib.hid (Hh.out.trans h1)
        clear h1
        go_wp2_with fail
        refine (ahead_calls k g text step other Hoth.out hent n (d + 1) w1 lv1 sv1 s.drop s1 (by omega) H1.out.ps Hs1.out).mono ?_
        rintro e w2 ⟨rfl, lv2, sv2, h2⟩
        have H2 := Lib.hid (H1.out.trans h2)
        clear h2
        go_wp2_with fail
        refine (put_calls H2.out.ps ⟨step, [], 0⟩).mono ?_
        rintro e w3 ⟨rfl, lv3, sv3, h3⟩
        have H3 := Lib.hid (H2.out.trans h3)
        clear h3
        go_wp2_with fail
        go_end0
        exact ⟨rfl, _, _, H3.out⟩

end Go.Proofs.YtcjmhmmjfgjcnaaGreatDoor.Pa
