/- Parts: PaO PaA PaU. -/
import Derived.Test.YtcjmhmmjfgjcnaaGreatDoorMe17
import Derived.StillTailTactics
import Derived.Maps.AppendAt
import Derived.Deep.DeepMust
import Derived.Deep.AppendLies
import Derived.Deep.RegionLaw
import Derived.Laws.AppendOwn
import Derived.Maps.Own
import Derived.Maps.OwnOps
import Derived.Maps.OwnSet
import Derived.Maps.Views
import Derived.StringKeys
import Derived.Lib.SplitLaws

/- The parser's cursor: keys, signs, names; steps put, depth. -/
namespace Go.Proofs.YtcjmhmmjfgjcnaaGreatDoor.Pa
open Go.RowKit Go.Proofs.YtcjmhmmjfgjcnaaGreatDoor.Lx

/-- texts as cells -/
def strsC (l : List Txt) : List Value := l.map fun x => .string ⟨x.toArray⟩
theorem StrsAt.new (w : World) (l : List Txt) (n : Nat) (cs : Array Value) (T : TypeId) (mk : Nat × Nat) (hcs : cs = (strsC l).toArray) (hn : l.length = n) : StrsAt (w.alloc (.cells cs T mk)) (.slice (some ⟨w.heap.size, 0, none⟩) n n) l := by
  refine ⟨_, n, n, rfl, hn, Nat.le_refl _, fun j hj => ⟨w.heap.size, rfl, ?_⟩⟩
  have hb := heap_alloc_new w (.cells cs T mk)
  have key : ∀ (W : World) (B : Nat), W.heap[B]? = some (.cells cs T mk) → W.cell? ⟨B, j, none⟩ = cs[j]? := fun W B h => by simp [World.cell?, h]
  rw [key _ _ hb, hcs]
  simp [strsC, List.getElem?_eq_getElem hj]

section
variable {P : Program} {ops : Array Oper} {o : Oper} {a : Act} {Q : Exit → Act → World → Prop} {K : Act → World → Prop} {E : Prop}
/-- append of one element to a row of the call's own, as one step of a region that draws its order -/
theorem step_own1 {W : World} (base : Nat) (hw : Region.wanted o (yielded ops a.tmps) = true) (s x : Operand) (t e : TypeId) (z : Value) (size bytes : Nat)
    (ho : o.op = .call { callee := .builtin .append, args := #[s, x], argTypes := #[t, t] })
    (ht : P.underlying t = some (.slice e)) (hinfo : (P.info? e).map (fun i => (i.zero, i.size, i.bytes)) = some (some z, size, bytes)) (hz : z.cells.size = size) (hs0 : 0 < size) (hb0 : 0 < bytes)
    (v : Value) (n : Nat) (xs ys : List Value) (hs : a.eval s = v) (B0 : Nat) (hx : a.eval x = .slice (some ⟨B0, 0, none⟩) 1 1) (hB0 : W.heap.size = B0) (hys : ys.length = size) (h1 : ∀ u ∈ ys, u.oneCell' = true)
    (HO : W.ownsRow base e size v n xs) (hbase : base ≤ W.heap.size) (hl : (n + 1) * bytes ≤ 140737488355328)
    (h : ∀ v1 w1, w1.ownsRow base e size v1 (n + 1) (xs ++ ys) → W.grownBy w1 v.ownBlock → (v1.ownBlock = v.ownBlock ∨ ∃ b, v1.ownBlock = some b ∧ W.heap.size ≤ b) → K (a.put o.dst v1) w1) :
    if Region.wanted o (yielded ops a.tmps) = true then Oper.wp P o a (W.alloc (.cells ys.toArray e)) K Q else E := by
  subst hB0
  obtain ⟨i0, hi, hzz⟩ := Option.map_eq_some_iff.1 hinfo
  simp only [Prod.mk.injEq] at hzz
  obtain ⟨hz0, hz1, hz2⟩ := hzz
  have hlen : n + 1 ≤ 140737488355328 := Nat.le_trans (Nat.le_mul_of_pos_right _ hb0) hl
  rw [if_pos hw]
  obtain ⟨v1, w1, hr, hown, hg, _, hat⟩ := run_append_own_at (P := P) (W.alloc (.cells ys.toArray e)) base t o.type e i0 z size bytes ht hi hz0 hz1 hz2 hz hs0 v n xs (HO.alloc _) ⟨W.heap.size, 0, none⟩ 1 1 ys (by rw [hys]; simp)
    (by simpa using World.news_of_block (cs := ys.toArray) (t := e) (fr := (0, 0)) (heap_alloc_new W (.cells ys.toArray e))) h1 (by simp only [maxLen]; omega) hl (by simp; omega)
  unfold Oper.wp execOp
  simp only [ho, resolve, invoke, builtin, Sem.run_bind, Sem.run_pure, Result.andThen_ok, List.map_toArray, List.map_cons, List.map_nil, hs, hx, hr]
  refine h v1 w1 hown (World.grownBy.trans (World.grownBy_alloc W _ _) hg) ?_
  rcases hat with hat | hat
  · exact .inl hat
  · exact .inr ⟨_, hat, by simp⟩
end

variable {x : Px} {w : World} {lv sv : Value} {s : St}

set_option maxRecDepth 100000 in
theorem sign_callsC (h : PS x w lv sv s) (t : Txt) : Calls Tryz.prog 85 #[.pointer (some ⟨x.B, 0, none⟩), .string ⟨t.toArray⟩] w (DidC x w sv (s.sign t)) := by
  have Hh := Lib.hid h
  clear h
  go_enter Tryz.func85, Tryz.ntmps85
  go_wp2_with fail
  refine (need_callsC (Hh.out.step (alloc_below _ _)) 5 _ [t] (StrsAt.new w [t] 1 _ _ _ rfl rfl) (by simp)).mono ?_
  rintro e w1 ⟨rfl, lv1, h1⟩
  have H1 := Lib.hid (((Now.refl Hh.out).alloc _).trans h1)
  clear h1
  go_wp2_with fail
  go_end0
  exact ⟨rfl, _, H1.out⟩
theorem sign_calls (h : PS x w lv sv s) (t : Txt) : Calls Tryz.prog 85 #[.pointer (some ⟨x.B, 0, none⟩), .string ⟨t.toArray⟩] w (Did x w sv (s.sign t)) :=
  (sign_callsC h t).mono fun _ _ h => h.did

set_option maxRecDepth 100000 in
theorem name_callsC (h : PS x w lv sv s) : Calls Tryz.prog 83 #[.pointer (some ⟨x.B, 0, none⟩)] w (GaveC x w sv (.string ⟨s.nameT.toArray⟩) s.name) := by
  have Hh := Lib.hid h
  clear h
  go_enter Tryz.func83, Tryz.ntmps83
  go_wp2_with fail
  refine (need_callsC Hh.out 1 _ [] (StrsAt.nil w) (by decide)).mono ?_
  rintro e w1 ⟨rfl, lv1, h1⟩
  have H1 := Lib.hid h1
  clear h1
  go_wp2_with fail
  go_ret
  exact ⟨rfl, _, H1.out⟩
theorem name_calls (h : PS x w lv sv s) : Calls Tryz.prog 83 #[.pointer (some ⟨x.B, 0, none⟩)] w (Gave x w sv (.string ⟨s.nameT.toArray⟩) s.name) :=
  (name_callsC h).mono fun _ _ h => h.gave

set_option maxRecDepth 100000 in
theorem key_callsC (h : PS x w lv sv s) (t : Txt) : Calls Tryz.prog 82 #[.pointer (some ⟨x.B, 0, none⟩), .string ⟨t.toArray⟩] w (GaveC x w sv (.bool (s.next 2 [t])) (s.after 2 [t])) := by
  have Hh := Lib.hid h
  clear h
  go_enter Tryz.func82, Tryz.ntmps82
  go_wp2_with fail
  refine (take_callsC (Hh.out.step (alloc_below _ _)) 2 _ [t] (StrsAt.new w [t] 1 _ _ _ rfl rfl) (by simp)).mono ?_
  rintro e w1 ⟨rfl, lv1, h1⟩
  have H1 := Lib.hid (((Now.refl Hh.out).alloc _).trans h1)
  generalize (s.taken 2 [t]) = T at *
  unfold Tok.val
  clear h1
  go_wp2_with fail
  go_ret
  exact ⟨rfl, _, H1.out.alloc _⟩
theorem key_calls (h : PS x w lv sv s) (t : Txt) : Calls Tryz.prog 82 #[.pointer (some ⟨x.B, 0, none⟩), .string ⟨t.toArray⟩] w (Gave x w sv (.bool (s.next 2 [t])) (s.after 2 [t])) :=
  (key_callsC h t).mono fun _ _ h => h.gave

/-! ### keys -/
theorem keys_snoc (s : St) (l : List Txt) (t : Txt) : s.keys (l ++ [t]) = (s.keys l).need 2 [t] := by simp [St.keys]
set_option maxRecDepth 100000 in
theorem keys_callsC (h : PS x w lv sv s) (g n : Nat) (texts : List Txt) (hn : texts.length = n) (hn100 : n ≤ 100) (hc : ∀ (j : Nat) (hj : j < texts.length), w.cell? ⟨g, j, none⟩ = some (.string ⟨texts[j].toArray⟩)) (hg1 : g ≠ x.B) (hg2 : sv.ownBlock ≠ some g) :
    Calls Tryz.prog 84 #[.pointer (some ⟨x.B, 0, none⟩), .slice (some ⟨g, 0, none⟩) n n] w (DidC x w sv (s.keys texts)) := by
  have Hh := Lib.hid h
  have Hn := Lib.hid hn
  have Hc := Lib.hid hc
  have Hg := Lib.hid (And.intro hg1 hg2)
  clear h hn hc hg1 hg2
  go_enter Tryz.func84, Tryz.ntmps84
  go_wp2_with fail
  go_loopw [8] (fun i wr => ∃ k : Nat, k ≤ n ∧ i = .int .i64 k ∧ Hid (∃ lv', Now x w sv wr lv' sv (s.keys (texts.take k)))) (fun i _ => n - (intOf i).toNat)
  case atStart => exact ⟨0, Nat.zero_le _, rfl, _, Now.refl Hh.out⟩
  case round =>
    obtain ⟨k, hk, rfl, Hr⟩ := hrel
    obtain ⟨lv1, h1⟩ := Hr.out
    by_cases hlt : k < n
    · have hkl : k < texts.length := by rw [Hn.out]; exact hlt
      have hg : g < w.heap.size := World.block_lt_of_cell? _ _ (Hc.out k hkl)
      have hcell : wr.cell? ⟨g, k, none⟩ = some (.string ⟨texts[k].toArray⟩) := by
        have hb := h1.keep.2 g hg Hg.out.1 Hg.out.2
        exact (World.cell?_of_block (w := w) (a := ⟨g, k, none⟩) hb).trans (Hc.out k hkl)
      have H1 := Lib.hid h1
      have Hsn := Lib.hid (keys_snoc s (texts.take k) texts[k])
      have Htk := Lib.hid (show texts.take (k + 1) = texts.take k ++ [texts[k]] by rw [List.take_succ_eq_append_getElem hkl])
      generalize texts[k] = t at *
      clear h1 Hr
      go_wp2_with fail
      refine (need_callsC (H1.out.ps.step (alloc_below _ _)) 2 _ [t] (StrsAt.new wr [t] 1 _ _ _ rfl rfl) (by simp)).mono ?_
      rintro e w2 ⟨rfl, lv2, h2⟩
      have H2 := Lib.hid ((H1.out.alloc _).trans h2)
      clear h2
      go_wp2_with fail
      go_roundw
      case rel => exact ⟨k + 1, by omega, by go_num, _, by rw [Htk.out, Hsn.out]; exact H2.out⟩
      case measure => simp [intOf]; omega
    · have H1 := Lib.hid h1
      have Htk := Lib.hid (show texts.take k = texts by rw [List.take_of_length_le]; have := Hn.out; omega)
      clear h1 Hr
      go_wp2_with fail
      go_end0
      exact ⟨rfl, _, by have := H1.out; rw [Htk.out] at this; exact this⟩
theorem keys_calls (h : PS x w lv sv s) (g n : Nat) (texts : List Txt) (hn : texts.length = n) (hn100 : n ≤ 100) (hc : ∀ (j : Nat) (hj : j < texts.length), w.cell? ⟨g, j, none⟩ = some (.string ⟨texts[j].toArray⟩)) (hg1 : g ≠ x.B) (hg2 : sv.ownBlock ≠ some g) :
    Calls Tryz.prog 84 #[.pointer (some ⟨x.B, 0, none⟩), .slice (some ⟨g, 0, none⟩) n n] w (Did x w sv (s.keys texts)) :=
  (keys_callsC h g n texts hn hn100 hc hg1 hg2).mono fun _ _ h => h.did

/-! ### depth -/
set_option maxRecDepth 100000 in
theorem nest_deep (h : PS x w lv sv s) (d : Nat) (hd : 16 ≤ d) (hd2 : d ≤ 100) : Calls Tryz.prog 205 #[.pointer (some ⟨x.B, 0, none⟩), .int .i64 d] w (Gave x w sv (.bool false) s.deep) := by
  have Hh := Lib.hid h
  have Hd := Lib.hid (h.step (Below.refl w.heap.size w).drew)
  clear h
  go_enter Tryz.func205, Tryz.ntmps205
  go_wp2_with fail
  go_region_with ((first | (go_at_call 43; refine (place_calls Hd.out).mono ?_; rintro e w' ⟨rfl, rfl⟩) | (go_at_call 42; refine (fail_calls Hd.out 10 s.place).mono ?_; rintro e w' ⟨rfl, lv1, sv1, h1⟩)))
  have H1 := Lib.hid ((Now.refl Hh.out).drew.trans h1)
  clear h1
  go_wp2_with fail
  go_ret
  exact ⟨rfl, _, _, H1.out⟩

set_option maxRecDepth 100000 in
theorem nest_yes (h : PS x w lv sv s) (d : Nat) (hd : d < 16) {t : Tok} {r : List Tok} (hl : s.left = t :: r) : Calls Tryz.prog 205 #[.pointer (some ⟨x.B, 0, none⟩), .int .i64 d] w (Gave x w sv (.bool true) s.drop) := by
  obtain ⟨⟨c0, c1, c2, c3, c4⟩, f0, f1, f2, f3, f4⟩ := five h.blk
  obtain ⟨m, n, c, rfl, h1, h2, h16, ⟨k0, k1, k2, k3⟩, ⟨hall, hlen⟩, -, hgB, hgw⟩ := h.head hl
  have Hd := Lib.hid (fun lv' hl' => now_drop (w := w) h hl lv' hl')
  have Htl := Lib.hid (fun v hv => LeftIs.tail (x := x) hall hlen h2 v hv)
  have hn1 : (1 : Int) ≤ n := by omega
  have hdd : (d : Int) < 16 := by omega
  clear h hl hall hlen
  go_enter Tryz.func205, Tryz.ntmps205
  go_wp2_with fail
  · go_ret
    exact ⟨rfl, _, _, Hd.out _ (Htl.out _ (.inr ⟨by assumption, _, 0, by rw [show n - 1 = 0 by omega]⟩))⟩
  · go_ret
    exact ⟨rfl, _, _, Hd.out _ (Htl.out _ (.inl (by rw [show (m + 1) * 4 = m * 4 + 4 by omega])))⟩

/-! ### a step put -/
theorem put_no (hw : s.why ≠ 0) (y : Stp) : s.put y = s := by
  have e : s.many = s := by unfold St.many; rw [if_neg (fun h => hw h.1)]
  unfold St.put
  rw [e, if_neg hw]
theorem put_many (hw : s.why = 0) (hl : 128 ≤ s.steps.length) (y : Stp) : s.put y = s.fail 3 s.place := by
  have e : s.many = s.fail 3 s.place := by unfold St.many; rw [if_pos ⟨hw, hl⟩]
  have e2 : (s.fail 3 s.place).why = 3 := by unfold St.fail; rw [if_pos hw]
  unfold St.put
  rw [e, if_neg (by rw [e2]; decide)]
theorem put_yes (hw : s.why = 0) (hl : s.steps.length < 128) (y : Stp) : s.put y = { s with steps := s.steps ++ [y] } := by
  have e : s.many = s := by unfold St.many; rw [if_neg (fun h => by omega)]
  unfold St.put
  rw [e, if_pos hw]
theorem fail_why (s : St) (hw : s.why = 0) (e p : Nat) : (s.fail e p).why = e := by unfold St.fail; rw [if_pos hw]
theorem own_form {w : World} {base n : Nat} {e : TypeId} {size : Nat} {v : Value} {xs : List Value} (h : w.ownsRow base e size v n xs) : ∃ a c, v = .slice a n c := by
  rcases h.2 with ⟨rfl, rfl⟩ | ⟨g, cap, cur, rfl, _⟩
  · exact ⟨_, _, rfl⟩
  · exact ⟨_, _, rfl⟩

set_option maxRecDepth 100000 in
theorem put_fail (h : PS x w lv sv s) (hw : s.why = 0) (hl : 128 ≤ s.steps.length) (y : Stp) : Calls Tryz.prog 173 #[.pointer (some ⟨x.B, 0, none⟩), y.val] w (Did x w sv (s.put y)) := by
  rw [put_many hw hl]
  obtain ⟨⟨c0, c1, c2, c3, c4⟩, f0, f1, f2, f3, f4⟩ := five h.blk
  obtain ⟨a, c, rfl⟩ := own_form h.own
  have hlen := h.few
  have Hh := Lib.hid h
  have Hd := Lib.hid ((h.step (alloc_below w (.cells #[.int .u8 y.kind, .string ⟨y.text.toArray⟩, .int .i64 y.num] 48))).step (Below.refl (w.alloc (.cells #[.int .u8 y.kind, .string ⟨y.text.toArray⟩, .int .i64 y.num] 48)).heap.size (w.alloc (.cells #[.int .u8 y.kind, .string ⟨y.text.toArray⟩, .int .i64 y.num] 48))).drew)
  have hb : ((s.why : Int) == 0) = true := by rw [beq_iff_eq]; omega
  have Hfw := Lib.hid (fail_why s hw 3 s.place)
  have hBw := h.lt
  have hl' : (128 : Int) ≤ s.steps.length := by omega
  unfold Stp.val
  clear h hw
  go_enter Tryz.func173, Tryz.ntmps173
  go_wp2_with fail
  go_region_with ((first | (go_at_call 43; refine (place_calls Hd.out).mono ?_; rintro e w' ⟨rfl, rfl⟩) | (go_at_call 42; refine (fail_calls Hd.out 3 s.place).mono ?_; rintro e w' ⟨rfl, lv1, sv1, h1⟩)))
  have H1 := Lib.hid (((Now.refl Hh.out).alloc _).drew.trans h1)
  obtain ⟨⟨k0, k1, k2, k3, k4⟩, -⟩ := five h1.ps.blk
  rw [Hfw.out] at k2
  clear h1 c0 c1 c2 c3 c4 f0 f1 f2 f3 f4
  go_wp2_with fail
  go_end0
  exact ⟨rfl, _, _, H1.out⟩

set_option maxRecDepth 100000 in
theorem put_quiet (h : PS x w lv sv s) (hw : s.why ≠ 0) (y : Stp) : Calls Tryz.prog 173 #[.pointer (some ⟨x.B, 0, none⟩), y.val] w (Did x w sv (s.put y)) := by
  rw [put_no hw]
  obtain ⟨⟨c0, c1, c2, c3, c4⟩, f0, f1, f2, f3, f4⟩ := five h.blk
  have Hh := Lib.hid h
  have hb : ((s.why : Int) == 0) = false := by rw [beq_eq_false_iff_ne]; omega
  have hBw := h.lt
  unfold Stp.val
  clear h hw
  go_enter Tryz.func173, Tryz.ntmps173
  go_wp2_with fail
  go_end0
  exact ⟨rfl, _, _, (Now.refl Hh.out).alloc _⟩

theorem stpInfo : (Tryz.prog.info? 48).map (fun i => (i.zero, i.size, i.bytes)) = some (some (.agg #[.int .u8 0, .string ⟨#[]⟩, .int .i64 0]), 3, 32) := by kernel_rfl
theorem now_put (h : PS x w lv sv s) (hl : s.steps.length < 128) {W w1 : World} (hb : Below w.heap.size w W) (y : Stp) {v1 : Value} (hown : w1.ownsRow x.W.heap.size 48 3 v1 (s.steps.length + 1) (stpsC s.steps ++ y.cells))
    (hg : W.grownBy w1 sv.ownBlock) (hat : v1.ownBlock = sv.ownBlock ∨ ∃ b, v1.ownBlock = some b ∧ W.heap.size ≤ b) : Now x w sv (w1.setCell ⟨x.B, 4, none⟩ v1) lv v1 { s with steps := s.steps ++ [y] } := by
  have hW := h.step hb
  have hBw := h.lt
  have hz := hb.size
  have hne : v1.ownBlock ≠ some x.B := by
    rcases hat with e | ⟨b, e, hb'⟩
    · rw [e]; exact h.ne
    · rw [e]; intro e'; have := Option.some.inj e'; omega
  have hblk : ∀ b, b ≠ x.B → b < W.heap.size → sv.ownBlock ≠ some b → (w1.setCell ⟨x.B, 4, none⟩ v1).heap[b]? = W.heap[b]? := fun b hB hlt hs => by
    rw [Below.heap_setCell _ _ _ _ hB, hg.block b hlt (fun e => hs e.symm)]
  refine ⟨⟨h.ok, ?_, ?_, h.left, ?_, hne, by simp; omega⟩, ⟨by have := hg.size; simp; omega, fun b hlt hB hs => (hblk b hB (by omega) hs).trans (hb.block b hlt)⟩, ?_⟩
  · have hB1 : w1.heap[x.B]? = W.heap[x.B]? := hg.block _ (by omega) (fun e => h.ne e.symm)
    exact set_block (hB1.trans hW.blk) _ _ rfl
  · exact (hW.bel.grown hg hW.bel.size fun b hb' => (World.ownsRow.lt h.own b hb').1).setCell h.ok.low _
  · rw [show stpsC (s.steps ++ [y]) = stpsC s.steps ++ y.cells from stpsC_snoc _ _, List.length_append]
    exact own_same hown fun g hg' _ => Below.heap_setCell _ _ _ _ (fun e => hne (by rw [hg', e]))
  · rcases hat with e | ⟨b, e, hb'⟩
    · exact .inl e
    · exact .inr fun b2 h2 => by rw [e] at h2; have := Option.some.inj h2; omega

theorem grown_cell (h : PS x w lv sv s) {w1 : World} (hg : w.grownBy w1 sv.ownBlock) : w1.cell? ⟨x.B, 4, none⟩ = some sv ∧ w1.frozen? ⟨x.B, 4, none⟩ = false := by
  have hB1 : w1.heap[x.B]? = w.heap[x.B]? := hg.block _ h.lt (fun e => h.ne e.symm)
  obtain ⟨⟨c0, c1, c2, c3, c4⟩, f0, f1, f2, f3, f4⟩ := five (hB1.trans h.blk)
  exact ⟨c4, f4⟩

set_option maxRecDepth 100000 in
theorem put_step (h : PS x w lv sv s) (hw : s.why = 0) (hl : s.steps.length < 128) (y : Stp) : Calls Tryz.prog 173 #[.pointer (some ⟨x.B, 0, none⟩), y.val] w (Did x w sv (s.put y)) := by
  rw [put_yes hw hl]
  obtain ⟨⟨c0, c1, c2, c3, c4⟩, f0, f1, f2, f3, f4⟩ := five h.blk
  obtain ⟨a, c, rfl⟩ := own_form h.own
  have Hh := Lib.hid h
  have hb : ((s.why : Int) == 0) = true := by rw [beq_iff_eq]; omega
  have hBw := h.lt
  have hl' : (s.steps.length : Int) < 128 := by omega
  unfold Stp.val
  clear h hw
  go_enter Tryz.func173, Tryz.ntmps173
  go_wp2_with fail
  have Ho := Lib.hid ((Hh.out.step (alloc_below w (.cells #[.int .u8 y.kind, .string ⟨y.text.toArray⟩, .int .i64 y.num] 48))).step (Below.refl (w.alloc (.cells #[.int .u8 y.kind, .string ⟨y.text.toArray⟩, .int .i64 y.num] 48)).heap.size (w.alloc (.cells #[.int .u8 y.kind, .string ⟨y.text.toArray⟩, .int .i64 y.num] 48))).drew)
  go_region_law (go_must (refine step_own1 x.W.heap.size rfl _ _ 22 48 _ 3 32 rfl Tryz.underlying22 stpInfo rfl (by decide) (by decide) _ s.steps.length (stpsC s.steps) (Stp.cells y) rfl _ rfl (by simp) rfl (by simp [Stp.cells, Value.oneCell']) Ho.out.own Ho.out.bel.size (by omega) ?_); intro v1 w1 hown1 hg1 hat1; obtain ⟨q4, g4⟩ := grown_cell Ho.out hg1; obtain ⟨a1, c1, rfl⟩ := own_form hown1)
  all_goals
    go_end0
    exact ⟨rfl, _, _, now_put Hh.out (by omega) (((Below.refl _ _).alloc (Nat.le_refl _) _).drew) y hown1 hg1 hat1⟩

theorem put_calls (h : PS x w lv sv s) (y : Stp) : Calls Tryz.prog 173 #[.pointer (some ⟨x.B, 0, none⟩), y.val] w (Did x w sv (s.put y)) := by
  by_cases hw : s.why = 0
  · by_cases hl : s.steps.length < 128
    · exact put_step h hw hl y
    · exact put_fail h hw (by omega) y
  · exact put_quiet h hw y

end Go.Proofs.YtcjmhmmjfgjcnaaGreatDoor.Pa

/- apart: no text of a list stands twice. -/
namespace Go.Proofs.YtcjmhmmjfgjcnaaGreatDoor.Pa
open Go.RowKit Go.Proofs.YtcjmhmmjfgjcnaaGreatDoor.Lx Go.Maps

theorem keyS : Keyed Tryz.prog 9 := string_keyed Tryz.underlying9
theorem zeroI (w : World) : (zeroValue 3).run Tryz.prog w = .ok (.int .i64 0) w := by kernel_rfl

/-- what the map holds of the first texts -/
structure Seen (D : DataW Unit) (l : List Txt) : Prop where
  tidy : Tidy D
  map : IsMap D
  hasK : ∀ t : Txt, Maps.has D (.string t) = decide (t ∈ l)
  le : Maps.size D ≤ l.length
  nd : Maps.size D = l.length ↔ l.Nodup
theorem seen_nil : Seen (.map []) [] := ⟨⟨[], rfl, List.Pairwise.nil⟩, ⟨[], rfl⟩, fun t => by simp [Maps.has], by simp [Maps.size], by simp [Maps.size]⟩
theorem nodup_snoc (l : List Txt) (t : Txt) : (l ++ [t]).Nodup ↔ l.Nodup ∧ t ∉ l := by
  rw [List.nodup_append]
  constructor
  · rintro ⟨h1, _, h3⟩
    exact ⟨h1, fun ht => h3 t ht t (by simp) rfl⟩
  · rintro ⟨h1, h2⟩
    refine ⟨h1, by simp, fun a ha b hb => ?_⟩
    simp at hb
    subst hb
    intro e
    subst e
    exact h2 ha
theorem Seen.put {D : DataW Unit} {l : List Txt} (h : Seen D l) (t : Txt) (d : DataW Unit) : Seen (D.put (.string t) d) (l ++ [t]) := by
  have hk : WideAt.IsKeyLit (.string t) := by simp [WideAt.IsKeyLit]
  have hs := size_put (k := .string t) h.tidy d
  have hh := h.hasK t
  refine ⟨h.tidy.put hk d, h.map.put _ d, fun u => ?_, ?_, ?_⟩
  · by_cases e : u = t
    · subst e
      rw [has_put_same h.map hk]
      simp
    · rw [has_put_other (fun e' => e (by simpa using e')), h.hasK u]
      simp [e]
  · rw [hs, List.length_append]
    have := h.le
    by_cases hb : Maps.has D (.string t) = true
    · rw [if_pos hb]; omega
    · rw [if_neg hb]; simp only [List.length_cons, List.length_nil]; omega
  · rw [hs, List.length_append, nodup_snoc, hh]
    have h1 := h.le
    have h2 := h.nd
    clear hs hh
    by_cases ht : t ∈ l
    · simp [ht]
      omega
    · simp [ht]
      exact h2

theorem apart_size {l : List Txt} {a : Nat} {D : DataW Unit} (h : Seen D l) (ha : l.length = a) : (((Maps.size D : Nat) : Int) == (a : Int)) = decide l.Nodup := by
  rw [Bool.eq_iff_iff, decide_eq_true_iff, ← h.nd, beq_iff_eq, ← ha]
  omega

set_option maxRecDepth 100000 in
theorem apart_calls (w : World) (v : Value) (l : List Txt) (h : StrsAt w v l) (hl : l.length ≤ 1048576) (hls : ∀ t ∈ l, t.length ≤ 1073741824) :
    Calls Tryz.prog 111 #[v] w fun e w' => e = .returned (.bool (decide l.Nodup)) ∧ Below w.heap.size w w' := by
  obtain ⟨a, n, c, rfl, hn, hc, hj⟩ := h
  have Hn := Lib.hid hn
  have Hj := Lib.hid hj
  have Hls := Lib.hid hls
  have hn2 : n ≤ 1048576 := by omega
  clear hn hj hls
  have hmm := @run_makeMap Tryz.prog
  go_enter Tryz.func111, Tryz.ntmps111
  go_wp2
  go_loopw [9] (fun i wr => ∃ k : Nat, k ≤ n ∧ i = .int .i64 k ∧ Hid (∃ D, wr.ownsMap Tryz.prog 9 (plainElem (H := Unit) Tryz.prog 3) w.heap.size k D ∧ Seen D (l.take k)) ∧ Hid (Below w.heap.size w wr)) (fun i _ => n - (intOf i).toNat)
  case atStart => exact ⟨0, Nat.zero_le _, rfl, ⟨_, World.ownsMap_made _ _ _ _, seen_nil⟩, (Below.refl _ _).alloc (Nat.le_refl _) _⟩
  case round =>
    obtain ⟨k, hk, rfl, hm, hb⟩ := hrel
    obtain ⟨D, hown, hseen⟩ := hm
    by_cases hlt : k < n
    · have hkl : k < l.length := by rw [Hn.out]; exact hlt
      obtain ⟨g, rfl, hcell0⟩ := Hj.out k hkl
      have hcell := (hb.out.cell (p := ⟨g, k, none⟩) (World.block_lt_of_cell? _ _ hcell0)).trans hcell0
      have hlk := Hls.out _ (List.getElem_mem hkl)
      have Hkey := Lib.hid (Go.WideMaps.keyOf_string_mk (P := Tryz.prog) (k := 9) Tryz.underlying9 (s := ⟨(l[k]).toArray⟩) (by rw [size_mk]; unfold maxLen; omega))
      have Hp := Lib.hid (fun d => show Seen (D.put (.string (⟨(l[k]).toArray⟩ : ByteArray).data.toList) d) (l.take (k + 1)) by
        rw [List.take_succ_eq_append_getElem hkl]
        exact hseen.put l[k] d)
      have Hown := Lib.hid hown
      clear hcell0 hseen hown
      generalize l[k] = t at *
      go_wp2_with (first
        | (at_lookup; refine wpList_lookup_own_int _ rfl _ _ 192 rfl 9 3 .i64 keyS Tryz.underlying192 Tryz.underlying3 (zeroI _) w.heap.size k _ rfl Hown.out _ _ rfl Hkey.out ?_; intro c hat hwc; clear hat)
        | (at_mapUpdate; refine wpList_mapUpdate_own _ rfl _ _ _ 192 rfl 9 3 keyS Tryz.underlying192 _ w.heap.size k _ rfl Hown.out (by unfold maxLen; omega) _ _ _ rfl rfl Hkey.out _ [] (plainElem_int Tryz.underlying3 (wrap64_wf _)) ?_; intro w1 hown1 hgrow1))
      have Hm1 := Lib.hid (show ∃ D', w1.ownsMap Tryz.prog 9 (plainElem (H := Unit) Tryz.prog 3) w.heap.size (k + 1) D' ∧ Seen D' (l.take (k + 1)) from ⟨_, hown1, Hp.out _⟩)
      have Hb1 := Lib.hid (hb.out.grown hgrow1 hb.out.size (fun j hj => by cases hj; exact Nat.le_refl _))
      clear hown1 hgrow1
      go_roundw
      case rel => exact ⟨k + 1, by omega, by go_num, Hm1, Hb1⟩
      case measure => simp [intOf]; omega
    · have Hs := Lib.hid (show (((Maps.size D : Nat) : Int) == (n : Int)) = decide l.Nodup by
        have e : l.take k = l := List.take_of_length_le (by have := Hn.out; omega)
        rw [e] at hseen
        exact apart_size hseen Hn.out)
      have Hown := Lib.hid hown
      clear hseen hown
      go_wp2_with (at_len; refine wpList_len_own _ rfl _ 192 rfl 9 3 Tryz.underlying192 _ w.heap.size k _ rfl Hown.out ?_)
      go_ret
      exact ⟨ret_bool Hs.out, hb.out⟩

end Go.Proofs.YtcjmhmmjfgjcnaaGreatDoor.Pa

/- parse: names, numbers, paths, a struct's names. -/
namespace Go.Proofs.YtcjmhmmjfgjcnaaGreatDoor.Pa
open Go.RowKit Go.Proofs.YtcjmhmmjfgjcnaaGreatDoor.Lx

theorem showV_err (t : Tok) : ∃ (b : ByteArray) (c : Int), showV t = .tuple #[.string b, .int .i64 c] ∧ (c == 0) = showOk t := by
  unfold showV
  by_cases h : showOk t = true
  · rw [if_pos h]; exact ⟨_, _, rfl, by rw [h]; rfl⟩
  · rw [if_neg h]; exact ⟨_, _, rfl, by have : showOk t = false := by simpa using h
                                        rw [this]; rfl⟩
theorem nameS_calls (s : Txt) (w : World) (hs : s.length ≤ 1073741824) (he : Env w) :
    Calls Tryz.prog 61 #[.string ⟨s.toArray⟩] w fun e w' => e = .returned (.bool (nameB s)) ∧ Below w.heap.size w w' := by
  have Hs := Lib.hid (Show_calls ⟨1, s, 0, 0⟩ 0 w hs (by simp) (by simp) (by rw [showS_str _ (by simp) (by simp)]; simp only; omega) he)
  obtain ⟨b, c, hv, hc⟩ := showV_err ⟨1, s, 0, 0⟩
  rw [hv] at Hs
  have Hc := Lib.hid (show (c == 0) = nameB s from hc)
  clear hs he hv hc
  go_enter Tryz.func61, Tryz.ntmps61
  go_wp2_with fail
  refine Hs.out.mono ?_
  rintro e w1 ⟨rfl, hb⟩
  have Hb := Lib.hid hb
  clear hb
  go_wp2_with fail
  go_ret
  exact ⟨ret_bool Hc.out, Hb.out⟩

theorem parseInt_ok (s : ByteArray) (w : World) (hs : s.size ≤ 281474976710656) (v : Int) (hp : Lib.parseIntB 64 (L s) = .ok v) :
    Calls Tryz.prog 143 #[.string s, .int .i64 10, .int .i64 64] w fun e w' => e = .returned (.tuple #[.int .i64 v, .nilIface]) ∧ Below w.heap.size w w' := by
  refine (Tryz.strconv_ParseInt_10_at64_ok s (by omega) v hp w).mono ?_
  rintro e w' ⟨rfl, hw⟩
  refine ⟨rfl, ?_⟩
  rcases hw with rfl | ⟨t, rfl⟩
  · exact Below.refl _ _
  · exact ⟨rfl, rfl, rfl, by rw [Lib.bytesWorld_size]; omega, fun i hi => Lib.bytesWorld_at_old w _ _ i hi⟩
theorem parseInt_bad (s : ByteArray) (w : World) (hs : s.size ≤ 281474976710656) (he : Env w) (hp : ∀ u, Lib.parseIntB 64 (L s) ≠ .ok u) :
    Calls Tryz.prog 143 #[.string s, .int .i64 10, .int .i64 64] w fun e w' => (∃ (u : Int) (N : Nat), e = .returned (.tuple #[.int .i64 u, .iface 217 (.pointer (some ⟨N, 0, none⟩))])) ∧ Below w.heap.size w w' := by
  cases hq : Lib.parseIntB 64 (L s) with
  | ok u => exact absurd hq (hp u)
  | range =>
    obtain ⟨ev, h1, h2⟩ := he.rng
    refine (Tryz.strconv_ParseInt_10_at64_range s hs hq ev w h1 h2).mono ?_
    rintro e w' ⟨N, rfl, _, _, hb⟩
    exact ⟨⟨_, N, rfl⟩, hb⟩
  | _ =>
    obtain ⟨ev, h1, h2⟩ := he.syn
    refine (Any.strconv_ParseInt_10_at64_syntax Tryz.laysC174 s hs hq ev w h1 h2).mono ?_
    rintro e w' ⟨N, rfl, _, _, hb⟩
    exact ⟨⟨_, N, rfl⟩, hb⟩
theorem parseInt_bd {l : Txt} {v : Int} (h : Lib.parseIntB 64 l = .ok v) : -9223372036854775808 ≤ v ∧ v ≤ 9223372036854775807 := by
  unfold Lib.parseIntB at h
  split at h
  · cases h
  · simp only at h
    split at h
    · cases h
    · cases h
    · rename_i u hu
      split at h
      · cases h
      · split at h
        · cases h
        · simp only [Lib.NumEnd.ok.injEq] at h
          rename_i h1 h2
          simp only [not_and, Nat.not_le, Nat.not_lt] at h1 h2
          split at h <;> (rename_i h3; first | (have := h2 h3; omega) | (have := h1 h3; omega))

set_option maxRecDepth 100000 in
theorem number_calls' (s : Txt) (w : World) (hs : s.length ≤ 1073741824) (he : Env w) :
    Calls Tryz.prog 110 #[.string ⟨s.toArray⟩] w fun e w' => e = .returned (.bool (numberB s)) ∧ Below w.heap.size w w' := by
  have He := Lib.hid he
  have hsz : (⟨s.toArray⟩ : ByteArray).size ≤ 281474976710656 := by rw [size_mk]; omega
  by_cases hok : ∃ v, Lib.parseIntB 64 s = .ok v
  · obtain ⟨v, hv⟩ := hok
    obtain ⟨b1, b2⟩ := parseInt_bd hv
    have Hp := Lib.hid (parseInt_ok ⟨s.toArray⟩ w hsz v (by rw [L_mk]; exact hv))
    by_cases h0 : 0 ≤ v
    · have Hn := Lib.hid (show decide (Lib.itoa v = s) = numberB s by unfold numberB; rw [hv]; simp [h0])
      have Hq := Lib.hid (bytes_beq (Lib.itoa v) s)
      have hd : decide (0 ≤ v) = true := by simp [h0]
      clear hv he hs
      go_enter Tryz.func110, Tryz.ntmps110
      go_wp2_with fail
      refine Hp.out.mono ?_
      rintro e w1 ⟨rfl, hb⟩
      have Hb := Lib.hid hb
      clear hb
      go_wp2_with fail
      refine (formatInt_calls v w1 b1 b2 (He.out.below Hb.out)).mono ?_
      rintro e w2 ⟨rfl, hb2⟩
      have Hb2 := Lib.hid (Hb.out.trans (hb2.mono Hb.out.size))
      clear hb2
      go_wp2_with fail
      go_ret
      exact ⟨ret_bool (by rw [← Hn.out, ← Hq.out]; simp), Hb2.out⟩
    · have Hn := Lib.hid (show numberB s = false by unfold numberB; rw [hv]; simp [h0])
      have hd : decide (0 ≤ v) = false := by simp [h0]
      clear hv he hs
      go_enter Tryz.func110, Tryz.ntmps110
      go_wp2_with fail
      refine Hp.out.mono ?_
      rintro e w1 ⟨rfl, hb⟩
      have Hb := Lib.hid hb
      clear hb
      go_wp2_with fail
      go_ret
      exact ⟨ret_bool Hn.out.symm, Hb.out⟩
  · have Hn := Lib.hid (show numberB s = false by
      unfold numberB
      split
      · rename_i n hn; exact absurd ⟨n, hn⟩ hok
      · rfl)
    have Hp := Lib.hid (parseInt_bad ⟨s.toArray⟩ w hsz he (fun u hu => hok ⟨u, by rwa [L_mk] at hu⟩))
    clear hok he hs
    go_enter Tryz.func110, Tryz.ntmps110
    go_wp2_with fail
    refine Hp.out.mono ?_
    rintro e w1 ⟨⟨u, N, rfl⟩, hb⟩
    have Hb := Lib.hid hb
    clear hb
    go_wp2_with fail
    go_ret
    exact ⟨ret_bool Hn.out.symm, Hb.out⟩

theorem splitB_strs (s : Txt) (c : UInt8) : ((Lib.splitB ⟨#[c]⟩ 0 (Lib.countB ⟨s.toArray⟩ ⟨#[c]⟩) ⟨s.toArray⟩).map Value.string) = strsC (Lib.split s [c]) := by
  have h := Lib.splitB_data ⟨#[c]⟩ 0 (Lib.countB ⟨s.toArray⟩ ⟨#[c]⟩) ⟨s.toArray⟩
  have e : Lib.split s [c] = (Lib.splitB ⟨#[c]⟩ 0 (Lib.countB ⟨s.toArray⟩ ⟨#[c]⟩) ⟨s.toArray⟩).map (·.data.toList) := by
    rw [h]
    unfold Lib.split Lib.countB
    simp
  rw [e]
  unfold strsC
  rw [List.map_map]
  exact List.map_congr_left fun b _ => by simp
theorem split_len (s : Txt) (c : UInt8) : (Lib.split s [c]).length = Lib.countB ⟨s.toArray⟩ ⟨#[c]⟩ + 1 := by
  have h := congrArg List.length (splitB_strs s c)
  rw [List.length_map, Lib.splitB_all ⟨#[c]⟩ (Nat.le_refl 1) 0 _ _ rfl] at h
  simp only [strsC, List.length_map] at h
  exact h.symm
theorem split_calls (s : Txt) (c : UInt8) (w : World) (hs : s.length ≤ 1073741824) (he : Env w) :
    Calls Tryz.prog 109 #[.string ⟨s.toArray⟩, .string ⟨#[c]⟩] w fun e w' => e = .returned (.slice (some ⟨w.heap.size, 0, none⟩) (Lib.split s [c]).length (Lib.split s [c]).length) ∧ w.alloc (.cells (strsC (Lib.split s [c])).toArray 9) = w' := by
  obtain ⟨m, hm⟩ := he.max
  refine (Tryz.strings_Split ⟨s.toArray⟩ ⟨#[c]⟩ m w (by rw [size_mk]; omega) hm (Nat.le_refl 1)).mono ?_
  rintro e w' ⟨rfl, rfl⟩
  refine ⟨?_, ?_⟩
  · rw [split_len]
  · rw [splitB_strs]
theorem split_each (s : Txt) (c : UInt8) : ∀ t ∈ Lib.split s [c], t.length ≤ s.length := by
  have key : ∀ (k : Nat) (s : Txt), ∀ t ∈ Lib.splitK [c] 0 k s, t.length ≤ s.length := by
    intro k
    induction k with
    | zero => intro s t ht; simp [Lib.splitK] at ht; subst ht; exact Nat.le_refl _
    | succ k ih =>
      intro s t ht
      unfold Lib.splitK at ht
      split at ht
      · simp at ht; subst ht; exact Nat.le_refl _
      · rcases List.mem_cons.1 ht with h | h
        · subst h; rw [List.length_take]; omega
        · have := ih _ t h
          rw [List.length_drop] at this
          omega
  exact key _ s
theorem split_count (s : Txt) (c : UInt8) : (Lib.split s [c]).length ≤ s.length + 1 := by
  rw [split_len]
  have := Lib.countB_le ⟨#[c]⟩ (Nat.le_refl 1) s.length ⟨s.toArray⟩ (by rw [size_mk]; exact Nat.le_refl _)
  rw [size_mk] at this
  omega

end Go.Proofs.YtcjmhmmjfgjcnaaGreatDoor.Pa
