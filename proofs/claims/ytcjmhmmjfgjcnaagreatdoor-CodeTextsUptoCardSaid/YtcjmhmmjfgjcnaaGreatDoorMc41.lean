/- Parts: PaI PaJ. -/
import Derived.Test.YtcjmhmmjfgjcnaaGreatDoorMc40

/- The parser: statements, what is kept in memory. -/
namespace Go.Proofs.YtcjmhmmjfgjcnaaGreatDoor.Pa
open Go.RowKit Go.Proofs.YtcjmhmmjfgjcnaaGreatDoor.Lx
variable {x : Px}

def smC (st : Stm) (vi ve : Value) : Array Value := #[.int .u8 st.kind, .string ⟨st.table.toArray⟩, .string ⟨st.field.toArray⟩, vi, ve, .bool st.history, .bool st.desc]
structure ItH (x : Px) (w : World) (sv : Value) (s : St) (Bs : Nat) (v : Value) (its : List Itm) (evs : List Value) : Prop where
  lenE : evs.length = its.length
  row : w.ownsRow x.W.heap.size 95 2 v its.length (itsC its evs)
  safe : ∀ b, v.ownBlock = some b → SafeB x w sv b ∧ b ≠ Bs
  exps : ∀ (i : Nat) (h : i < its.length) (h' : i < evs.length), HeldRow x w sv s evs[i] its[i].expr
  ne : ∀ v ∈ evs, v.ownBlock ≠ some Bs
theorem ItH.nil (x : Px) (w : World) (sv : Value) (s : St) (Bs : Nat) : ItH x w sv s Bs (.slice none 0 0) [] [] :=
  ⟨rfl, ⟨by simp [itsC], .inl ⟨rfl, rfl⟩⟩, fun b hb => by simp [Value.ownBlock] at hb, fun i h => absurd h (Nat.not_lt_zero _), by simp⟩

structure SmM (x : Px) (w0 : World) (sv0 : Value) (s0 : St) (wr : World) (lv sv : Value) (s : St) (Bs : Nat) (st : Stm) (vi ve : Value) (evs : List Value) : Prop where
  now : Now x w0 sv0 wr lv sv s
  blk : wr.heap[Bs]? = some (.cells (smC st vi ve) 33)
  safe : SafeB x wr sv Bs
  low : w0.heap.size ≤ Bs
  old : x.W.heap.size ≤ w0.heap.size
  its : ItH x wr sv s Bs vi st.items evs
  exp : HeldRow x wr sv s ve st.expr
  neE : ve.ownBlock ≠ some Bs
  fr : ∀ v ∈ vi :: ve :: evs, ∀ b, v.ownBlock = some b → w0.heap.size ≤ b

variable {w0 wr w' : World} {sv0 lv sv lv' sv' vi ve : Value} {s0 s s' : St} {Bs : Nat} {st : Stm} {evs : List Value}
theorem ItH.gave {its : List Itm} {v : Value} (h : ItH x wr sv s Bs v its evs) (hn : Now x wr sv w' lv' sv' s') (hh : ∀ v0 l0, HeldRow x wr sv s v0 l0 → HeldRow x w' sv' s' v0 l0) : ItH x w' sv' s' Bs v its evs :=
  ⟨h.lenE, own_same h.row fun g hg _ => (h.safe g hg).1.heap hn, fun b hb => ⟨(h.safe b hb).1.now hn, (h.safe b hb).2⟩, fun i h1 h2 => hh _ _ (h.exps i h1 h2), h.ne⟩
theorem SmM.gave (h : SmM x w0 sv0 s0 wr lv sv s Bs st vi ve evs) (hn : Now x wr sv w' lv' sv' s') (hh : ∀ v0 l0, HeldRow x wr sv s v0 l0 → HeldRow x w' sv' s' v0 l0) : SmM x w0 sv0 s0 w' lv' sv' s' Bs st vi ve evs :=
  ⟨h.now.trans hn, (h.safe.heap hn).trans h.blk, h.safe.now hn, h.low, h.old, h.its.gave hn hh, hh _ _ h.exp, h.neE, h.fr⟩
theorem SmM.cur (h : SmM x w0 sv0 s0 wr lv sv s Bs st vi ve evs) (hn : Now x wr sv w' lv' sv s') (he : s'.steps = s.steps) : SmM x w0 sv0 s0 w' lv' sv s' Bs st vi ve evs :=
  h.gave hn fun _ _ hv => hv.now hn he
theorem SmM.anew (h : SmM x w0 sv0 s0 wr lv sv s Bs st vi ve evs) (hn : Now x wr (.slice none 0 0) w' lv' sv' s') : SmM x w0 sv0 s0 w' lv' sv' s' Bs st vi ve evs :=
  h.gave hn.weak fun _ _ hv => hv.anew h.now.ps hn
theorem SmM.below (h : SmM x w0 sv0 s0 wr lv sv s Bs st vi ve evs) (hb : Below wr.heap.size wr w') : SmM x w0 sv0 s0 w' lv sv s Bs st vi ve evs :=
  h.cur ((Now.refl h.now.ps).step hb) rfl
theorem SmM.alloc (h : SmM x w0 sv0 s0 wr lv sv s Bs st vi ve evs) (o : Obj) : SmM x w0 sv0 s0 (wr.alloc o) lv sv s Bs st vi ve evs := h.below (alloc_below _ _)
theorem HeldRow.set {v : Value} {l : List Stp} (h : HeldRow x wr sv s v l) (hne : v.ownBlock ≠ some Bs) (i : Nat) (u : Value) : HeldRow x (wr.setCell ⟨Bs, i, none⟩ u) sv s v l :=
  h.other (by simp) fun b hb => Below.heap_setCell _ _ _ _ (fun e => hne (by rw [hb, e]))
theorem SmM.set (h : SmM x w0 sv0 s0 wr lv sv s Bs st vi ve evs) (i : Nat) (u : Value) (st' : Stm) (vi' ve' : Value) (evs' : List Value) (e : (smC st vi ve).setIfInBounds i u = smC st' vi' ve')
    (hi : ItH x wr sv s Bs vi' st'.items evs') (he : HeldRow x wr sv s ve' st'.expr) (hne : ve'.ownBlock ≠ some Bs) (hfr : ∀ v ∈ vi' :: ve' :: evs', ∀ b, v.ownBlock = some b → w0.heap.size ≤ b) : SmM x w0 sv0 s0 (wr.setCell ⟨Bs, i, none⟩ u) lv sv s Bs st' vi' ve' evs' := by
  have hos : ∀ b, b ≠ Bs → (wr.setCell ⟨Bs, i, none⟩ u).heap[b]? = wr.heap[b]? := fun b hb => Below.heap_setCell _ _ _ _ hb
  refine ⟨now_other h.now h.old h.low h.safe.2.1 h.safe.2.2 (by simp) hos (fun base hb => (Below.refl _ _).setCell hb _), set_block h.blk _ _ e, h.safe.grow (by simp), h.low, h.old,
    ⟨hi.lenE, own_same hi.row fun g hg _ => hos g (hi.safe g hg).2, fun b hb => ⟨(hi.safe b hb).1.grow (by simp), (hi.safe b hb).2⟩, fun j h1 h2 => (hi.exps j h1 h2).set (hi.ne _ (List.getElem_mem h2)) _ _, hi.ne⟩, he.set hne _ _, hne, hfr⟩
theorem SmM.put (h : SmM x w0 sv0 s0 wr lv sv s Bs st vi ve evs) (i : Nat) (u : Value) (st' : Stm) (e : (smC st vi ve).setIfInBounds i u = smC st' vi ve) (e1 : st'.items = st.items) (e2 : st'.expr = st.expr) :
    SmM x w0 sv0 s0 (wr.setCell ⟨Bs, i, none⟩ u) lv sv s Bs st' vi ve evs := h.set i u st' vi ve evs e (by rw [e1]; exact h.its) (by rw [e2]; exact h.exp) h.neE h.fr
theorem SmM.start {w : World} (h : PS x w lv sv s) (st : Stm) (hi : st.items = []) (he : st.expr = []) : SmM x w sv s (w.alloc (.cells (smC st (.slice none 0 0) (.slice none 0 0)) 33)) lv sv s w.heap.size st (.slice none 0 0) (.slice none 0 0) [] :=
  ⟨(Now.refl h).alloc _, heap_alloc_new _ _, SafeB.new h _, Nat.le_refl _, h.bel.size, by rw [hi]; exact ItH.nil _ _ _ _ _, by rw [he]; exact HeldRow.nil _ _ _ _, by simp [Value.ownBlock], by simp [Value.ownBlock]⟩
theorem ItH.of {its : List Itm} {vo vn : Value} {nms : List Txt} (h : ItM x wr sv s w' lv' sv' s' vo vn its evs nms) (hB : Bs < wr.heap.size) : ItH x w' sv' s' Bs vo its evs :=
  ⟨h.lenE, h.out, fun b hb => ⟨(h.sO b hb).1, by have := (h.sO b hb).2.1; omega⟩, h.exps, fun v hv e => by have := h.fresh v hv Bs e; omega⟩

theorem seven {w : World} {B : Nat} {a b c d e f g : Value} {T : TypeId} (h : w.heap[B]? = some (.cells #[a, b, c, d, e, f, g] T)) :
    (w.cell? ⟨B, 0, none⟩ = some a ∧ w.cell? ⟨B, 1, none⟩ = some b ∧ w.cell? ⟨B, 2, none⟩ = some c ∧ w.cell? ⟨B, 3, none⟩ = some d ∧ w.cell? ⟨B, 4, none⟩ = some e ∧ w.cell? ⟨B, 5, none⟩ = some f ∧ w.cell? ⟨B, 6, none⟩ = some g) ∧
    (w.frozen? ⟨B, 0, none⟩ = false ∧ w.frozen? ⟨B, 1, none⟩ = false ∧ w.frozen? ⟨B, 2, none⟩ = false ∧ w.frozen? ⟨B, 3, none⟩ = false ∧ w.frozen? ⟨B, 4, none⟩ = false ∧ w.frozen? ⟨B, 5, none⟩ = false ∧ w.frozen? ⟨B, 6, none⟩ = false) := by
  simp [World.cell?, World.frozen?, h]

def smV (st : Stm) (vi ve : Value) : Value := .agg (smC st vi ve)
def again (w : World) (Bs : Nat) (st : Stm) (vi ve : Value) : World :=
  ((((((w.setCell ⟨Bs, 0, none⟩ (.int .u8 st.kind)).setCell ⟨Bs, 1, none⟩ (.string ⟨st.table.toArray⟩)).setCell ⟨Bs, 2, none⟩ (.string ⟨st.field.toArray⟩)).setCell ⟨Bs, 3, none⟩ vi).setCell ⟨Bs, 4, none⟩ ve).setCell ⟨Bs, 5, none⟩ (.bool st.history)).setCell ⟨Bs, 6, none⟩ (.bool st.desc)
theorem SmM.again (h : SmM x w0 sv0 s0 wr lv sv s Bs st vi ve evs) : SmM x w0 sv0 s0 (again wr Bs st vi ve) lv sv s Bs st vi ve evs :=
  ((((((h.put 0 _ st rfl rfl rfl).put 1 _ st rfl rfl rfl).put 2 _ st rfl rfl rfl).put 3 _ st rfl rfl rfl).put 4 _ st rfl rfl rfl).put 5 _ st rfl rfl rfl).put 6 _ st rfl rfl rfl
theorem SmM.all (h : SmM x w0 sv0 s0 wr lv sv s Bs st vi ve evs) (st' : Stm) (vi' ve' : Value) (evs' : List Value) (hi : ItH x wr sv s Bs vi' st'.items evs') (he : HeldRow x wr sv s ve' st'.expr) (hne : ve'.ownBlock ≠ some Bs)
    (hfr : ∀ v ∈ vi' :: ve' :: evs', ∀ b, v.ownBlock = some b → w0.heap.size ≤ b) : SmM x w0 sv0 s0 (Pa.again wr Bs st' vi' ve') lv sv s Bs st' vi' ve' evs' := by
  have hos : ∀ b, b ≠ Bs → (Pa.again wr Bs st' vi' ve').heap[b]? = wr.heap[b]? := fun b hb => by
    unfold Pa.again
    rw [Below.heap_setCell _ _ _ _ hb, Below.heap_setCell _ _ _ _ hb, Below.heap_setCell _ _ _ _ hb, Below.heap_setCell _ _ _ _ hb, Below.heap_setCell _ _ _ _ hb, Below.heap_setCell _ _ _ _ hb, Below.heap_setCell _ _ _ _ hb]
  have hz : (Pa.again wr Bs st' vi' ve').heap.size = wr.heap.size := by simp [Pa.again]
  have hz' : wr.heap.size ≤ (Pa.again wr Bs st' vi' ve').heap.size := by omega
  have hbel : ∀ base, base ≤ Bs → Below base wr (Pa.again wr Bs st' vi' ve') := fun base hb => ((((((((Below.refl _ _).setCell hb _).setCell hb _).setCell hb _).setCell hb _).setCell hb _).setCell hb _).setCell hb _)
  have hblk : (Pa.again wr Bs st' vi' ve').heap[Bs]? = some (.cells (smC st' vi' ve') 33) := by
    have b0 : wr.heap[Bs]? = some (.cells #[.int .u8 st.kind, .string ⟨st.table.toArray⟩, .string ⟨st.field.toArray⟩, vi, ve, .bool st.history, .bool st.desc] 33) := h.blk
    have b1 := set_block (i := 0) b0 (.int .u8 st'.kind) #[.int .u8 st'.kind, .string ⟨st.table.toArray⟩, .string ⟨st.field.toArray⟩, vi, ve, .bool st.history, .bool st.desc] rfl
    have b2 := set_block (i := 1) b1 (.string ⟨st'.table.toArray⟩) #[.int .u8 st'.kind, .string ⟨st'.table.toArray⟩, .string ⟨st.field.toArray⟩, vi, ve, .bool st.history, .bool st.desc] rfl
    have b3 := set_block (i := 2) b2 (.string ⟨st'.field.toArray⟩) #[.int .u8 st'.kind, .string ⟨st'.table.toArray⟩, .string ⟨st'.field.toArray⟩, vi, ve, .bool st.history, .bool st.desc] rfl
    have b4 := set_block (i := 3) b3 vi' #[.int .u8 st'.kind, .string ⟨st'.table.toArray⟩, .string ⟨st'.field.toArray⟩, vi', ve, .bool st.history, .bool st.desc] rfl
    have b5 := set_block (i := 4) b4 ve' #[.int .u8 st'.kind, .string ⟨st'.table.toArray⟩, .string ⟨st'.field.toArray⟩, vi', ve', .bool st.history, .bool st.desc] rfl
    have b6 := set_block (i := 5) b5 (.bool st'.history) #[.int .u8 st'.kind, .string ⟨st'.table.toArray⟩, .string ⟨st'.field.toArray⟩, vi', ve', .bool st'.history, .bool st.desc] rfl
    exact set_block (i := 6) b6 (.bool st'.desc) #[.int .u8 st'.kind, .string ⟨st'.table.toArray⟩, .string ⟨st'.field.toArray⟩, vi', ve', .bool st'.history, .bool st'.desc] rfl
  exact ⟨now_other h.now h.old h.low h.safe.2.1 h.safe.2.2 hz hos hbel, hblk, h.safe.grow hz', h.low, h.old,
    ⟨hi.lenE, own_same hi.row fun g hg _ => hos g (hi.safe g hg).2, fun b hb => ⟨(hi.safe b hb).1.grow hz', (hi.safe b hb).2⟩, fun j h1 h2 => (hi.exps j h1 h2).other hz' fun b hb => hos b (fun e => hi.ne _ (List.getElem_mem h2) (by rw [hb, e])), hi.ne⟩,
    he.other hz' fun b hb => hos b (fun e => hne (by rw [hb, e])), hne, hfr⟩
def GaveSm (x : Px) (w : World) (sv : Value) (s : St) (st : Stm) (s' : St) (e : Ending) (w' : World) : Prop :=
  ∃ lv' sv' Bs vi ve evs, e = .returned (smV st vi ve) ∧ SmM x w sv s w' lv' sv' s' Bs st vi ve evs
theorem SmM.expr (h : SmM x w0 sv0 s0 wr lv sv s Bs st vi ve evs) (hn : Now x wr (.slice none 0 0) w' lv' sv' s') (hfr : ∀ v ∈ vi :: evs, ∀ b, v.ownBlock = some b → w0.heap.size ≤ b) :
    SmM x w0 sv0 s0 (w'.setCell ⟨Bs, 4, none⟩ sv') lv' sv' s' Bs { st with expr := s'.steps } vi sv' evs := by
  have ha := h.anew hn
  refine ha.set 4 sv' { st with expr := s'.steps } vi sv' evs rfl ha.its (HeldRow.self ha.now.ps) (fun e => ?_) fun v hv b hb => ?_
  · have := fresh_of hn Bs e; have := h.safe.1; omega
  · simp only [List.mem_cons] at hv
    rcases hv with rfl | rfl | hv
    · exact hfr v (by simp) b hb
    · exact Nat.le_trans h.now.keep.1 (fresh_of hn b hb)
    · exact hfr v (by simp [hv]) b hb
theorem SmM.row (h : SmM x w0 sv0 s0 wr lv sv s Bs st vi ve evs) {l : List Stp} {v : Value} (hn : Now x wr sv w' lv' sv' s') (hv : HeldRow x w' sv' s' v l) (hf : ∀ b, v.ownBlock = some b → wr.heap.size ≤ b) (hh : ∀ v0 l0, HeldRow x wr sv s v0 l0 → HeldRow x w' sv' s' v0 l0) :
    SmM x w0 sv0 s0 (w'.setCell ⟨Bs, 4, none⟩ v) lv' sv' s' Bs { st with expr := l } vi v evs := by
  have ha := h.gave hn hh
  refine ha.set 4 v { st with expr := l } vi v evs rfl ha.its hv (fun e => ?_) fun u hu b hb => ?_
  · have := hf Bs e; have := h.safe.1; omega
  · simp only [List.mem_cons] at hu
    rcases hu with rfl | rfl | hu
    · exact h.fr u (by simp) b hb
    · exact Nat.le_trans h.now.keep.1 (hf b hb)
    · exact h.fr u (by simp [hu]) b hb
theorem SmM.items {vo vn : Value} {its : List Itm} {nms : List Txt} {evs' : List Value} (h : SmM x w0 sv0 s0 wr lv sv s Bs st vi ve evs) (hm : ItM x wr sv s w' lv' sv' s' vo vn its evs' nms) :
    SmM x w0 sv0 s0 (w'.setCell ⟨Bs, 3, none⟩ vo) lv' sv' s' Bs { st with items := its } vo ve evs' := by
  have ha := h.gave hm.now hm.held
  refine ha.set 3 vo { st with items := its } vo ve evs' rfl (ItH.of hm h.safe.1) ha.exp h.neE fun u hu b hb => ?_
  simp only [List.mem_cons] at hu
  rcases hu with rfl | rfl | hu
  · exact Nat.le_trans h.now.keep.1 (hm.sO b hb).2.1
  · exact h.fr u (by simp) b hb
  · exact Nat.le_trans h.now.keep.1 (hm.fresh u hu b hb)

end Go.Proofs.YtcjmhmmjfgjcnaaGreatDoor.Pa

/- The parser: stmt. -/
namespace Go.Proofs.YtcjmhmmjfgjcnaaGreatDoor.Pa
open Go.RowKit Go.Proofs.YtcjmhmmjfgjcnaaGreatDoor.Lx
variable {x : Px}

set_option maxHeartbeats 2000000 in
set_option maxRecDepth 100000 in
theorem stmt_table {w : World} {lv sv : Value} {s : St} (h : PS x w lv sv s) (t1 : s.next 2 [kCREATE] = true) (t2 : s.drop.next 2 [kTABLE] = true) :
    Calls Tryz.prog 41 #[.pointer (some ⟨x.B, 0, none⟩)] w (GaveSm x w sv s { stm0 with kind := 1, table := s.drop.drop.nameT } s.drop.drop.name) := by
  have M0 := Lib.hid (SmM.start h stm0 rfl rfl)
  have T1 := Lib.hid t1
  have T1b := Lib.hid (next_take t1).1
  have T2 := Lib.hid t2
  have T2b := Lib.hid (next_take t2).1
  clear h t1 t2
  go_enter Tryz.func41, Tryz.ntmps41
  go_wp2_with fail
  refine (key_callsC M0.out.now.ps kCREATE).mono ?_
  rw [T1.out, T1b.out]
  rintro e w1 ⟨rfl, lv1, h1⟩
  have M1 := Lib.hid (M0.out.cur h1 rfl)
  clear h1
  obtain ⟨⟨k0, k1, k2, k3, k4, k5, k6⟩, g0, g1, g2, g3, g4, g5, g6⟩ := seven M1.out.blk
  have hX := M1.out.safe.1
  go_wp2_with fail
  refine (key_callsC M1.out.now.ps kTABLE).mono ?_
  rw [T2.out, T2b.out]
  rintro e w2 ⟨rfl, lv2, h2⟩
  have M2 := Lib.hid (M1.out.cur h2 rfl)
  clear h2
  clear k0 k1 k2 k3 k4 k5 k6 g0 g1 g2 g3 g4 g5 g6 hX
  obtain ⟨⟨k0, k1, k2, k3, k4, k5, k6⟩, g0, g1, g2, g3, g4, g5, g6⟩ := seven M2.out.blk
  have hX := M2.out.safe.1
  go_wp2_with fail
  refine (name_callsC M2.out.now.ps).mono ?_
  rintro e w3 ⟨rfl, lv3, h3⟩
  have M3 := Lib.hid (M2.out.cur h3 (name_steps _))
  clear h3
  clear k0 k1 k2 k3 k4 k5 k6 g0 g1 g2 g3 g4 g5 g6 hX
  obtain ⟨⟨k0, k1, k2, k3, k4, k5, k6⟩, g0, g1, g2, g3, g4, g5, g6⟩ := seven M3.out.blk
  have hX := M3.out.safe.1
  go_wp2_with fail
  exact bodyPost_ret (v := smV { stm0 with kind := 1, table := s.drop.drop.nameT } (.slice none 0 0) (.slice none 0 0)) (by simp [smV, smC, results, Tryz.results41, go_sem, stm0, k0, k1, k2, k3, k4, k5, k6]) rfl ⟨_, _, _, _, _, _, rfl, M3.out.all { stm0 with kind := 1, table := s.drop.drop.nameT } _ _ [] (ItH.nil _ _ _ _ _) (HeldRow.nil _ _ _ _) (by simp [Value.ownBlock]) (by simp [Value.ownBlock])⟩

set_option maxHeartbeats 2000000 in
set_option maxRecDepth 100000 in
theorem stmt_index {w : World} {lv sv : Value} {s : St} (h : PS x w lv sv s) (t1 : s.next 2 [kCREATE] = true) (t2 : s.drop.next 2 [kTABLE] = false) :
    Calls Tryz.prog 41 #[.pointer (some ⟨x.B, 0, none⟩)] w (GaveSm x w sv s { stm0 with kind := 2, table := (s.drop.keys [kINDEX, kON]).nameT, field := ((s.drop.keys [kINDEX, kON]).name.sign [40]).nameT } (((s.drop.keys [kINDEX, kON]).name.sign [40]).name.sign [41])) := by
  have M0 := Lib.hid (SmM.start h stm0 rfl rfl)
  have T1 := Lib.hid t1
  have T1b := Lib.hid (next_take t1).1
  have T2 := Lib.hid t2
  have T2b := Lib.hid (need_no t2).2
  generalize hs1 : s.drop.keys [kINDEX, kON] = s1 at *
  have Hs1 := Lib.hid hs1
  clear hs1
  generalize hs2 : s1.name.sign [40] = s2 at *
  have Hs2 := Lib.hid hs2
  clear hs2
  clear h t1 t2
  go_enter Tryz.func41, Tryz.ntmps41
  go_wp2_with fail
  refine (key_callsC M0.out.now.ps kCREATE).mono ?_
  rw [T1.out, T1b.out]
  rintro e w1 ⟨rfl, lv1, h1⟩
  have M1 := Lib.hid (M0.out.cur h1 rfl)
  clear h1
  obtain ⟨⟨k0, k1, k2, k3, k4, k5, k6⟩, g0, g1, g2, g3, g4, g5, g6⟩ := seven M1.out.blk
  have hX := M1.out.safe.1
  go_wp2_with fail
  refine (key_callsC M1.out.now.ps kTABLE).mono ?_
  rw [T2.out, T2b.out]
  rintro e w2 ⟨rfl, lv2, h2⟩
  have M2 := Lib.hid (M1.out.cur h2 rfl)
  clear h2
  clear k0 k1 k2 k3 k4 k5 k6 g0 g1 g2 g3 g4 g5 g6 hX
  obtain ⟨⟨k0, k1, k2, k3, k4, k5, k6⟩, g0, g1, g2, g3, g4, g5, g6⟩ := seven M2.out.blk
  have hX := M2.out.safe.1
  go_wp2_with fail
  have A3 := Lib.hid (M2.out.alloc (.cells (strsC [kINDEX, kON]).toArray 9))
  have X3 := Lib.hid (texts_new M2.out.now.ps)
  have T3 := Lib.hid (fun (W : World) (B0 : Nat) (hB : W.heap.size = B0) => TextsAt.new' W [kINDEX, kON] 2 B0 _ 9 (0, 0) rfl rfl hB)
  refine (keys_callsC A3.out.now.ps _ 2 [kINDEX, kON] rfl (by omega) (T3.out _ _ (by simp)).2 (by have := X3.out.1; simpa using this) (by have := X3.out.2; simpa using this)).mono ?_
  rw [Hs1.out]
  rintro e w3 ⟨rfl, lv3, h3⟩
  have M3 := Lib.hid (A3.out.cur h3 (by rw [← Hs1.out]; exact keys_steps _ _))
  clear h3
  clear k0 k1 k2 k3 k4 k5 k6 g0 g1 g2 g3 g4 g5 g6 hX
  obtain ⟨⟨k0, k1, k2, k3, k4, k5, k6⟩, g0, g1, g2, g3, g4, g5, g6⟩ := seven M3.out.blk
  have hX := M3.out.safe.1
  go_wp2_with fail
  refine (name_callsC M3.out.now.ps).mono ?_
  rintro e w4 ⟨rfl, lv4, h4⟩
  have M4 := Lib.hid (M3.out.cur h4 (name_steps _))
  clear h4
  clear k0 k1 k2 k3 k4 k5 k6 g0 g1 g2 g3 g4 g5 g6 hX
  obtain ⟨⟨k0, k1, k2, k3, k4, k5, k6⟩, g0, g1, g2, g3, g4, g5, g6⟩ := seven M4.out.blk
  have hX := M4.out.safe.1
  have M5 := Lib.hid (M4.out.put 0 (.int .u8 2) ({ stm0 with kind := 2 }) rfl rfl rfl)
  have M6 := Lib.hid (M5.out.put 1 (.string ⟨s1.nameT.toArray⟩) ({ stm0 with kind := 2, table := s1.nameT }) rfl rfl rfl)
  go_wp2_with fail
  refine (sign_callsC M6.out.now.ps [40]).mono ?_
  rw [Hs2.out]
  rintro e w7 ⟨rfl, lv7, h7⟩
  have M7 := Lib.hid (M6.out.cur h7 (by rw [← Hs2.out]; exact sign_steps _ _))
  clear h7
  clear k0 k1 k2 k3 k4 k5 k6 g0 g1 g2 g3 g4 g5 g6 hX
  obtain ⟨⟨k0, k1, k2, k3, k4, k5, k6⟩, g0, g1, g2, g3, g4, g5, g6⟩ := seven M7.out.blk
  have hX := M7.out.safe.1
  go_wp2_with fail
  refine (name_callsC M7.out.now.ps).mono ?_
  rintro e w8 ⟨rfl, lv8, h8⟩
  have M8 := Lib.hid (M7.out.cur h8 (name_steps _))
  clear h8
  clear k0 k1 k2 k3 k4 k5 k6 g0 g1 g2 g3 g4 g5 g6 hX
  obtain ⟨⟨k0, k1, k2, k3, k4, k5, k6⟩, g0, g1, g2, g3, g4, g5, g6⟩ := seven M8.out.blk
  have hX := M8.out.safe.1
  have M9 := Lib.hid (M8.out.put 2 (.string ⟨s2.nameT.toArray⟩) ({ stm0 with kind := 2, table := s1.nameT, field := s2.nameT }) rfl rfl rfl)
  go_wp2_with fail
  refine (sign_callsC M9.out.now.ps [41]).mono ?_
  rintro e w10 ⟨rfl, lv10, h10⟩
  have M10 := Lib.hid (M9.out.cur h10 (sign_steps _ _))
  clear h10
  clear k0 k1 k2 k3 k4 k5 k6 g0 g1 g2 g3 g4 g5 g6 hX
  obtain ⟨⟨k0, k1, k2, k3, k4, k5, k6⟩, g0, g1, g2, g3, g4, g5, g6⟩ := seven M10.out.blk
  have hX := M10.out.safe.1
  go_wp2_with fail
  exact bodyPost_ret (v := smV { stm0 with kind := 2, table := s1.nameT, field := s2.nameT } (.slice none 0 0) (.slice none 0 0)) (by simp [smV, smC, results, Tryz.results41, go_sem, stm0, k0, k1, k2, k3, k4, k5, k6]) rfl ⟨_, _, _, _, _, _, rfl, M10.out.again⟩

set_option maxHeartbeats 2000000 in
set_option maxRecDepth 100000 in
theorem stmt_insert (n : Nat) {w : World} {lv sv : Value} {s s2 : St} (h : PS x w lv sv s) (t1 : s.next 2 [kCREATE] = false) (t2 : s.next 2 [kINSERT] = true) (he : expr n (s.drop.keys [kINTO]).name = some s2) :
    Calls Tryz.prog 41 #[.pointer (some ⟨x.B, 0, none⟩)] w (GaveSm x w sv s { stm0 with kind := 3, table := (s.drop.keys [kINTO]).nameT, expr := s2.steps } s2) := by
  have M0 := Lib.hid (SmM.start h stm0 rfl rfl)
  have T1 := Lib.hid t1
  have T1b := Lib.hid (need_no t1).2
  have T2 := Lib.hid t2
  have T2b := Lib.hid (next_take t2).1
  have He := Lib.hid he
  generalize hs1 : s.drop.keys [kINTO] = s1 at *
  have Hs1 := Lib.hid hs1
  clear hs1
  clear h t1 t2 he
  go_enter Tryz.func41, Tryz.ntmps41
  go_wp2_with fail
  refine (key_callsC M0.out.now.ps kCREATE).mono ?_
  rw [T1.out, T1b.out]
  rintro e w1 ⟨rfl, lv1, h1⟩
  have M1 := Lib.hid (M0.out.cur h1 rfl)
  clear h1
  obtain ⟨⟨k0, k1, k2, k3, k4, k5, k6⟩, g0, g1, g2, g3, g4, g5, g6⟩ := seven M1.out.blk
  have hX := M1.out.safe.1
  go_wp2_with fail
  refine (key_callsC M1.out.now.ps kINSERT).mono ?_
  rw [T2.out, T2b.out]
  rintro e w2 ⟨rfl, lv2, h2⟩
  have M2 := Lib.hid (M1.out.cur h2 rfl)
  clear h2
  clear k0 k1 k2 k3 k4 k5 k6 g0 g1 g2 g3 g4 g5 g6 hX
  obtain ⟨⟨k0, k1, k2, k3, k4, k5, k6⟩, g0, g1, g2, g3, g4, g5, g6⟩ := seven M2.out.blk
  have hX := M2.out.safe.1
  go_wp2_with fail
  have A3 := Lib.hid (M2.out.alloc (.cells (strsC [kINTO]).toArray 9))
  have X3 := Lib.hid (texts_new M2.out.now.ps)
  have T3 := Lib.hid (fun (W : World) (B0 : Nat) (hB : W.heap.size = B0) => TextsAt.new' W [kINTO] 1 B0 _ 9 (0, 0) rfl rfl hB)
  refine (keys_callsC A3.out.now.ps _ 1 [kINTO] rfl (by omega) (T3.out _ _ (by simp)).2 (by have := X3.out.1; simpa using this) (by have := X3.out.2; simpa using this)).mono ?_
  rw [Hs1.out]
  rintro e w3 ⟨rfl, lv3, h3⟩
  have M3 := Lib.hid (A3.out.cur h3 (by rw [← Hs1.out]; exact keys_steps _ _))
  clear h3
  clear k0 k1 k2 k3 k4 k5 k6 g0 g1 g2 g3 g4 g5 g6 hX
  obtain ⟨⟨k0, k1, k2, k3, k4, k5, k6⟩, g0, g1, g2, g3, g4, g5, g6⟩ := seven M3.out.blk
  have hX := M3.out.safe.1
  go_wp2_with fail
  refine (name_callsC M3.out.now.ps).mono ?_
  rintro e w4 ⟨rfl, lv4, h4⟩
  have M4 := Lib.hid (M3.out.cur h4 (name_steps _))
  clear h4
  clear k0 k1 k2 k3 k4 k5 k6 g0 g1 g2 g3 g4 g5 g6 hX
  obtain ⟨⟨k0, k1, k2, k3, k4, k5, k6⟩, g0, g1, g2, g3, g4, g5, g6⟩ := seven M4.out.blk
  have hX := M4.out.safe.1
  have M5 := Lib.hid (M4.out.put 0 (.int .u8 3) ({ stm0 with kind := 3 }) rfl rfl rfl)
  have M6 := Lib.hid (M5.out.put 1 (.string ⟨s1.nameT.toArray⟩) ({ stm0 with kind := 3, table := s1.nameT }) rfl rfl rfl)
  go_wp2_with fail
  refine (expr_calls n M6.out.now.ps He.out).mono ?_
  rintro e w7 ⟨lv7, sv7, rfl, h7⟩
  obtain ⟨ae, ce, rfl⟩ := own_form h7.ps.own
  have m7 := M6.out.anew h7
  have Q7 := Lib.hid m7
  have M7 := Lib.hid (M6.out.expr h7 (fun v hv b hb => M6.out.fr v (by simp only [List.mem_cons] at hv ⊢; rcases hv with hv | hv; exact .inl hv; exact .inr (.inr hv)) b hb))
  clear h7 m7
  clear k0 k1 k2 k3 k4 k5 k6 g0 g1 g2 g3 g4 g5 g6 hX
  obtain ⟨⟨k0, k1, k2, k3, k4, k5, k6⟩, g0, g1, g2, g3, g4, g5, g6⟩ := seven Q7.out.blk
  have hX := Q7.out.safe.1
  go_wp2_with fail
  exact bodyPost_ret (v := smV { stm0 with kind := 3, table := s1.nameT, expr := s2.steps } (.slice none 0 0) (.slice ae s2.steps.length ce)) (by simp [smV, smC, results, Tryz.results41, go_sem, stm0, k0, k1, k2, k3, k4, k5, k6]) rfl ⟨_, _, _, _, _, _, rfl, M7.out.again⟩

set_option maxHeartbeats 2000000 in
set_option maxRecDepth 100000 in
theorem stmt_update (n : Nat) {w : World} {lv sv : Value} {s : St} (h : PS x w lv sv s) (t1 : s.next 2 [kCREATE] = false) (t2 : s.next 2 [kINSERT] = false) (t3 : s.next 2 [kUPDATE] = true) {r : List Itm × St} {q : List Stp × St} (hi : items n true (s.drop.name.keys [kSET]) = some r) (hw : where_ n r.2 = some q) :
    Calls Tryz.prog 41 #[.pointer (some ⟨x.B, 0, none⟩)] w (GaveSm x w sv s { stm0 with kind := 4, table := s.drop.nameT, items := r.1, expr := q.1 } q.2) := by
  have M0 := Lib.hid (SmM.start h stm0 rfl rfl)
  have T1 := Lib.hid t1
  have T1b := Lib.hid (need_no t1).2
  have T2 := Lib.hid t2
  have T2b := Lib.hid (need_no t2).2
  have T3 := Lib.hid t3
  have T3b := Lib.hid (next_take t3).1
  have Hi := Lib.hid hi
  have Hw := Lib.hid hw
  clear h t1 t2 t3 hi hw
  go_enter Tryz.func41, Tryz.ntmps41
  go_wp2_with fail
  refine (key_callsC M0.out.now.ps kCREATE).mono ?_
  rw [T1.out, T1b.out]
  rintro e w1 ⟨rfl, lv1, h1⟩
  have M1 := Lib.hid (M0.out.cur h1 rfl)
  clear h1
  obtain ⟨⟨k0, k1, k2, k3, k4, k5, k6⟩, g0, g1, g2, g3, g4, g5, g6⟩ := seven M1.out.blk
  have hX := M1.out.safe.1
  go_wp2_with fail
  refine (key_callsC M1.out.now.ps kINSERT).mono ?_
  rw [T2.out, T2b.out]
  rintro e w2 ⟨rfl, lv2, h2⟩
  have M2 := Lib.hid (M1.out.cur h2 rfl)
  clear h2
  clear k0 k1 k2 k3 k4 k5 k6 g0 g1 g2 g3 g4 g5 g6 hX
  obtain ⟨⟨k0, k1, k2, k3, k4, k5, k6⟩, g0, g1, g2, g3, g4, g5, g6⟩ := seven M2.out.blk
  have hX := M2.out.safe.1
  go_wp2_with fail
  refine (key_callsC M2.out.now.ps kUPDATE).mono ?_
  rw [T3.out, T3b.out]
  rintro e w3 ⟨rfl, lv3, h3⟩
  have M3 := Lib.hid (M2.out.cur h3 rfl)
  clear h3
  clear k0 k1 k2 k3 k4 k5 k6 g0 g1 g2 g3 g4 g5 g6 hX
  obtain ⟨⟨k0, k1, k2, k3, k4, k5, k6⟩, g0, g1, g2, g3, g4, g5, g6⟩ := seven M3.out.blk
  have hX := M3.out.safe.1
  go_wp2_with fail
  refine (name_callsC M3.out.now.ps).mono ?_
  rintro e w4 ⟨rfl, lv4, h4⟩
  have M4 := Lib.hid (M3.out.cur h4 (name_steps _))
  clear h4
  clear k0 k1 k2 k3 k4 k5 k6 g0 g1 g2 g3 g4 g5 g6 hX
  obtain ⟨⟨k0, k1, k2, k3, k4, k5, k6⟩, g0, g1, g2, g3, g4, g5, g6⟩ := seven M4.out.blk
  have hX := M4.out.safe.1
  have M5 := Lib.hid (M4.out.put 0 (.int .u8 4) ({ stm0 with kind := 4 }) rfl rfl rfl)
  have M6 := Lib.hid (M5.out.put 1 (.string ⟨s.drop.nameT.toArray⟩) ({ stm0 with kind := 4, table := s.drop.nameT }) rfl rfl rfl)
  go_wp2_with fail
  have A7 := Lib.hid (M6.out.alloc (.cells (strsC [kSET]).toArray 9))
  have X7 := Lib.hid (texts_new M6.out.now.ps)
  have T7 := Lib.hid (fun (W : World) (B0 : Nat) (hB : W.heap.size = B0) => TextsAt.new' W [kSET] 1 B0 _ 9 (0, 0) rfl rfl hB)
  refine (keys_callsC A7.out.now.ps _ 1 [kSET] rfl (by omega) (T7.out _ _ (by simp)).2 (by have := X7.out.1; simpa using this) (by have := X7.out.2; simpa using this)).mono ?_
  rintro e w7 ⟨rfl, lv7, h7⟩
  have M7 := Lib.hid (A7.out.cur h7 (keys_steps _ _))
  clear h7
  clear k0 k1 k2 k3 k4 k5 k6 g0 g1 g2 g3 g4 g5 g6 hX
  obtain ⟨⟨k0, k1, k2, k3, k4, k5, k6⟩, g0, g1, g2, g3, g4, g5, g6⟩ := seven M7.out.blk
  have hX := M7.out.safe.1
  go_wp2_with fail
  refine (items_calls n true M7.out.now.ps Hi.out).mono ?_
  rintro e w8 ⟨lv8, sv8, vo8, vn8, ev8, nm8, rfl, h8⟩
  obtain ⟨ai8, ci8, rfl⟩ := own_form h8.out
  have Q8 := Lib.hid (M7.out.gave h8.now h8.held)
  have M8 := Lib.hid (M7.out.items h8)
  clear h8
  clear k0 k1 k2 k3 k4 k5 k6 g0 g1 g2 g3 g4 g5 g6 hX
  obtain ⟨⟨k0, k1, k2, k3, k4, k5, k6⟩, g0, g1, g2, g3, g4, g5, g6⟩ := seven Q8.out.blk
  have hX := Q8.out.safe.1
  go_wp2_with fail
  refine (where_calls n M8.out.now.ps Hw.out).mono ?_
  rintro e w9 ⟨lv9, sv9, v9, rfl, h9, hv9, hf9, hh9⟩
  obtain ⟨ae9, ce9, rfl⟩ := own_form hv9.row
  have Q9 := Lib.hid (M8.out.gave h9 hh9)
  have M9 := Lib.hid (M8.out.row h9 hv9 hf9 hh9)
  clear h9 hv9 hf9 hh9
  clear k0 k1 k2 k3 k4 k5 k6 g0 g1 g2 g3 g4 g5 g6 hX
  obtain ⟨⟨k0, k1, k2, k3, k4, k5, k6⟩, g0, g1, g2, g3, g4, g5, g6⟩ := seven Q9.out.blk
  have hX := Q9.out.safe.1
  go_wp2_with fail
  exact bodyPost_ret (v := smV { stm0 with kind := 4, table := s.drop.nameT, items := r.1, expr := q.1 } (.slice ai8 r.1.length ci8) (.slice ae9 q.1.length ce9)) (by simp [smV, smC, results, Tryz.results41, go_sem, stm0, k0, k1, k2, k3, k4, k5, k6]) rfl ⟨_, _, _, _, _, _, rfl, M9.out.again⟩

set_option maxHeartbeats 2000000 in
set_option maxRecDepth 100000 in
theorem stmt_delete (n : Nat) {w : World} {lv sv : Value} {s : St} (h : PS x w lv sv s) (t1 : s.next 2 [kCREATE] = false) (t2 : s.next 2 [kINSERT] = false) (t3 : s.next 2 [kUPDATE] = false) (t4 : s.next 2 [kDELETE] = true) {q : List Stp × St} (hw : where_ n (s.drop.keys [kFROM]).name = some q) :
    Calls Tryz.prog 41 #[.pointer (some ⟨x.B, 0, none⟩)] w (GaveSm x w sv s { stm0 with kind := 5, table := (s.drop.keys [kFROM]).nameT, expr := q.1 } q.2) := by
  have M0 := Lib.hid (SmM.start h stm0 rfl rfl)
  have T1 := Lib.hid t1
  have T1b := Lib.hid (need_no t1).2
  have T2 := Lib.hid t2
  have T2b := Lib.hid (need_no t2).2
  have T3 := Lib.hid t3
  have T3b := Lib.hid (need_no t3).2
  have T4 := Lib.hid t4
  have T4b := Lib.hid (next_take t4).1
  have Hw := Lib.hid hw
  generalize hs1 : s.drop.keys [kFROM] = s1 at *
  have Hs1 := Lib.hid hs1
  clear hs1
  clear h t1 t2 t3 t4 hw
  go_enter Tryz.func41, Tryz.ntmps41
  go_wp2_with fail
  refine (key_callsC M0.out.now.ps kCREATE).mono ?_
  rw [T1.out, T1b.out]
  rintro e w1 ⟨rfl, lv1, h1⟩
  have M1 := Lib.hid (M0.out.cur h1 rfl)
  clear h1
  obtain ⟨⟨k0, k1, k2, k3, k4, k5, k6⟩, g0, g1, g2, g3, g4, g5, g6⟩ := seven M1.out.blk
  have hX := M1.out.safe.1
  go_wp2_with fail
  refine (key_callsC M1.out.now.ps kINSERT).mono ?_
  rw [T2.out, T2b.out]
  rintro e w2 ⟨rfl, lv2, h2⟩
  have M2 := Lib.hid (M1.out.cur h2 rfl)
  clear h2
  clear k0 k1 k2 k3 k4 k5 k6 g0 g1 g2 g3 g4 g5 g6 hX
  obtain ⟨⟨k0, k1, k2, k3, k4, k5, k6⟩, g0, g1, g2, g3, g4, g5, g6⟩ := seven M2.out.blk
  have hX := M2.out.safe.1
  go_wp2_with fail
  refine (key_callsC M2.out.now.ps kUPDATE).mono ?_
  rw [T3.out, T3b.out]
  rintro e w3 ⟨rfl, lv3, h3⟩
  have M3 := Lib.hid (M2.out.cur h3 rfl)
  clear h3
  clear k0 k1 k2 k3 k4 k5 k6 g0 g1 g2 g3 g4 g5 g6 hX
  obtain ⟨⟨k0, k1, k2, k3, k4, k5, k6⟩, g0, g1, g2, g3, g4, g5, g6⟩ := seven M3.out.blk
  have hX := M3.out.safe.1
  go_wp2_with fail
  refine (key_callsC M3.out.now.ps kDELETE).mono ?_
  rw [T4.out, T4b.out]
  rintro e w4 ⟨rfl, lv4, h4⟩
  have M4 := Lib.hid (M3.out.cur h4 rfl)
  clear h4
  clear k0 k1 k2 k3 k4 k5 k6 g0 g1 g2 g3 g4 g5 g6 hX
  obtain ⟨⟨k0, k1, k2, k3, k4, k5, k6⟩, g0, g1, g2, g3, g4, g5, g6⟩ := seven M4.out.blk
  have hX := M4.out.safe.1
  go_wp2_with fail
  have A5 := Lib.hid (M4.out.alloc (.cells (strsC [kFROM]).toArray 9))
  have X5 := Lib.hid (texts_new M4.out.now.ps)
  have T5 := Lib.hid (fun (W : World) (B0 : Nat) (hB : W.heap.size = B0) => TextsAt.new' W [kFROM] 1 B0 _ 9 (0, 0) rfl rfl hB)
  refine (keys_callsC A5.out.now.ps _ 1 [kFROM] rfl (by omega) (T5.out _ _ (by simp)).2 (by have := X5.out.1; simpa using this) (by have := X5.out.2; simpa using this)).mono ?_
  rw [Hs1.out]
  rintro e w5 ⟨rfl, lv5, h5⟩
  have M5 := Lib.hid (A5.out.cur h5 (by rw [← Hs1.out]; exact keys_steps _ _))
  clear h5
  clear k0 k1 k2 k3 k4 k5 k6 g0 g1 g2 g3 g4 g5 g6 hX
  obtain ⟨⟨k0, k1, k2, k3, k4, k5, k6⟩, g0, g1, g2, g3, g4, g5, g6⟩ := seven M5.out.blk
  have hX := M5.out.safe.1
  go_wp2_with fail
  refine (name_callsC M5.out.now.ps).mono ?_
  rintro e w6 ⟨rfl, lv6, h6⟩
  have M6 := Lib.hid (M5.out.cur h6 (name_steps _))
  clear h6
  clear k0 k1 k2 k3 k4 k5 k6 g0 g1 g2 g3 g4 g5 g6 hX
  obtain ⟨⟨k0, k1, k2, k3, k4, k5, k6⟩, g0, g1, g2, g3, g4, g5, g6⟩ := seven M6.out.blk
  have hX := M6.out.safe.1
  have M7 := Lib.hid (M6.out.put 0 (.int .u8 5) ({ stm0 with kind := 5 }) rfl rfl rfl)
  have M8 := Lib.hid (M7.out.put 1 (.string ⟨s1.nameT.toArray⟩) ({ stm0 with kind := 5, table := s1.nameT }) rfl rfl rfl)
  go_wp2_with fail
  refine (where_calls n M8.out.now.ps Hw.out).mono ?_
  rintro e w9 ⟨lv9, sv9, v9, rfl, h9, hv9, hf9, hh9⟩
  obtain ⟨ae9, ce9, rfl⟩ := own_form hv9.row
  have Q9 := Lib.hid (M8.out.gave h9 hh9)
  have M9 := Lib.hid (M8.out.row h9 hv9 hf9 hh9)
  clear h9 hv9 hf9 hh9
  clear k0 k1 k2 k3 k4 k5 k6 g0 g1 g2 g3 g4 g5 g6 hX
  obtain ⟨⟨k0, k1, k2, k3, k4, k5, k6⟩, g0, g1, g2, g3, g4, g5, g6⟩ := seven Q9.out.blk
  have hX := Q9.out.safe.1
  go_wp2_with fail
  exact bodyPost_ret (v := smV { stm0 with kind := 5, table := s1.nameT, expr := q.1 } (.slice none 0 0) (.slice ae9 q.1.length ce9)) (by simp [smV, smC, results, Tryz.results41, go_sem, stm0, k0, k1, k2, k3, k4, k5, k6]) rfl ⟨_, _, _, _, _, _, rfl, M9.out.again⟩

set_option maxHeartbeats 2000000 in
set_option maxRecDepth 100000 in
theorem stmt_bad {w : World} {lv sv : Value} {s : St} (h : PS x w lv sv s) (t1 : s.next 2 [kCREATE] = false) (t2 : s.next 2 [kINSERT] = false) (t3 : s.next 2 [kUPDATE] = false) (t4 : s.next 2 [kDELETE] = false) (t5 : s.next 2 [kSELECT] = false) :
    Calls Tryz.prog 41 #[.pointer (some ⟨x.B, 0, none⟩)] w (GaveSm x w sv s stm0 s.bad) := by
  have M0 := Lib.hid (SmM.start h stm0 rfl rfl)
  have T1 := Lib.hid t1
  have T1b := Lib.hid (need_no t1).2
  have T2 := Lib.hid t2
  have T2b := Lib.hid (need_no t2).2
  have T3 := Lib.hid t3
  have T3b := Lib.hid (need_no t3).2
  have T4 := Lib.hid t4
  have T4b := Lib.hid (need_no t4).2
  have T5 := Lib.hid t5
  have T5b := Lib.hid (need_no t5).2
  clear h t1 t2 t3 t4 t5
  go_enter Tryz.func41, Tryz.ntmps41
  go_wp2_with fail
  refine (key_callsC M0.out.now.ps kCREATE).mono ?_
  rw [T1.out, T1b.out]
  rintro e w1 ⟨rfl, lv1, h1⟩
  have M1 := Lib.hid (M0.out.cur h1 rfl)
  clear h1
  obtain ⟨⟨k0, k1, k2, k3, k4, k5, k6⟩, g0, g1, g2, g3, g4, g5, g6⟩ := seven M1.out.blk
  have hX := M1.out.safe.1
  go_wp2_with fail
  refine (key_callsC M1.out.now.ps kINSERT).mono ?_
  rw [T2.out, T2b.out]
  rintro e w2 ⟨rfl, lv2, h2⟩
  have M2 := Lib.hid (M1.out.cur h2 rfl)
  clear h2
  clear k0 k1 k2 k3 k4 k5 k6 g0 g1 g2 g3 g4 g5 g6 hX
  obtain ⟨⟨k0, k1, k2, k3, k4, k5, k6⟩, g0, g1, g2, g3, g4, g5, g6⟩ := seven M2.out.blk
  have hX := M2.out.safe.1
  go_wp2_with fail
  refine (key_callsC M2.out.now.ps kUPDATE).mono ?_
  rw [T3.out, T3b.out]
  rintro e w3 ⟨rfl, lv3, h3⟩
  have M3 := Lib.hid (M2.out.cur h3 rfl)
  clear h3
  clear k0 k1 k2 k3 k4 k5 k6 g0 g1 g2 g3 g4 g5 g6 hX
  obtain ⟨⟨k0, k1, k2, k3, k4, k5, k6⟩, g0, g1, g2, g3, g4, g5, g6⟩ := seven M3.out.blk
  have hX := M3.out.safe.1
  go_wp2_with fail
  refine (key_callsC M3.out.now.ps kDELETE).mono ?_
  rw [T4.out, T4b.out]
  rintro e w4 ⟨rfl, lv4, h4⟩
  have M4 := Lib.hid (M3.out.cur h4 rfl)
  clear h4
  clear k0 k1 k2 k3 k4 k5 k6 g0 g1 g2 g3 g4 g5 g6 hX
  obtain ⟨⟨k0, k1, k2, k3, k4, k5, k6⟩, g0, g1, g2, g3, g4, g5, g6⟩ := seven M4.out.blk
  have hX := M4.out.safe.1
  go_wp2_with fail
  refine (key_callsC M4.out.now.ps kSELECT).mono ?_
  rw [T5.out, T5b.out]
  rintro e w5 ⟨rfl, lv5, h5⟩
  have M5 := Lib.hid (M4.out.cur h5 rfl)
  clear h5
  clear k0 k1 k2 k3 k4 k5 k6 g0 g1 g2 g3 g4 g5 g6 hX
  obtain ⟨⟨k0, k1, k2, k3, k4, k5, k6⟩, g0, g1, g2, g3, g4, g5, g6⟩ := seven M5.out.blk
  have hX := M5.out.safe.1
  go_wp2_with fail
  have Hd := Lib.hid (M5.out.below (Below.refl w5.heap.size w5).drew)
  go_region_with ((first | (go_at_call 43; refine (place_calls Hd.out.now.ps).mono ?_; rintro e w' ⟨rfl, rfl⟩) | (go_at_call 42; refine (fail_callsC Hd.out.now.ps 13 s.place).mono ?_; rintro e w6 ⟨rfl, lv6, h6⟩)))
  all_goals
    have M6 := Lib.hid (Hd.out.cur h6 (fail_steps _ _ _))
    clear h6 k0 k1 k2 k3 k4 k5 k6 g0 g1 g2 g3 g4 g5 g6 hX
    obtain ⟨⟨k0, k1, k2, k3, k4, k5, k6⟩, g0, g1, g2, g3, g4, g5, g6⟩ := seven M6.out.blk
    have hX := M6.out.safe.1
    go_wp2_with fail
    exact bodyPost_ret (v := smV stm0 (.slice none 0 0) (.slice none 0 0)) (by simp [smV, smC, results, Tryz.results41, go_sem, stm0, k0, k1, k2, k3, k4, k5, k6]) rfl ⟨_, _, _, _, _, _, rfl, M6.out.again⟩

end Go.Proofs.YtcjmhmmjfgjcnaaGreatDoor.Pa
