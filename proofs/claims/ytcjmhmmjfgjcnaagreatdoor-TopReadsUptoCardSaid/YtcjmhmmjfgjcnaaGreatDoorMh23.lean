/- Parts: PaI. -/
import Derived.Test.YtcjmhmmjfgjcnaaGreatDoorMh22

/- The parser: statements, what is kept in memory. -/
namespace Go.Proofs.YtcjmhmmjfgjcnaaGreatDoor.Pa
open Go.RowKit Go.Proofs.YtcjmhmmjfgjcnaaGreatDoor.Lx
variable {x : Px}

def smC (st : Stm) (vi ve : Value) : Array Value := #[.int .u8 st.kind, .string ⟨st.table.toArray⟩, .string ⟨st.field.toArray⟩, vi, ve, .bool st.history, .bool st.desc]
structure ItH (x : Px) (w : World) (sv : Value) (s : St) (Bs : Nat) (v : Value) (its : List Itm) (evs : List Value) : Prop where
  lenE : evs.length = its.length
  row : w.ownsRow x.W.heap.size 95 2 v its.length (itsC its evs)
  safe : ∀ b, v.ownBlock = some b → SafeB x w sv b ∧ b ≠ Bs
  exps : ∀ (i : Nat) (h : i < its.length) (h' : i < evs.length), HeldRow x w sv s evs[i] its[i].expr
  ne : ∀ v ∈ evs, v.ownBlock ≠ some Bs
theorem ItH.nil (x : Px) (w : World) (sv : Value) (s : St) (Bs : Nat) : ItH x w sv s Bs (.slice none 0 0) [] [] :=
  ⟨rfl, ⟨by simp [itsC], .inl ⟨rfl, rfl⟩⟩, fun b hb => by simp [Value.ownBlock] at hb, fun i h => absurd h (Nat.not_lt_zero _), by simp⟩

structure SmM (x : Px) (w0 : World) (sv0 : Value) (s0 : St) (wr : World) (lv sv : Value) (s : St) (Bs : Nat) (st : Stm) (vi ve : Value) (evs : List Value) : Prop where
  now : Now x w0 sv0 wr lv sv s
  blk : wr.heap[Bs]? = some (.cells (smC st vi ve) 33)
  safe : SafeB x wr sv Bs
  low : w0.heap.size ≤ Bs
  old : x.W.heap.size ≤ w0.heap.size
  its : ItH x wr sv s Bs vi st.items evs
  exp : HeldRow x wr sv s ve st.expr
  neE : ve.ownBlock ≠ some Bs
  fr : ∀ v ∈ vi :: ve :: evs, ∀ b, v.ownBlock = some b → w0.heap.size ≤ b

variable {w0 wr w' : World} {sv0 lv sv lv' sv' vi ve : Value} {s0 s s' : St} {Bs : Nat} {st : Stm} {evs : List Value}
theorem ItH.gave {its : List Itm} {v : Value} (h : ItH x wr sv s Bs v its evs) (hn : Now x wr sv w' lv' sv' s') (hh : ∀ v0 l0, HeldRow x wr sv s v0 l0 → HeldRow x w' sv' s' v0 l0) : ItH x w' sv' s' Bs v its evs :=
  ⟨h.lenE, own_same h.row fun g hg _ => (h.safe g hg).1.heap hn, fun b hb => ⟨(h.safe b hb).1.now hn, (h.safe b hb).2⟩, fun i h1 h2 => hh _ _ (h.exps i h1 h2), h.ne⟩
theorem SmM.gave (h : SmM x w0 sv0 s0 wr lv sv s Bs st vi ve evs) (hn : Now x wr sv w' lv' sv' s') (hh : ∀ v0 l0, HeldRow x wr sv s v0 l0 → HeldRow x w' sv' s' v0 l0) : SmM x w0 sv0 s0 w' lv' sv' s' Bs st vi ve evs :=
  ⟨h.now.trans hn, (h.safe.heap hn).trans h.blk, h.safe.now hn, h.low, h.old, h.its.gave hn hh, hh _ _ h.exp, h.neE, h.fr⟩
theorem SmM.cur (h : SmM x w0 sv0 s0 wr lv sv s Bs st vi ve evs) (hn : Now x wr sv w' lv' sv s') (he : s'.steps = s.steps) : SmM x w0 sv0 s0 w' lv' sv s' Bs st vi ve evs :=
  h.gave hn fun _ _ hv => hv.now hn he
theorem SmM.anew (h : SmM x w0 sv0 s0 wr lv sv s Bs st vi ve evs) (hn : Now x wr (.slice none 0 0) w' lv' sv' s') : SmM x w0 sv0 s0 w' lv' sv' s' Bs st vi ve evs :=
  h.gave hn.weak fun _ _ hv => hv.anew h.now.ps hn
theorem SmM.below (h : SmM x w0 sv0 s0 wr lv sv s Bs st vi ve evs) (hb : Below wr.heap.size wr w') : SmM x w0 sv0 s0 w' lv sv s Bs st vi ve evs :=
  h.cur ((Now.refl h.now.ps).step hb) rfl
theorem SmM.alloc (h : SmM x w0 sv0 s0 wr lv sv s Bs st vi ve evs) (o : Obj) : SmM x w0 sv0 s0 (wr.alloc o) lv sv s Bs st vi ve evs := h.below (alloc_below _ _)
theorem HeldRow.set {v : Value} {l : List Stp} (h : HeldRow x wr sv s v l) (hne : v.ownBlock ≠ some Bs) (i : Nat) (u : Value) : HeldRow x (wr.setCell ⟨Bs, i, none⟩ u) sv s v l :=
  h.other (by simp) fun b hb => Below.heap_setCell _ _ _ _ (fun e => hne (by rw [hb, e]))
theorem SmM.set (h : SmM x w0 sv0 s0 wr lv sv s Bs st vi ve evs) (i : Nat) (u : Value) (st' : Stm) (vi' ve' : Value) (evs' : List Value) (e : (smC st vi ve).setIfInBounds i u = smC st' vi' ve')
    (hi : ItH x wr sv s Bs vi' st'.items evs') (he : HeldRow x wr sv s ve' st'.expr) (hne : ve'.ownBlock ≠ some Bs) (hfr : ∀ v ∈ vi' :: ve' :: evs', ∀ b, v.ownBlock = some b → w0.heap.size ≤ b) : SmM x w0 sv0 s0 (wr.setCell ⟨Bs, i, none⟩ u) lv sv s Bs st' vi' ve' evs' := by
  have hos : ∀ b, b ≠ Bs → (wr.setCell ⟨Bs, i, none⟩ u).heap[b]? = wr.heap[b]? := fun b hb => Below.heap_setCell _ _ _ _ hb
  refine ⟨now_other h.now h.old h.low h.safe.2.1 h.safe.2.2 (by simp) hos (fun base hb => (Below.refl _ _).setCell hb _), set_block h.blk _ _ e, h.safe.grow (by simp), h.low, h.old,
    ⟨hi.lenE, own_same hi.row fun g hg _ => hos g (hi.safe g hg).2, fun b hb => ⟨(hi.safe b hb).1.grow (by simp), (hi.safe b hb).2⟩, fun j h1 h2 => (hi.exps j h1 h2).set (hi.ne _ (List.getElem_mem h2)) _ _, hi.ne⟩, he.set hne _ _, hne, hfr⟩
theorem SmM.put (h : SmM x w0 sv0 s0 wr lv sv s Bs st vi ve evs) (i : Nat) (u : Value) (st' : Stm) (e : (smC st vi ve).setIfInBounds i u = smC st' vi ve) (e1 : st'.items = st.items) (e2 : st'.expr = st.expr) :
    SmM x w0 sv0 s0 (wr.setCell ⟨Bs, i, none⟩ u) lv sv s Bs st' vi ve evs := h.set i u st' vi ve evs e (by rw [e1]; exact h.its) (by rw [e2]; exact h.exp) h.neE h.fr
theorem SmM.start {w : World} (h : PS x w lv sv s) (st : Stm) (hi : st.items = []) (he : st.expr = []) : SmM x w sv s (w.alloc (.cells (smC st (.slice none 0 0) (.slice none 0 0)) 33)) lv sv s w.heap.size st (.slice none 0 0) (.slice none 0 0) [] :=
  ⟨(Now.refl h).alloc _, heap_alloc_new _ _, SafeB.new h _, Nat.le_refl _, h.bel.size, by rw [hi]; exact ItH.nil _ _ _ _ _, by rw [he]; exact HeldRow.nil _ _ _ _, by simp [Value.ownBlock], by simp [Value.ownBlock]⟩
theorem ItH.of {its : List Itm} {vo vn : Value} {nms : List Txt} (h : ItM x wr sv s w' lv' sv' s' vo vn its evs nms) (hB : Bs < wr.heap.size) : ItH x w' sv' s' Bs vo its evs :=
  ⟨h.lenE, h.out, fun b hb => ⟨(h.sO b hb).1, by have := (h.sO b hb).2.1; omega⟩, h.exps, fun v hv e => by have := h.fresh v hv Bs e; omega⟩

theorem seven {w : World} {B : Nat} {a b c d e f g : Value} {T : TypeId} (h : w.heap[B]? = some (.cells #[a, b, c, d, e, f, g] T)) :
    (w.cell? ⟨B, 0, none⟩ = some a ∧ w.cell? ⟨B, 1, none⟩ = some b ∧ w.cell? ⟨B, 2, none⟩ = some c ∧ w.cell? ⟨B, 3, none⟩ = some d ∧ w.cell? ⟨B, 4, none⟩ = some e ∧ w.cell? ⟨B, 5, none⟩ = some f ∧ w.cell? ⟨B, 6, none⟩ = some g) ∧
    (w.frozen? ⟨B, 0, none⟩ = false ∧ w.frozen? ⟨B, 1, none⟩ = false ∧ w.frozen? ⟨B, 2, none⟩ = false ∧ w.frozen? ⟨B, 3, none⟩ = false ∧ w.frozen? ⟨B, 4, none⟩ = false ∧ w.frozen? ⟨B, 5, none⟩ = false ∧ w.frozen? ⟨B, 6, none⟩ = false) := by
  simp [World.cell?, World.frozen?, h]

def smV (st : Stm) (vi ve : Value) : Value := .agg (smC st vi ve)
def again (w : World) (Bs : Nat) (st : Stm) (vi ve : Value) : World :=
  ((((((w.setCell ⟨Bs, 0, none⟩ (.int .u8 st.kind)).setCell ⟨Bs, 1, none⟩ (.string ⟨st.table.toArray⟩)).setCell ⟨Bs, 2, none⟩ (.string ⟨st.field.toArray⟩)).setCell ⟨Bs, 3, none⟩ vi).setCell ⟨Bs, 4, none⟩ ve).setCell ⟨Bs, 5, none⟩ (.bool st.history)).setCell ⟨Bs, 6, none⟩ (.bool st.desc)
theorem SmM.again (h : SmM x w0 sv0 s0 wr lv sv s Bs st vi ve evs) : SmM x w0 sv0 s0 (again wr Bs st vi ve) lv sv s Bs st vi ve evs :=
  ((((((h.put 0 _ st rfl rfl rfl).put 1 _ st rfl rfl rfl).put 2 _ st rfl rfl rfl).put 3 _ st rfl rfl rfl).put 4 _ st rfl rfl rfl).put 5 _ st rfl rfl rfl).put 6 _ st rfl rfl rfl
theorem SmM.all (h : SmM x w0 sv0 s0 wr lv sv s Bs st vi ve evs) (st' : Stm) (vi' ve' : Value) (evs' : List Value) (hi : ItH x wr sv s Bs vi' st'.items evs') (he : HeldRow x wr sv s ve' st'.expr) (hne : ve'.ownBlock ≠ some Bs)
    (hfr : ∀ v ∈ vi' :: ve' :: evs', ∀ b, v.ownBlock = some b → w0.heap.size ≤ b) : SmM x w0 sv0 s0 (Pa.again wr Bs st' vi' ve') lv sv s Bs st' vi' ve' evs' := by
  have hos : ∀ b, b ≠ Bs → (Pa.again wr Bs st' vi' ve').heap[b]? = wr.heap[b]? := fun b hb => by
    unfold Pa.again
    rw [Below.heap_setCell _ _ _ _ hb, Below.heap_setCell _ _ _ _ hb, Below.heap_setCell _ _ _ _ hb, Below.heap_setCell _ _ _ _ hb, Below.heap_setCell _ _ _ _ hb, Below.heap_setCell _ _ _ _ hb, Below.heap_setCell _ _ _ _ hb]
  have hz : (Pa.again wr Bs st' vi' ve').heap.size = wr.heap.size := by simp [Pa.again]
  have hz' : wr.heap.size ≤ (Pa.again wr Bs st' vi' ve').heap.size := by omega
  have hbel : ∀ base, base ≤ Bs → Below base wr (Pa.again wr Bs st' vi' ve') := fun base hb => ((((((((Below.refl _ _).setCell hb _).setCell hb _).setCell hb _).setCell hb _).setCell hb _).setCell hb _).setCell hb _)
  have hblk : (Pa.again wr Bs st' vi' ve').heap[Bs]? = some (.cells (smC st' vi' ve') 33) := by
    have b0 : wr.heap[Bs]? = some (.cells #[.int .u8 st.kind, .string ⟨st.table.toArray⟩, .string ⟨st.field.toArray⟩, vi, ve, .bool st.history, .bool st.desc] 33) := h.blk
    have b1 := set_block (i := 0) b0 (.int .u8 st'.kind) #[.int .u8 st'.kind, .string ⟨st.table.toArray⟩, .string ⟨st.field.toArray⟩, vi, ve, .bool st.history, .bool st.desc] rfl
    have b2 := set_block (i := 1) b1 (.string ⟨st'.table.toArray⟩) #[.int .u8 st'.kind, .string ⟨st'.table.toArray⟩, .string ⟨st.field.toArray⟩, vi, ve, .bool st.history, .bool st.desc] rfl
    have b3 := set_block (i := 2) b2 (.string ⟨st'.field.toArray⟩) #[.int .u8 st'.kind, .string ⟨st'.table.toArray⟩, .string ⟨st'.field.toArray⟩, vi, ve, .bool st.history, .bool st.desc] rfl
    have b4 := set_block (i := 3) b3 vi' #[.int .u8 st'.kind, .string ⟨st'.table.toArray⟩, .string ⟨st'.field.toArray⟩, vi', ve, .bool st.history, .bool st.desc] rfl
    have b5 := set_block (i := 4) b4 ve' #[.int .u8 st'.kind, .string ⟨st'.table.toArray⟩, .string ⟨st'.field.toArray⟩, vi', ve', .bool st.history, .bool st.desc] rfl
    have b6 := set_block (i := 5) b5 (.bool st'.history) #[.int .u8 st'.kind, .string ⟨st'.table.toArray⟩, .string ⟨st'.field.toArray⟩, vi', ve', .bool st'.history, .bool st.desc] rfl
    exact set_block (i := 6) b6 (.bool st'.desc) #[.int .u8 st'.kind, .string ⟨st'.table.toArray⟩, .string ⟨st'.field.toArray⟩, vi', ve', .bool st'.history, .bool st'.desc] rfl
  exact ⟨now_other h.now h.old h.low h.safe.2.1 h.safe.2.2 hz hos hbel, hblk, h.safe.grow hz', h.low, h.old,
    ⟨hi.lenE, own_same hi.row fun g hg _ => hos g (hi.safe g hg).2, fun b hb => ⟨(hi.safe b hb).1.grow hz', (hi.safe b hb).2⟩, fun j h1 h2 => (hi.exps j h1 h2).other hz' fun b hb => hos b (fun e => hi.ne _ (List.getElem_mem h2) (by rw [hb, e])), hi.ne⟩,
    he.other hz' fun b hb => hos b (fun e => hne (by rw [hb, e])), hne, hfr⟩
def GaveSm (x : Px) (w : World) (sv : Value) (s : St) (st : Stm) (s' : St) (e : Ending) (w' : World) : Prop :=
  ∃ lv' sv' Bs vi ve evs, e = .returned (smV st vi ve) ∧ SmM x w sv s w' lv' sv' s' Bs st vi ve evs
theorem SmM.expr (h : SmM x w0 sv0 s0 wr lv sv s Bs st vi ve evs) (hn : Now x wr (.slice none 0 0) w' lv' sv' s') (hfr : ∀ v ∈ vi :: evs, ∀ b, v.ownBlock = some b → w0.heap.size ≤ b) :
    SmM x w0 sv0 s0 (w'.setCell ⟨Bs, 4, none⟩ sv') lv' sv' s' Bs { st with expr := s'.steps } vi sv' evs := by
  have ha := h.anew hn
  refine ha.set 4 sv' { st with expr := s'.steps } vi sv' evs rfl ha.its (HeldRow.self ha.now.ps) (fun e => ?_) fun v hv b hb => ?_
  · have := fresh_of hn Bs e; have := h.safe.1; omega
  · simp only [List.mem_cons] at hv
    rcases hv with rfl | rfl | hv
    · exact hfr v (by simp) b hb
    · exact Nat.le_trans h.now.keep.1 (fresh_of hn b hb)
    · exact hfr v (by simp [hv]) b hb
theorem SmM.row (h : SmM x w0 sv0 s0 wr lv sv s Bs st vi ve evs) {l : List Stp} {v : Value} (hn : Now x wr sv w' lv' sv' s') (hv : HeldRow x w' sv' s' v l) (hf : ∀ b, v.ownBlock = some b → wr.heap.size ≤ b) (hh : ∀ v0 l0, HeldRow x wr sv s v0 l0 → HeldRow x w' sv' s' v0 l0) :
    SmM x w0 sv0 s0 (w'.setCell ⟨Bs, 4, none⟩ v) lv' sv' s' Bs { st with expr := l } vi v evs := by
  have ha := h.gave hn hh
  refine ha.set 4 v { st with expr := l } vi v evs rfl ha.its hv (fun e => ?_) fun u hu b hb => ?_
  · have := hf Bs e; have := h.safe.1; omega
  · simp only [List.mem_cons] at hu
    rcases hu with rfl | rfl | hu
    · exact h.fr u (by simp) b hb
    · exact Nat.le_trans h.now.keep.1 (hf b hb)
    · exact h.fr u (by simp [hu]) b hb
theorem SmM.items {vo vn : Value} {its : List Itm} {nms : List Txt} {evs' : List Value} (h : SmM x w0 sv0 s0 wr lv sv s Bs st vi ve evs) (hm : ItM x wr sv s w' lv' sv' s' vo vn its evs' nms) :
    SmM x w0 sv0 s0 (w'.setCell ⟨Bs, 3, none⟩ vo) lv' sv' s' Bs { st with items := its } vo ve evs' := by
  have ha := h.gave hm.now hm.held
  refine ha.set 3 vo { st with items := its } vo ve evs' rfl (ItH.of hm h.safe.1) ha.exp h.neE fun u hu b hb => ?_
  simp only [List.mem_cons] at hu
  rcases hu with rfl | rfl | hu
  · exact Nat.le_trans h.now.keep.1 (hm.sO b hb).2.1
  · exact h.fr u (by simp) b hb
  · exact Nat.le_trans h.now.keep.1 (hm.fresh u hu b hb)

end Go.Proofs.YtcjmhmmjfgjcnaaGreatDoor.Pa
