/- What the walks ask of a world's package-level variables, and that it lasts. -/
import Derived.Test.YtebmbghlhicjlaaDoorLxS
import Derived.Test.YtebmbghlhicjlaaDoorShelf
import Derived.WalkSmall
namespace Go.Proofs.YtebmbghlhicjlaaDoor.Lx
open Go.RowKit

structure Env (w : World) : Prop where
  syn : ∃ ev, w.cell? ⟨6, 0, none⟩ = some ev ∧ (ev = .nilIface ∨ ∃ te pe, ev = .iface te pe)
  rng : ∃ ev, w.cell? ⟨7, 0, none⟩ = some ev ∧ (ev = .nilIface ∨ ∃ te pe, ev = .iface te pe)
  max : ∃ m, w.cell? ⟨3, 0, none⟩ = some (.int .i64 m)
  pow : Lib.TabIs Tryd.prog w "internal/strconv.uint64pow10" .u64 Lib.pow10Tab
  utf : Lib.Utf8Tabs 1 2 w
  ltS : 6 < w.heap.size
  ltR : 7 < w.heap.size
  ltM : 3 < w.heap.size
  ltP : 0 < w.heap.size
  ltF : 1 < w.heap.size
  ltA : 2 < w.heap.size

theorem gPow : Tryd.prog.globalNamed "internal/strconv.uint64pow10" = some 0 := by kernel_rfl

theorem Env.below {w w' : World} (h : Env w) (hb : Below w.heap.size w w') : Env w' where
  syn := let ⟨ev, h1, h2⟩ := h.syn; ⟨ev, (hb.cell (p := ⟨_, 0, none⟩) h.ltS).trans h1, h2⟩
  rng := let ⟨ev, h1, h2⟩ := h.rng; ⟨ev, (hb.cell (p := ⟨_, 0, none⟩) h.ltR).trans h1, h2⟩
  max := let ⟨m, h1⟩ := h.max; ⟨m, (hb.cell (p := ⟨_, 0, none⟩) h.ltM).trans h1⟩
  pow := var?_below hb gPow h.ltP h.pow
  utf := ⟨fun c hc => (hb.cell (p := ⟨_, c, none⟩) h.ltF).trans (h.utf.1 c hc), fun i hi => ⟨(hb.cell (p := ⟨_, 2 * i, none⟩) h.ltA).trans (h.utf.2 i hi).1, (hb.cell (p := ⟨_, 2 * i + 1, none⟩) h.ltA).trans (h.utf.2 i hi).2⟩⟩
  ltS := Nat.lt_of_lt_of_le h.ltS hb.size
  ltR := Nat.lt_of_lt_of_le h.ltR hb.size
  ltM := Nat.lt_of_lt_of_le h.ltM hb.size
  ltP := Nat.lt_of_lt_of_le h.ltP hb.size
  ltF := Nat.lt_of_lt_of_le h.ltF hb.size
  ltA := Nat.lt_of_lt_of_le h.ltA hb.size
theorem Env.alloc {w : World} (h : Env w) (o : Obj) : Env (w.alloc o) := h.below ((Below.refl _ _).alloc (Nat.le_refl _) o)

end Go.Proofs.YtebmbghlhicjlaaDoor.Lx
