/- lives: the document's examples. -/
import Derived.Test.YtebmbghlhicjlaaDoorLxN
namespace Go.Proofs.YtebmbghlhicjlaaDoor.Lx
open Go.RowKit

def liveA : List UInt8 := [115, 101, 108, 101, 99, 116, 32, 97, 46, 98, 44, 32, 39, 105, 116, 39, 39, 115, 39, 32, 60, 61, 32, 55]
def liveL : List Tok := [⟨2, [83, 69, 76, 69, 67, 84], 0, 0⟩, ⟨1, [97], 0, 7⟩, ⟨5, [46], 0, 8⟩, ⟨1, [98], 0, 9⟩, ⟨5, [44], 0, 10⟩, ⟨4, [105, 116, 39, 115], 0, 12⟩, ⟨5, [60, 61], 0, 20⟩, ⟨3, [], 7, 23⟩]
theorem liveA_lex : lexL liveA = .ok liveL := by decide +kernel
def liveB : List UInt8 := [97, 32, 48, 49]
theorem liveB_lex : lexL liveB = .err 13 2 := by decide +kernel
def liveT : Tok := ⟨4, [105, 116, 39, 115], 0, 0⟩
theorem liveT_show : showV liveT = .tuple #[.string ⟨#[39, 105, 116, 39, 39, 115, 39]⟩, .int .i64 0] := by
  have h1 : showS liveT = [39, 105, 116, 39, 39, 115, 39] := by decide +kernel
  have h2 : showOk liveT = true := by decide +kernel
  unfold showV
  rw [if_pos h2, h1]
theorem live_key : keywordB [87, 104, 101, 114, 101] = true := by decide +kernel

theorem live_cells {w : World} {base : Nat} {a : Option Addr} {c : Nat} (h : ToksAt w base (.slice a liveL.length c) liveL) :
    ∃ g, a = some ⟨g, 0, none⟩ ∧ w.cell? ⟨g, 1, none⟩ = some (.string ⟨#[83, 69, 76, 69, 67, 84]⟩) ∧ w.cell? ⟨g, 21, none⟩ = some (.string ⟨#[105, 116, 39, 115]⟩) ∧ w.cell? ⟨g, 25, none⟩ = some (.string ⟨#[60, 61]⟩) ∧ w.cell? ⟨g, 30, none⟩ = some (.int .i64 7) := by
  obtain ⟨g, cap, e, -, -⟩ := World.ownsRow.form h (by decide)
  simp only [Value.slice.injEq] at e
  obtain ⟨rfl, -, rfl⟩ := e
  refine ⟨g, rfl, ?_, ?_, ?_, ?_⟩
  · rw [World.ownsRow.cellAt h _ (by decide)]; rfl
  · rw [World.ownsRow.cellAt h _ (by decide)]; rfl
  · rw [World.ownsRow.cellAt h _ (by decide)]; rfl
  · rw [World.ownsRow.cellAt h _ (by decide)]; rfl

set_option maxRecDepth 100000 in
theorem lives_calls (w : World) (he : Env w) :
    Calls Tryd.prog 7 #[] w fun e w' => e = .returned (.bool true) ∧ Below w.heap.size w w' := by
  have He := Lib.hid he
  clear he
  go_enter Tryd.func7, Tryd.ntmps7
  go_wp2_with fail
  refine (Lex_ok ⟨#[115, 101, 108, 101, 99, 116, 32, 97, 46, 98, 44, 32, 39, 105, 116, 39, 39, 115, 39, 32, 60, 61, 32, 55]⟩ w (by decide) He.out (l := liveL) liveA_lex).mono ?_
  rintro e w1 ⟨ad, cp, rfl, hta, hb1⟩
  obtain ⟨g, rfl, k1, k2, k3, k4⟩ := live_cells hta
  have Hb1 := Lib.hid hb1
  have lt1 := fun {i v} (h : w1.cell? ⟨g, i, none⟩ = some v) => World.block_lt_of_cell? _ _ h
  have hg : g < w1.heap.size := lt1 k1
  clear hta hb1 lt1
  go_wp2_with fail
  refine (Lex_err ⟨#[97, 32, 48, 49]⟩ w1 (by decide) (He.out.below Hb1.out) (c := 13) (a := 2) liveB_lex).mono ?_
  rintro e w2 ⟨rfl, hb2⟩
  have Hb2 := Lib.hid hb2
  clear hb2
  go_wp2_with fail
  refine (Show_calls liveT 0 w2 (by decide) (by decide) (by decide) (by decide +kernel) (He.out.below (Hb1.out.trans (Hb2.out.mono Hb1.out.size)))).mono ?_
  rw [liveT_show]
  rintro e w3 ⟨rfl, hb3⟩
  have Hb := Lib.hid ((Hb1.out.trans (Hb2.out.mono Hb1.out.size)).trans (hb3.mono (Nat.le_trans Hb1.out.size Hb2.out.size)))
  have H13 := Hb2.out.trans (hb3.mono Hb2.out.size)
  replace k1 := (H13.cell hg).trans k1
  replace k2 := (H13.cell hg).trans k2
  replace k3 := (H13.cell hg).trans k3
  replace k4 := (H13.cell hg).trans k4
  clear hb3 H13
  have hL : liveL.length = 8 := rfl
  rw [hL]
  go_wp2_with fail
  refine (Keyword_calls ⟨#[87, 104, 101, 114, 101]⟩ w3 (by decide)).mono ?_
  rw [show keywordB (L ⟨#[87, 104, 101, 114, 101]⟩) = true from live_key]
  rintro e w4 ⟨rfl, hb4⟩
  have Hb4 := Lib.hid (Hb.out.trans (hb4.mono Hb.out.size))
  clear hb4
  go_wp2_with fail
  go_ret
  exact ⟨rfl, Hb4.out⟩

end Go.Proofs.YtebmbghlhicjlaaDoor.Lx
