/- Parts: QaX QaP QaQ. -/
import Derived.Test.YtgehjklodphogaaGreatDoorMg06
import Derived.Lib.AppendStr
import Derived.Laws.BitsAllLaws
import Derived.Maps.Own
import Derived.Maps.OwnOps
import Derived.Maps.OwnSet
import Derived.Maps.Views
import Derived.RegionTactic
import Derived.Deep.RegionWith
import Derived.Deep.RegionHeld3

/- bin: Number. -/
namespace Go.Proofs.YtgehjklodphogaaGreatDoor.Cd
open Go.RowKit Go.Proofs.YtgehjklodphogaaGreatDoor.Lx Go.Proofs.YtgehjklodphogaaGreatDoor.Pa

/-! ### rows of bytes -/
def bytesC (l : List UInt8) : List Value := l.map fun b => Value.int .u8 b.toNat
theorem bytesC_length (l : List UInt8) : (bytesC l).length = l.length := by simp [bytesC]
theorem bytesC_snoc (l : List UInt8) (b : UInt8) : bytesC (l ++ [b]) = bytesC l ++ [.int .u8 b.toNat] := by simp [bytesC]
def OwnB (w : World) (base : Nat) (v : Value) (l : List UInt8) : Prop := w.ownsRow base 5 1 v l.length (bytesC l)
theorem OwnB.nil (w : World) (base : Nat) : OwnB w base (.slice none 0 0) [] := World.ownsRow_nil _ _ _ _
theorem OwnB.form {w : World} {base : Nat} {v : Value} {l : List UInt8} (h : OwnB w base v l) : ∃ a c, v = .slice a l.length c := ownForm h
theorem OwnB.at {w : World} {base : Nat} {v : Value} {l : List UInt8} (h : OwnB w base v l) (hne : l ≠ []) : ∃ g c, v = .slice (some ⟨g, 0, none⟩) l.length c ∧ BytesAt w g l ∧ base ≤ g ∧ g < w.heap.size := by
  rcases h.2 with ⟨rfl, h0⟩ | ⟨g, cap, cur, e, h1, h2, h3, h4, h5, h6⟩
  · exact absurd (List.eq_nil_of_length_eq_zero h0) hne
  · subst e
    refine ⟨g, cap, rfl, fun j hj => ⟨?_, ?_⟩, h1, ltH h2⟩
    · rw [World.ownsRow.cellAt h j (by omega)]
      simp [bytesC, List.getElem?_eq_getElem hj]
    · simp [World.frozen?, h2]
theorem u8Info : (Tryz.prog.info? 5).map (fun i => (i.zero, i.size, i.bytes)) = some (some (.int .u8 0), 1, 1) := by kernel_rfl
theorem or128 (n : Nat) : bits .or .u8 ((n : Int) % 256) 128 = (((UInt8.ofNat (n % 128 + 128)).toNat : Nat) : Int) := by
  rw [show (n : Int) % 256 = ((n % 256 : Nat) : Int) by omega]
  rw [show (128 : Int) = ((128 : Nat) : Int) from rfl, u8_or_nat _ _ (Nat.mod_lt _ (by decide)) (by decide), byte_toNat (by omega)]
  have h : ∀ x, x < 256 → x ||| 128 = x % 128 + 128 := by decide +kernel
  rw [h _ (Nat.mod_lt _ (by decide))]
  congr 1
  omega

/-- the buffer in memory -/
structure BufM (w0 w : World) (B : Nat) (v : Value) (l : List UInt8) : Prop where
  blk : w.heap[B]? = some (.cells #[v] 166)
  own : OwnB w (B + 1) v l
  bel : Below w0.heap.size w0 w
  low : w0.heap.size ≤ B
theorem BufM.step {w0 w w' : World} {B : Nat} {v : Value} {l : List UInt8} (h : BufM w0 w B v l) (hb : Below w.heap.size w w') : BufM w0 w' B v l :=
  ⟨(hb.block _ (ltH h.blk)).trans h.blk, ownSame h.own fun g _ hg => hb.block g hg, stepH h.bel hb, h.low⟩
theorem oneB {w : World} {B : Nat} {a : Value} {T : TypeId} (h : w.heap[B]? = some (.cells #[a] T)) : w.cell? ⟨B, 0, none⟩ = some a ∧ w.frozen? ⟨B, 0, none⟩ = false := by
  simp [World.cell?, World.frozen?, h]
/-- a byte more, stored -/
theorem BufM.more {w0 w w1 : World} {B n : Nat} {v v1 : Value} {l : List UInt8} {b : UInt8} {cs : List Value} (h : BufM w0 w B v l) (hown : w1.ownsRow (B + 1) 5 1 v1 n cs) (hg : w.grownBy w1 v.ownBlock) (hn : n = l.length + 1) (hc : cs = bytesC l ++ [.int .u8 b.toNat]) :
    BufM w0 (w1.setCell ⟨B, 0, none⟩ v1) B v1 (l ++ [b]) := by
  have hlt : ∀ g, v.ownBlock = some g → B + 1 ≤ g := fun g e => (World.ownsRow.lt h.own g e).1
  have hlt1 : ∀ g, v1.ownBlock = some g → B + 1 ≤ g := fun g e => (World.ownsRow.lt hown g e).1
  have hB1 : w1.heap[B]? = some (.cells #[v] 166) := (hg.block B (ltH h.blk) fun e => by have := hlt B e.symm; omega).trans h.blk
  have hlow := h.low
  have hb1 : Below w0.heap.size w0 w1 := h.bel.grown hg h.bel.size fun g e => by have := hlt g e; omega
  refine ⟨?_, ?_, hb1.setCell hlow _, hlow⟩
  · simp only [World.setCell, Array.getElem?_modify, if_true, hB1, Option.map_some]
    rfl
  · unfold OwnB
    rw [bytesC_snoc, ← hc, List.length_append, List.length_singleton, ← hn]
    exact ownSame hown fun g hg' _ => Below.heap_setCell _ _ _ _ (fun (e : g = B) => by have := hlt1 g hg'; omega)

set_option maxHeartbeats 1000000 in
set_option maxRecDepth 100000 in
theorem number_calls (w0 w : World) (B : Nat) (v : Value) (n : Nat) (h : BufM w0 w B v []) (hn : n < 18446744073709551616) :
    Calls Tryz.prog 123 #[.pointer (some ⟨B, 0, none⟩), .int .u64 n] w fun e w' => e = .returned (.tuple #[]) ∧ ∃ v', BufM w0 w' B v' (numT n) := by
  have HB := Lib.hid h
  obtain ⟨i0, hi0, hz0, hz1, hz2⟩ := info_parts u8Info
  have Hi0 := Lib.hid hi0
  have Hz0 := Lib.hid hz0
  have Hz1 := Lib.hid hz1
  have Hz2 := Lib.hid hz2
  clear hi0 hz0 hz1 hz2 h
  go_enter Tryz.func123, Tryz.ntmps123
  go_wp2_with fail
  go_loopw [1] (fun s1 wr => ∃ (m f : Nat) (l : List UInt8) (v' : Value), s1 = .int .u64 m ∧ f ≤ 9 ∧ m < 2 * 128 ^ f ∧ m < 18446744073709551616 ∧ l.length + f = 9 ∧ Hid (l ++ numB f m = numT n ∧ BufM w0 wr B v' l)) (fun s1 _ => (intOf s1).toNat)
  case atStart => exact ⟨n, 9, [], v, rfl, Nat.le_refl _, by rw [pow9]; exact hn, hn, rfl, rfl, HB.out⟩
  case round =>
    obtain ⟨m, f, l, v', rfl, hf, hm, hm2, hlf, hst⟩ := hrel
    have Hst := Lib.hid hst.out
    obtain ⟨k0, f0⟩ := oneB hst.out.2.blk
    have hB := ltH hst.out.2.blk
    obtain ⟨av, cv, rfl⟩ := hst.out.2.own.form
    by_cases hgt : 127 < m
    · obtain ⟨f, rfl⟩ : ∃ f', f = f' + 1 := by
        cases f with
        | zero => simp at hm; omega
        | succ f' => exact ⟨f', rfl⟩
      have Hnum := Lib.hid (show numB (f + 1) m = UInt8.ofNat (m % 128 + 128) :: numB f (m / 128) by rw [numB, if_pos hgt])
      have hgt2 : (127 : Int) < m := by omega
      have Hor := Lib.hid (or128 m)
      have Hpow := Lib.hid (show m / 128 < 2 * 128 ^ f by rw [pow_step] at hm; omega)
      clear hst hm
      have Hst1 := Lib.hid (Hst.out.2.step (allocB wr (.cells #[.int .u8 (bits .or .u8 ((m : Int) % 256) 128)] 5)))
      have Hown := Lib.hid (show (wr.alloc (.cells #[.int .u8 (bits .or .u8 ((m : Int) % 256) 128)] 5)).ownsRow (B + 1) 5 1 (.slice av l.length cv) l.length (bytesC l) from Hst1.out.own)
      have hB1 := Hst1.out.blk
      have hBlt := fun e : some B = (Value.slice av l.length cv).ownBlock => (by have := (World.ownsRow.lt Hown.out B e.symm).1; omega : False)
      have HB1 := Lib.hid (And.intro hB1 hBlt)
      clear hB1 hBlt
      have Hbase := Lib.hid (show B + 1 ≤ (wr.alloc (.cells #[.int .u8 (bits .or .u8 ((m : Int) % 256) 128)] 5)).heap.size from by have := (allocB wr (.cells #[.int .u8 (bits .or .u8 ((m : Int) % 256) 128)] 5)).size; omega)
      have Hnews := Lib.hid (cell_one_new wr (.int .u8 (bits .or .u8 ((m : Int) % 256) 128)) 5)
      have Hone := Lib.hid (show ∀ u ∈ [(.int .u8 (bits .or .u8 ((m : Int) % 256) 128) : Value)], u.oneCell' = true from by intro u hu; rw [List.mem_singleton] at hu; subst hu; rfl)
      have Hlt := Lib.hid (show l.length + 1 ≤ maxLen ∧ (l.length + 1) * 1 ≤ 140737488355328 from by unfold maxLen; omega)
      go_wp2_with (at_builtin; go_must (refine wpList_append_own_at _ rfl _ _ 111 rfl (B + 1) 5 i0 _ 1 1 Tryz.underlying111 Hi0.out Hz0.out Hz1.out Hz2.out rfl (by decide) (.slice av l.length cv) l.length (bytesC l) rfl Hown.out ⟨wr.heap.size, 0, none⟩ 1 1 [.int .u8 (bits .or .u8 ((m : Int) % 256) 128)] rfl rfl Hnews.out Hone.out Hlt.out.1 Hlt.out.2 Hbase.out ?_); intro v7 w7 hown7 hg7 _ hat7; have hB7 := oneB ((hg7.block B (ltH HB1.out.1) (fun e => HB1.out.2 e)).trans HB1.out.1); obtain ⟨k7, f7⟩ := hB7; clear hat7; obtain ⟨a7, c7, rfl⟩ := ownForm hown7)
      have HM7 := Lib.hid (Hst1.out.more (b := (UInt8.ofNat (m % 128 + 128))) hown7 hg7 rfl (by rw [← Hor.out]))
      clear hown7 hg7
      go_roundw
      case rel => exact ⟨m / 128, f, l ++ [UInt8.ofNat (m % 128 + 128)], _, by go_num, by omega, Hpow.out, by omega, by rw [List.length_append, List.length_singleton]; omega, by rw [List.append_assoc, ← Hst.out.1, Hnum.out]; rfl, HM7.out⟩
      case measure => simp [intOf]; omega
    · have Hnum := Lib.hid (show numB f m = [UInt8.ofNat m] by
        cases f with
        | zero => rfl
        | succ f' => rw [numB, if_neg hgt])
      have hgt2 : ¬ (127 : Int) < m := by omega
      have Hor := Lib.hid (show (m : Int) = (((UInt8.ofNat m).toNat : Nat) : Int) by rw [byte_toNat (by omega)])
      clear hst hm
      have Hst1 := Lib.hid (Hst.out.2.step (allocB wr (.cells #[.int .u8 (m : Int)] 5)))
      have Hown := Lib.hid (show (wr.alloc (.cells #[.int .u8 (m : Int)] 5)).ownsRow (B + 1) 5 1 (.slice av l.length cv) l.length (bytesC l) from Hst1.out.own)
      have hB1 := Hst1.out.blk
      have hBlt := fun e : some B = (Value.slice av l.length cv).ownBlock => (by have := (World.ownsRow.lt Hown.out B e.symm).1; omega : False)
      have HB1 := Lib.hid (And.intro hB1 hBlt)
      clear hB1 hBlt
      have Hbase := Lib.hid (show B + 1 ≤ (wr.alloc (.cells #[.int .u8 (m : Int)] 5)).heap.size from by have := (allocB wr (.cells #[.int .u8 (m : Int)] 5)).size; omega)
      have Hnews := Lib.hid (cell_one_new wr (.int .u8 (m : Int)) 5)
      have Hone := Lib.hid (show ∀ u ∈ [(.int .u8 (m : Int) : Value)], u.oneCell' = true from by intro u hu; rw [List.mem_singleton] at hu; subst hu; rfl)
      have Hlt := Lib.hid (show l.length + 1 ≤ maxLen ∧ (l.length + 1) * 1 ≤ 140737488355328 from by unfold maxLen; omega)
      go_wp2_with (at_builtin; go_must (refine wpList_append_own_at _ rfl _ _ 111 rfl (B + 1) 5 i0 _ 1 1 Tryz.underlying111 Hi0.out Hz0.out Hz1.out Hz2.out rfl (by decide) (.slice av l.length cv) l.length (bytesC l) rfl Hown.out ⟨wr.heap.size, 0, none⟩ 1 1 [.int .u8 (m : Int)] rfl rfl Hnews.out Hone.out Hlt.out.1 Hlt.out.2 Hbase.out ?_); intro v7 w7 hown7 hg7 _ hat7; have hB7 := oneB ((hg7.block B (ltH HB1.out.1) (fun e => HB1.out.2 e)).trans HB1.out.1); obtain ⟨k7, f7⟩ := hB7; clear hat7; obtain ⟨a7, c7, rfl⟩ := ownForm hown7)
      have HM7 := Lib.hid (Hst1.out.more (b := (UInt8.ofNat m)) hown7 hg7 rfl (by rw [← Hor.out]))
      clear hown7 hg7
      go_end0
      exact ⟨rfl, _, by rw [← Hst.out.1, Hnum.out]; exact HM7.out⟩

end Go.Proofs.YtgehjklodphogaaGreatDoor.Cd

/- code: the checker's heights. -/
namespace Go.Proofs.YtgehjklodphogaaGreatDoor.Cd
open Go.RowKit Go.Proofs.YtgehjklodphogaaGreatDoor.Lx Go.Proofs.YtgehjklodphogaaGreatDoor.Pa Go.Maps

theorem keyI : Keyed Tryz.prog 3 := int_keyed Tryz.underlying3
theorem zeroH (w : World) : (zeroValue 3).run Tryz.prog w = .ok (.int .i64 0) w := by kernel_rfl
theorem litI (n : Int) : WideAt.IsKeyLit (.int .i64 n) := by simp [WideAt.IsKeyLit]

/-- what the map holds: the heights -/
structure Holds (D : DataW Unit) (hs : Hts) : Prop where
  map : IsMap D
  hasK : ∀ i : Nat, Maps.has D (.int .i64 (i : Int)) = (hs i).isSome
  atK : ∀ i : Nat, D.atKey (.int .i64 (i : Int)) (.lit (.int .i64 0)) = .lit (.int .i64 ((hs i).getD 0 : Nat))
theorem Holds.put {D : DataW Unit} {hs : Hts} (h : Holds D hs) (i v : Nat) : Holds (D.put (.int .i64 (i : Int)) (.lit (.int .i64 (v : Int)))) (fun j => if j = i then some v else hs j) := by
  refine ⟨h.map.put _ _, fun j => ?_, fun j => ?_⟩
  · by_cases e : j = i
    · subst e
      rw [has_put_same h.map (litI _)]
      simp
    · rw [has_put_other (by simp; omega), h.hasK j, if_neg e]
  · by_cases e : j = i
    · subst e
      rw [atKey_put_same h.map (litI _)]
      simp
    · rw [atKey_put_other (by simp; omega), h.atK j, if_neg e]
theorem holds_new : Holds ((.map []) : DataW Unit) (fun _ => none) := ⟨⟨[], rfl⟩, fun i => by simp [Maps.has], fun i => rfl⟩

/-- the checker in memory -/
structure ChkM (w0 w : World) (B bm n : Nat) (pv : Value) (hs : Hts) : Prop where
  blk : w.heap[B]? = some (.cells #[pv, .map (some bm)] 71)
  map : ∃ D, w.ownsMap Tryz.prog 3 (plainElem (H := Unit) Tryz.prog 3) bm n D ∧ Holds D hs
  bel : Below w0.heap.size w0 w
  lowB : w0.heap.size ≤ B
  lowM : w0.heap.size ≤ bm
  ne : B ≠ bm
theorem ChkM.step {w0 w w' : World} {B bm n : Nat} {pv : Value} {hs : Hts} (h : ChkM w0 w B bm n pv hs) (hb : Below w.heap.size w w') : ChkM w0 w' B bm n pv hs := by
  obtain ⟨D, h1, h2⟩ := h.map
  have hm : bm < w.heap.size := by obtain ⟨es, clock, hb, _⟩ := h1; exact ltH hb
  refine ⟨(hb.block B (ltH h.blk)).trans h.blk, ⟨D, ?_, h2⟩, stepH h.bel hb, h.lowB, h.lowM, h.ne⟩
  obtain ⟨es, clock, hb', r⟩ := h1
  exact ⟨es, clock, (hb.block bm hm).trans hb', r⟩
theorem ChkM.put {w0 w w' : World} {B bm n : Nat} {pv : Value} {hs : Hts} (h : ChkM w0 w B bm n pv hs) {D : DataW Unit} (hD : Holds D hs) (i v : Nat)
    (hown : w'.ownsMap Tryz.prog 3 (plainElem (H := Unit) Tryz.prog 3) bm (n + 1) (D.put (.int .i64 (i : Int)) (.lit (.int .i64 (v : Int))))) (hg : w.grownBy w' (some bm)) : ChkM w0 w' B bm (n + 1) pv (fun j => if j = i then some v else hs j) :=
  ⟨(hg.block B (ltH h.blk) (fun e => h.ne (Option.some.inj e.symm).symm)).trans h.blk, ⟨_, hown, hD.put i v⟩, h.bel.grown hg h.bel.size fun b hb => by cases hb; exact h.lowM, h.lowB, h.lowM, h.ne⟩
theorem twoB {w : World} {B : Nat} {a b : Value} {T : TypeId} (h : w.heap[B]? = some (.cells #[a, b] T)) : (w.cell? ⟨B, 0, none⟩ = some a ∧ w.cell? ⟨B, 1, none⟩ = some b) ∧ (w.frozen? ⟨B, 0, none⟩ = false ∧ w.frozen? ⟨B, 1, none⟩ = false) := by
  simp [World.cell?, World.frozen?, h]

/-- whether a place may be come to with a height -/
def comeB (hs : Hts) (i h : Nat) : Bool := decide (hs i = none ∨ hs i = some h)
theorem come_eq (hs : Hts) (i h : Nat) : hs.come i h = if comeB hs i h then some (fun j => if j = i then some h else hs j) else none := by
  unfold Hts.come comeB
  simp

set_option maxRecDepth 100000 in
theorem come_calls (w0 w : World) (B bm n : Nat) (pv : Value) (hs : Hts) (i h : Nat) (H : ChkM w0 w B bm n pv hs) (hi : i ≤ 1000000) (hh : h ≤ 1000000) (hn : n ≤ 1000000) :
    Calls Tryz.prog 81 #[.pointer (some ⟨B, 0, none⟩), .int .i64 i, .int .i64 h] w fun e w' => e = .returned (.bool (comeB hs i h)) ∧ ChkM w0 w' B bm (n + 1) pv (fun j => if j = i then some h else hs j) ∧ w.grownBy w' (some bm) := by
  have HM := Lib.hid H
  obtain ⟨⟨c0, c1⟩, -⟩ := twoB H.blk
  obtain ⟨D, hown, hD⟩ := H.map
  have Hown := Lib.hid hown
  have HD := Lib.hid hD
  have hB := ltH H.blk
  have Hkey := Lib.hid (keyOf_int_mk (P := Tryz.prog) (k := 3) Tryz.underlying3 (a := (i : Int)) (WalkArith.wf_i64 (by omega)))
  clear H hown hD
  go_enter Tryz.func81, Tryz.ntmps81
  go_wp2_with (first
    | (at_lookup; refine wpList_lookup_own_ok_int _ rfl _ _ 69 rfl 3 3 .i64 keyI Tryz.underlying69 Tryz.underlying3 (zeroH _) bm n D rfl Hown.out _ _ rfl Hkey.out ?_; intro c hat hwc)
    | (at_mapUpdate; refine wpList_mapUpdate_own _ rfl _ _ _ 69 rfl 3 3 keyI Tryz.underlying69 _ bm n D rfl Hown.out (by unfold maxLen; omega) _ _ _ rfl rfl Hkey.out _ [] (plainElem_int Tryz.underlying3 (WalkArith.wf_i64 (by omega))) ?_; intro w1 hown1 hgrow1))
  · rename_i hh1
    have h2 := HD.out.hasK i
    have h3 := HD.out.atK i
    rw [hh1] at h2
    rw [hat] at h3
    have Hs1 := Lib.hid (HM.out.put HD.out i h hown1 hgrow1)
    have Hc := Lib.hid (show ((c : Int) == (h : Int)) = comeB hs i h by
      unfold comeB
      cases hv : hs i with
      | none => rw [hv] at h2; cases h2
      | some v =>
        rw [hv] at h3
        simp only [Option.getD_some, DataW.lit.injEq, Lit.int.injEq, true_and] at h3
        rw [h3, Bool.eq_iff_iff]
        simp only [beq_iff_eq, decide_eq_true_eq, Option.some.injEq, reduceCtorEq, false_or]
        omega)
    clear hown1
    go_ret
    exact ⟨ret_bool Hc.out, Hs1.out, hgrow1⟩
  · rename_i hh1
    have h2 := HD.out.hasK i
    rw [Bool.eq_false_iff.2 hh1] at h2
    have Hs1 := Lib.hid (HM.out.put HD.out i h hown1 hgrow1)
    have Hc := Lib.hid (show true = comeB hs i h by
      unfold comeB
      cases hv : hs i with
      | none => simp
      | some v => rw [hv] at h2; cases h2)
    clear hown1
    go_ret
    exact ⟨ret_bool Hc.out, Hs1.out, hgrow1⟩

end Go.Proofs.YtgehjklodphogaaGreatDoor.Cd

/- code: the checker's step. -/
namespace Go.Proofs.YtgehjklodphogaaGreatDoor.Cd
open Go.RowKit Go.Proofs.YtgehjklodphogaaGreatDoor.Lx Go.Proofs.YtgehjklodphogaaGreatDoor.Pa Go.Maps

theorem takes_le64 {y : Stp} {k : Nat} (h : takes y = some k) : k ≤ 64 := by
  unfold takes at h
  repeat' split at h
  all_goals first | (cases h; done) | (simp only [Option.some.injEq] at h; omega)
def takesQ (o : Option Nat) : Value := .tuple #[.int .i64 (o.getD 0 : Nat), .bool o.isSome]
/-- Takes answers, at any later world -/
def TakesOk (w0 : World) (y : Stp) : Prop := ∀ w2, Below w0.heap.size w0 w2 → Calls Tryz.prog 25 #[.agg #[.int .u8 y.kind, .string ⟨y.text.toArray⟩, .int .i64 y.num]] w2 fun e w' => e = .returned (takesQ (takes y)) ∧ Below w2.heap.size w2 w'
/-- what a step comes to -/
def StepGave (w0 : World) (B bm n : Nat) (pv : Value) (r : Option Hts) (e : Ending) (w' : World) : Prop := match r with
  | none => e = .returned (.bool false) ∧ Below w0.heap.size w0 w'
  | some hs' => e = .returned (.bool true) ∧ ∃ m, m ≤ n + 2 ∧ ChkM w0 w' B bm m pv hs'
theorem ins_at {w0 w : World} {pv : Value} {p : List Ins} (h : InsIn w0 pv p) (hb : Below w0.heap.size w0 w) (i : Nat) (hi : i < p.length) : ∃ g o c, pv = .slice (some ⟨g, o, none⟩) p.length c ∧ p.length ≤ c ∧ InsCells w g (o + i * 5) p[i] := by
  obtain ⟨a, n, c, rfl, rfl, hc, hj⟩ := h
  obtain ⟨g, o, rfl, hcl⟩ := hj i hi
  exact ⟨g, o, c, rfl, hc, hcl.below hb⟩

attribute [local go_sem high] ins_equal
set_option maxHeartbeats 2000000 in
set_option maxRecDepth 100000 in
theorem step_none (w0 w : World) (B bm n : Nat) (pv : Value) (hs : Hts) (p : List Ins) (i : Nat) (H : ChkM w0 w B bm n pv hs) (hp : InsIn w0 pv p) (hi : i < p.length) (hi2 : p.length ≤ 1000000) (hh : hs i = none) :
    Calls Tryz.prog 42 #[.pointer (some ⟨B, 0, none⟩), .int .i64 i] w fun e w' => e = .returned (.bool false) ∧ Below w0.heap.size w0 w' := by
  have HM := Lib.hid H
  obtain ⟨g, o, c, rfl, hc, hcl⟩ := ins_at hp H.bel i hi
  have hg := hcl.lt
  obtain ⟨q0, q1, q2, q3, q4⟩ := hcl
  obtain ⟨⟨c0, c1⟩, -⟩ := twoB H.blk
  have hB := ltH H.blk
  have Hi := Lib.hid hi
  have hi3 : (i : Int) < p.length := by omega
  generalize p[i] = x at *
  generalize p.length = N at *
  have Hkey := Lib.hid (keyOf_int_mk (P := Tryz.prog) (k := 3) Tryz.underlying3 (a := (i : Int)) (WalkArith.wf_i64 (by omega)))
  have H1 := Lib.hid (HM.out.step (allocB w (.cells #[.int .u8 x.op, .int .u8 x.st.kind, .string ⟨x.st.text.toArray⟩, .int .i64 x.st.num, .int .i64 x.to] 36)))
  obtain ⟨D, hown, hD⟩ := H1.out.map
  have Hown := Lib.hid hown
  have Hhas := Lib.hid (hD.hasK i)
  rw [hh] at Hhas
  clear H hp hown hD
  go_enter Tryz.func42, Tryz.ntmps42
  go_wp2_with (at_lookup; refine wpList_lookup_own_ok_int _ rfl _ _ 69 rfl 3 3 .i64 keyI Tryz.underlying69 Tryz.underlying3 (zeroH _) bm n D rfl Hown.out _ _ rfl Hkey.out ?_; intro c hat hwc; rw [Hhas.out])
  go_ret
  exact ⟨rfl, H1.out.bel⟩

/-- the two blocks of a step, and the checker -/
structure StM (w0 w wx : World) (B bm n : Nat) (pv : Value) (hs : Hts) (x z : Ins) : Prop where
  c1 : wx.heap[w.heap.size]? = some (.cells #[.int .u8 x.op, .int .u8 x.st.kind, .string ⟨x.st.text.toArray⟩, .int .i64 x.st.num, .int .i64 x.to] 36)
  c2 : wx.heap[w.heap.size + 1]? = some (.cells #[.int .u8 z.op, .int .u8 z.st.kind, .string ⟨z.st.text.toArray⟩, .int .i64 z.st.num, .int .i64 z.to] 36)
  chk : ChkM w0 wx B bm n pv hs
  lt : B < w.heap.size ∧ bm < w.heap.size
theorem StM.step {w0 w wx w' : World} {B bm n : Nat} {pv : Value} {hs : Hts} {x z : Ins} (h : StM w0 w wx B bm n pv hs x z) (hb : Below wx.heap.size wx w') : StM w0 w w' B bm n pv hs x z :=
  ⟨(hb.block _ (ltH h.c1)).trans h.c1, (hb.block _ (ltH h.c2)).trans h.c2, h.chk.step hb, h.lt⟩
theorem StM.start {w0 w : World} {B bm n : Nat} {pv : Value} {hs : Hts} (h : ChkM w0 w B bm n pv hs) (x : Ins) : StM w0 w ((w.alloc (.cells #[.int .u8 x.op, .int .u8 x.st.kind, .string ⟨x.st.text.toArray⟩, .int .i64 x.st.num, .int .i64 x.to] 36)).alloc (.cells #[.int .u8 x.op, .int .u8 0, .string ⟨#[]⟩, .int .i64 0, .int .i64 0] 36)) B bm n pv hs x ⟨x.op, ⟨0, [], 0⟩, 0⟩ := by
  have hb := allocB (w.alloc (.cells #[.int .u8 x.op, .int .u8 x.st.kind, .string ⟨x.st.text.toArray⟩, .int .i64 x.st.num, .int .i64 x.to] 36)) (.cells #[.int .u8 x.op, .int .u8 0, .string ⟨#[]⟩, .int .i64 0, .int .i64 0] 36)
  refine ⟨(hb.block _ (by simp)).trans (heap_alloc_new _ _), ?_, (h.step (allocB w _)).step hb, ltH h.blk, ?_⟩
  · have := heap_alloc_new (w.alloc (.cells #[.int .u8 x.op, .int .u8 x.st.kind, .string ⟨x.st.text.toArray⟩, .int .i64 x.st.num, .int .i64 x.to] 36)) (.cells #[.int .u8 x.op, .int .u8 0, .string ⟨#[]⟩, .int .i64 0, .int .i64 0] 36)
    rw [show (w.alloc (.cells #[.int .u8 x.op, .int .u8 x.st.kind, .string ⟨x.st.text.toArray⟩, .int .i64 x.st.num, .int .i64 x.to] 36)).heap.size = w.heap.size + 1 by simp] at this
    exact this
  · obtain ⟨D, ⟨es, clock, hb, _⟩, _⟩ := h.map
    exact ltH hb
/-- the bare one is stored -/
theorem ChkM.set {w0 w : World} {B bm n b i : Nat} {pv : Value} {hs : Hts} (h : ChkM w0 w B bm n pv hs) (hB : B ≠ b) (hbm : bm ≠ b) (hlow : w0.heap.size ≤ b) (v : Value) : ChkM w0 (w.setCell ⟨b, i, none⟩ v) B bm n pv hs := by
  obtain ⟨D, h1, h2⟩ := h.map
  exact ⟨(Below.heap_setCell _ _ _ _ hB).trans h.blk, ⟨D, h1.setCell hbm v, h2⟩, h.bel.setCell hlow v, h.lowB, h.lowM, h.ne⟩
theorem StM.set {w0 w wx : World} {B bm n : Nat} {pv : Value} {hs : Hts} {x z : Ins} (h : StM w0 w wx B bm n pv hs x z) (z' : Ins) (i : Nat) (v : Value)
    (e : (#[.int .u8 z.op, .int .u8 z.st.kind, .string ⟨z.st.text.toArray⟩, .int .i64 z.st.num, .int .i64 z.to] : Array Value).setIfInBounds i v = #[.int .u8 z'.op, .int .u8 z'.st.kind, .string ⟨z'.st.text.toArray⟩, .int .i64 z'.st.num, .int .i64 z'.to]) :
    StM w0 w (wx.setCell ⟨w.heap.size + 1, i, none⟩ v) B bm n pv hs x z' := by
  have hl := h.lt
  have hw := h.chk.lowB
  refine ⟨(Below.heap_setCell _ _ _ _ (show w.heap.size ≠ w.heap.size + 1 by omega)).trans h.c1, ?_, h.chk.set (by omega) (by omega) (by omega) v, hl⟩
  have hc := h.c2
  simp only [World.setCell, Array.getElem?_modify, if_true, hc, Option.map_some, ← e]
  rfl

set_option maxHeartbeats 4000000 in
set_option maxRecDepth 100000 in
theorem step_one (w0 w : World) (B bm n h : Nat) (pv : Value) (hs : Hts) (p : List Ins) (i : Nat) (H : ChkM w0 w B bm n pv hs) (hp : InsIn w0 pv p) (hi : i < p.length) (hi2 : p.length ≤ 1000000) (hn : n ≤ 900000) (hK : h ≤ 900000) (hh : hs i = some h)
    (ho : p[i].op = 1) (HT : TakesOk w0 p[i].st) :
    Calls Tryz.prog 42 #[.pointer (some ⟨B, 0, none⟩), .int .i64 i] w (StepGave w0 B bm n pv (stepK p.length i p[i] hs)) := by
  have HM := Lib.hid H
  have Hw0 := Lib.hid HT
  obtain ⟨g, o, c, rfl, hc, hcl⟩ := ins_at hp H.bel i hi
  have hg := hcl.lt
  obtain ⟨q0, q1, q2, q3, q4⟩ := hcl
  obtain ⟨⟨c0, c1⟩, -⟩ := twoB H.blk
  have hB := ltH H.blk
  have hi3 : (i : Int) < p.length := by omega
  have Hsk := Lib.hid (show stepK p.length i p[i] hs = match takes p[i].st with
      | none => none
      | some k => if p[i].st.kind < 21 ∧ p[i].to = 0 ∧ k ≤ h then hs.come (i + 1) (h - k + 1) else none by
    unfold stepK
    rw [hh]
    simp only
    rw [if_pos ho]
    cases takes p[i].st <;> rfl)
  generalize p[i] = x at *
  generalize p.length = N at *
  obtain ⟨op, st, to⟩ := x
  simp only at ho
  subst ho
  simp only [Int.natCast_one] at *
  have Hkey := Lib.hid (keyOf_int_mk (P := Tryz.prog) (k := 3) Tryz.underlying3 (a := (i : Int)) (WalkArith.wf_i64 (by omega)))
  have H1 := Lib.hid (HM.out.step (allocB w (.cells #[.int .u8 1, .int .u8 st.kind, .string ⟨st.text.toArray⟩, .int .i64 st.num, .int .i64 to] 36)))
  obtain ⟨D, hown, hD⟩ := H1.out.map
  have Hown := Lib.hid hown
  have Hhas := Lib.hid (hD.hasK i)
  have Hat := Lib.hid (show ∀ c : Int, D.atKey (.int .i64 (i : Int)) (.lit (.int .i64 0)) = .lit (.int .i64 c) → c = (h : Int) from fun c hc => by
    rw [hD.atK i, hh] at hc
    simp only [Option.getD_some, DataW.lit.injEq, Lit.int.injEq, true_and] at hc
    exact hc.symm)
  rw [hh] at Hhas
  have Hst := Lib.hid (StM.start H ⟨1, st, to⟩)
  have Htk := Lib.hid (HT _ Hst.out.chk.bel)
  clear H hp hown hD HT
  go_enter Tryz.func42, Tryz.ntmps42
  go_wp2_with (first | (at_lookup; refine wpList_lookup_own_ok_int _ rfl _ _ 69 rfl 3 3 .i64 keyI Tryz.underlying69 Tryz.underlying3 (zeroH _) bm n D rfl Hown.out _ _ rfl Hkey.out ?_; intro c hat hwc; rw [Hhas.out]; obtain rfl := Hat.out c hat; clear hat hwc))
  refine Htk.out.mono ?_
  rintro e w2 ⟨rfl, hb2⟩
  have Hst2 := Lib.hid (Hst.out.step hb2)
  obtain ⟨⟨k0, k1, k2, k3, k4⟩, -⟩ := fiveB Hst2.out.c1
  obtain ⟨⟨z0, z1, z2, z3, z4⟩, y0, y1, y2, y3, y4⟩ := fiveB Hst2.out.c2
  clear hb2 c0 c1 q0 q1 q2 q3 q4
  have Hst3 := Lib.hid (((Hst2.out.set ⟨1, ⟨st.kind, [], 0⟩, 0⟩ 1 (.int .u8 st.kind) rfl).set ⟨1, ⟨st.kind, st.text, 0⟩, 0⟩ 2 (.string ⟨st.text.toArray⟩) rfl).set ⟨1, st, 0⟩ 3 (.int .i64 st.num) rfl)
  cases ht : takes st with
  | none =>
    have HR := Lib.hid (show stepK N i ⟨1, st, to⟩ hs = none by rw [Hsk.out]; simp only [ht])
    unfold takesQ
    simp only [Option.getD_none, Option.isSome_none]
    clear ht
    go_wp2_with fail
    go_ret
    rw [HR.out]
    exact ⟨rfl, Hst3.out.chk.bel⟩
  | some k =>
    have hk := takes_le64 ht
    have Hk := Lib.hid (show stepK N i ⟨1, st, to⟩ hs = if st.kind < 21 ∧ to = 0 ∧ k ≤ h then hs.come (i + 1) (h - k + 1) else none by rw [Hsk.out]; simp only [ht])
    unfold takesQ
    simp only [Option.getD_some, Option.isSome_some]
    clear ht
    by_cases hkd : st.kind < 21
    · have hkd2 : ¬ (21 : Int) ≤ st.kind := by omega
      have hq := insQ_eq ⟨1, st, to⟩ ⟨1, st, 0⟩
      simp only [Int.natCast_one, Ins.mk.injEq, true_and] at hq
      by_cases hto : to = 0
      · subst hto
        rw [decide_eq_true rfl] at hq
        by_cases hkh : k ≤ h
        · have hkh2 : (k : Int) ≤ h := by omega
          have Hc := Lib.hid (come_calls w0 _ B bm n _ hs (i + 1) (h - k + 1) Hst3.out.chk (by omega) (by omega) (by omega))
          have HR := Lib.hid (show stepK N i ⟨1, st, 0⟩ hs = if comeB hs (i + 1) (h - k + 1) then some (fun j => if j = i + 1 then some (h - k + 1) else hs j) else none by rw [Hk.out, if_pos ⟨hkd, rfl, hkh⟩, come_eq])
          rw [show ((i + 1 : Nat) : Int) = (i : Int) + 1 by omega, show ((h - k + 1 : Nat) : Int) = (h : Int) - k + 1 by omega] at Hc
          go_wp2_with fail
          refine Hc.out.mono ?_
          rintro e w4 ⟨rfl, hst4, -⟩
          have Hst4 := Lib.hid hst4
          clear hst4
          generalize comeB hs (i + 1) (h - k + 1) = cb at *
          cases cb
          · go_wp2_with fail
            go_ret
            rw [HR.out]
            exact ⟨rfl, Hst4.out.bel⟩
          · go_wp2_with fail
            go_ret
            rw [HR.out]
            exact ⟨rfl, n + 1, by omega, Hst4.out⟩
        · have hkh2 : ¬ (k : Int) ≤ h := by omega
          have HR := Lib.hid (show stepK N i ⟨1, st, 0⟩ hs = none by rw [Hk.out, if_neg (by omega)])
          clear hkh
          go_wp2_with fail
          go_ret
          rw [HR.out]
          exact ⟨rfl, Hst3.out.chk.bel⟩
      · rw [decide_eq_false hto] at hq
        have HR := Lib.hid (show stepK N i ⟨1, st, to⟩ hs = none by rw [Hk.out, if_neg (by omega)])
        clear hto
        go_wp2_with fail
        go_ret
        rw [HR.out]
        exact ⟨rfl, Hst3.out.chk.bel⟩
    · have hkd2 : (21 : Int) ≤ st.kind := by omega
      have HR := Lib.hid (show stepK N i ⟨1, st, to⟩ hs = none by rw [Hk.out, if_neg (by omega)])
      clear hkd
      go_wp2_with fail
      go_ret
      rw [HR.out]
      exact ⟨rfl, Hst3.out.chk.bel⟩

end Go.Proofs.YtgehjklodphogaaGreatDoor.Cd
