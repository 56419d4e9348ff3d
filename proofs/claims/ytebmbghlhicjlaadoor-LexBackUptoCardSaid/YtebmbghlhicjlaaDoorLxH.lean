/- The forms of tokens, and which one begins with a byte. -/
import Derived.Test.YtebmbghlhicjlaaDoorLxG
import Derived.Test.YtebmbghlhicjlaaDoorLxD
import Derived.Deep.QuietTactic
import Derived.BigQuiet
import Derived.BigRegion
import Derived.StillTailTactics
namespace Go.Proofs.YtebmbghlhicjlaaDoor.Lx
open Go.RowKit

theorem quiet_of_eq {P : Program} {f : FuncId} {args : Array Value} {w : World} {n : Nat} {v : Value}
    (h : Calls P f args (w.drewN n) fun e w' => e = .returned v ∧ w.drewN n = w') : Calls P f args (w.drewN n) fun e w'' => e = .returned v ∧ ∃ m, w'' = w.drewN m :=
  h.mono fun _ _ ⟨he, hm⟩ => ⟨he, n, hm.symm⟩

abbrev fnv (f : Nat) : Value := .func (.func f) #[] #[]
/-- the table of forms in memory -/
structure FormsAt (w : World) (B : Nat) : Prop where
  c0 : w.cell? ⟨B, 0, none⟩ = some (fnv 24)
  c1 : w.cell? ⟨B, 1, none⟩ = some (fnv 25)
  c2 : w.cell? ⟨B, 2, none⟩ = some (fnv 26)
  c3 : w.cell? ⟨B, 3, none⟩ = some (fnv 27)
  c4 : w.cell? ⟨B, 4, none⟩ = some (fnv 28)
  c5 : w.cell? ⟨B, 5, none⟩ = some (fnv 29)
  c6 : w.cell? ⟨B, 6, none⟩ = some (fnv 30)
  c7 : w.cell? ⟨B, 7, none⟩ = some (fnv 31)
theorem FormsAt.below {w w' : World} {B : Nat} (h : FormsAt w B) (hb : Below w.heap.size w w') (hB : B < w.heap.size) : FormsAt w' B :=
  ⟨(hb.cell (p := ⟨B, 0, none⟩) hB).trans h.c0, (hb.cell (p := ⟨B, 1, none⟩) hB).trans h.c1, (hb.cell (p := ⟨B, 2, none⟩) hB).trans h.c2, (hb.cell (p := ⟨B, 3, none⟩) hB).trans h.c3, (hb.cell (p := ⟨B, 4, none⟩) hB).trans h.c4, (hb.cell (p := ⟨B, 5, none⟩) hB).trans h.c5, (hb.cell (p := ⟨B, 6, none⟩) hB).trans h.c6, (hb.cell (p := ⟨B, 7, none⟩) hB).trans h.c7⟩

theorem forms_calls (w : World) : Calls Tryd.prog 14 #[] w fun e w' => e = .returned (.slice (some ⟨w.heap.size, 0, none⟩) 4 4) ∧ Below w.heap.size w w' ∧ w.heap.size < w'.heap.size ∧ FormsAt w' w.heap.size := by
  go_enter Tryd.func14, Tryd.ntmps14
  go_wp2
  go_ret
  refine ⟨rfl, (Below.refl _ _).alloc (Nat.le_refl _) _, by simp, ?_⟩
  constructor <;> (rw [World.cell?_alloc_new]; rfl)

theorem begins_letter (rd : Value) (s : ByteArray) (k : Nat) (hk : k < s.size) (ps pa : Addr) (w : World) (hs0 : w.cell? ps = some (.string s)) (ha0 : w.cell? pa = some (.int .i64 k)) :
    Calls Tryd.prog 18 #[.agg #[fnv 24, rd], .pointer (some ps), .pointer (some pa)] w fun e w' => e = .returned (.bool (letterB s[k])) ∧ Below w.heap.size w w' := by
  have hs := (World.cell?_alloc_lt w (.cells #[fnv 24, rd] 48) ps (World.block_lt_of_cell? w ps hs0)).trans hs0
  have ha := (World.cell?_alloc_lt w (.cells #[fnv 24, rd] 48) pa (World.block_lt_of_cell? w pa ha0)).trans ha0
  clear hs0 ha0
  go_enter Tryd.func18, Tryd.ntmps18
  go_wp2
  go_quiet ((go_at_call 24; exact quiet_of_eq (letter_calls _ _)))
  go_wp2
  go_ret
  exact ⟨rfl, below_drewN ((Below.refl _ _).alloc (Nat.le_refl _) _) _⟩

theorem begins_digit (rd : Value) (s : ByteArray) (k : Nat) (hk : k < s.size) (ps pa : Addr) (w : World) (hs0 : w.cell? ps = some (.string s)) (ha0 : w.cell? pa = some (.int .i64 k)) :
    Calls Tryd.prog 18 #[.agg #[fnv 26, rd], .pointer (some ps), .pointer (some pa)] w fun e w' => e = .returned (.bool (digitB s[k])) ∧ Below w.heap.size w w' := by
  have hs := (World.cell?_alloc_lt w (.cells #[fnv 26, rd] 48) ps (World.block_lt_of_cell? w ps hs0)).trans hs0
  have ha := (World.cell?_alloc_lt w (.cells #[fnv 26, rd] 48) pa (World.block_lt_of_cell? w pa ha0)).trans ha0
  clear hs0 ha0
  go_enter Tryd.func18, Tryd.ntmps18
  go_wp2
  go_quiet ((go_at_call 26; exact quiet_of_eq (digit_calls _ _)))
  go_wp2
  go_ret
  exact ⟨rfl, below_drewN ((Below.refl _ _).alloc (Nat.le_refl _) _) _⟩

theorem begins_quote (rd : Value) (s : ByteArray) (k : Nat) (hk : k < s.size) (ps pa : Addr) (w : World) (hs0 : w.cell? ps = some (.string s)) (ha0 : w.cell? pa = some (.int .i64 k)) :
    Calls Tryd.prog 18 #[.agg #[fnv 28, rd], .pointer (some ps), .pointer (some pa)] w fun e w' => e = .returned (.bool (quoteB s[k])) ∧ Below w.heap.size w w' := by
  have hs := (World.cell?_alloc_lt w (.cells #[fnv 28, rd] 48) ps (World.block_lt_of_cell? w ps hs0)).trans hs0
  have ha := (World.cell?_alloc_lt w (.cells #[fnv 28, rd] 48) pa (World.block_lt_of_cell? w pa ha0)).trans ha0
  clear hs0 ha0
  go_enter Tryd.func18, Tryd.ntmps18
  go_wp2
  go_quiet ((go_at_call 28; exact quiet_of_eq (quote_calls _ _)))
  go_wp2
  go_ret
  exact ⟨rfl, below_drewN ((Below.refl _ _).alloc (Nat.le_refl _) _) _⟩

theorem begins_any (rd : Value) (s : ByteArray) (k : Nat) (hk : k < s.size) (ps pa : Addr) (w : World) (hs0 : w.cell? ps = some (.string s)) (ha0 : w.cell? pa = some (.int .i64 k)) :
    Calls Tryd.prog 18 #[.agg #[fnv 30, rd], .pointer (some ps), .pointer (some pa)] w fun e w' => e = .returned (.bool true) ∧ Below w.heap.size w w' := by
  have hs := (World.cell?_alloc_lt w (.cells #[fnv 30, rd] 48) ps (World.block_lt_of_cell? w ps hs0)).trans hs0
  have ha := (World.cell?_alloc_lt w (.cells #[fnv 30, rd] 48) pa (World.block_lt_of_cell? w pa ha0)).trans ha0
  clear hs0 ha0
  go_enter Tryd.func18, Tryd.ntmps18
  go_wp2
  go_quiet ((go_at_call 30; exact quiet_of_eq (any_calls _ _)))
  go_wp2
  go_ret
  exact ⟨rfl, below_drewN ((Below.refl _ _).alloc (Nat.le_refl _) _) _⟩


def beginsB : Nat → UInt8 → Bool
  | 0, c => letterB c
  | 1, c => digitB c
  | 2, c => quoteB c
  | _, _ => true
def formIdx (c : UInt8) : Nat := if letterB c then 0 else if digitB c then 1 else if quoteB c then 2 else 3
structure Idx (k : Nat) (c : UInt8) : Prop where
  le : k ≤ 3
  no : ∀ j, j < k → beginsB j c = false
theorem Idx.hit {k : Nat} {c : UInt8} (h : Idx k c) (hb : beginsB k c = true) : formIdx c = k := by
  have hle := h.le
  have h0 := h.no 0
  have h1 := h.no 1
  have h2 := h.no 2
  simp only [beginsB] at h0 h1 h2
  unfold formIdx
  match k, hle with
  | 0, _ => simp only [beginsB] at hb; simp [hb]
  | 1, _ => simp only [beginsB] at hb; simp [hb, h0]
  | 2, _ => simp only [beginsB] at hb; simp [hb, h0, h1]
  | 3, _ => simp [h0, h1, h2]
theorem Idx.miss {k : Nat} {c : UInt8} (h : Idx k c) (hb : beginsB k c = false) : Idx (k + 1) c := by
  refine ⟨?_, fun j hj => ?_⟩
  · have := h.le
    rcases Nat.lt_or_ge k 3 with h' | h'
    · omega
    · obtain rfl : k = 3 := by omega
      simp [beginsB] at hb
  · by_cases e : j = k
    · subst e; exact hb
    · exact h.no j (by omega)

structure IdxSt (s : ByteArray) (at_ : Nat) (B : Nat) (ps pa : Addr) (w wr : World) : Prop where
  bel : Below w.heap.size w wr
  frm : FormsAt wr B
  big : B < w.heap.size
  str : wr.cell? ps = some (.string s)
  pos : wr.cell? pa = some (.int .i64 at_)
theorem IdxSt.next {s : ByteArray} {at_ B : Nat} {ps pa : Addr} {w wr w' : World} (h : IdxSt s at_ B ps pa w wr) (hb : Below wr.heap.size wr w') : IdxSt s at_ B ps pa w w' :=
  ⟨h.bel.trans (hb.mono h.bel.size), h.frm.below hb (Nat.lt_of_lt_of_le h.big h.bel.size), h.big, (hb.cell (World.block_lt_of_cell? _ _ h.str)).trans h.str, (hb.cell (World.block_lt_of_cell? _ _ h.pos)).trans h.pos⟩

set_option maxHeartbeats 1000000 in
set_option maxRecDepth 100000 in
theorem indexFunc_calls (s : ByteArray) (k : Nat) (hk : k < s.size) (B : Nat) (ps pa : Addr) (w : World) (h : IdxSt s k B ps pa w w) :
    Calls Tryd.prog 17 #[.slice (some ⟨B, 0, none⟩) 4 4, .func (.func 18) #[] #[.pointer (some ps), .pointer (some pa)]] w
      fun e w' => e = .returned (.int .i64 (formIdx s[k])) ∧ Below w.heap.size w w' := by
  have H0 := Lib.hid h
  clear h
  go_enter Tryd.func17, Tryd.ntmps17
  go_wp2
  go_loopw [8] (fun v wr => ∃ j : Nat, v = .int .i64 j ∧ Hid (Idx j s[k]) ∧ Hid (IdxSt s k B ps pa w wr)) (fun v _ => 4 - (intOf v).toNat)
  case atStart => exact ⟨0, rfl, ⟨by omega, fun j h => absurd h (Nat.not_lt_zero _)⟩, H0.out⟩
  case round =>
    obtain ⟨j, rfl, hi, hst⟩ := hrel
    have hle := hi.out.le
    rcases (show j = 0 ∨ j = 1 ∨ j = 2 ∨ j = 3 by omega) with rfl | rfl | rfl | rfl
    · have hc := hst.out.frm.c0
      have hd := hst.out.frm.c1
      cases hp : letterB s[k]
      · go_wp2_with fail
        refine (begins_letter _ s k hk ps pa _ hst.out.str hst.out.pos).mono ?_
        rintro e w1 ⟨rfl, hb1⟩
        have Hb1 := Lib.hid hb1
        have Hm := Lib.hid (hi.out.miss hp)
        clear hb1
        go_wp2_with fail
        go_roundw
        case rel => exact ⟨0 + 1, rfl, Hm.out, hst.out.next Hb1.out⟩
        case measure => simp [intOf]
      · go_wp2_with fail
        refine (begins_letter _ s k hk ps pa _ hst.out.str hst.out.pos).mono ?_
        rintro e w1 ⟨rfl, hb1⟩
        have Hb1 := Lib.hid hb1
        have Hh := Lib.hid (hi.out.hit hp)
        clear hb1
        go_wp2_with fail
        go_ret
        exact ⟨ret_int (by rw [Hh.out]; rfl), hst.out.bel.trans (Hb1.out.mono hst.out.bel.size)⟩
    · have hc := hst.out.frm.c2
      have hd := hst.out.frm.c3
      cases hp : digitB s[k]
      · go_wp2_with fail
        refine (begins_digit _ s k hk ps pa _ hst.out.str hst.out.pos).mono ?_
        rintro e w1 ⟨rfl, hb1⟩
        have Hb1 := Lib.hid hb1
        have Hm := Lib.hid (hi.out.miss hp)
        clear hb1
        go_wp2_with fail
        go_roundw
        case rel => exact ⟨1 + 1, rfl, Hm.out, hst.out.next Hb1.out⟩
        case measure => simp [intOf]
      · go_wp2_with fail
        refine (begins_digit _ s k hk ps pa _ hst.out.str hst.out.pos).mono ?_
        rintro e w1 ⟨rfl, hb1⟩
        have Hb1 := Lib.hid hb1
        have Hh := Lib.hid (hi.out.hit hp)
        clear hb1
        go_wp2_with fail
        go_ret
        exact ⟨ret_int (by rw [Hh.out]; rfl), hst.out.bel.trans (Hb1.out.mono hst.out.bel.size)⟩
    · have hc := hst.out.frm.c4
      have hd := hst.out.frm.c5
      cases hp : quoteB s[k]
      · go_wp2_with fail
        refine (begins_quote _ s k hk ps pa _ hst.out.str hst.out.pos).mono ?_
        rintro e w1 ⟨rfl, hb1⟩
        have Hb1 := Lib.hid hb1
        have Hm := Lib.hid (hi.out.miss hp)
        clear hb1
        go_wp2_with fail
        go_roundw
        case rel => exact ⟨2 + 1, rfl, Hm.out, hst.out.next Hb1.out⟩
        case measure => simp [intOf]
      · go_wp2_with fail
        refine (begins_quote _ s k hk ps pa _ hst.out.str hst.out.pos).mono ?_
        rintro e w1 ⟨rfl, hb1⟩
        have Hb1 := Lib.hid hb1
        have Hh := Lib.hid (hi.out.hit hp)
        clear hb1
        go_wp2_with fail
        go_ret
        exact ⟨ret_int (by rw [Hh.out]; rfl), hst.out.bel.trans (Hb1.out.mono hst.out.bel.size)⟩
    · have hc := hst.out.frm.c6
      have hd := hst.out.frm.c7
      · go_wp2_with fail
        refine (begins_any _ s k hk ps pa _ hst.out.str hst.out.pos).mono ?_
        rintro e w1 ⟨rfl, hb1⟩
        have Hb1 := Lib.hid hb1
        have Hh := Lib.hid (hi.out.hit rfl)
        clear hb1
        go_wp2_with fail
        go_ret
        exact ⟨ret_int (by rw [Hh.out]; rfl), hst.out.bel.trans (Hb1.out.mono hst.out.bel.size)⟩
end Go.Proofs.YtebmbghlhicjlaaDoor.Lx
