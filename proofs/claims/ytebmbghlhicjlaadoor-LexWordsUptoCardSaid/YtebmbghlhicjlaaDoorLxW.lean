/- LexWords: the walk. -/
import Derived.Test.YtebmbghlhicjlaaDoorLxO
import Derived.Deep.RegionWith
namespace Go.Proofs.YtebmbghlhicjlaaDoor.Lx
open Go.RowKit

theorem flip_xor (c : UInt8) : ((c ^^^ 32).toNat : Int) = bits .xor .u8 c.toNat 32 := by
  revert c; refine all_u8 ?_; decide +kernel
theorem flip_small (c : UInt8) (h1 : 97 ≤ (c.toNat : Int)) (h2 : (c.toNat : Int) ≤ 122) : upB (c ^^^ 32) = upB c := by
  revert h1 h2; revert c; refine all_u8 ?_; decide +kernel
theorem flip_great (c : UInt8) (h1 : 65 ≤ (c.toNat : Int)) (h2 : (c.toNat : Int) ≤ 90) : upB (c ^^^ 32) = upB c := by
  revert h1 h2; revert c; refine all_u8 ?_; decide +kernel

structure FlipMem (s : ByteArray) (w wr : World) (B : Nat) (b : List UInt8) : Prop where
  bel : Below w.heap.size w wr
  big : w.heap.size ≤ B
  lt : B < wr.heap.size
  len : b.length = s.size
  grt : great b = great (L s)
  row : BytesAt wr B b
theorem FlipMem.set {s : ByteArray} {w wr : World} {B : Nat} {b : List UInt8} (h : FlipMem s w wr B b) {k : Nat} (hk : k < b.length) (hu : upB (b[k] ^^^ 32) = upB b[k]) :
    FlipMem s w (wr.setCell ⟨B, k, none⟩ (.int .u8 (bits .xor .u8 (b[k].toNat) 32))) B (b.set k (b[k] ^^^ 32)) where
  bel := h.bel.setCell h.big _
  big := h.big
  lt := by simpa using h.lt
  len := by simpa using h.len
  grt := (great_set hk hu).trans h.grt
  row := by
    have := h.row.set k (b[k] ^^^ 32) hk
    rw [flip_xor] at this
    exact this

theorem below_step {a b c : World} (h1 : Below a.heap.size a b) (h2 : Below b.heap.size b c) : Below a.heap.size a c := h1.trans (h2.mono h1.size)

set_option maxRecDepth 100000 in
set_option maxHeartbeats 4000000 in
theorem LexWords_calls (s : ByteArray) (f : Int) (w : World) (hs : s.size ≤ 1048576) (_hf0 : 0 ≤ f) (_hf1 : f < 4294967296) (he : Env w) :
    Calls Tryd.prog 6 #[.string s, .int .u32 f] w fun e w' => e = .returned (.bool true) ∧ Below w.heap.size w w' := by
  have He := Lib.hid he
  clear he
  go_enter Tryd.func6, Tryd.ntmps6
  go_wp2_with fail
  refine (lives_calls w He.out).mono ?_
  rintro e w0 ⟨rfl, hb0⟩
  obtain ⟨cap, w1, hcap, hconv, hb1, hsz1, hrow1⟩ := conv_bytes Tryd.prog 9 37 5 Tryd.underlying9 Tryd.underlying37 Tryd.underlying5 s w0
  have Hm := Lib.hid (FlipMem.mk (hb0.trans (hb1.mono hb0.size)) hb0.size (by omega) (L_length s) rfl hrow1)
  generalize w0.heap.size = B at *
  clear hb0 hb1 hsz1 hrow1
  go_wp2_with fail
  go_loopw [13] (fun i wr => ∃ k : Nat, ∃ b, k ≤ s.size ∧ i = .int .i64 k ∧ Hid (FlipMem s w wr B b)) (fun i _ => s.size - (intOf i).toNat)
  case atStart => exact ⟨0, L s, Nat.zero_le _, rfl, Hm⟩
  case round =>
    obtain ⟨k, b, hk, rfl, Hm⟩ := hrel
    by_cases hlt : k < s.size
    · have hlt' : k < b.length := by rw [Hm.out.len]; exact hlt
      have hck := (Hm.out.row k hlt').1
      have hcz := (Hm.out.row k hlt').2
      have Hs1 := Lib.hid (fun (h1 : 97 ≤ (b[k].toNat : Int)) (h2 : (b[k].toNat : Int) ≤ 122) => Hm.out.set hlt' (flip_small b[k] h1 h2))
      have Hs2 := Lib.hid (fun (h1 : 65 ≤ (b[k].toNat : Int)) (h2 : (b[k].toNat : Int) ≤ 90) => Hm.out.set hlt' (flip_great b[k] h1 h2))
      generalize hc : b[k] = c at *
      have Hc := Lib.hid hc
      clear hc
      go_wp2_with fail
      all_goals first
        | exact ⟨⟨k + 1, b, by omega, by go_num, Hm⟩, by simp [intOf]; omega⟩
        | exact ⟨⟨k + 1, b.set k (c ^^^ 32), by omega, by go_num, Hs1.out (by omega) (by omega)⟩, by simp [intOf]; omega⟩
        | exact ⟨⟨k + 1, b.set k (c ^^^ 32), by omega, by go_num, Hs2.out (by omega) (by omega)⟩, by simp [intOf]; omega⟩
    · obtain rfl : k = s.size := by omega
      have hback : ∀ W, Below wr.heap.size wr W → (convert 37 9 (.slice (some ⟨B, 0, none⟩) s.size cap)).run Tryd.prog W = .ok (.string ⟨b.toArray⟩) W := fun W hb =>
        conv_string Tryd.prog 37 9 5 Tryd.underlying37 Tryd.underlying9 Tryd.underlying5 W B s.size cap b Hm.out.len (Hm.out.row.below hb Hm.out.lt)
      have hk1 := fun W => Keyword_calls s W (by unfold maxLen; omega)
      have hk2 := fun W => Keyword_calls ⟨b.toArray⟩ W (by rw [size_mk, Hm.out.len]; unfold maxLen; omega)
      have hk3 := fun W => Keyword_calls (s ++ ⟨#[95]⟩) W (by rw [ByteArray.size_append]; show s.size + 1 ≤ _; unfold maxLen; omega)
      rw [L_mk, keyword_great Hm.out.grt] at hk2
      rw [show L (s ++ ⟨#[95]⟩) = L s ++ [95] by simp [L, ByteArray.data_append], keyword_more] at hk3
      have Hk1 := Lib.hid hk1
      have Hk2 := Lib.hid hk2
      have Hk3 := Lib.hid hk3
      clear hk1 hk2 hk3
      have hS0 : Below wr.heap.size wr wr.drew := (Below.refl _ _).drew
      have hcat : ¬ 9223372036854775807 < s.size + 1 := by omega
      cases hkey : keywordB (L s) with
      | true =>
        rw [hkey] at Hk1 Hk2
        clear hkey
        go_wp2_with fail
        first
        | go_region_with (first | (go_at_call 11; with_reducible refine (Hk1.out _).mono ?_; rintro e W6 ⟨rfl, hb6⟩; have hS6 : Below wr.heap.size wr W6 := below_step (by assumption) hb6) | (go_at_call 11; with_reducible refine (Hk2.out _).mono ?_; rintro e W6 ⟨rfl, hb6⟩; have hS6 : Below wr.heap.size wr W6 := below_step (by assumption) hb6) | (go_at_call 11; with_reducible refine (Hk3.out _).mono ?_; rintro e W6 ⟨rfl, hb6⟩; have hS6 : Below wr.heap.size wr W6 := below_step (by assumption) hb6))
        | fail
        all_goals
          go_wp2_with fail
          go_ret
          exact ⟨rfl, Hm.out.bel.trans ((by assumption : Below wr.heap.size wr _).mono Hm.out.bel.size)⟩
      | false =>
        rw [hkey] at Hk1 Hk2
        clear hkey
        go_wp2_with fail
        first
        | go_region_with (first | (go_at_call 11; with_reducible refine (Hk1.out _).mono ?_; rintro e W6 ⟨rfl, hb6⟩; have hS6 : Below wr.heap.size wr W6 := below_step (by assumption) hb6) | (go_at_call 11; with_reducible refine (Hk2.out _).mono ?_; rintro e W6 ⟨rfl, hb6⟩; have hS6 : Below wr.heap.size wr W6 := below_step (by assumption) hb6) | (go_at_call 11; with_reducible refine (Hk3.out _).mono ?_; rintro e W6 ⟨rfl, hb6⟩; have hS6 : Below wr.heap.size wr W6 := below_step (by assumption) hb6))
        | fail
        all_goals
          go_wp2_with fail
          go_ret
          exact ⟨rfl, Hm.out.bel.trans ((by assumption : Below wr.heap.size wr _).mono Hm.out.bel.size)⟩

end Go.Proofs.YtebmbghlhicjlaaDoor.Lx
