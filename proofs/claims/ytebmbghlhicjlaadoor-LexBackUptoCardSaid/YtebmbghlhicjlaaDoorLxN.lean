/- Lists of tokens in memory; codicilref09.Same; lives. -/
import Derived.Test.YtebmbghlhicjlaaDoorLxK
import Derived.Laws.OwnMore
namespace Go.Proofs.YtebmbghlhicjlaaDoor.Lx
open Go.RowKit

theorem list_step {α : Type} {x y : List α} {i : Nat} (hx : i < x.length) (hy : i < y.length) (h : x.take i = y.take i) (e : x[i] = y[i]) : x.take (i + 1) = y.take (i + 1) := by
  rw [List.take_succ_eq_append_getElem hx, List.take_succ_eq_append_getElem hy, h, e]

attribute [local go_sem high] tok_equal
set_option maxRecDepth 100000 in
theorem same_n (a b : Option Addr) (x y : List Tok) (n m c d : Nat) (w : World) (hx : ToksIn w a x) (hy : ToksIn w b y) (hl : n ≤ maxLen) (hl2 : m ≤ maxLen) (hxn : x.length = n) (hym : y.length = m) :
    Calls Tryd.prog 10 #[.slice a n c, .slice b m d] w fun e w' => e = .returned (.bool (decide (x = y))) ∧ Below w.heap.size w w' := by
  unfold maxLen at hl hl2
  have Hx := Lib.hid hx
  have Hy := Lib.hid hy
  have Hxn := Lib.hid hxn
  have Hym := Lib.hid hym
  clear hx hy hxn hym
  by_cases hn : n = m
  · subst hn
    go_enter Tryd.func10, Tryd.ntmps10
    go_wp2_with fail
    go_loopw [13] (fun i wr => ∃ k : Nat, k ≤ n ∧ i = .int .i64 k ∧ Hid (Below w.heap.size w wr) ∧ Hid (x.take k = y.take k)) (fun i _ => n - (intOf i).toNat)
    case atStart => exact ⟨0, Nat.zero_le _, rfl, Below.refl _ _, rfl⟩
    case round =>
      obtain ⟨k, hk, rfl, Hb, Hk⟩ := hrel
      by_cases hlt : k < n
      · have hkx : k < x.length := by rw [Hxn.out]; exact hlt
        have hky : k < y.length := by rw [Hym.out]; exact hlt
        obtain ⟨g, rfl, c0, c1, c2, c3⟩ := (Hx.out.below Hb.out) k hkx
        obtain ⟨g', rfl, d0, d1, d2, d3⟩ := (Hy.out.below Hb.out) k hky
        have ht := tokB_eq x[k] y[k] x[k].pos y[k].pos
        have hstep := list_step hkx hky Hk.out
        generalize hxk : x[k] = xk at c0 c1 c2 c3 ht hstep
        generalize hyk : y[k] = yk at d0 d1 d2 d3 ht hstep
        have Hxk := Lib.hid hxk
        have Hyk := Lib.hid hyk
        clear hxk hyk
        by_cases he : xk = yk
        · rw [decide_eq_true (by exact he)] at ht
          have Hs := Lib.hid (hstep he)
          clear he hstep
          go_wp2_with fail
          go_quiet (fail)
          go_wp2_with fail
          go_roundw
          case rel => exact ⟨k + 1, by omega, by go_num, below_drewN Hb.out _, Hs⟩
          case measure => simp [intOf]; omega
        · rw [decide_eq_false (by exact he)] at ht
          have Hne := Lib.hid (show x ≠ y from fun h => by subst h; exact he (Hxk.out.symm.trans Hyk.out))
          clear he hstep
          go_wp2_with fail
          go_quiet (fail)
          go_wp2_with fail
          go_ret
          exact ⟨ret_bool (decide_eq_false Hne.out).symm, below_drewN Hb.out _⟩
      · have Hs := Lib.hid (show x = y by
          have := Hk.out
          have h1 := Hxn.out
          have h2 := Hym.out
          rwa [List.take_of_length_le (by omega), List.take_of_length_le (by omega)] at this)
        go_wp2_with fail
        go_ret
        exact ⟨ret_bool (decide_eq_true Hs.out).symm, Hb.out⟩
  · have Hne := Lib.hid (show x ≠ y from fun h => hn (by rw [← Hxn.out, ← Hym.out, h]))
    go_enter Tryd.func10, Tryd.ntmps10
    go_wp2_with fail
    go_ret
    exact ⟨ret_bool (decide_eq_false Hne.out).symm, Below.refl _ _⟩

end Go.Proofs.YtebmbghlhicjlaaDoor.Lx
