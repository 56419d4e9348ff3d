/- Parts: PcC PcD PcE PbF PcF. -/
import Derived.Test.YtcjmhmmjfgjcnaaGreatDoorMa20
import Derived.Test.YtcjmhmmjfgjcnaaGreatDoorMa25
import Derived.Test.YtcjmhmmjfgjcnaaGreatDoorMa33
import Derived.Test.YtcjmhmmjfgjcnaaGreatDoorMa35
import Derived.RegionTactic
import Derived.Deep.RegionWith
import Derived.Deep.RegionHeld3
import Derived.Deep.RegionLawGrows

/- parse: joined. -/
namespace Go.Proofs.YtcjmhmmjfgjcnaaGreatDoor.Pa
open Go.RowKit Go.Proofs.YtcjmhmmjfgjcnaaGreatDoor.Lx

/-- a slice that reads as texts, wherever it begins -/
def TxtsIn (w : World) (v : Value) (l : List Txt) : Prop := ∃ (a : Option Addr) (n c : Nat), v = .slice a n c ∧ l.length = n ∧ n ≤ c ∧ ∀ (j : Nat) (h : j < l.length), ∃ g o, a = some ⟨g, o, none⟩ ∧ w.cell? ⟨g, o + j, none⟩ = some (.string ⟨l[j].toArray⟩)
theorem TxtsIn.below {w w' : World} {v : Value} {l : List Txt} (h : TxtsIn w v l) (hb : Below w.heap.size w w') : TxtsIn w' v l := by
  obtain ⟨a, n, c, rfl, hn, hc, hj⟩ := h
  refine ⟨a, n, c, rfl, hn, hc, fun i hi => ?_⟩
  obtain ⟨g, o, e, hcl⟩ := hj i hi
  have hg : g < w.heap.size := World.block_lt_of_cell? _ _ hcl
  exact ⟨g, o, e, (hb.cell (p := ⟨g, _, none⟩) hg).trans hcl⟩
theorem TxtsIn.own {w : World} {base : Nat} {v : Value} {l : List Txt} (h : OwnStrs w base v l) : TxtsIn w v l := by
  have h' : w.ownsRow base 9 1 v l.length (strsC l) := h
  rcases h'.2 with ⟨rfl, h0⟩ | ⟨g, cap, cur, e, _, h2, h3, _⟩
  · exact ⟨none, 0, 0, rfl, h0, Nat.le_refl _, fun i hi => by omega⟩
  · subst e
    refine ⟨_, _, _, rfl, rfl, h3, fun i hi => ⟨g, 0, rfl, ?_⟩⟩
    rw [World.ownsRow.cellAt h' _ (by omega), Nat.zero_add]
    simp [strsC, List.getElem?_eq_getElem hi]

theorem ba_data (l : List Txt) : (l.map fun x => (⟨x.toArray⟩ : ByteArray)).map (·.data.toList) = l := by
  rw [List.map_map]
  conv => rhs; rw [← List.map_id l]
  exact List.map_congr_left fun x _ => rfl
theorem join_calls (l : List Txt) (sep : Txt) (v : Value) (w : World) (h : TxtsIn w v l) (hl : (Lib.join l sep).length ≤ 140737488355328) (hn : l.length ≤ 140737488355328) :
    Calls Tryz.prog 51 #[v, .string ⟨sep.toArray⟩] w fun e w' => e = .returned (.string ⟨(Lib.join l sep).toArray⟩) ∧ Below w.heap.size w w' := by
  obtain ⟨a, n, c, rfl, rfl, hc, hj⟩ := h
  cases l with
  | nil =>
    refine (Tryz.strings_Join_none a c ⟨sep.toArray⟩ w).mono ?_
    rintro e w' ⟨rfl, rfl⟩
    exact ⟨rfl, Below.refl _ _⟩
  | cons x r =>
    obtain ⟨g, o, rfl, h0⟩ := hj 0 (by simp)
    have hb := ba_data (x :: r)
    have hlen : ((x :: r).map fun x => (⟨x.toArray⟩ : ByteArray)).length = (x :: r).length := by simp
    have key := Tryz.strings_Join g o c ((x :: r).map fun x => (⟨x.toArray⟩ : ByteArray)) ⟨sep.toArray⟩ w (fun j y hy => by
      rw [List.getElem?_map, Option.map_eq_some_iff] at hy
      obtain ⟨z, hz, rfl⟩ := hy
      obtain ⟨hlt, rfl⟩ := List.getElem?_eq_some_iff.1 hz
      obtain ⟨g', o', e', hcl⟩ := hj j hlt
      simp only [Option.some.injEq, Addr.mk.injEq, and_true] at e'
      obtain ⟨rfl, rfl⟩ := e'
      exact hcl) (World.block_lt_of_cell? _ _ h0) (by rw [hlen]; exact hn) (by rw [hlen]; exact hc) (by rw [hb]; exact hl)
    rw [hb, hlen] at key
    exact key

/-! ### a struct's fields -/
theorem fieldsT_get : ∀ (l r : List Txt) (j : Nat) (h1 : j < l.length) (h2 : j < r.length), (fieldsT l r)[j]? = some (r[j] ++ [58, 32] ++ l[j])
  | [], _, j, h, _ => absurd h (Nat.not_lt_zero _)
  | x :: l, [], j, _, h => absurd h (Nat.not_lt_zero _)
  | x :: l, n :: r, 0, _, _ => rfl
  | x :: l, n :: r, j + 1, h1, h2 => by
    have := fieldsT_get l r j (by simpa using h1) (by simpa using h2)
    simpa [fieldsT] using this
theorem fieldsT_length : ∀ (l r : List Txt), l.length ≤ r.length → (fieldsT l r).length = l.length
  | [], _, _ => by simp [fieldsT]
  | x :: l, [], h => by simp at h
  | x :: l, n :: r, h => by
    have := fieldsT_length l r (by simpa using h)
    simp [fieldsT, this]
theorem fieldsT_snoc {l r : List Txt} {j : Nat} (h1 : j < l.length) (h2 : l.length ≤ r.length) : (fieldsT l r).take (j + 1) = (fieldsT l r).take j ++ [r[j] ++ [58, 32] ++ l[j]] := by
  rw [List.take_add_one, fieldsT_get l r j h1 (by omega)]
  rfl
theorem threeC {w : World} {B : Nat} {a b c : Value} {T : TypeId} (h : w.heap[B]? = some (.cells #[a, b, c] T)) :
    (w.cell? ⟨B, 0, none⟩ = some a ∧ w.cell? ⟨B, 1, none⟩ = some b ∧ w.cell? ⟨B, 2, none⟩ = some c) ∧ (w.frozen? ⟨B, 0, none⟩ = false ∧ w.frozen? ⟨B, 1, none⟩ = false ∧ w.frozen? ⟨B, 2, none⟩ = false) := by
  simp [World.cell?, World.frozen?, h]
theorem stp_start (w : World) (y : Stp) : (w.alloc (.cells #[.int .u8 y.kind, .string ⟨y.text.toArray⟩, .int .i64 y.num] 48)).heap[w.heap.size]? = some (.cells #[.int .u8 y.kind, .string ⟨y.text.toArray⟩, .int .i64 y.num] 48) := heap_alloc_new _ _

structure JoinSt (w wr : World) (y : Stp) (out : Value) (xs : List Txt) : Prop where
  bel : Below w.heap.size w wr
  blk : wr.heap[w.heap.size]? = some (.cells #[.int .u8 y.kind, .string ⟨y.text.toArray⟩, .int .i64 y.num] 48)
  own : OwnStrs wr (w.heap.size + 1) out xs
theorem JoinSt.step {w wr w' : World} {y : Stp} {out : Value} {xs : List Txt} (h : JoinSt w wr y out xs) (hb : Below wr.heap.size wr w') : JoinSt w w' y out xs :=
  ⟨h.bel.trans (hb.mono h.bel.size), (hb.block _ (lt_of_heap h.blk)).trans h.blk, own_same h.own fun g _ hg => hb.block g hg⟩

/-- a text more -/
theorem JoinSt.more {w wr w' : World} {y : Stp} {out out' : Value} {xs ys : List Txt} {cs : List Value} {n : Nat} (h : JoinSt w wr y out xs) (hown : w'.ownsRow (w.heap.size + 1) 9 1 out' n cs) (hg : wr.grownBy w' out.ownBlock)
    (hc : cs = strsC ys) (hn : ys.length = n) : JoinSt w w' y out' ys := by
  refine ⟨h.bel.grown hg h.bel.size fun b hb => ?_, ?_, ?_⟩
  · have := (World.ownsRow.lt h.own b hb).1
    omega
  · refine (hg.block _ (lt_of_heap h.blk) fun e => ?_).trans h.blk
    have := (World.ownsRow.lt h.own _ e.symm).1
    omega
  · unfold OwnStrs
    rw [hn, ← hc]
    exact hown

set_option maxHeartbeats 1000000 in
set_option maxRecDepth 100000 in
theorem joined_calls (y : Stp) (k : Nat) (ht : takes y = some k) (hk : y.kind = 7 ∨ y.kind = 8) (l : List Txt) (hl : l.length = k) (v : Value) (w : World) (hv : TxtsIn w v l)
    (htx : y.text.length ≤ 1048575) (hlen : Lib.lens l ≤ 70368744177664) (he : Env w) :
    Calls Tryz.prog 102 #[y.val, v] w fun e w' => e = .returned (.string ⟨(joined y l).toArray⟩) ∧ Below w.heap.size w w' := by
  have hk64 := (takes_parts ht hk).2
  have hjl := joined_len ht hk hl
  have hwt : wt y ≤ 69206950 := by unfold wt; omega
  have Hv := Lib.hid hv
  have He := Lib.hid he
  by_cases h7 : y.kind = 7
  · have b7 : ((y.kind : Int) == 7) = true := by rw [beq_iff_eq]; omega
    have HJ := Lib.hid (show joined y l = [91] ++ (Lib.join l [44, 32] ++ [93]) by unfold joined; rw [if_pos h7, List.append_assoc])
    have hj2 : 1 + (Lib.join l [44, 32]).length + 1 ≤ 140737488355328 := by
      have := hjl
      rw [HJ.out] at this
      simp only [List.length_append, List.length_cons, List.length_nil] at this
      omega
    have hj3 : 1 + (Lib.join l [44, 32]).length + 1 ≤ 9223372036854775807 := by omega
    have Hjc := Lib.hid (fun (w2 : World) (hb : Below w.heap.size w w2) => join_calls l [44, 32] v w2 (hv.below hb) (by omega) (by omega))
    have Hst := Lib.hid (alloc_below w (.cells #[.int .u8 y.kind, .string ⟨y.text.toArray⟩, .int .i64 y.num] 48))
    clear ht hk h7 hv he hjl hlen hj2
    unfold Stp.val
    go_enter Tryz.func102, Tryz.ntmps102
    go_wp2_with fail
    refine (Hjc.out _ Hst.out).mono ?_
    rintro e w2 ⟨rfl, hb2⟩
    have Hb2 := Lib.hid (Hst.out.trans (hb2.mono Hst.out.size))
    clear hb2
    go_wp2_with fail
    go_ret
    exact ⟨by rw [HJ.out]; exact congrArg (fun x => Ending.returned (.string x)) (cat3 [91] _ [93]), Hb2.out⟩
  · have h8 : y.kind = 8 := by omega
    have b7 : ((y.kind : Int) == 7) = false := by rw [beq_eq_false_iff_ne]; omega
    have hlN : l.length ≤ (Lib.split y.text [44]).length := by
      rcases takes_struct ht h8 with ⟨h0, _⟩ | ⟨_, h0⟩ <;> omega
    have HNt := Lib.hid (split_each y.text 44)
    have HJ := Lib.hid (show joined y l = [123] ++ (Lib.join (fieldsT l (Lib.split y.text [44])) [44, 32] ++ [125]) by unfold joined; rw [if_neg h7, List.append_assoc])
    have hj2 : 1 + (Lib.join (fieldsT l (Lib.split y.text [44])) [44, 32]).length + 1 ≤ 140737488355328 := by
      have := hjl
      rw [HJ.out] at this
      simp only [List.length_append, List.length_cons, List.length_nil] at this
      omega
    have hj3 : 1 + (Lib.join (fieldsT l (Lib.split y.text [44])) [44, 32]).length + 1 ≤ 9223372036854775807 := by omega
    have Hsp := Lib.hid (fun (w2 : World) (hb : Below w.heap.size w w2) => split_calls y.text 44 w2 (by omega) (he.below hb))
    generalize Lib.split y.text [44] = N at *
    have Hll := Lib.hid (fun (j : Nat) => lens_get l j)
    have Hlen := Lib.hid hlen
    have HlN := Lib.hid hlN
    have Hj2 := Lib.hid hj2
    have Htx := Lib.hid htx
    obtain ⟨a, n, c, rfl, hn, hc, hj⟩ := hv
    have Hn := Lib.hid hn
    have Hj := Lib.hid hj
    have hn2 : n ≤ 64 := by omega
    clear ht hk h7 h8 he hjl hlen hj2 hn hj hlN htx
    unfold Stp.val
    go_enter Tryz.func102, Tryz.ntmps102
    go_wp2_with fail
    go_loopw [5, 17] (fun s5 i wr => ∃ (j a3 c3 : Nat) (b3 : Option Addr), j ≤ n ∧ i = .int .i64 j ∧ s5 = .slice b3 a3 c3 ∧ Hid (JoinSt w wr y (.slice b3 a3 c3) ((fieldsT l N).take j))) (fun _ i _ => n - (intOf i).toNat)
    case atStart => exact ⟨0, 0, 0, none, Nat.zero_le _, rfl, rfl, ⟨alloc_below _ _, stp_start w y, OwnStrs.nil _ _⟩⟩
    case round =>
      obtain ⟨j, a3, c3, b3, hjn, rfl, rfl, hst⟩ := hrel
      have Hst := Lib.hid hst.out
      by_cases hlt : j < n
      · have hjl : j < l.length := by rw [Hn.out]; exact hlt
        have hjN : j < N.length := Nat.lt_of_lt_of_le hjl HlN.out
        obtain ⟨g, o, rfl, q0⟩ := Hj.out j hjl
        have q0 := (hst.out.bel.cell (p := ⟨g, o + j, none⟩) (World.block_lt_of_cell? _ _ q0)).trans q0
        obtain ⟨⟨k0, k1, k2⟩, -⟩ := threeC hst.out.blk
        have Hsn := Lib.hid (fieldsT_snoc hjl HlN.out)
        have hc1 : N[j].length ≤ 1048575 := Nat.le_trans (HNt.out _ (List.getElem_mem hjN)) Htx.out
        have hc2 : l[j].length ≤ 70368744177664 := by
          have h1 := Hll.out j
          rw [List.getD_eq_getElem?_getD, List.getElem?_eq_getElem hjl, Option.getD_some] at h1
          exact Nat.le_trans h1 Hlen.out
        have Hq := Lib.hid (show ∀ w2 : World, wr.alloc (.cells (strsC N).toArray 9) = w2 → w2.cell? ⟨wr.heap.size, j, none⟩ = some (.string ⟨N[j].toArray⟩) from fun w2 e => by
          rw [← e]
          obtain ⟨a, n, c, e1, e2, _, h⟩ := StrsAt.new wr N N.length (strsC N).toArray 9 (0, 0) rfl rfl
          obtain ⟨g, e3, e4⟩ := h j hjN
          simp only [Value.slice.injEq] at e1
          rw [← e1.1] at e3
          simp only [Option.some.injEq, Addr.mk.injEq, and_true] at e3
          rw [e3]; exact e4)
        generalize N[j] = nj at *
        generalize l[j] = lj at *
        have Hsp2 := Lib.hid (Hsp.out wr hst.out.bel)
        clear hst
        go_wp2_with fail
        refine Hsp2.out.mono ?_
        rintro e w2 ⟨rfl, hw2⟩
        have q1 := Hq.out w2 hw2
        have hb2 : Below wr.heap.size wr w2 := by rw [← hw2]; exact alloc_below _ _
        have hlj : ((fieldsT l N).take j).length = j := by rw [List.length_take, fieldsT_length l N HlN.out]; omega
        have hb3 := hb2.trans ((alloc_below w2 (.cells #[.string (⟨nj.toArray⟩ ++ ⟨#[58, 32]⟩ ++ ⟨lj.toArray⟩)] 9)).mono hb2.size)
        have Hst2 := Lib.hid (Hst.out.step hb3)
        have hown4 := Hst2.out.own
        unfold OwnStrs at hown4
        rw [hlj] at hown4
        have Hown4 := Lib.hid hown4
        have Hlj := Lib.hid hlj
        have Hnews := Lib.hid (World.news_of_block (cs := #[.string (⟨nj.toArray⟩ ++ ⟨#[58, 32]⟩ ++ ⟨lj.toArray⟩)]) (t := 9) (fr := (0, 0)) (heap_alloc_new w2 (.cells #[.string (⟨nj.toArray⟩ ++ ⟨#[58, 32]⟩ ++ ⟨lj.toArray⟩)] 9)))
        obtain ⟨i0, hi0, hz0, hz1, hz2⟩ := info_parts strInfo
        have Hi0 := Lib.hid hi0
        have Hz0 := Lib.hid hz0
        have Hz1 := Lib.hid hz1
        have Hz2 := Lib.hid hz2
        clear hi0 hz0 hz1 hz2 hw2 hb2 hb3 hown4 hlj
        go_wp2_with (at_builtin; go_must (refine wpList_append_own_at _ rfl _ _ 93 rfl (w.heap.size + 1) 9 i0 _ 1 16 Tryz.underlying93 Hi0.out Hz0.out Hz1.out Hz2.out rfl (by decide) _ j (strsC ((fieldsT l N).take j)) rfl Hown4.out ⟨w2.heap.size, 0, none⟩ 1 1 [.string (⟨nj.toArray⟩ ++ ⟨#[58, 32]⟩ ++ ⟨lj.toArray⟩)] rfl rfl ?c1 ?c2 ?c3 ?c4 ?c5 ?_))
        case c1 => exact Hnews.out
        case c2 => simp [Value.oneCell']
        case c3 => unfold maxLen; omega
        case c4 => omega
        case c5 => exact lt_of_heap Hst2.out.blk
        intro v7 w7 hown7 hgrow7 _ hat7
        have Hst7 := Lib.hid (Hst2.out.more hown7 hgrow7 (show strsC ((fieldsT l N).take j) ++ [.string (⟨nj.toArray⟩ ++ ⟨#[58, 32]⟩ ++ ⟨lj.toArray⟩)] = strsC ((fieldsT l N).take (j + 1)) by
          rw [Hsn.out, strsC_snoc]
          exact congrArg (fun x => strsC ((fieldsT l N).take j) ++ [Value.string x]) (by rw [cat3, List.append_assoc])) (by rw [Hsn.out, List.length_append, Hlj.out]; rfl))
        obtain ⟨a7, c7, rfl⟩ := own_form hown7
        clear hown7 hgrow7 hat7
        go_wp2_with fail
        go_roundw
        case rel => exact ⟨j + 1, _, _, _, by omega, by go_num, rfl, Hst7.out⟩
        case measure => simp [intOf]; omega
      · have hjn' : j = n := by omega
        subst hjn'
        have hF : (fieldsT l N).take j = fieldsT l N := List.take_of_length_le (by rw [fieldsT_length l N HlN.out, Hn.out]; exact Nat.le_refl _)
        rw [hF] at Hst
        have Hjc := Lib.hid (join_calls (fieldsT l N) [44, 32] _ wr (TxtsIn.own Hst.out.own) (by have := Hj2.out; omega) (by have := fieldsT_len l N; omega))
        clear hst hF
        go_wp2_with fail
        refine Hjc.out.mono ?_
        rintro e w2 ⟨rfl, hb2⟩
        have Hb2 := Lib.hid (Hst.out.bel.trans (hb2.mono Hst.out.bel.size))
        clear hb2
        go_wp2_with fail
        go_ret
        exact ⟨by rw [HJ.out]; exact congrArg (fun x => Ending.returned (.string x)) (cat3 [123] _ [125]), Hb2.out⟩

end Go.Proofs.YtcjmhmmjfgjcnaaGreatDoor.Pa

/- parse: shown, a step of two; all steps. -/
namespace Go.Proofs.YtcjmhmmjfgjcnaaGreatDoor.Pa
open Go.RowKit Go.Proofs.YtcjmhmmjfgjcnaaGreatDoor.Lx

/-- what the text of a step of two is read from -/
structure OpR (w : World) (y : Stp) (g o : Nat) (x z : Txt) (W : World) : Prop where
  k0 : W.cell? ⟨w.heap.size, 0, none⟩ = some (.int .u8 y.kind)
  q0 : W.cell? ⟨g, o, none⟩ = some (.string ⟨x.toArray⟩)
  q1 : W.cell? ⟨g, o + 1, none⟩ = some (.string ⟨z.toArray⟩)
  bel : Below w.heap.size w W
theorem OpR.step {w W W' : World} {y : Stp} {g o : Nat} {x z : Txt} (h : OpR w y g o x z W) (hb : Below W.heap.size W W') : OpR w y g o x z W' :=
  ⟨(hb.cell (p := ⟨w.heap.size, 0, none⟩) (World.block_lt_of_cell? _ _ h.k0)).trans h.k0, (hb.cell (p := ⟨g, o, none⟩) (World.block_lt_of_cell? _ _ h.q0)).trans h.q0, (hb.cell (p := ⟨g, o + 1, none⟩) (World.block_lt_of_cell? _ _ h.q1)).trans h.q1, h.bel.trans (hb.mono h.bel.size)⟩
end Go.Proofs.YtcjmhmmjfgjcnaaGreatDoor.Pa

/- parse: Closed. -/
namespace Go.Proofs.YtcjmhmmjfgjcnaaGreatDoor.Pa
open Go.RowKit Go.Proofs.YtcjmhmmjfgjcnaaGreatDoor.Lx

/-- where the first element that fails `p` stands -/
def firstNot {α : Type} (p : α → Bool) (l : List α) : Int := if l.all p then -1 else (l.findIdx fun t => !p t : Nat)
theorem firstNot_ge {α : Type} (p : α → Bool) (l : List α) : decide (0 ≤ firstNot p l) = !l.all p := by
  unfold firstNot
  split
  · rename_i h; rw [h]; rfl
  · rename_i h; simp at h ⊢; simpa using h
theorem firstNot_none {α : Type} {p : α → Bool} {l : List α} (h : ∀ j (hj : j < l.length), p l[j] = true) : firstNot p l = -1 := by
  unfold firstNot
  rw [if_pos]
  rw [List.all_eq_true]
  intro t ht
  obtain ⟨j, hj, e⟩ := List.getElem_of_mem ht
  rw [← e]; exact h j hj
theorem firstNot_at {α : Type} {p : α → Bool} {l : List α} {k : Nat} (hk : k < l.length) (e : p l[k] = false) (h : ∀ j (hj : j < l.length), j < k → p l[j] = true) : firstNot p l = k := by
  unfold firstNot
  rw [if_neg]
  · congr 1
    rw [List.findIdx_eq hk]
    exact ⟨by rw [e]; rfl, fun j hj => by rw [h j (by omega) hj]; rfl⟩
  · intro ha
    rw [List.all_eq_true] at ha
    rw [ha _ (List.getElem_mem hk)] at e
    cases e
theorem firstNot_le {α : Type} (p : α → Bool) (l : List α) : -1 ≤ firstNot p l ∧ firstNot p l ≤ l.length := by
  unfold firstNot
  split
  · omega
  · have := List.findIdx_le_length (p := fun t => !p t) (xs := l); omega

/-- no aggregate's step -/
def plain6 (y : Stp) : Bool := y.kind != 6
theorem closed_eq (l : List Stp) : closedB l = l.all plain6 := rfl

theorem isSix_calls (y : Stp) (w : World) :
    Calls Tryz.prog 66 #[y.val] w fun e w' => e = .returned (.bool (!plain6 y)) ∧ Below w.heap.size w w' := by
  have Hr := Lib.hid (show ((y.kind : Int) == 6) = !plain6 y by
    unfold plain6
    by_cases h : y.kind = 6
    · rw [h]; rfl
    · rw [show ((y.kind : Int) == 6) = false by rw [beq_eq_false_iff_ne]; omega, show (y.kind != 6) = true by rw [bne_iff_ne]; exact h]; rfl)
  unfold Stp.val
  go_enter Tryz.func66, Tryz.ntmps66
  go_wp2_with fail
  go_ret
  exact ⟨ret_bool (by rw [← Hr.out]), alloc_below _ _⟩

set_option maxRecDepth 100000 in
theorem indexSix_calls (w : World) (v : Value) (l : List Stp) (h : StpsIn w v l) (hl : l.length ≤ 1073741824) :
    Calls Tryz.prog 117 #[v, .func (.func 66) #[] #[]] w fun e w' => e = .returned (.int .i64 (firstNot plain6 l)) ∧ Below w.heap.size w w' := by
  obtain ⟨a, n, c, rfl, hn, hc, hj⟩ := h
  have Hn := Lib.hid hn
  have Hj := Lib.hid hj
  have hn2 : n ≤ 1073741824 := by omega
  clear hn hj
  go_enter Tryz.func117, Tryz.ntmps117
  go_wp2_with fail
  go_loopw [8] (fun i wr => ∃ k : Nat, k ≤ n ∧ i = .int .i64 k ∧ Hid (Below w.heap.size w wr ∧ ∀ j (hj : j < l.length), j < k → plain6 l[j] = true)) (fun i _ => n - (intOf i).toNat)
  case atStart => exact ⟨0, Nat.zero_le _, rfl, Below.refl _ _, fun j _ hj => absurd hj (Nat.not_lt_zero _)⟩
  case round =>
    obtain ⟨k, hk, rfl, hb, hno⟩ := hrel
    have Hb := Lib.hid hb
    have Hno := Lib.hid hno
    by_cases hlt : k < n
    · have hkl : k < l.length := by rw [Hn.out]; exact hlt
      obtain ⟨g, o, rfl, hcl⟩ := Hj.out k hkl
      obtain ⟨q0, q1, q2⟩ := hcl.below hb
      have hc := isSix_calls l[k] wr
      unfold Stp.val at hc
      cases e : plain6 l[k] with
      | false =>
        have Hr := Lib.hid (firstNot_at hkl e hno)
        rw [e] at hc
        have Hc := Lib.hid hc
        generalize l[k] = t at *
        clear hc e hb hno hcl
        go_wp2_with fail
        refine Hc.out.mono ?_
        rintro e w2 ⟨rfl, hb2⟩
        have Hb2 := Lib.hid (Hb.out.trans (hb2.mono Hb.out.size))
        clear hb2
        go_wp2_with fail
        go_ret
        exact ⟨ret_intI Hr.out.symm, Hb2.out⟩
      | true =>
        have Hr := Lib.hid (show ∀ j (hj : j < l.length), j < k + 1 → plain6 l[j] = true from fun j h hj => by
          rcases Nat.lt_or_ge j k with h' | h'
          · exact hno j h h'
          · obtain rfl : j = k := by omega
            exact e)
        rw [e] at hc
        have Hc := Lib.hid hc
        generalize l[k] = t at *
        clear hc e hb hno hcl
        go_wp2_with fail
        refine Hc.out.mono ?_
        rintro e w2 ⟨rfl, hb2⟩
        have Hb2 := Lib.hid (Hb.out.trans (hb2.mono Hb.out.size))
        clear hb2
        go_wp2_with fail
        go_roundw
        case rel => exact ⟨k + 1, by omega, by go_num, Hb2.out, Hr.out⟩
        case measure => simp [intOf]; omega
    · have Hr := Lib.hid (firstNot_none (p := plain6) (l := l) fun j h => hno j h (by have := Hn.out; omega))
      clear hb hno
      go_wp2_with fail
      go_ret
      exact ⟨ret_intI Hr.out.symm, Hb.out⟩
theorem containsSix_calls (w : World) (v : Value) (l : List Stp) (h : StpsIn w v l) (hl : l.length ≤ 1073741824) :
    Calls Tryz.prog 65 #[v, .func (.func 66) #[] #[]] w fun e w' => e = .returned (.bool (!l.all plain6)) ∧ Below w.heap.size w w' := by
  have Hi := Lib.hid (indexSix_calls w v l h hl)
  have hb := firstNot_le plain6 l
  obtain ⟨a, n, c, rfl, -⟩ := h
  have Hg := Lib.hid (firstNot_ge plain6 l)
  generalize firstNot plain6 l = r at *
  go_enter Tryz.func65, Tryz.ntmps65
  go_wp2_with fail
  refine Hi.out.mono ?_
  rintro e w2 ⟨rfl, hb2⟩
  have Hb2 := Lib.hid hb2
  clear hb2
  go_wp2_with fail
  go_ret
  exact ⟨ret_bool Hg.out, Hb2.out⟩
theorem Closed_calls (w : World) (v : Value) (l : List Stp) (h : StpsIn w v l) (hl : l.length ≤ 1073741824) :
    Calls Tryz.prog 26 #[v] w fun e w' => e = .returned (.bool (closedB l)) ∧ Below w.heap.size w w' := by
  have Hi := Lib.hid (containsSix_calls w v l h hl)
  rw [closed_eq]
  obtain ⟨a, n, c, rfl, -⟩ := h
  generalize l.all plain6 = r at *
  go_enter Tryz.func26, Tryz.ntmps26
  go_wp2_with fail
  refine Hi.out.mono ?_
  rintro e w2 ⟨rfl, hb2⟩
  have Hb2 := Lib.hid hb2
  clear hb2
  go_wp2_with fail
  go_ret
  exact ⟨ret_bool (by simp), Hb2.out⟩

end Go.Proofs.YtcjmhmmjfgjcnaaGreatDoor.Pa

/- parse: Show. -/
namespace Go.Proofs.YtcjmhmmjfgjcnaaGreatDoor.Pa
open Go.RowKit Go.Proofs.YtcjmhmmjfgjcnaaGreatDoor.Lx

structure ShSt (w wr : World) (l : List Stp) (k : Nat) (v : Value) (st : List Txt) : Prop where
  bel : Below w.heap.size w wr
  own : OwnStrs wr w.heap.size v st
  len : Lib.lens st ≤ wts (l.take k)
  cnt : st.length ≤ k
  rgt : rightL (l.drop k) st.length = some 1
  shw : showG (l.drop k) st = showG l []
theorem ShSt.step {w wr w' : World} {l : List Stp} {k : Nat} {v : Value} {st : List Txt} (h : ShSt w wr l k v st) (hb : Below wr.heap.size wr w') : ShSt w w' l k v st :=
  ⟨h.bel.trans (hb.mono h.bel.size), own_same h.own fun g _ hg => hb.block g hg, h.len, h.cnt, h.rgt, h.shw⟩
theorem rightL_step {y : Stp} {r : List Stp} {n : Nat} (h : rightL (y :: r) n = some 1) : ∃ k, takes y = some k ∧ k ≤ n ∧ rightL r (n - k + 1) = some 1 := by
  rw [rightL] at h
  cases ht : takes y with
  | none => rw [ht] at h; cases h
  | some k =>
    rw [ht] at h
    simp only at h
    split at h
    · cases h
    · exact ⟨k, rfl, by omega, h⟩

theorem own_base {w : World} {base base' n size : Nat} {e : TypeId} {v : Value} {xs : List Value} (h : w.ownsRow base e size v n xs) (hb : base' ≤ base) : w.ownsRow base' e size v n xs := by
  refine ⟨h.1, ?_⟩
  rcases h.2 with h2 | ⟨g, cap, cur, e, h1, h2⟩
  · exact .inl h2
  · exact .inr ⟨g, cap, cur, e, by omega, h2⟩
/-- behind one round -/
theorem ShSt.more {w wr w' : World} {l : List Stp} {k at_ kk n B : Nat} {v v' : Value} {st : List Txt} {y : Stp} {cs : List Value} (h : ShSt w wr l k v st) (hm : st.length = at_ + kk) (hown : w'.ownsRow B 9 1 v' n cs) (hB : w.heap.size ≤ B) (hg : wr.grownBy w' none)
    (hn : n = at_ + 1) (hc : cs = strsC (st.take at_) ++ [.string ⟨(shown y (st.drop at_)).toArray⟩]) (hty : takes y = some kk) (hnum : y.num ≤ 9223372036854775807) (hsh : showG (y :: l.drop (k + 1)) st = showG l [])
    (hrg : rightL (l.drop (k + 1)) (st.length - kk + 1) = some 1) (hwt : wts (l.take (k + 1)) = wts (l.take k) + wt y) : ShSt w w' l (k + 1) v' (push y st) := by
  have hpl := push_length hty (st := st) (by omega)
  have hps := push_lens hty hnum (st := st) (by omega)
  have e : push y st = st.take at_ ++ [shown y (st.drop at_)] := by
    unfold push takesN
    rw [hty, Option.getD_some, show st.length - kk = at_ by omega]
  refine ⟨h.bel.grown hg h.bel.size fun b hb => by simp at hb, ?_, ?_, ?_, ?_, ?_⟩
  · unfold OwnStrs
    rw [hpl, e, strsC_snoc, ← hc, show st.length - kk + 1 = n by omega]
    exact own_base hown hB
  · have := h.len
    omega
  · have := h.cnt
    omega
  · rw [hpl]; exact hrg
  · rw [← showG_cons]; exact hsh

end Go.Proofs.YtcjmhmmjfgjcnaaGreatDoor.Pa
