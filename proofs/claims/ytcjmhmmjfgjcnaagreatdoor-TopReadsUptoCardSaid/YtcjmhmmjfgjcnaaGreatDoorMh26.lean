/- Parts: PcB PcC. -/
import Derived.Test.YtcjmhmmjfgjcnaaGreatDoorMh19
import Derived.Test.YtcjmhmmjfgjcnaaGreatDoorMh25
import Derived.Lib.ItoaLen
import Derived.RegionTactic

/- parse: how long a shown expression may be. Plain. -/
namespace Go.Proofs.YtcjmhmmjfgjcnaaGreatDoor.Pa
open Go.Proofs.YtcjmhmmjfgjcnaaGreatDoor.Lx

def wt (y : Stp) : Nat := 66 * y.text.length + 1000
def wts (l : List Stp) : Nat := (l.map wt).sum
theorem wts_cons (y : Stp) (l : List Stp) : wts (y :: l) = wt y + wts l := by simp [wts]

theorem lens_cons (x : Txt) (l : List Txt) : Lib.lens (x :: l) = x.length + Lib.lens l := by simp [Lib.lens]
theorem lens_app (a b : List Txt) : Lib.lens (a ++ b) = Lib.lens a + Lib.lens b := by simp [Lib.lens]
theorem lens_get (l : List Txt) (i : Nat) : (l.getD i []).length ≤ Lib.lens l := by
  induction l generalizing i with
  | nil => simp
  | cons x l ih =>
    rw [lens_cons]
    cases i with
    | zero => simp
    | succ i => have := ih i; simp only [List.getD_cons_succ]; omega
theorem lens_two (l : List Txt) : (l.getD 0 []).length + (l.getD 1 []).length ≤ Lib.lens l := by
  cases l with
  | nil => simp
  | cons x l =>
    rw [lens_cons]
    have := lens_get l 0
    simp only [List.getD_cons_zero, List.getD_cons_succ]
    omega
theorem lens_le {B : Nat} : ∀ {l : List Txt}, (∀ x ∈ l, x.length ≤ B) → Lib.lens l ≤ l.length * B
  | [], _ => by simp [Lib.lens]
  | x :: l, h => by
    have h1 := lens_le (l := l) fun y hy => h y (by simp [hy])
    have h2 := h x (by simp)
    rw [lens_cons, List.length_cons, Nat.succ_mul]
    omega
theorem join_len (l : List Txt) (sep : Txt) : (Lib.join l sep).length ≤ Lib.lens l + sep.length * l.length := by
  cases l with
  | nil => simp [Lib.join_nil]
  | cons x r =>
    rw [Lib.join_length, List.length_cons, Nat.mul_succ]
    omega
theorem fieldsT_lens : ∀ (l r : List Txt), Lib.lens (fieldsT l r) ≤ Lib.lens l + Lib.lens r + 2 * l.length
  | [], r => by simp [fieldsT, Lib.lens]
  | x :: l, [] => by simp [fieldsT, Lib.lens]
  | x :: l, n :: r => by
    have := fieldsT_lens l r
    simp only [fieldsT, lens_cons, List.length_append, List.length_cons, List.length_nil]
    omega
theorem fieldsT_len : ∀ (l r : List Txt), (fieldsT l r).length ≤ l.length
  | [], r => by simp [fieldsT]
  | x :: l, [] => by simp [fieldsT]
  | x :: l, n :: r => by
    have := fieldsT_len l r
    simp only [fieldsT, List.length_cons]
    omega

theorem takes_parts {y : Stp} {k : Nat} (h : takes y = some k) (hk : y.kind = 7 ∨ y.kind = 8) : y.num = k ∧ k ≤ 64 := by
  unfold takes at h
  rw [if_neg (by omega), if_neg (by omega), if_neg (by omega), if_neg (by omega)] at h
  rcases hk with hk | hk
  · rw [if_pos hk] at h
    split at h
    · simp only [Option.some.injEq] at h; omega
    · cases h
  · rw [if_neg (by omega), if_pos hk] at h
    split at h
    · simp only [Option.some.injEq] at h; omega
    · cases h
theorem takes_struct {y : Stp} {k : Nat} (h : takes y = some k) (hk : y.kind = 8) : (k = 0 ∧ y.text = []) ∨ (0 < k ∧ (Lib.split y.text [44]).length = k) := by
  have h2 := takes_parts h (.inr hk)
  unfold takes at h
  rw [if_neg (by omega), if_neg (by omega), if_neg (by omega), if_neg (by omega), if_neg (by omega), if_pos hk] at h
  split at h
  · rename_i hx
    have hn := hx.2.2
    unfold namesB at hn
    split at hn
    · exact .inl ⟨by omega, of_decide_eq_true hn⟩
    · simp only [Bool.and_eq_true, decide_eq_true_eq] at hn
      exact .inr ⟨by omega, by omega⟩
  · cases h
theorem joined_len {y : Stp} {k : Nat} (h : takes y = some k) (hk : y.kind = 7 ∨ y.kind = 8) {l : List Txt} (hl : l.length = k) : (joined y l).length ≤ Lib.lens l + wt y := by
  obtain ⟨h1, h2⟩ := takes_parts h hk
  unfold joined wt
  split
  · have := join_len l [44, 32]
    simp only [List.length_append, List.length_cons, List.length_nil] at this ⊢
    omega
  · rename_i h7
    have hs : Lib.lens (Lib.split y.text [44]) ≤ 64 * y.text.length := by
      rcases takes_struct h (by omega) with ⟨_, h0⟩ | ⟨_, h0⟩
      · rw [h0]; decide +kernel
      · have := lens_le (l := Lib.split y.text [44]) (B := y.text.length) (fun t ht => split_each y.text 44 t ht)
        have h3 := Nat.mul_le_mul_right y.text.length (show (Lib.split y.text [44]).length ≤ 64 by omega)
        omega
    have := join_len (fieldsT l (Lib.split y.text [44])) [44, 32]
    have h3 := fieldsT_lens l (Lib.split y.text [44])
    have h4 := fieldsT_len l (Lib.split y.text [44])
    simp only [List.length_append, List.length_cons, List.length_nil] at this ⊢
    omega
theorem textS_len (x : Txt) : (textS x).length ≤ 2 * x.length + 2 := by
  unfold textS
  split
  · rw [showS_txt _ rfl]
    simp only [replaceAll_dbl, List.length_cons, List.length_append, List.length_nil]
    have := dbl_length x
    omega
  · simp
theorem op_len (i : Nat) : (operators.getD i []).length ≤ 3 := by
  unfold operators
  rcases i with _ | _ | _ | _ | _ | _ | _ | _ | _ | _ | _ | i <;> simp
theorem shown_len {y : Stp} {k : Nat} (h : takes y = some k) (hn : y.num ≤ 9223372036854775807) {l : List Txt} (hl : l.length = k) : (shown y l).length ≤ Lib.lens l + wt y := by
  have hw : wt y = 66 * y.text.length + 1000 := rfl
  have g0 := lens_get l 0
  have g2 := lens_two l
  unfold shown
  split
  · simp [kNULL]; omega
  split
  · simp [kTRUE]; omega
  split
  · simp [kFALSE]; omega
  split
  · rename_i h4
    have h0 : 0 ≤ y.num := by
      unfold takes at h
      rw [if_neg (by omega), if_pos h4] at h
      split at h
      · rename_i hx; exact hx.2
      · cases h
    have := Lib.itoa_length_le y.num (by omega) hn
    omega
  split
  · have := textS_len y.text; omega
  split
  · omega
  split
  · rename_i h7
    exact joined_len h h7 hl
  split
  · simp only [List.length_append, List.length_cons, List.length_nil]; omega
  split
  · simp only [List.length_append, List.length_cons, List.length_nil, kNOTX]; omega
  split
  · simp only [List.length_append, List.length_cons, List.length_nil, kISNULLX]; omega
  · have := op_len (y.kind - 12)
    simp only [List.length_append, List.length_cons, List.length_nil]; omega

def push (y : Stp) (st : List Txt) : List Txt := st.take (st.length - takesN y) ++ [shown y (st.drop (st.length - takesN y))]
theorem showG_cons (y : Stp) (r : List Stp) (st : List Txt) : showG (y :: r) st = showG r (push y st) := rfl
theorem push_length {y : Stp} {k : Nat} (h : takes y = some k) {st : List Txt} (_hk : k ≤ st.length) : (push y st).length = st.length - k + 1 := by
  unfold push takesN
  rw [h]
  simp
theorem push_lens {y : Stp} {k : Nat} (h : takes y = some k) (hn : y.num ≤ 9223372036854775807) {st : List Txt} (hk : k ≤ st.length) : Lib.lens (push y st) ≤ Lib.lens st + wt y := by
  unfold push takesN
  rw [h, Option.getD_some, lens_app, lens_cons]
  have h1 := shown_len h hn (l := st.drop (st.length - k)) (by rw [List.length_drop]; omega)
  have h2 : Lib.lens st = Lib.lens (st.take (st.length - k)) + Lib.lens (st.drop (st.length - k)) := by rw [← lens_app, List.take_append_drop]
  have h3 : Lib.lens ([] : List Txt) = 0 := rfl
  omega
theorem showG_lens : ∀ (l : List Stp) (st : List Txt) {m : Nat}, rightL l st.length = some m → (∀ y ∈ l, y.num ≤ 9223372036854775807) → Lib.lens (showG l st) ≤ Lib.lens st + wts l ∧ (showG l st).length = m
  | [], st, m, h, _ => by
    simp only [rightL, Option.some.injEq] at h
    exact ⟨by simp [showG, wts], h⟩
  | y :: r, st, m, h, hn => by
    rw [rightL] at h
    cases ht : takes y with
    | none => rw [ht] at h; cases h
    | some k =>
      rw [ht] at h
      simp only at h
      split at h
      · cases h
      · rename_i hk
        have h1 := push_length ht (st := st) (by omega)
        have h2 := push_lens ht (hn y (by simp)) (st := st) (by omega)
        rw [← h1] at h
        have ih := showG_lens r (push y st) h fun z hz => hn z (by simp [hz])
        rw [showG_cons, wts_cons]
        exact ⟨by omega, ih.2⟩
theorem wts_le : ∀ {l : List Stp}, (∀ y ∈ l, y.text.length ≤ 1048575) → wts l ≤ l.length * 69206950
  | [], _ => by simp [wts]
  | y :: l, h => by
    have h1 := wts_le (l := l) fun z hz => h z (by simp [hz])
    have h2 := h y (by simp)
    rw [wts_cons, List.length_cons, Nat.succ_mul]
    unfold wt
    omega
theorem showE_len {l : List Stp} (hn : ∀ y ∈ l, y.num ≤ 9223372036854775807) (ht : ∀ y ∈ l, y.text.length ≤ 1048575) : (showE l).length ≤ 8858489600 := by
  unfold showE
  split
  · rename_i h
    unfold rightB at h
    simp only [Bool.and_eq_true, decide_eq_true_eq] at h
    obtain ⟨h1, h2⟩ := showG_lens l [] (m := 1) h.1 hn
    have h3 := wts_le ht
    have h4 := Nat.mul_le_mul_right 69206950 h.2
    have h5 : ((showG l []).headD []).length ≤ Lib.lens (showG l []) := by
      cases showG l [] with
      | nil => simp
      | cons x r => rw [lens_cons]; simp
    have h6 : Lib.lens ([] : List Txt) = 0 := rfl
    omega
  · simp

end Go.Proofs.YtcjmhmmjfgjcnaaGreatDoor.Pa

/- parse: joined. -/
namespace Go.Proofs.YtcjmhmmjfgjcnaaGreatDoor.Pa
open Go.RowKit Go.Proofs.YtcjmhmmjfgjcnaaGreatDoor.Lx

def TxtsIn (w : World) (v : Value) (l : List Txt) : Prop := ∃ (a : Option Addr) (n c : Nat), v = .slice a n c ∧ l.length = n ∧ n ≤ c ∧ ∀ (j : Nat) (h : j < l.length), ∃ g o, a = some ⟨g, o, none⟩ ∧ w.cell? ⟨g, o + j, none⟩ = some (.string ⟨l[j].toArray⟩)
theorem TxtsIn.below {w w' : World} {v : Value} {l : List Txt} (h : TxtsIn w v l) (hb : Below w.heap.size w w') : TxtsIn w' v l := by
  obtain ⟨a, n, c, rfl, hn, hc, hj⟩ := h
  refine ⟨a, n, c, rfl, hn, hc, fun i hi => ?_⟩
  obtain ⟨g, o, e, hcl⟩ := hj i hi
  have hg : g < w.heap.size := World.block_lt_of_cell? _ _ hcl
  exact ⟨g, o, e, (hb.cell (p := ⟨g, _, none⟩) hg).trans hcl⟩
theorem TxtsIn.own {w : World} {base : Nat} {v : Value} {l : List Txt} (h : OwnStrs w base v l) : TxtsIn w v l := by
  have h' : w.ownsRow base 9 1 v l.length (strsC l) := h
  rcases h'.2 with ⟨rfl, h0⟩ | ⟨g, cap, cur, e, _, h2, h3, _⟩
  · exact ⟨none, 0, 0, rfl, h0, Nat.le_refl _, fun i hi => by omega⟩
  · subst e
    refine ⟨_, _, _, rfl, rfl, h3, fun i hi => ⟨g, 0, rfl, ?_⟩⟩
    rw [World.ownsRow.cellAt h' _ (by omega), Nat.zero_add]
    simp [strsC, List.getElem?_eq_getElem hi]

theorem ba_data (l : List Txt) : (l.map fun x => (⟨x.toArray⟩ : ByteArray)).map (·.data.toList) = l := by
  rw [List.map_map]
  conv => rhs; rw [← List.map_id l]
  exact List.map_congr_left fun x _ => rfl
theorem join_calls (l : List Txt) (sep : Txt) (v : Value) (w : World) (h : TxtsIn w v l) (hl : (Lib.join l sep).length ≤ 140737488355328) (hn : l.length ≤ 140737488355328) :
    Calls Tryz.prog 51 #[v, .string ⟨sep.toArray⟩] w fun e w' => e = .returned (.string ⟨(Lib.join l sep).toArray⟩) ∧ Below w.heap.size w w' := by
  obtain ⟨a, n, c, rfl, rfl, hc, hj⟩ := h
  cases l with
  | nil =>
    refine (Tryz.strings_Join_none a c ⟨sep.toArray⟩ w).mono ?_
    rintro e w' ⟨rfl, rfl⟩
    exact ⟨rfl, Below.refl _ _⟩
  | cons x r =>
    obtain ⟨g, o, rfl, h0⟩ := hj 0 (by simp)
    have hb := ba_data (x :: r)
    have hlen : ((x :: r).map fun x => (⟨x.toArray⟩ : ByteArray)).length = (x :: r).length := by simp
    have key := Tryz.strings_Join g o c ((x :: r).map fun x => (⟨x.toArray⟩ : ByteArray)) ⟨sep.toArray⟩ w (fun j y hy => by
      rw [List.getElem?_map, Option.map_eq_some_iff] at hy
      obtain ⟨z, hz, rfl⟩ := hy
      obtain ⟨hlt, rfl⟩ := List.getElem?_eq_some_iff.1 hz
      obtain ⟨g', o', e', hcl⟩ := hj j hlt
      simp only [Option.some.injEq, Addr.mk.injEq, and_true] at e'
      obtain ⟨rfl, rfl⟩ := e'
      exact hcl) (World.block_lt_of_cell? _ _ h0) (by rw [hlen]; exact hn) (by rw [hlen]; exact hc) (by rw [hb]; exact hl)
    rw [hb, hlen] at key
    exact key

/-! ### a struct's fields -/
theorem fieldsT_get : ∀ (l r : List Txt) (j : Nat) (h1 : j < l.length) (h2 : j < r.length), (fieldsT l r)[j]? = some (r[j] ++ [58, 32] ++ l[j])
  | [], _, j, h, _ => absurd h (Nat.not_lt_zero _)
  | x :: l, [], j, _, h => absurd h (Nat.not_lt_zero _)
  | x :: l, n :: r, 0, _, _ => rfl
  | x :: l, n :: r, j + 1, h1, h2 => by
    have := fieldsT_get l r j (by simpa using h1) (by simpa using h2)
    simpa [fieldsT] using this
theorem fieldsT_length : ∀ (l r : List Txt), l.length ≤ r.length → (fieldsT l r).length = l.length
  | [], _, _ => by simp [fieldsT]
  | x :: l, [], h => by simp at h
  | x :: l, n :: r, h => by
    have := fieldsT_length l r (by simpa using h)
    simp [fieldsT, this]
theorem fieldsT_snoc {l r : List Txt} {j : Nat} (h1 : j < l.length) (h2 : l.length ≤ r.length) : (fieldsT l r).take (j + 1) = (fieldsT l r).take j ++ [r[j] ++ [58, 32] ++ l[j]] := by
  rw [List.take_add_one, fieldsT_get l r j h1 (by omega)]
  rfl
theorem threeC {w : World} {B : Nat} {a b c : Value} {T : TypeId} (h : w.heap[B]? = some (.cells #[a, b, c] T)) :
    (w.cell? ⟨B, 0, none⟩ = some a ∧ w.cell? ⟨B, 1, none⟩ = some b ∧ w.cell? ⟨B, 2, none⟩ = some c) ∧ (w.frozen? ⟨B, 0, none⟩ = false ∧ w.frozen? ⟨B, 1, none⟩ = false ∧ w.frozen? ⟨B, 2, none⟩ = false) := by
  simp [World.cell?, World.frozen?, h]
theorem stp_start (w : World) (y : Stp) : (w.alloc (.cells #[.int .u8 y.kind, .string ⟨y.text.toArray⟩, .int .i64 y.num] 48)).heap[w.heap.size]? = some (.cells #[.int .u8 y.kind, .string ⟨y.text.toArray⟩, .int .i64 y.num] 48) := heap_alloc_new _ _

structure JoinSt (w wr : World) (y : Stp) (out : Value) (xs : List Txt) : Prop where
  bel : Below w.heap.size w wr
  blk : wr.heap[w.heap.size]? = some (.cells #[.int .u8 y.kind, .string ⟨y.text.toArray⟩, .int .i64 y.num] 48)
  own : OwnStrs wr (w.heap.size + 1) out xs
theorem JoinSt.step {w wr w' : World} {y : Stp} {out : Value} {xs : List Txt} (h : JoinSt w wr y out xs) (hb : Below wr.heap.size wr w') : JoinSt w w' y out xs :=
  ⟨h.bel.trans (hb.mono h.bel.size), (hb.block _ (lt_of_heap h.blk)).trans h.blk, own_same h.own fun g _ hg => hb.block g hg⟩

theorem JoinSt.more {w wr w' : World} {y : Stp} {out out' : Value} {xs ys : List Txt} {cs : List Value} {n : Nat} (h : JoinSt w wr y out xs) (hown : w'.ownsRow (w.heap.size + 1) 9 1 out' n cs) (hg : wr.grownBy w' out.ownBlock)
    (hc : cs = strsC ys) (hn : ys.length = n) : JoinSt w w' y out' ys := by
  refine ⟨h.bel.grown hg h.bel.size fun b hb => ?_, ?_, ?_⟩
  · have := (World.ownsRow.lt h.own b hb).1
    omega
  · refine (hg.block _ (lt_of_heap h.blk) fun e => ?_).trans h.blk
    have := (World.ownsRow.lt h.own _ e.symm).1
    omega
  · unfold OwnStrs
    rw [hn, ← hc]
    exact hown

set_option maxHeartbeats 1000000 in
set_option maxRecDepth 100000 in
theorem joined_calls (y : Stp) (k : Nat) (ht : takes y = some k) (hk : y.kind = 7 ∨ y.kind = 8) (l : List Txt) (hl : l.length = k) (v : Value) (w : World) (hv : TxtsIn w v l)
    (htx : y.text.length ≤ 1048575) (hlen : Lib.lens l ≤ 70368744177664) (he : Env w) :
    Calls Tryz.prog 102 #[y.val, v] w fun e w' => e = .returned (.string ⟨(joined y l).toArray⟩) ∧ Below w.heap.size w w' := by
  have hk64 := (takes_parts ht hk).2
  have hjl := joined_len ht hk hl
  have hwt : wt y ≤ 69206950 := by unfold wt; omega
  have Hv := Lib.hid hv
  have He := Lib.hid he
  by_cases h7 : y.kind = 7
  · have b7 : ((y.kind : Int) == 7) = true := by rw [beq_iff_eq]; omega
    have HJ := Lib.hid (show joined y l = [91] ++ (Lib.join l [44, 32] ++ [93]) by unfold joined; rw [if_pos h7, List.append_assoc])
    have hj2 : 1 + (Lib.join l [44, 32]).length + 1 ≤ 140737488355328 := by
      have := hjl
      rw [HJ.out] at this
      simp only [List.length_append, List.length_cons, List.length_nil] at this
      omega
    have hj3 : 1 + (Lib.join l [44, 32]).length + 1 ≤ 9223372036854775807 := by omega
    have Hjc := Lib.hid (fun (w2 : World) (hb : Below w.heap.size w w2) => join_calls l [44, 32] v w2 (hv.below hb) (by omega) (by omega))
    have Hst := Lib.hid (alloc_below w (.cells #[.int .u8 y.kind, .string ⟨y.text.toArray⟩, .int .i64 y.num] 48))
    clear ht hk h7 hv he hjl hlen hj2
    unfold Stp.val
    go_enter Tryz.func102, Tryz.ntmps102
    go_wp2_with fail
    refine (Hjc.out _ Hst.out).mono ?_
    rintro e w2 ⟨rfl, hb2⟩
    have Hb2 := Lib.hid (Hst.out.trans (hb2.mono Hst.out.size))
    clear hb2
    go_wp2_with fail
    go_ret
    exact ⟨by rw [HJ.out]; exact congrArg (fun x => Ending.returned (.string x)) (cat3 [91] _ [93]), Hb2.out⟩
  · have h8 : y.kind = 8 := by omega
    have b7 : ((y.kind : Int) == 7) = false := by rw [beq_eq_false_iff_ne]; omega
    have hlN : l.length ≤ (Lib.split y.text [44]).length := by
      rcases takes_struct ht h8 with ⟨h0, _⟩ | ⟨_, h0⟩ <;> omega
    have HNt := Lib.hid (split_each y.text 44)
    have HJ := Lib.hid (show joined y l = [123] ++ (Lib.join (fieldsT l (Lib.split y.text [44])) [44, 32] ++ [125]) by unfold joined; rw [if_neg h7, List.append_assoc])
    have hj2 : 1 + (Lib.join (fieldsT l (Lib.split y.text [44])) [44, 32]).length + 1 ≤ 140737488355328 := by
      have := hjl
      rw [HJ.out] at this
      simp only [List.length_append, List.length_cons, List.length_nil] at this
      omega
    have hj3 : 1 + (Lib.join (fieldsT l (Lib.split y.text [44])) [44, 32]).length + 1 ≤ 9223372036854775807 := by omega
    have Hsp := Lib.hid (fun (w2 : World) (hb : Below w.heap.size w w2) => split_calls y.text 44 w2 (by omega) (he.below hb))
    generalize Lib.split y.text [44] = N at *
    have Hll := Lib.hid (fun (j : Nat) => lens_get l j)
    have Hlen := Lib.hid hlen
    have HlN := Lib.hid hlN
    have Hj2 := Lib.hid hj2
    have Htx := Lib.hid htx
    obtain ⟨a, n, c, rfl, hn, hc, hj⟩ := hv
    have Hn := Lib.hid hn
    have Hj := Lib.hid hj
    have hn2 : n ≤ 64 := by omega
    clear ht hk h7 h8 he hjl hlen hj2 hn hj hlN htx
    unfold Stp.val
    go_enter Tryz.func102, Tryz.ntmps102
    go_wp2_with fail
    go_loopw [5, 17] (fun s5 i wr => ∃ (j a3 c3 : Nat) (b3 : Option Addr), j ≤ n ∧ i = .int .i64 j ∧ s5 = .slice b3 a3 c3 ∧ Hid (JoinSt w wr y (.slice b3 a3 c3) ((fieldsT l N).take j))) (fun _ i _ => n - (intOf i).toNat)
    case atStart => exact ⟨0, 0, 0, none, Nat.zero_le _, rfl, rfl, ⟨alloc_below _ _, stp_start w y, OwnStrs.nil _ _⟩⟩
    case round =>
      obtain ⟨j, a3, c3, b3, hjn, rfl, rfl, hst⟩ := hrel
      have Hst := Lib.hid hst.out
      by_cases hlt : j < n
      · have hjl : j < l.length := by rw [Hn.out]; exact hlt
        have hjN : j < N.length := Nat.lt_of_lt_of_le hjl HlN.out
        obtain ⟨g, o, rfl, q0⟩ := Hj.out j hjl
        have q0 := (hst.out.bel.cell (p := ⟨g, o + j, none⟩) (World.block_lt_of_cell? _ _ q0)).trans q0
        obtain ⟨⟨k0, k1, k2⟩, -⟩ := threeC hst.out.blk
        have Hsn := Lib.hid (fieldsT_snoc hjl HlN.out)
        have hc1 : N[j].length ≤ 1048575 := Nat.le_trans (HNt.out _ (List.getElem_mem hjN)) Htx.out
        have hc2 : l[j].length ≤ 70368744177664 := by
          have h1 := Hll.out j
          rw [List.getD_eq_getElem?_getD, List.getElem?_eq_getElem hjl, Option.getD_some] at h1
          exact Nat.le_trans h1 Hlen.out
        have Hq := Lib.hid (show ∀ w2 : World, wr.alloc (.cells (strsC N).toArray 9) = w2 → w2.cell? ⟨wr.heap.size, j, none⟩ = some (.string ⟨N[j].toArray⟩) from fun w2 e => by
          rw [← e]
          obtain ⟨a, n, c, e1, e2, _, h⟩ := StrsAt.new wr N N.length (strsC N).toArray 9 (0, 0) rfl rfl
          obtain ⟨g, e3, e4⟩ := h j hjN
          simp only [Value.slice.injEq] at e1
          rw [← e1.1] at e3
          simp only [Option.some.injEq, Addr.mk.injEq, and_true] at e3
          rw [e3]; exact e4)
        generalize N[j] = nj at *
        generalize l[j] = lj at *
        have Hsp2 := Lib.hid (Hsp.out wr hst.out.bel)
        clear hst
        go_wp2_with fail
        refine Hsp2.out.mono ?_
        rintro e w2 ⟨rfl, hw2⟩
        have q1 := Hq.out w2 hw2
        have hb2 : Below wr.heap.size wr w2 := by rw [← hw2]; exact alloc_below _ _
        have hlj : ((fieldsT l N).take j).length = j := by rw [List.length_take, fieldsT_length l N HlN.out]; omega
        have hb3 := hb2.trans ((alloc_below w2 (.cells #[.string (⟨nj.toArray⟩ ++ ⟨#[58, 32]⟩ ++ ⟨lj.toArray⟩)] 9)).mono hb2.size)
        have Hst2 := Lib.hid (Hst.out.step hb3)
        have hown4 := Hst2.out.own
        unfold OwnStrs at hown4
        rw [hlj] at hown4
        have Hown4 := Lib.hid hown4
        have Hlj := Lib.hid hlj
        have Hnews := Lib.hid (World.news_of_block (cs := #[.string (⟨nj.toArray⟩ ++ ⟨#[58, 32]⟩ ++ ⟨lj.toArray⟩)]) (t := 9) (fr := (0, 0)) (heap_alloc_new w2 (.cells #[.string (⟨nj.toArray⟩ ++ ⟨#[58, 32]⟩ ++ ⟨lj.toArray⟩)] 9)))
        obtain ⟨i0, hi0, hz0, hz1, hz2⟩ := info_parts strInfo
        have Hi0 := Lib.hid hi0
        have Hz0 := Lib.hid hz0
        have Hz1 := Lib.hid hz1
        have Hz2 := Lib.hid hz2
        clear hi0 hz0 hz1 hz2 hw2 hb2 hb3 hown4 hlj
        go_wp2_with (at_builtin; go_must (refine wpList_append_own_at _ rfl _ _ 93 rfl (w.heap.size + 1) 9 i0 _ 1 16 Tryz.underlying93 Hi0.out Hz0.out Hz1.out Hz2.out rfl (by decide) _ j (strsC ((fieldsT l N).take j)) rfl Hown4.out ⟨w2.heap.size, 0, none⟩ 1 1 [.string (⟨nj.toArray⟩ ++ ⟨#[58, 32]⟩ ++ ⟨lj.toArray⟩)] rfl rfl ?c1 ?c2 ?c3 ?c4 ?c5 ?_))
        case c1 => exact Hnews.out
        case c2 => simp [Value.oneCell']
        case c3 => unfold maxLen; omega
        case c4 => omega
        case c5 => exact lt_of_heap Hst2.out.blk
        intro v7 w7 hown7 hgrow7 _ hat7
        have Hst7 := Lib.hid (Hst2.out.more hown7 hgrow7 (show strsC ((fieldsT l N).take j) ++ [.string (⟨nj.toArray⟩ ++ ⟨#[58, 32]⟩ ++ ⟨lj.toArray⟩)] = strsC ((fieldsT l N).take (j + 1)) by
          rw [Hsn.out, strsC_snoc]
          exact congrArg (fun x => strsC ((fieldsT l N).take j) ++ [Value.string x]) (by rw [cat3, List.append_assoc])) (by rw [Hsn.out, List.length_append, Hlj.out]; rfl))
        obtain ⟨a7, c7, rfl⟩ := own_form hown7
        clear hown7 hgrow7 hat7
        go_wp2_with fail
        go_roundw
        case rel => exact ⟨j + 1, _, _, _, by omega, by go_num, rfl, Hst7.out⟩
        case measure => simp [intOf]; omega
      · have hjn' : j = n := by omega
        subst hjn'
        have hF : (fieldsT l N).take j = fieldsT l N := List.take_of_length_le (by rw [fieldsT_length l N HlN.out, Hn.out]; exact Nat.le_refl _)
        rw [hF] at Hst
        have Hjc := Lib.hid (join_calls (fieldsT l N) [44, 32] _ wr (TxtsIn.own Hst.out.own) (by have := Hj2.out; omega) (by have := fieldsT_len l N; omega))
        clear hst hF
        go_wp2_with fail
        refine Hjc.out.mono ?_
        rintro e w2 ⟨rfl, hb2⟩
        have Hb2 := Lib.hid (Hst.out.bel.trans (hb2.mono Hst.out.bel.size))
        clear hb2
        go_wp2_with fail
        go_ret
        exact ⟨by rw [HJ.out]; exact congrArg (fun x => Ending.returned (.string x)) (cat3 [123] _ [125]), Hb2.out⟩

end Go.Proofs.YtcjmhmmjfgjcnaaGreatDoor.Pa
