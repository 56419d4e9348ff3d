/- Parts: RaQ RdE PcB PaT PaV. -/
import Derived.Test.YtcjmhmmjfgjcnaaGreatDoorMe18
import Derived.Test.YtcjmhmmjfgjcnaaGreatDoorMe19
import Derived.Test.YtcjmhmmjfgjcnaaGreatDoorMe21
import Derived.Test.YtcjmhmmjfgjcnaaGreatDoorMe24
import Derived.Lib.ItoaLen
import Derived.Maps.OwnOps

/- codicilref10: Right, Closed. -/
namespace Go.Proofs.YtcjmhmmjfgjcnaaGreatDoor.Rf
open Go.RowKit Go.Proofs.YtcjmhmmjfgjcnaaGreatDoor.Lx Go.Proofs.YtcjmhmmjfgjcnaaGreatDoor.Pa

set_option maxHeartbeats 1000000 in
set_option maxRecDepth 100000 in
theorem RightR_calls (w : World) (v : Value) (l : List Stp) (h : StpsIn w v l) (hl : l.length ≤ 1048576) (ht : ∀ y ∈ l, y.text.length ≤ 1048576) :
    Calls Tryz.prog 25 #[v] w fun e w' => e = .returned (.bool (rightB l)) ∧ Below w.heap.size w w' := by
  obtain ⟨a, n, c, rfl, hn, hc, hj⟩ := h
  subst hn
  have Hj := Lib.hid hj
  have HR := Lib.hid (show rightB l = (decide (rightL l 0 = some 1) && decide (l.length ≤ 128)) from rfl)
  clear hj
  go_enter Tryz.func25, Tryz.ntmps25
  go_wp2_with fail
  go_loopw [3, 10] (fun s3 s10 wr => ∃ k m : Nat, s10 = .int .i64 k ∧ s3 = .int .i64 m ∧ k ≤ l.length ∧ m ≤ k ∧ Hid (Below w.heap.size w wr) ∧ Hid (rightL l 0 = rightL (l.drop k) m)) (fun _ s10 _ => l.length - (intOf s10).toNat)
  case atStart => exact ⟨0, 0, rfl, rfl, Nat.zero_le _, Nat.le_refl _, Lib.hid (Below.refl _ _), Lib.hid (by rw [List.drop_zero])⟩
  case round =>
    obtain ⟨k, m, rfl, rfl, hk, hmk, hbr, hr⟩ := hrel
    have Hbr := Lib.hid hbr.out
    clear hbr
    by_cases hlt : k < l.length
    · obtain ⟨g, o, ha, hcl0⟩ := Hj.out k hlt
      subst ha
      obtain ⟨q0, q1, q2⟩ := hcl0.below Hbr.out
      have hq := hr.out
      rw [List.drop_eq_getElem_cons hlt, rightL_cons] at hq
      have hyt := ht _ (List.getElem_mem hlt)
      generalize l[k] = y at q0 q1 q2 hq hyt
      have HT := Lib.hid (fun W => TakesR_calls y W hyt)
      clear hr hcl0
      unfold Stp.val takesV at HT
      cases htk : takes y with
      | none =>
        rw [htk] at HT hq
        have Hv := Lib.hid (show rightB l = false by rw [HR.out, hq]; rfl)
        clear hq htk
        go_wp2_with fail
        refine (HT.out _).mono ?_
        rintro e w1 ⟨rfl, hb1⟩
        have Hb1 := Lib.hid (rStep (rStep Hbr.out (rAlloc _ _)) hb1)
        clear hb1
        simp only [Option.getD_none, Option.isSome_none]
        go_wp2_with fail
        go_ret
        exact ⟨by rw [Hv.out]; rfl, Hb1.out⟩
      | some j =>
        have hj64 := takes_le htk
        rw [htk] at HT hq
        simp only at hq
        by_cases hmj : m < j
        · rw [if_pos hmj] at hq
          have Hv := Lib.hid (show rightB l = false by rw [HR.out, hq]; rfl)
          have hmj2 : (m : Int) < j := by omega
          clear hq htk
          go_wp2_with fail
          refine (HT.out _).mono ?_
          rintro e w1 ⟨rfl, hb1⟩
          have Hb1 := Lib.hid (rStep (rStep Hbr.out (rAlloc _ _)) hb1)
          clear hb1
          simp only [Option.getD_some, Option.isSome_some]
          go_wp2_with fail
          go_ret
          exact ⟨by rw [Hv.out]; rfl, Hb1.out⟩
        · rw [if_neg hmj] at hq
          have Hv := Lib.hid hq
          have hmj2 : ¬ (m : Int) < j := by omega
          clear hq htk
          go_wp2_with fail
          refine (HT.out _).mono ?_
          rintro e w1 ⟨rfl, hb1⟩
          have Hb1 := Lib.hid (rStep (rStep Hbr.out (rAlloc _ _)) hb1)
          clear hb1
          simp only [Option.getD_some, Option.isSome_some]
          go_wp2_with fail
          go_roundw
          case rel => exact ⟨k + 1, m - j + 1, by go_num, by congr 1; omega, by omega, by omega, Hb1, Hv⟩
          case measure => simp [intOf]; omega
    · have hq := hr.out
      rw [List.drop_of_length_le (by omega), rightL] at hq
      by_cases h1 : m = 1
      · have e1 : ((m : Int) == 1) = true := by rw [h1]; rfl
        have Hv := Lib.hid (show rightB l = decide ((l.length : Int) ≤ 128) by rw [HR.out, hq, h1, decide_eq_true rfl, Bool.true_and]; exact decide_eq_decide.2 (by omega))
        clear hq hr h1
        go_wp2_with fail
        go_ret
        exact ⟨by rw [Hv.out]; rfl, Hbr.out⟩
      · have e1 : ((m : Int) == 1) = false := by rw [beq_eq_false_iff_ne]; omega
        have Hv := Lib.hid (show rightB l = false by rw [HR.out, hq]; simp [h1])
        clear hq hr h1
        go_wp2_with fail
        go_ret
        exact ⟨by rw [Hv.out]; rfl, Hbr.out⟩

set_option maxHeartbeats 1000000 in
set_option maxRecDepth 100000 in
theorem ClosedR_calls (w : World) (v : Value) (l : List Stp) (h : StpsIn w v l) (hl : l.length ≤ 1048576) :
    Calls Tryz.prog 27 #[v] w fun e w' => e = .returned (.bool (closedB l)) ∧ Below w.heap.size w w' := by
  obtain ⟨a, n, c, rfl, hn, hc, hj⟩ := h
  subst hn
  have Hj := Lib.hid hj
  clear hj
  go_enter Tryz.func27, Tryz.ntmps27
  go_wp2_with fail
  go_loopw [7] (fun s7 wr => ∃ k : Nat, s7 = .int .i64 k ∧ k ≤ l.length ∧ Hid (Below w.heap.size w wr) ∧ Hid ((l.take k).all (fun s => s.kind != 6) = true)) (fun s7 _ => l.length - (intOf s7).toNat)
  case atStart => exact ⟨0, rfl, Nat.zero_le _, Lib.hid (Below.refl _ _), Lib.hid rfl⟩
  case round =>
    obtain ⟨k, rfl, hk, hbr, hr⟩ := hrel
    have Hbr := Lib.hid hbr.out
    clear hbr
    by_cases hlt : k < l.length
    · obtain ⟨g, o, ha, hcl0⟩ := Hj.out k hlt
      subst ha
      obtain ⟨q0, q1, q2⟩ := hcl0.below Hbr.out
      have hnx := List.take_succ_eq_append_getElem hlt
      have hmem := List.getElem_mem hlt
      generalize l[k] = y at q0 q1 q2 hnx hmem
      clear hcl0
      by_cases h6 : y.kind = 6
      · have e6 : ((y.kind : Int) == 6) = true := by rw [h6]; rfl
        have Hv := Lib.hid (show closedB l = false by
          unfold closedB
          rw [List.all_eq_false]
          exact ⟨y, hmem, by rw [h6]; simp⟩)
        clear hnx hmem h6
        go_wp2_with fail
        go_ret
        exact ⟨by rw [Hv.out]; rfl, rStep Hbr.out (rAlloc _ _)⟩
      · have e6 : ((y.kind : Int) == 6) = false := by rw [beq_eq_false_iff_ne]; omega
        have Hv := Lib.hid (show (l.take (k + 1)).all (fun s => s.kind != 6) = true by rw [hnx, List.all_append, hr.out]; simp [h6])
        clear hnx hmem h6 hr
        go_wp2_with fail
        go_roundw
        case rel => exact ⟨k + 1, by go_num, by omega, Lib.hid (rStep Hbr.out (rAlloc _ _)), Hv⟩
        case measure => simp [intOf]; omega
    · have Hv := Lib.hid (show closedB l = true by
        have := hr.out
        rw [List.take_of_length_le (by omega)] at this
        exact this)
      clear hr
      go_wp2_with fail
      go_ret
      exact ⟨by rw [Hv.out]; rfl, Hbr.out⟩

end Go.Proofs.YtcjmhmmjfgjcnaaGreatDoor.Rf

/- codicilref10: Operator. -/
namespace Go.Proofs.YtcjmhmmjfgjcnaaGreatDoor.Rf
open Go.RowKit Go.Proofs.YtcjmhmmjfgjcnaaGreatDoor.Lx Go.Proofs.YtcjmhmmjfgjcnaaGreatDoor.Pa

set_option maxHeartbeats 2000000 in
set_option maxRecDepth 100000 in
theorem OperatorR_calls (k : Nat) (hk : 12 ≤ k ∧ k < 23) (w : World) :
    Calls Tryz.prog 107 #[.int .u8 k] w fun e w' => e = .returned (.string ⟨(operators.getD (k - 12) []).toArray⟩) ∧ Below w.heap.size w w' := by
  have hk2 : k = 12 ∨ k = 13 ∨ k = 14 ∨ k = 15 ∨ k = 16 ∨ k = 17 ∨ k = 18 ∨ k = 19 ∨ k = 20 ∨ k = 21 ∨ k = 22 := by omega
  clear hk
  rcases hk2 with rfl | rfl | rfl | rfl | rfl | rfl | rfl | rfl | rfl | rfl | rfl
  all_goals
    go_enter Tryz.func107, Tryz.ntmps107
    go_wp2_with fail
    go_ret
    exact ⟨rfl, rAlloc _ _⟩

end Go.Proofs.YtcjmhmmjfgjcnaaGreatDoor.Rf

/- parse: how long a shown expression may be. Plain. -/
namespace Go.Proofs.YtcjmhmmjfgjcnaaGreatDoor.Pa
open Go.Proofs.YtcjmhmmjfgjcnaaGreatDoor.Lx

/-- how much a step adds at most -/
def wt (y : Stp) : Nat := 66 * y.text.length + 1000
def wts (l : List Stp) : Nat := (l.map wt).sum
theorem wts_cons (y : Stp) (l : List Stp) : wts (y :: l) = wt y + wts l := by simp [wts]

theorem lens_cons (x : Txt) (l : List Txt) : Lib.lens (x :: l) = x.length + Lib.lens l := by simp [Lib.lens]
theorem lens_app (a b : List Txt) : Lib.lens (a ++ b) = Lib.lens a + Lib.lens b := by simp [Lib.lens]
theorem lens_get (l : List Txt) (i : Nat) : (l.getD i []).length ≤ Lib.lens l := by
  induction l generalizing i with
  | nil => simp
  | cons x l ih =>
    rw [lens_cons]
    cases i with
    | zero => simp
    | succ i => have := ih i; simp only [List.getD_cons_succ]; omega
theorem lens_two (l : List Txt) : (l.getD 0 []).length + (l.getD 1 []).length ≤ Lib.lens l := by
  cases l with
  | nil => simp
  | cons x l =>
    rw [lens_cons]
    have := lens_get l 0
    simp only [List.getD_cons_zero, List.getD_cons_succ]
    omega
theorem lens_le {B : Nat} : ∀ {l : List Txt}, (∀ x ∈ l, x.length ≤ B) → Lib.lens l ≤ l.length * B
  | [], _ => by simp [Lib.lens]
  | x :: l, h => by
    have h1 := lens_le (l := l) fun y hy => h y (by simp [hy])
    have h2 := h x (by simp)
    rw [lens_cons, List.length_cons, Nat.succ_mul]
    omega
theorem join_len (l : List Txt) (sep : Txt) : (Lib.join l sep).length ≤ Lib.lens l + sep.length * l.length := by
  cases l with
  | nil => simp [Lib.join_nil]
  | cons x r =>
    rw [Lib.join_length, List.length_cons, Nat.mul_succ]
    omega
theorem fieldsT_lens : ∀ (l r : List Txt), Lib.lens (fieldsT l r) ≤ Lib.lens l + Lib.lens r + 2 * l.length
  | [], r => by simp [fieldsT, Lib.lens]
  | x :: l, [] => by simp [fieldsT, Lib.lens]
  | x :: l, n :: r => by
    have := fieldsT_lens l r
    simp only [fieldsT, lens_cons, List.length_append, List.length_cons, List.length_nil]
    omega
theorem fieldsT_len : ∀ (l r : List Txt), (fieldsT l r).length ≤ l.length
  | [], r => by simp [fieldsT]
  | x :: l, [] => by simp [fieldsT]
  | x :: l, n :: r => by
    have := fieldsT_len l r
    simp only [fieldsT, List.length_cons]
    omega

theorem takes_parts {y : Stp} {k : Nat} (h : takes y = some k) (hk : y.kind = 7 ∨ y.kind = 8) : y.num = k ∧ k ≤ 64 := by
  unfold takes at h
  rw [if_neg (by omega), if_neg (by omega), if_neg (by omega), if_neg (by omega)] at h
  rcases hk with hk | hk
  · rw [if_pos hk] at h
    split at h
    · simp only [Option.some.injEq] at h; omega
    · cases h
  · rw [if_neg (by omega), if_pos hk] at h
    split at h
    · simp only [Option.some.injEq] at h; omega
    · cases h
/-- a struct's names -/
theorem takes_struct {y : Stp} {k : Nat} (h : takes y = some k) (hk : y.kind = 8) : (k = 0 ∧ y.text = []) ∨ (0 < k ∧ (Lib.split y.text [44]).length = k) := by
  have h2 := takes_parts h (.inr hk)
  unfold takes at h
  rw [if_neg (by omega), if_neg (by omega), if_neg (by omega), if_neg (by omega), if_neg (by omega), if_pos hk] at h
  split at h
  · rename_i hx
    have hn := hx.2.2
    unfold namesB at hn
    split at hn
    · exact .inl ⟨by omega, of_decide_eq_true hn⟩
    · simp only [Bool.and_eq_true, decide_eq_true_eq] at hn
      exact .inr ⟨by omega, by omega⟩
  · cases h
theorem joined_len {y : Stp} {k : Nat} (h : takes y = some k) (hk : y.kind = 7 ∨ y.kind = 8) {l : List Txt} (hl : l.length = k) : (joined y l).length ≤ Lib.lens l + wt y := by
  obtain ⟨h1, h2⟩ := takes_parts h hk
  unfold joined wt
  split
  · have := join_len l [44, 32]
    simp only [List.length_append, List.length_cons, List.length_nil] at this ⊢
    omega
  · rename_i h7
    have hs : Lib.lens (Lib.split y.text [44]) ≤ 64 * y.text.length := by
      rcases takes_struct h (by omega) with ⟨_, h0⟩ | ⟨_, h0⟩
      · rw [h0]; decide +kernel
      · have := lens_le (l := Lib.split y.text [44]) (B := y.text.length) (fun t ht => split_each y.text 44 t ht)
        have h3 := Nat.mul_le_mul_right y.text.length (show (Lib.split y.text [44]).length ≤ 64 by omega)
        omega
    have := join_len (fieldsT l (Lib.split y.text [44])) [44, 32]
    have h3 := fieldsT_lens l (Lib.split y.text [44])
    have h4 := fieldsT_len l (Lib.split y.text [44])
    simp only [List.length_append, List.length_cons, List.length_nil] at this ⊢
    omega
theorem textS_len (x : Txt) : (textS x).length ≤ 2 * x.length + 2 := by
  unfold textS
  split
  · rw [showS_txt _ rfl]
    simp only [replaceAll_dbl, List.length_cons, List.length_append, List.length_nil]
    have := dbl_length x
    omega
  · simp
theorem op_len (i : Nat) : (operators.getD i []).length ≤ 3 := by
  unfold operators
  rcases i with _ | _ | _ | _ | _ | _ | _ | _ | _ | _ | _ | i <;> simp
theorem shown_len {y : Stp} {k : Nat} (h : takes y = some k) (hn : y.num ≤ 9223372036854775807) {l : List Txt} (hl : l.length = k) : (shown y l).length ≤ Lib.lens l + wt y := by
  have hw : wt y = 66 * y.text.length + 1000 := rfl
  have g0 := lens_get l 0
  have g2 := lens_two l
  unfold shown
  split
  · simp [kNULL]; omega
  split
  · simp [kTRUE]; omega
  split
  · simp [kFALSE]; omega
  split
  · rename_i h4
    have h0 : 0 ≤ y.num := by
      unfold takes at h
      rw [if_neg (by omega), if_pos h4] at h
      split at h
      · rename_i hx; exact hx.2
      · cases h
    have := Lib.itoa_length_le y.num (by omega) hn
    omega
  split
  · have := textS_len y.text; omega
  split
  · omega
  split
  · rename_i h7
    exact joined_len h h7 hl
  split
  · simp only [List.length_append, List.length_cons, List.length_nil]; omega
  split
  · simp only [List.length_append, List.length_cons, List.length_nil, kNOTX]; omega
  split
  · simp only [List.length_append, List.length_cons, List.length_nil, kISNULLX]; omega
  · have := op_len (y.kind - 12)
    simp only [List.length_append, List.length_cons, List.length_nil]; omega

/-- one round of Show -/
def push (y : Stp) (st : List Txt) : List Txt := st.take (st.length - takesN y) ++ [shown y (st.drop (st.length - takesN y))]
theorem showG_cons (y : Stp) (r : List Stp) (st : List Txt) : showG (y :: r) st = showG r (push y st) := rfl
theorem push_length {y : Stp} {k : Nat} (h : takes y = some k) {st : List Txt} (_hk : k ≤ st.length) : (push y st).length = st.length - k + 1 := by
  unfold push takesN
  rw [h]
  simp
theorem push_lens {y : Stp} {k : Nat} (h : takes y = some k) (hn : y.num ≤ 9223372036854775807) {st : List Txt} (hk : k ≤ st.length) : Lib.lens (push y st) ≤ Lib.lens st + wt y := by
  unfold push takesN
  rw [h, Option.getD_some, lens_app, lens_cons]
  have h1 := shown_len h hn (l := st.drop (st.length - k)) (by rw [List.length_drop]; omega)
  have h2 : Lib.lens st = Lib.lens (st.take (st.length - k)) + Lib.lens (st.drop (st.length - k)) := by rw [← lens_app, List.take_append_drop]
  have h3 : Lib.lens ([] : List Txt) = 0 := rfl
  omega
theorem showG_lens : ∀ (l : List Stp) (st : List Txt) {m : Nat}, rightL l st.length = some m → (∀ y ∈ l, y.num ≤ 9223372036854775807) → Lib.lens (showG l st) ≤ Lib.lens st + wts l ∧ (showG l st).length = m
  | [], st, m, h, _ => by
    simp only [rightL, Option.some.injEq] at h
    exact ⟨by simp [showG, wts], h⟩
  | y :: r, st, m, h, hn => by
    rw [rightL] at h
    cases ht : takes y with
    | none => rw [ht] at h; cases h
    | some k =>
      rw [ht] at h
      simp only at h
      split at h
      · cases h
      · rename_i hk
        have h1 := push_length ht (st := st) (by omega)
        have h2 := push_lens ht (hn y (by simp)) (st := st) (by omega)
        rw [← h1] at h
        have ih := showG_lens r (push y st) h fun z hz => hn z (by simp [hz])
        rw [showG_cons, wts_cons]
        exact ⟨by omega, ih.2⟩
theorem wts_le : ∀ {l : List Stp}, (∀ y ∈ l, y.text.length ≤ 1048575) → wts l ≤ l.length * 69206950
  | [], _ => by simp [wts]
  | y :: l, h => by
    have h1 := wts_le (l := l) fun z hz => h z (by simp [hz])
    have h2 := h y (by simp)
    rw [wts_cons, List.length_cons, Nat.succ_mul]
    unfold wt
    omega
/-- AN EXPRESSION's TEXT IS NOT TOO LONG -/
theorem showE_len {l : List Stp} (hn : ∀ y ∈ l, y.num ≤ 9223372036854775807) (ht : ∀ y ∈ l, y.text.length ≤ 1048575) : (showE l).length ≤ 8858489600 := by
  unfold showE
  split
  · rename_i h
    unfold rightB at h
    simp only [Bool.and_eq_true, decide_eq_true_eq] at h
    obtain ⟨h1, h2⟩ := showG_lens l [] (m := 1) h.1 hn
    have h3 := wts_le ht
    have h4 := Nat.mul_le_mul_right 69206950 h.2
    have h5 : ((showG l []).headD []).length ≤ Lib.lens (showG l []) := by
      cases showG l [] with
      | nil => simp
      | cons x r => rw [lens_cons]; simp
    have h6 : Lib.lens ([] : List Txt) = 0 := rfl
    omega
  · simp

end Go.Proofs.YtcjmhmmjfgjcnaaGreatDoor.Pa

/- The parser: expressions. -/
namespace Go.Proofs.YtcjmhmmjfgjcnaaGreatDoor.Pa
open Go.RowKit Go.Proofs.YtcjmhmmjfgjcnaaGreatDoor.Lx
variable {x : Px}

theorem enters_primary : Enters 210 := enters_of Tryz.func210 (by kernel_rfl) (by kernel_rfl)
theorem enters_product : Enters 208 := enters_of Tryz.func208 (by kernel_rfl) (by kernel_rfl)
theorem enters_not : Enters 175 := enters_of Tryz.func175 (by kernel_rfl) (by kernel_rfl)
theorem enters_compared : Enters 197 := enters_of Tryz.func197 (by kernel_rfl) (by kernel_rfl)
theorem enters_and : Enters 150 := enters_of Tryz.func150 (by kernel_rfl) (by kernel_rfl)

set_option maxRecDepth 100000 in
theorem signed_reads (or_ : Nat → St → Option St) (n : Nat) (h : ReadsAt x 210 (primary or_ n)) : ReadsAt x 209 (signed or_ n) := by
  intro d hd w lv sv s s' hp hr
  have Hc := Lib.hid (ahead_calls 5 _ [45] 9 _ h enters_primary n d w lv sv s s' hd hp hr)
  clear hp hr h
  go_enter Tryz.func209, Tryz.ntmps209
  go_wp2_with fail
  refine Hc.out.mono ?_
  rintro e w1 ⟨rfl, lv1, sv1, h1⟩
  have H1 := Lib.hid h1
  clear h1
  go_wp2_with fail
  go_end0
  exact ⟨rfl, _, _, H1.out⟩

set_option maxRecDepth 100000 in
theorem product_reads (or_ : Nat → St → Option St) (n : Nat) (h : ReadsAt x 209 (signed or_ n)) : ReadsAt x 208 (product or_ n) := by
  intro d hd w lv sv s s' hp hr
  have Hc := Lib.hid (row_calls (hp.step (alloc_below w (.cells (strsC [[42]]).toArray 9))) 5 _ d w.heap.size 1 [[42]] _ (h d hd) enters_signed (TextsAt.new w [[42]] 1 _ _ _ rfl rfl) (by have := hp.lt; omega) (hp.own_lt (Nat.le_refl _)) (by omega) n s' hr)
  have Hp := Lib.hid ((Now.refl hp).alloc (.cells (strsC [[42]]).toArray 9))
  clear hp hr h
  go_enter Tryz.func208, Tryz.ntmps208
  go_wp2_with fail
  refine Hc.out.mono ?_
  rintro e w1 ⟨rfl, lv1, sv1, h1⟩
  have H1 := Lib.hid (Hp.out.trans h1)
  clear h1
  go_wp2_with fail
  go_end0
  exact ⟨rfl, _, _, H1.out⟩

set_option maxRecDepth 100000 in
theorem sum_reads (or_ : Nat → St → Option St) (n : Nat) (h : ReadsAt x 208 (product or_ n)) : ReadsAt x 206 (sum or_ n) := by
  intro d hd w lv sv s s' hp hr
  have Hc := Lib.hid (row_calls (hp.step (alloc_below w (.cells (strsC [[43], [45]]).toArray 9))) 5 _ d w.heap.size 2 [[43], [45]] _ (h d hd) enters_product (TextsAt.new w [[43], [45]] 2 _ _ _ rfl rfl) (by have := hp.lt; omega) (hp.own_lt (Nat.le_refl _)) (by omega) n s' hr)
  have Hp := Lib.hid ((Now.refl hp).alloc (.cells (strsC [[43], [45]]).toArray 9))
  clear hp hr h
  go_enter Tryz.func206, Tryz.ntmps206
  go_wp2_with fail
  refine Hc.out.mono ?_
  rintro e w1 ⟨rfl, lv1, sv1, h1⟩
  have H1 := Lib.hid (Hp.out.trans h1)
  clear h1
  go_wp2_with fail
  go_end0
  exact ⟨rfl, _, _, H1.out⟩

set_option maxRecDepth 100000 in
theorem not_reads (or_ : Nat → St → Option St) (n : Nat) (h : ReadsAt x 197 (compared or_ n)) : ReadsAt x 175 (notE or_ n) := by
  intro d hd w lv sv s s' hp hr
  have Hc := Lib.hid (ahead_calls 2 _ kNOT 10 _ h enters_compared n d w lv sv s s' hd hp hr)
  clear hp hr h
  go_enter Tryz.func175, Tryz.ntmps175
  go_wp2_with fail
  refine Hc.out.mono ?_
  rintro e w1 ⟨rfl, lv1, sv1, h1⟩
  have H1 := Lib.hid h1
  clear h1
  go_wp2_with fail
  go_end0
  exact ⟨rfl, _, _, H1.out⟩

set_option maxRecDepth 100000 in
theorem and_reads (or_ : Nat → St → Option St) (n : Nat) (h : ReadsAt x 175 (notE or_ n)) : ReadsAt x 150 (andE or_ n) := by
  intro d hd w lv sv s s' hp hr
  have Hc := Lib.hid (row_calls (hp.step (alloc_below w (.cells (strsC [kAND]).toArray 9))) 2 _ d w.heap.size 1 [kAND] _ (h d hd) enters_not (TextsAt.new w [kAND] 1 _ _ _ rfl rfl) (by have := hp.lt; omega) (hp.own_lt (Nat.le_refl _)) (by omega) n s' hr)
  have Hp := Lib.hid ((Now.refl hp).alloc (.cells (strsC [kAND]).toArray 9))
  clear hp hr h
  go_enter Tryz.func150, Tryz.ntmps150
  go_wp2_with fail
  refine Hc.out.mono ?_
  rintro e w1 ⟨rfl, lv1, sv1, h1⟩
  have H1 := Lib.hid (Hp.out.trans h1)
  clear h1
  go_wp2_with fail
  go_end0
  exact ⟨rfl, _, _, H1.out⟩

set_option maxRecDepth 100000 in
theorem or_reads (or_ : Nat → St → Option St) (n : Nat) (h : ReadsAt x 150 (andE or_ n)) : ReadsAt x 127 (orE or_ n) := by
  intro d hd w lv sv s s' hp hr
  have Hc := Lib.hid (row_calls (hp.step (alloc_below w (.cells (strsC [kOR]).toArray 9))) 2 _ d w.heap.size 1 [kOR] _ (h d hd) enters_and (TextsAt.new w [kOR] 1 _ _ _ rfl rfl) (by have := hp.lt; omega) (hp.own_lt (Nat.le_refl _)) (by omega) n s' hr)
  have Hp := Lib.hid ((Now.refl hp).alloc (.cells (strsC [kOR]).toArray 9))
  clear hp hr h
  go_enter Tryz.func127, Tryz.ntmps127
  go_wp2_with fail
  refine Hc.out.mono ?_
  rintro e w1 ⟨rfl, lv1, sv1, h1⟩
  have H1 := Lib.hid (Hp.out.trans h1)
  clear h1
  go_wp2_with fail
  go_end0
  exact ⟨rfl, _, _, H1.out⟩

end Go.Proofs.YtcjmhmmjfgjcnaaGreatDoor.Pa

/- The parser: comparisons. -/
namespace Go.Proofs.YtcjmhmmjfgjcnaaGreatDoor.Pa
open Go.RowKit Go.Proofs.YtcjmhmmjfgjcnaaGreatDoor.Lx
variable {x : Px}

theorem next_take {s : St} {k : Nat} {texts : List Txt} (hx : s.next k texts = true) : s.after k texts = s.drop ∧ s.taken k texts = s.head := by
  unfold St.after St.taken; rw [hx]; exact ⟨rfl, rfl⟩
theorem texts_new {x : Px} {w : World} {lv sv : Value} {s : St} (h : PS x w lv sv s) : w.heap.size ≠ x.B ∧ sv.ownBlock ≠ some w.heap.size := ⟨by have := h.lt; omega, h.own_lt (Nat.le_refl _)⟩

set_option maxHeartbeats 1000000 in
set_option maxRecDepth 100000 in
theorem compared_op (or_ : Nat → St → Option St) (n d : Nat) (hd : d ≤ 16) (h : ReadsAt x 206 (sum or_ n)) (w : World) (lv sv : Value) (s s1 s2 : St) (hp : PS x w lv sv s) (hs1 : sum or_ n d s = some s1) (hx : s1.next 5 relOps = true) (hs2 : sum or_ n d s1.drop = some s2) :
    Calls Tryz.prog 197 #[.pointer (some ⟨x.B, 0, none⟩), .int .i64 d] w (Did x w sv (s2.put ⟨opKind s1.head.text, [], 0⟩)) := by
  have H0 := Lib.hid (h d hd w lv sv s s1 hp hs1)
  have Hsum := Lib.hid (fun w lv sv hp => h d hd w lv sv s1.drop s2 hp hs2)
  have Hx := Lib.hid hx
  have Hx2 := Lib.hid (next_take hx)
  clear hx hs1 hs2 h hp
  go_enter Tryz.func197, Tryz.ntmps197
  go_wp2_with fail
  refine H0.out.mono ?_
  rintro e w1 ⟨rfl, lv1, sv1, h1⟩
  have H1 := Lib.hid h1
  clear h1
  go_wp2_with fail
  refine (take_calls (H1.out.alloc _).ps 5 _ relOps (StrsAt.new w1 relOps 6 _ _ _ rfl rfl) (by decide)).mono ?_
  rw [Hx.out, Hx2.out.1, Hx2.out.2]
  rintro e w3 ⟨rfl, lv3, sv3, h3⟩
  have H3 := Lib.hid ((H1.out.alloc _).trans h3)
  generalize s1.head = T at *
  have Hkept := Lib.hid (fun o w2 lv2 sv2 s2 h2' => kept (o := o) (w' := w2) (lv' := lv2) (sv' := sv2) (s' := s2) h3.ps h2')
  unfold Tok.val
  clear h3
  go_wp2_with fail
  refine (Hsum.out _ _ _ (H3.out.ps.step (alloc_below _ _))).mono ?_
  rintro e w4 ⟨rfl, lv4, sv4, h4⟩
  have H4 := Lib.hid ((H3.out.alloc _).trans h4)
  obtain ⟨⟨k0, k1, k2, k3⟩, -⟩ := four (Hkept.out _ _ _ _ _ h4)
  have hlt4 : w3.heap.size < w4.heap.size := World.block_lt_of_cell? _ _ k0
  clear h4 Hkept
  go_wp2_with fail
  have Hops := Lib.hid (((TextsAt.new w4 operators 11 _ 9 (0, 0) rfl rfl).strs).below ((Below.refl _ (w4.alloc (.cells (strsC operators).toArray 9))).drew))
  have Hd := Lib.hid ((H4.out.alloc (.cells (strsC operators).toArray 9)).drew)
  have Hv := Lib.hid (opVal T.text)
  have hput := put_calls Hd.out.ps ⟨opKind T.text, [], 0⟩
  unfold Stp.val at hput
  simp only [] at hput
  rw [← Hv.out] at hput
  have Hput := Lib.hid hput
  clear hput
  go_region_with ((first | (go_at_call 103; refine (operators_calls _).mono ?_; rintro e w5 ⟨rfl, rfl⟩) | (go_at_call 174; refine (index_calls _ _ operators T.text Hops.out (by decide)).mono ?_; rintro e w5 ⟨rfl, rfl⟩) | (go_at_call 173; refine Hput.out.mono ?_; rintro e w6 ⟨rfl, lv6, sv6, h6⟩)))
  all_goals
    have Hn6 := Lib.hid (Hd.out.trans h6)
    clear h6
    go_wp2_with fail
    go_end0
    exact ⟨rfl, _, _, Hn6.out⟩

set_option maxHeartbeats 1000000 in
set_option maxRecDepth 100000 in
theorem compared_no (or_ : Nat → St → Option St) (n d : Nat) (hd : d ≤ 16) (h : ReadsAt x 206 (sum or_ n)) (w : World) (lv sv : Value) (s s1 : St) (hp : PS x w lv sv s) (hs1 : sum or_ n d s = some s1) (hx : s1.next 5 relOps = false) :
    Calls Tryz.prog 197 #[.pointer (some ⟨x.B, 0, none⟩), .int .i64 d] w (Did x w sv (isNull s1)) := by
  have H0 := Lib.hid (h d hd w lv sv s s1 hp hs1)
  have Hx := Lib.hid hx
  have Hx2 := Lib.hid (need_no hx).2
  clear hx hs1 h hp
  unfold isNull
  cases hi : s1.next 2 [kIS] with
  | false =>
    have Hi2 := Lib.hid (need_no hi).2
    have Hi := Lib.hid hi
    clear hi
    rw [if_neg (by simp)]
    go_enter Tryz.func197, Tryz.ntmps197
    go_wp2_with fail
    refine H0.out.mono ?_
    rintro e w1 ⟨rfl, lv1, sv1, h1⟩
    have H1 := Lib.hid h1
    clear h1
    go_wp2_with fail
    refine (take_calls (H1.out.alloc _).ps 5 _ relOps (StrsAt.new w1 relOps 6 _ _ _ rfl rfl) (by decide)).mono ?_
    rw [Hx.out, Hx2.out]
    rintro e w3 ⟨rfl, lv3, sv3, h3⟩
    have H3 := Lib.hid ((H1.out.alloc _).trans h3)
    generalize s1.taken 5 relOps = T at *
    unfold Tok.val
    clear h3
    go_wp2_with fail
    refine (key_calls (H3.out.alloc _).ps kIS).mono ?_
    rw [Hi.out, Hi2.out]
    rintro e w4 ⟨rfl, lv4, sv4, h4⟩
    have H4 := Lib.hid ((H3.out.alloc _).trans h4)
    clear h4
    go_wp2_with fail
    go_end0
    exact ⟨rfl, _, _, H4.out⟩
  | true =>
    have Hi2 := Lib.hid (next_take hi).1
    have Hi := Lib.hid hi
    clear hi
    rw [if_pos rfl]
    generalize hn1 : s1.drop = s2 at *
    have Hn1 := Lib.hid hn1
    clear hn1
    simp only []
    generalize hn3 : ((s2.after 2 [kNOT]).keys [kNULL]) = s3 at *
    have Hn3 := Lib.hid hn3
    clear hn3
    generalize hF : (if s2.next 2 [kNOT] = true then (s3.put ⟨11, [], 0⟩).put ⟨10, [], 0⟩ else s3.put ⟨11, [], 0⟩) = F at *
    have HF := Lib.hid hF
    clear hF
    go_enter Tryz.func197, Tryz.ntmps197
    go_wp2_with fail
    refine H0.out.mono ?_
    rintro e w1 ⟨rfl, lv1, sv1, h1⟩
    have H1 := Lib.hid h1
    clear h1
    go_wp2_with fail
    refine (take_calls (H1.out.alloc _).ps 5 _ relOps (StrsAt.new w1 relOps 6 _ _ _ rfl rfl) (by decide)).mono ?_
    rw [Hx.out, Hx2.out]
    rintro e w3 ⟨rfl, lv3, sv3, h3⟩
    have H3 := Lib.hid ((H1.out.alloc _).trans h3)
    generalize s1.taken 5 relOps = T at *
    unfold Tok.val
    clear h3
    go_wp2_with fail
    refine (key_calls (H3.out.alloc _).ps kIS).mono ?_
    rw [Hi.out, Hi2.out]
    rintro e w4 ⟨rfl, lv4, sv4, h4⟩
    have H4 := Lib.hid ((H3.out.alloc _).trans h4)
    clear h4
    go_wp2_with fail
    refine (key_calls H4.out.ps kNOT).mono ?_
    rintro e w5 ⟨rfl, lv5, sv5, h5⟩
    have H5 := Lib.hid (H4.out.trans h5)
    clear h5
    go_wp2_with fail
    have ht5 := TextsAt.new w5 [kNULL] 1 _ 9 (0, 0) rfl rfl
    refine (keys_calls (H5.out.alloc _).ps w5.heap.size 1 [kNULL] rfl (by omega) ht5.2 (texts_new H5.out.ps).1 (texts_new H5.out.ps).2).mono ?_
    rw [Hn3.out]
    rintro e w6 ⟨rfl, lv6, sv6, h6⟩
    have H6 := Lib.hid ((H5.out.alloc _).trans h6)
    clear h6 ht5
    go_wp2_with fail
    refine (put_calls H6.out.ps ⟨11, [], 0⟩).mono ?_
    rintro e w7 ⟨rfl, lv7, sv7, h7⟩
    have H7 := Lib.hid (H6.out.trans h7)
    clear h7
    cases hnot : s2.next 2 [kNOT] with
    | false =>
      have HF' := Lib.hid (show s3.put ⟨11, [], 0⟩ = F by rw [← HF.out, if_neg (by rw [hnot]; simp)])
      clear HF
      go_wp2_with fail
      go_end0
      exact ⟨rfl, _, _, by rw [← HF'.out]; exact H7.out⟩
    | true =>
      have HF' := Lib.hid (show (s3.put ⟨11, [], 0⟩).put ⟨10, [], 0⟩ = F by rw [← HF.out, if_pos hnot])
      clear HF
      go_wp2_with fail
      refine (put_calls H7.out.ps ⟨10, [], 0⟩).mono ?_
      rintro e w8 ⟨rfl, lv8, sv8, h8⟩
      have H8 := Lib.hid (H7.out.trans h8)
      clear h8
      go_wp2_with fail
      go_end0
      exact ⟨rfl, _, _, by rw [← HF'.out]; exact H8.out⟩

theorem compared_reads (or_ : Nat → St → Option St) (n : Nat) (h : ReadsAt x 206 (sum or_ n)) : ReadsAt x 197 (compared or_ n) := by
  intro d hd w lv sv s s' hp hr
  unfold compared at hr
  obtain ⟨s1, hs1, hr1⟩ := Option.bind_eq_some_iff.1 hr
  cases hx : s1.next 5 relOps with
  | true =>
    rw [hx, if_pos rfl] at hr1
    obtain ⟨s2, hs2, hr2⟩ := Option.bind_eq_some_iff.1 hr1
    have e : s2.put ⟨opKind s1.head.text, [], 0⟩ = s' := by simpa using hr2
    rw [← e]
    exact compared_op or_ n d hd h w lv sv s s1 s2 hp hs1 hx hs2
  | false =>
    rw [hx, if_neg (by simp)] at hr1
    have e : isNull s1 = s' := by simpa using hr1
    rw [← e]
    exact compared_no or_ n d hd h w lv sv s s1 hp hs1 hx

end Go.Proofs.YtcjmhmmjfgjcnaaGreatDoor.Pa
