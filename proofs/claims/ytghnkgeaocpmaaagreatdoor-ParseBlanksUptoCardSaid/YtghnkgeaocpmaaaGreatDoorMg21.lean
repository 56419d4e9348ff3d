/- Parts: PaU PcB. -/
import Derived.Test.YtghnkgeaocpmaaaGreatDoorMg20
import Derived.Lib.SplitLaws
import Derived.Lib.ItoaLen

/- parse: names, numbers, paths, a struct's names. -/
namespace Go.Proofs.YtghnkgeaocpmaaaGreatDoor.Pa
open Go.RowKit Go.Proofs.YtghnkgeaocpmaaaGreatDoor.Lx

theorem showV_err (t : Tok) : ∃ (b : ByteArray) (c : Int), showV t = .tuple #[.string b, .int .i64 c] ∧ (c == 0) = showOk t := by
  unfold showV
  by_cases h : showOk t = true
  · rw [if_pos h]; exact ⟨_, _, rfl, by rw [h]; rfl⟩
  · rw [if_neg h]; exact ⟨_, _, rfl, by have : showOk t = false := by simpa using h
                                        rw [this]; rfl⟩
theorem nameS_calls (s : Txt) (w : World) (hs : s.length ≤ 1073741824) (he : Env w) :
    Calls Tryz.prog 40 #[.string ⟨s.toArray⟩] w fun e w' => e = .returned (.bool (nameB s)) ∧ Below w.heap.size w w' := by
  have Hs := Lib.hid (Show_calls ⟨1, s, 0, 0⟩ 0 w hs (by simp) (by simp) (by rw [showS_str _ (by simp) (by simp)]; simp only; omega) he)
  obtain ⟨b, c, hv, hc⟩ := showV_err ⟨1, s, 0, 0⟩
  rw [hv] at Hs
  have Hc := Lib.hid (show (c == 0) = nameB s from hc)
  clear hs he hv hc
  go_enter Tryz.func40, Tryz.ntmps40
  go_wp2_with fail
  refine Hs.out.mono ?_
  rintro e w1 ⟨rfl, hb⟩
  have Hb := Lib.hid hb
  clear hb
  go_wp2_with fail
  go_ret
  exact ⟨ret_bool Hc.out, Hb.out⟩

theorem parseInt_ok (s : ByteArray) (w : World) (hs : s.size ≤ 281474976710656) (v : Int) (hp : Lib.parseIntB 64 (L s) = .ok v) :
    Calls Tryz.prog 104 #[.string s, .int .i64 10, .int .i64 64] w fun e w' => e = .returned (.tuple #[.int .i64 v, .nilIface]) ∧ Below w.heap.size w w' := by
  refine (Tryz.strconv_ParseInt_10_at64_ok s (by omega) v hp w).mono ?_
  rintro e w' ⟨rfl, hw⟩
  refine ⟨rfl, ?_⟩
  rcases hw with rfl | ⟨t, rfl⟩
  · exact Below.refl _ _
  · exact ⟨rfl, rfl, rfl, by rw [Lib.bytesWorld_size]; omega, fun i hi => Lib.bytesWorld_at_old w _ _ i hi⟩
theorem parseInt_bad (s : ByteArray) (w : World) (hs : s.size ≤ 281474976710656) (he : Env w) (hp : ∀ u, Lib.parseIntB 64 (L s) ≠ .ok u) :
    Calls Tryz.prog 104 #[.string s, .int .i64 10, .int .i64 64] w fun e w' => (∃ (u : Int) (N : Nat), e = .returned (.tuple #[.int .i64 u, .iface 184 (.pointer (some ⟨N, 0, none⟩))])) ∧ Below w.heap.size w w' := by
  cases hq : Lib.parseIntB 64 (L s) with
  | ok u => exact absurd hq (hp u)
  | range =>
    obtain ⟨ev, h1, h2⟩ := he.rng
    refine (Tryz.strconv_ParseInt_10_at64_range s hs hq ev w h1 h2).mono ?_
    rintro e w' ⟨N, rfl, _, _, hb⟩
    exact ⟨⟨_, N, rfl⟩, hb⟩
  | _ =>
    obtain ⟨ev, h1, h2⟩ := he.syn
    refine (Any.strconv_ParseInt_10_at64_syntax Tryz.laysC174 s hs hq ev w h1 h2).mono ?_
    rintro e w' ⟨N, rfl, _, _, hb⟩
    exact ⟨⟨_, N, rfl⟩, hb⟩
theorem parseInt_bd {l : Txt} {v : Int} (h : Lib.parseIntB 64 l = .ok v) : -9223372036854775808 ≤ v ∧ v ≤ 9223372036854775807 := by
  unfold Lib.parseIntB at h
  split at h
  · cases h
  · simp only at h
    split at h
    · cases h
    · cases h
    · rename_i u hu
      split at h
      · cases h
      · split at h
        · cases h
        · simp only [Lib.NumEnd.ok.injEq] at h
          rename_i h1 h2
          simp only [not_and, Nat.not_le, Nat.not_lt] at h1 h2
          split at h <;> (rename_i h3; first | (have := h2 h3; omega) | (have := h1 h3; omega))

set_option maxRecDepth 100000 in
theorem number_calls' (s : Txt) (w : World) (hs : s.length ≤ 1073741824) (he : Env w) :
    Calls Tryz.prog 71 #[.string ⟨s.toArray⟩] w fun e w' => e = .returned (.bool (numberB s)) ∧ Below w.heap.size w w' := by
  have He := Lib.hid he
  have hsz : (⟨s.toArray⟩ : ByteArray).size ≤ 281474976710656 := by rw [size_mk]; omega
  by_cases hok : ∃ v, Lib.parseIntB 64 s = .ok v
  · obtain ⟨v, hv⟩ := hok
    obtain ⟨b1, b2⟩ := parseInt_bd hv
    have Hp := Lib.hid (parseInt_ok ⟨s.toArray⟩ w hsz v (by rw [L_mk]; exact hv))
    by_cases h0 : 0 ≤ v
    · have Hn := Lib.hid (show decide (Lib.itoa v = s) = numberB s by unfold numberB; rw [hv]; simp [h0])
      have Hq := Lib.hid (bytes_beq (Lib.itoa v) s)
      have hd : decide (0 ≤ v) = true := by simp [h0]
      clear hv he hs
      go_enter Tryz.func71, Tryz.ntmps71
      go_wp2_with fail
      refine Hp.out.mono ?_
      rintro e w1 ⟨rfl, hb⟩
      have Hb := Lib.hid hb
      clear hb
      go_wp2_with fail
      refine (formatInt_calls v w1 b1 b2 (He.out.below Hb.out)).mono ?_
      rintro e w2 ⟨rfl, hb2⟩
      have Hb2 := Lib.hid (Hb.out.trans (hb2.mono Hb.out.size))
      clear hb2
      go_wp2_with fail
      go_ret
      exact ⟨ret_bool (by rw [← Hn.out, ← Hq.out]; simp), Hb2.out⟩
    · have Hn := Lib.hid (show numberB s = false by unfold numberB; rw [hv]; simp [h0])
      have hd : decide (0 ≤ v) = false := by simp [h0]
      clear hv he hs
      go_enter Tryz.func71, Tryz.ntmps71
      go_wp2_with fail
      refine Hp.out.mono ?_
      rintro e w1 ⟨rfl, hb⟩
      have Hb := Lib.hid hb
      clear hb
      go_wp2_with fail
      go_ret
      exact ⟨ret_bool Hn.out.symm, Hb.out⟩
  · have Hn := Lib.hid (show numberB s = false by
      unfold numberB
      split
      · rename_i n hn; exact absurd ⟨n, hn⟩ hok
      · rfl)
    have Hp := Lib.hid (parseInt_bad ⟨s.toArray⟩ w hsz he (fun u hu => hok ⟨u, by rwa [L_mk] at hu⟩))
    clear hok he hs
    go_enter Tryz.func71, Tryz.ntmps71
    go_wp2_with fail
    refine Hp.out.mono ?_
    rintro e w1 ⟨⟨u, N, rfl⟩, hb⟩
    have Hb := Lib.hid hb
    clear hb
    go_wp2_with fail
    go_ret
    exact ⟨ret_bool Hn.out.symm, Hb.out⟩

theorem splitB_strs (s : Txt) (c : UInt8) : ((Lib.splitB ⟨#[c]⟩ 0 (Lib.countB ⟨s.toArray⟩ ⟨#[c]⟩) ⟨s.toArray⟩).map Value.string) = strsC (Lib.split s [c]) := by
  have h := Lib.splitB_data ⟨#[c]⟩ 0 (Lib.countB ⟨s.toArray⟩ ⟨#[c]⟩) ⟨s.toArray⟩
  have e : Lib.split s [c] = (Lib.splitB ⟨#[c]⟩ 0 (Lib.countB ⟨s.toArray⟩ ⟨#[c]⟩) ⟨s.toArray⟩).map (·.data.toList) := by
    rw [h]
    unfold Lib.split Lib.countB
    simp
  rw [e]
  unfold strsC
  rw [List.map_map]
  exact List.map_congr_left fun b _ => by simp
theorem split_len (s : Txt) (c : UInt8) : (Lib.split s [c]).length = Lib.countB ⟨s.toArray⟩ ⟨#[c]⟩ + 1 := by
  have h := congrArg List.length (splitB_strs s c)
  rw [List.length_map, Lib.splitB_all ⟨#[c]⟩ (Nat.le_refl 1) 0 _ _ rfl] at h
  simp only [strsC, List.length_map] at h
  exact h.symm
theorem split_calls (s : Txt) (c : UInt8) (w : World) (hs : s.length ≤ 1073741824) (he : Env w) :
    Calls Tryz.prog 70 #[.string ⟨s.toArray⟩, .string ⟨#[c]⟩] w fun e w' => e = .returned (.slice (some ⟨w.heap.size, 0, none⟩) (Lib.split s [c]).length (Lib.split s [c]).length) ∧ w.alloc (.cells (strsC (Lib.split s [c])).toArray 9) = w' := by
  obtain ⟨m, hm⟩ := he.max
  refine (Tryz.strings_Split ⟨s.toArray⟩ ⟨#[c]⟩ m w (by rw [size_mk]; omega) hm (Nat.le_refl 1)).mono ?_
  rintro e w' ⟨rfl, rfl⟩
  refine ⟨?_, ?_⟩
  · rw [split_len]
  · rw [splitB_strs]
theorem split_each (s : Txt) (c : UInt8) : ∀ t ∈ Lib.split s [c], t.length ≤ s.length := by
  have key : ∀ (k : Nat) (s : Txt), ∀ t ∈ Lib.splitK [c] 0 k s, t.length ≤ s.length := by
    intro k
    induction k with
    | zero => intro s t ht; simp [Lib.splitK] at ht; subst ht; exact Nat.le_refl _
    | succ k ih =>
      intro s t ht
      unfold Lib.splitK at ht
      split at ht
      · simp at ht; subst ht; exact Nat.le_refl _
      · rcases List.mem_cons.1 ht with h | h
        · subst h; rw [List.length_take]; omega
        · have := ih _ t h
          rw [List.length_drop] at this
          omega
  exact key _ s
theorem split_count (s : Txt) (c : UInt8) : (Lib.split s [c]).length ≤ s.length + 1 := by
  rw [split_len]
  have := Lib.countB_le ⟨#[c]⟩ (Nat.le_refl 1) s.length ⟨s.toArray⟩ (by rw [size_mk]; exact Nat.le_refl _)
  rw [size_mk] at this
  omega

end Go.Proofs.YtghnkgeaocpmaaaGreatDoor.Pa

/- parse: how long a shown expression may be. Plain. -/
namespace Go.Proofs.YtghnkgeaocpmaaaGreatDoor.Pa
open Go.Proofs.YtghnkgeaocpmaaaGreatDoor.Lx

/-- how much a step adds at most -/
def wt (y : Stp) : Nat := 66 * y.text.length + 1000
def wts (l : List Stp) : Nat := (l.map wt).sum
theorem wts_cons (y : Stp) (l : List Stp) : wts (y :: l) = wt y + wts l := by simp [wts]

theorem lens_cons (x : Txt) (l : List Txt) : Lib.lens (x :: l) = x.length + Lib.lens l := by simp [Lib.lens]
theorem lens_app (a b : List Txt) : Lib.lens (a ++ b) = Lib.lens a + Lib.lens b := by simp [Lib.lens]
theorem lens_get (l : List Txt) (i : Nat) : (l.getD i []).length ≤ Lib.lens l := by
  induction l generalizing i with
  | nil => simp
  | cons x l ih =>
    rw [lens_cons]
    cases i with
    | zero => simp
    | succ i => have := ih i; simp only [List.getD_cons_succ]; omega
theorem lens_two (l : List Txt) : (l.getD 0 []).length + (l.getD 1 []).length ≤ Lib.lens l := by
  cases l with
  | nil => simp
  | cons x l =>
    rw [lens_cons]
    have := lens_get l 0
    simp only [List.getD_cons_zero, List.getD_cons_succ]
    omega
theorem lens_le {B : Nat} : ∀ {l : List Txt}, (∀ x ∈ l, x.length ≤ B) → Lib.lens l ≤ l.length * B
  | [], _ => by simp [Lib.lens]
  | x :: l, h => by
    have h1 := lens_le (l := l) fun y hy => h y (by simp [hy])
    have h2 := h x (by simp)
    rw [lens_cons, List.length_cons, Nat.succ_mul]
    omega
theorem join_len (l : List Txt) (sep : Txt) : (Lib.join l sep).length ≤ Lib.lens l + sep.length * l.length := by
  cases l with
  | nil => simp [Lib.join_nil]
  | cons x r =>
    rw [Lib.join_length, List.length_cons, Nat.mul_succ]
    omega
theorem fieldsT_lens : ∀ (l r : List Txt), Lib.lens (fieldsT l r) ≤ Lib.lens l + Lib.lens r + 2 * l.length
  | [], r => by simp [fieldsT, Lib.lens]
  | x :: l, [] => by simp [fieldsT, Lib.lens]
  | x :: l, n :: r => by
    have := fieldsT_lens l r
    simp only [fieldsT, lens_cons, List.length_append, List.length_cons, List.length_nil]
    omega
theorem fieldsT_len : ∀ (l r : List Txt), (fieldsT l r).length ≤ l.length
  | [], r => by simp [fieldsT]
  | x :: l, [] => by simp [fieldsT]
  | x :: l, n :: r => by
    have := fieldsT_len l r
    simp only [fieldsT, List.length_cons]
    omega

theorem takes_parts {y : Stp} {k : Nat} (h : takes y = some k) (hk : y.kind = 7 ∨ y.kind = 8) : y.num = k ∧ k ≤ 64 := by
  unfold takes at h
  rw [if_neg (by omega), if_neg (by omega), if_neg (by omega), if_neg (by omega)] at h
  rcases hk with hk | hk
  · rw [if_pos hk] at h
    split at h
    · simp only [Option.some.injEq] at h; omega
    · cases h
  · rw [if_neg (by omega), if_pos hk] at h
    split at h
    · simp only [Option.some.injEq] at h; omega
    · cases h
/-- a struct's names -/
theorem takes_struct {y : Stp} {k : Nat} (h : takes y = some k) (hk : y.kind = 8) : (k = 0 ∧ y.text = []) ∨ (0 < k ∧ (Lib.split y.text [44]).length = k) := by
  have h2 := takes_parts h (.inr hk)
  unfold takes at h
  rw [if_neg (by omega), if_neg (by omega), if_neg (by omega), if_neg (by omega), if_neg (by omega), if_pos hk] at h
  split at h
  · rename_i hx
    have hn := hx.2.2
    unfold namesB at hn
    split at hn
    · exact .inl ⟨by omega, of_decide_eq_true hn⟩
    · simp only [Bool.and_eq_true, decide_eq_true_eq] at hn
      exact .inr ⟨by omega, by omega⟩
  · cases h
theorem joined_len {y : Stp} {k : Nat} (h : takes y = some k) (hk : y.kind = 7 ∨ y.kind = 8) {l : List Txt} (hl : l.length = k) : (joined y l).length ≤ Lib.lens l + wt y := by
  obtain ⟨h1, h2⟩ := takes_parts h hk
  unfold joined wt
  split
  · have := join_len l [44, 32]
    simp only [List.length_append, List.length_cons, List.length_nil] at this ⊢
    omega
  · rename_i h7
    have hs : Lib.lens (Lib.split y.text [44]) ≤ 64 * y.text.length := by
      rcases takes_struct h (by omega) with ⟨_, h0⟩ | ⟨_, h0⟩
      · rw [h0]; decide +kernel
      · have := lens_le (l := Lib.split y.text [44]) (B := y.text.length) (fun t ht => split_each y.text 44 t ht)
        have h3 := Nat.mul_le_mul_right y.text.length (show (Lib.split y.text [44]).length ≤ 64 by omega)
        omega
    have := join_len (fieldsT l (Lib.split y.text [44])) [44, 32]
    have h3 := fieldsT_lens l (Lib.split y.text [44])
    have h4 := fieldsT_len l (Lib.split y.text [44])
    simp only [List.length_append, List.length_cons, List.length_nil] at this ⊢
    omega
theorem textS_len (x : Txt) : (textS x).length ≤ 2 * x.length + 2 := by
  unfold textS
  split
  · rw [showS_txt _ rfl]
    simp only [replaceAll_dbl, List.length_cons, List.length_append, List.length_nil]
    have := dbl_length x
    omega
  · simp
theorem op_len (i : Nat) : (operators.getD i []).length ≤ 3 := by
  unfold operators
  rcases i with _ | _ | _ | _ | _ | _ | _ | _ | _ | _ | _ | i <;> simp
theorem shown_len {y : Stp} {k : Nat} (h : takes y = some k) (hn : y.num ≤ 9223372036854775807) {l : List Txt} (hl : l.length = k) : (shown y l).length ≤ Lib.lens l + wt y := by
  have hw : wt y = 66 * y.text.length + 1000 := rfl
  have g0 := lens_get l 0
  have g2 := lens_two l
  unfold shown
  split
  · simp [kNULL]; omega
  split
  · simp [kTRUE]; omega
  split
  · simp [kFALSE]; omega
  split
  · rename_i h4
    have h0 : 0 ≤ y.num := by
      unfold takes at h
      rw [if_neg (by omega), if_pos h4] at h
      split at h
      · rename_i hx; exact hx.2
      · cases h
    have := Lib.itoa_length_le y.num (by omega) hn
    omega
  split
  · have := textS_len y.text; omega
  split
  · omega
  split
  · rename_i h7
    exact joined_len h h7 hl
  split
  · simp only [List.length_append, List.length_cons, List.length_nil]; omega
  split
  · simp only [List.length_append, List.length_cons, List.length_nil, kNOTX]; omega
  split
  · simp only [List.length_append, List.length_cons, List.length_nil, kISNULLX]; omega
  · have := op_len (y.kind - 12)
    simp only [List.length_append, List.length_cons, List.length_nil]; omega

/-- one round of Show -/
def push (y : Stp) (st : List Txt) : List Txt := st.take (st.length - takesN y) ++ [shown y (st.drop (st.length - takesN y))]
theorem showG_cons (y : Stp) (r : List Stp) (st : List Txt) : showG (y :: r) st = showG r (push y st) := rfl
theorem push_length {y : Stp} {k : Nat} (h : takes y = some k) {st : List Txt} (hk : k ≤ st.length) : (push y st).length = st.length - k + 1 := by
  unfold push takesN
  rw [h]
  simp
theorem push_lens {y : Stp} {k : Nat} (h : takes y = some k) (hn : y.num ≤ 9223372036854775807) {st : List Txt} (hk : k ≤ st.length) : Lib.lens (push y st) ≤ Lib.lens st + wt y := by
  unfold push takesN
  rw [h, Option.getD_some, lens_app, lens_cons]
  have h1 := shown_len h hn (l := st.drop (st.length - k)) (by rw [List.length_drop]; omega)
  have h2 : Lib.lens st = Lib.lens (st.take (st.length - k)) + Lib.lens (st.drop (st.length - k)) := by rw [← lens_app, List.take_append_drop]
  have h3 : Lib.lens ([] : List Txt) = 0 := rfl
  omega
theorem showG_lens : ∀ (l : List Stp) (st : List Txt) {m : Nat}, rightL l st.length = some m → (∀ y ∈ l, y.num ≤ 9223372036854775807) → Lib.lens (showG l st) ≤ Lib.lens st + wts l ∧ (showG l st).length = m
  | [], st, m, h, _ => by
    simp only [rightL, Option.some.injEq] at h
    exact ⟨by simp [showG, wts], h⟩
  | y :: r, st, m, h, hn => by
    rw [rightL] at h
    cases ht : takes y with
    | none => rw [ht] at h; cases h
    | some k =>
      rw [ht] at h
      simp only at h
      split at h
      · cases h
      · rename_i hk
        have h1 := push_length ht (st := st) (by omega)
        have h2 := push_lens ht (hn y (by simp)) (st := st) (by omega)
        rw [← h1] at h
        have ih := showG_lens r (push y st) h fun z hz => hn z (by simp [hz])
        rw [showG_cons, wts_cons]
        exact ⟨by omega, ih.2⟩
theorem wts_le : ∀ {l : List Stp}, (∀ y ∈ l, y.text.length ≤ 1048575) → wts l ≤ l.length * 69206950
  | [], _ => by simp [wts]
  | y :: l, h => by
    have h1 := wts_le (l := l) fun z hz => h z (by simp [hz])
    have h2 := h y (by simp)
    rw [wts_cons, List.length_cons, Nat.succ_mul]
    unfold wt
    omega
/-- AN EXPRESSION's TEXT IS NOT TOO LONG -/
theorem showE_len {l : List Stp} (hn : ∀ y ∈ l, y.num ≤ 9223372036854775807) (ht : ∀ y ∈ l, y.text.length ≤ 1048575) : (showE l).length ≤ 8858489600 := by
  unfold showE
  split
  · rename_i h
    unfold rightB at h
    simp only [Bool.and_eq_true, decide_eq_true_eq] at h
    obtain ⟨h1, h2⟩ := showG_lens l [] (m := 1) h.1 hn
    have h3 := wts_le ht
    have h4 := Nat.mul_le_mul_right 69206950 h.2
    have h5 : ((showG l []).headD []).length ≤ Lib.lens (showG l []) := by
      cases showG l [] with
      | nil => simp
      | cons x r => rw [lens_cons]; simp
    have h6 : Lib.lens ([] : List Txt) = 0 := rfl
    omega
  · simp

end Go.Proofs.YtghnkgeaocpmaaaGreatDoor.Pa
