/- Parts: PaT PaV PaX PaA. -/
import Derived.Test.YtcjmhmmjfgjcnaaGreatDoorMh17
import Derived.Maps.OwnOps
import Derived.Maps.Own
import Derived.Maps.OwnSet
import Derived.Maps.Views
import Derived.StringKeys

/- The parser: expressions. -/
namespace Go.Proofs.YtcjmhmmjfgjcnaaGreatDoor.Pa
open Go.RowKit Go.Proofs.YtcjmhmmjfgjcnaaGreatDoor.Lx
variable {x : Px}

theorem enters_primary : Enters 210 := enters_of Tryz.func210 (by kernel_rfl) (by kernel_rfl)
theorem enters_product : Enters 208 := enters_of Tryz.func208 (by kernel_rfl) (by kernel_rfl)
theorem enters_not : Enters 175 := enters_of Tryz.func175 (by kernel_rfl) (by kernel_rfl)
theorem enters_compared : Enters 197 := enters_of Tryz.func197 (by kernel_rfl) (by kernel_rfl)
theorem enters_and : Enters 150 := enters_of Tryz.func150 (by kernel_rfl) (by kernel_rfl)

set_option maxRecDepth 100000 in
theorem signed_reads (or_ : Nat → St → Option St) (n : Nat) (h : ReadsAt x 210 (primary or_ n)) : ReadsAt x 209 (signed or_ n) := by
  intro d hd w lv sv s s' hp hr
  have Hc := Lib.hid (ahead_calls 5 _ [45] 9 _ h enters_primary n d w lv sv s s' hd hp hr)
  clear hp hr h
  go_enter Tryz.func209, Tryz.ntmps209
  go_wp2_with fail
  refine Hc.out.mono ?_
  rintro e w1 ⟨rfl, lv1, sv1, h1⟩
  have H1 := Lib.hid h1
  clear h1
  go_wp2_with fail
  go_end0
  exact ⟨rfl, _, _, H1.out⟩

set_option maxRecDepth 100000 in
theorem product_reads (or_ : Nat → St → Option St) (n : Nat) (h : ReadsAt x 209 (signed or_ n)) : ReadsAt x 208 (product or_ n) := by
  intro d hd w lv sv s s' hp hr
  have Hc := Lib.hid (row_calls (hp.step (alloc_below w (.cells (strsC [[42]]).toArray 9))) 5 _ d w.heap.size 1 [[42]] _ (h d hd) enters_signed (TextsAt.new w [[42]] 1 _ _ _ rfl rfl) (by have := hp.lt; omega) (hp.own_lt (Nat.le_refl _)) (by omega) n s' hr)
  have Hp := Lib.hid ((Now.refl hp).alloc (.cells (strsC [[42]]).toArray 9))
  clear hp hr h
  go_enter Tryz.func208, Tryz.ntmps208
  go_wp2_with fail
  refine Hc.out.mono ?_
  rintro e w1 ⟨rfl, lv1, sv1, h1⟩
  have H1 := Lib.hid (Hp.out.trans h1)
  clear h1
  go_wp2_with fail
  go_end0
  exact ⟨rfl, _, _, H1.out⟩

set_option maxRecDepth 100000 in
theorem sum_reads (or_ : Nat → St → Option St) (n : Nat) (h : ReadsAt x 208 (product or_ n)) : ReadsAt x 206 (sum or_ n) := by
  intro d hd w lv sv s s' hp hr
  have Hc := Lib.hid (row_calls (hp.step (alloc_below w (.cells (strsC [[43], [45]]).toArray 9))) 5 _ d w.heap.size 2 [[43], [45]] _ (h d hd) enters_product (TextsAt.new w [[43], [45]] 2 _ _ _ rfl rfl) (by have := hp.lt; omega) (hp.own_lt (Nat.le_refl _)) (by omega) n s' hr)
  have Hp := Lib.hid ((Now.refl hp).alloc (.cells (strsC [[43], [45]]).toArray 9))
  clear hp hr h
  go_enter Tryz.func206, Tryz.ntmps206
  go_wp2_with fail
  refine Hc.out.mono ?_
  rintro e w1 ⟨rfl, lv1, sv1, h1⟩
  have H1 := Lib.hid (Hp.out.trans h1)
  clear h1
  go_wp2_with fail
  go_end0
  exact ⟨rfl, _, _, H1.out⟩

set_option maxRecDepth 100000 in
theorem not_reads (or_ : Nat → St → Option St) (n : Nat) (h : ReadsAt x 197 (compared or_ n)) : ReadsAt x 175 (notE or_ n) := by
  intro d hd w lv sv s s' hp hr
  have Hc := Lib.hid (ahead_calls 2 _ kNOT 10 _ h enters_compared n d w lv sv s s' hd hp hr)
  clear hp hr h
  go_enter Tryz.func175, Tryz.ntmps175
  go_wp2_with fail
  refine Hc.out.mono ?_
  rintro e w1 ⟨rfl, lv1, sv1, h1⟩
  have H1 := Lib.hid h1
  clear h1
  go_wp2_with fail
  go_end0
  exact ⟨rfl, _, _, H1.out⟩

set_option maxRecDepth 100000 in
theorem and_reads (or_ : Nat → St → Option St) (n : Nat) (h : ReadsAt x 175 (notE or_ n)) : ReadsAt x 150 (andE or_ n) := by
  intro d hd w lv sv s s' hp hr
  have Hc := Lib.hid (row_calls (hp.step (alloc_below w (.cells (strsC [kAND]).toArray 9))) 2 _ d w.heap.size 1 [kAND] _ (h d hd) enters_not (TextsAt.new w [kAND] 1 _ _ _ rfl rfl) (by have := hp.lt; omega) (hp.own_lt (Nat.le_refl _)) (by omega) n s' hr)
  have Hp := Lib.hid ((Now.refl hp).alloc (.cells (strsC [kAND]).toArray 9))
  clear hp hr h
  go_enter Tryz.func150, Tryz.ntmps150
  go_wp2_with fail
  refine Hc.out.mono ?_
  rintro e w1 ⟨rfl, lv1, sv1, h1⟩
  have H1 := Lib.hid (Hp.out.trans h1)
  clear h1
  go_wp2_with fail
  go_end0
  exact ⟨rfl, _, _, H1.out⟩

set_option maxRecDepth 100000 in
theorem or_reads (or_ : Nat → St → Option St) (n : Nat) (h : ReadsAt x 150 (andE or_ n)) : ReadsAt x 127 (orE or_ n) := by
  intro d hd w lv sv s s' hp hr
  have Hc := Lib.hid (row_calls (hp.step (alloc_below w (.cells (strsC [kOR]).toArray 9))) 2 _ d w.heap.size 1 [kOR] _ (h d hd) enters_and (TextsAt.new w [kOR] 1 _ _ _ rfl rfl) (by have := hp.lt; omega) (hp.own_lt (Nat.le_refl _)) (by omega) n s' hr)
  have Hp := Lib.hid ((Now.refl hp).alloc (.cells (strsC [kOR]).toArray 9))
  clear hp hr h
  go_enter Tryz.func127, Tryz.ntmps127
  go_wp2_with fail
  refine Hc.out.mono ?_
  rintro e w1 ⟨rfl, lv1, sv1, h1⟩
  have H1 := Lib.hid (Hp.out.trans h1)
  clear h1
  go_wp2_with fail
  go_end0
  exact ⟨rfl, _, _, H1.out⟩

end Go.Proofs.YtcjmhmmjfgjcnaaGreatDoor.Pa

/- The parser: comparisons. -/
namespace Go.Proofs.YtcjmhmmjfgjcnaaGreatDoor.Pa
open Go.RowKit Go.Proofs.YtcjmhmmjfgjcnaaGreatDoor.Lx
variable {x : Px}

theorem next_take {s : St} {k : Nat} {texts : List Txt} (hx : s.next k texts = true) : s.after k texts = s.drop ∧ s.taken k texts = s.head := by
  unfold St.after St.taken; rw [hx]; exact ⟨rfl, rfl⟩
theorem texts_new {x : Px} {w : World} {lv sv : Value} {s : St} (h : PS x w lv sv s) : w.heap.size ≠ x.B ∧ sv.ownBlock ≠ some w.heap.size := ⟨by have := h.lt; omega, h.own_lt (Nat.le_refl _)⟩

set_option maxHeartbeats 1000000 in
set_option maxRecDepth 100000 in
theorem compared_op (or_ : Nat → St → Option St) (n d : Nat) (hd : d ≤ 16) (h : ReadsAt x 206 (sum or_ n)) (w : World) (lv sv : Value) (s s1 s2 : St) (hp : PS x w lv sv s) (hs1 : sum or_ n d s = some s1) (hx : s1.next 5 relOps = true) (hs2 : sum or_ n d s1.drop = some s2) :
    Calls Tryz.prog 197 #[.pointer (some ⟨x.B, 0, none⟩), .int .i64 d] w (Did x w sv (s2.put ⟨opKind s1.head.text, [], 0⟩)) := by
  have H0 := Lib.hid (h d hd w lv sv s s1 hp hs1)
  have Hsum := Lib.hid (fun w lv sv hp => h d hd w lv sv s1.drop s2 hp hs2)
  have Hx := Lib.hid hx
  have Hx2 := Lib.hid (next_take hx)
  clear hx hs1 hs2 h hp
  go_enter Tryz.func197, Tryz.ntmps197
  go_wp2_with fail
  refine H0.out.mono ?_
  rintro e w1 ⟨rfl, lv1, sv1, h1⟩
  have H1 := Lib.hid h1
  clear h1
  go_wp2_with fail
  refine (take_calls (H1.out.alloc _).ps 5 _ relOps (StrsAt.new w1 relOps 6 _ _ _ rfl rfl) (by decide)).mono ?_
  rw [Hx.out, Hx2.out.1, Hx2.out.2]
  rintro e w3 ⟨rfl, lv3, sv3, h3⟩
  have H3 := Lib.hid ((H1.out.alloc _).trans h3)
  generalize s1.head = T at *
  have Hkept := Lib.hid (fun o w2 lv2 sv2 s2 h2' => kept (o := o) (w' := w2) (lv' := lv2) (sv' := sv2) (s' := s2) h3.ps h2')
  unfold Tok.val
  clear h3
  go_wp2_with fail
  refine (Hsum.out _ _ _ (H3.out.ps.step (alloc_below _ _))).mono ?_
  rintro e w4 ⟨rfl, lv4, sv4, h4⟩
  have H4 := Lib.hid ((H3.out.alloc _).trans h4)
  obtain ⟨⟨k0, k1, k2, k3⟩, -⟩ := four (Hkept.out _ _ _ _ _ h4)
  have hlt4 : w3.heap.size < w4.heap.size := World.block_lt_of_cell? _ _ k0
  clear h4 Hkept
  go_wp2_with fail
  have Hops := Lib.hid (((TextsAt.new w4 operators 11 _ 9 (0, 0) rfl rfl).strs).below ((Below.refl _ (w4.alloc (.cells (strsC operators).toArray 9))).drew))
  have Hd := Lib.hid ((H4.out.alloc (.cells (strsC operators).toArray 9)).drew)
  have Hv := Lib.hid (opVal T.text)
  have hput := put_calls Hd.out.ps ⟨opKind T.text, [], 0⟩
  unfold Stp.val at hput
  simp only [] at hput
  rw [← Hv.out] at hput
  have Hput := Lib.hid hput
  clear hput
  go_region_with ((first | (go_at_call 103; refine (operators_calls _).mono ?_; rintro e w5 ⟨rfl, rfl⟩) | (go_at_call 174; refine (index_calls _ _ operators T.text Hops.out (by decide)).mono ?_; rintro e w5 ⟨rfl, rfl⟩) | (go_at_call 173; refine Hput.out.mono ?_; rintro e w6 ⟨rfl, lv6, sv6, h6⟩)))
  all_goals
    have Hn6 := Lib.hid (Hd.out.trans h6)
    clear h6
    go_wp2_with fail
    go_end0
    exact ⟨rfl, _, _, Hn6.out⟩

set_option maxHeartbeats 1000000 in
set_option maxRecDepth 100000 in
theorem compared_no (or_ : Nat → St → Option St) (n d : Nat) (hd : d ≤ 16) (h : ReadsAt x 206 (sum or_ n)) (w : World) (lv sv : Value) (s s1 : St) (hp : PS x w lv sv s) (hs1 : sum or_ n d s = some s1) (hx : s1.next 5 relOps = false) :
    Calls Tryz.prog 197 #[.pointer (some ⟨x.B, 0, none⟩), .int .i64 d] w (Did x w sv (isNull s1)) := by
  have H0 := Lib.hid (h d hd w lv sv s s1 hp hs1)
  have Hx := Lib.hid hx
  have Hx2 := Lib.hid (need_no hx).2
  clear hx hs1 h hp
  unfold isNull
  cases hi : s1.next 2 [kIS] with
  | false =>
    have Hi2 := Lib.hid (need_no hi).2
    have Hi := Lib.hid hi
    clear hi
    rw [if_neg (by simp)]
    go_enter Tryz.func197, Tryz.ntmps197
    go_wp2_with fail
    refine H0.out.mono ?_
    rintro e w1 ⟨rfl, lv1, sv1, h1⟩
    have H1 := Lib.hid h1
    clear h1
    go_wp2_with fail
    refine (take_calls (H1.out.alloc _).ps 5 _ relOps (StrsAt.new w1 relOps 6 _ _ _ rfl rfl) (by decide)).mono ?_
    rw [Hx.out, Hx2.out]
    rintro e w3 ⟨rfl, lv3, sv3, h3⟩
    have H3 := Lib.hid ((H1.out.alloc _).trans h3)
    generalize s1.taken 5 relOps = T at *
    unfold Tok.val
    clear h3
    go_wp2_with fail
    refine (key_calls (H3.out.alloc _).ps kIS).mono ?_
    rw [Hi.out, Hi2.out]
    rintro e w4 ⟨rfl, lv4, sv4, h4⟩
    have H4 := Lib.hid ((H3.out.alloc _).trans h4)
    clear h4
    go_wp2_with fail
    go_end0
    exact ⟨rfl, _, _, H4.out⟩
  | true =>
    have Hi2 := Lib.hid (next_take hi).1
    have Hi := Lib.hid hi
    clear hi
    rw [if_pos rfl]
    generalize hn1 : s1.drop = s2 at *
    have Hn1 := Lib.hid hn1
    clear hn1
    simp only []
    generalize hn3 : ((s2.after 2 [kNOT]).keys [kNULL]) = s3 at *
    have Hn3 := Lib.hid hn3
    clear hn3
    generalize hF : (if s2.next 2 [kNOT] = true then (s3.put ⟨11, [], 0⟩).put ⟨10, [], 0⟩ else s3.put ⟨11, [], 0⟩) = F at *
    have HF := Lib.hid hF
    clear hF
    go_enter Tryz.func197, Tryz.ntmps197
    go_wp2_with fail
    refine H0.out.mono ?_
    rintro e w1 ⟨rfl, lv1, sv1, h1⟩
    have H1 := Lib.hid h1
    clear h1
    go_wp2_with fail
    refine (take_calls (H1.out.alloc _).ps 5 _ relOps (StrsAt.new w1 relOps 6 _ _ _ rfl rfl) (by decide)).mono ?_
    rw [Hx.out, Hx2.out]
    rintro e w3 ⟨rfl, lv3, sv3, h3⟩
    have H3 := Lib.hid ((H1.out.alloc _).trans h3)
    generalize s1.taken 5 relOps = T at *
    unfold Tok.val
    clear h3
    go_wp2_with fail
    refine (key_calls (H3.out.alloc _).ps kIS).mono ?_
    rw [Hi.out, Hi2.out]
    rintro e w4 ⟨rfl, lv4, sv4, h4⟩
    have H4 := Lib.hid ((H3.out.alloc _).trans h4)
    clear h4
    go_wp2_with fail
    refine (key_calls H4.out.ps kNOT).mono ?_
    rintro e w5 ⟨rfl, lv5, sv5, h5⟩
    have H5 := Lib.hid (H4.out.trans h5)
    clear h5
    go_wp2_with fail
    have ht5 := TextsAt.new w5 [kNULL] 1 _ 9 (0, 0) rfl rfl
    refine (keys_calls (H5.out.alloc _).ps w5.heap.size 1 [kNULL] rfl (by omega) ht5.2 (texts_new H5.out.ps).1 (texts_new H5.out.ps).2).mono ?_
    rw [Hn3.out]
    rintro e w6 ⟨rfl, lv6, sv6, h6⟩
    have H6 := Lib.hid ((H5.out.alloc _).trans h6)
    clear h6 ht5
    go_wp2_with fail
    refine (put_calls H6.out.ps ⟨11, [], 0⟩).mono ?_
    rintro e w7 ⟨rfl, lv7, sv7, h7⟩
    have H7 := Lib.hid (H6.out.trans h7)
    clear h7
    cases hnot : s2.next 2 [kNOT] with
    | false =>
      have HF' := Lib.hid (show s3.put ⟨11, [], 0⟩ = F by rw [← HF.out, if_neg (by rw [hnot]; simp)])
      clear HF
      go_wp2_with fail
      go_end0
      exact ⟨rfl, _, _, by rw [← HF'.out]; exact H7.out⟩
    | true =>
      have HF' := Lib.hid (show (s3.put ⟨11, [], 0⟩).put ⟨10, [], 0⟩ = F by rw [← HF.out, if_pos hnot])
      clear HF
      go_wp2_with fail
      refine (put_calls H7.out.ps ⟨10, [], 0⟩).mono ?_
      rintro e w8 ⟨rfl, lv8, sv8, h8⟩
      have H8 := Lib.hid (H7.out.trans h8)
      clear h8
      go_wp2_with fail
      go_end0
      exact ⟨rfl, _, _, by rw [← HF'.out]; exact H8.out⟩

theorem compared_reads (or_ : Nat → St → Option St) (n : Nat) (h : ReadsAt x 206 (sum or_ n)) : ReadsAt x 197 (compared or_ n) := by
  intro d hd w lv sv s s' hp hr
  unfold compared at hr
  obtain ⟨s1, hs1, hr1⟩ := Option.bind_eq_some_iff.1 hr
  cases hx : s1.next 5 relOps with
  | true =>
    rw [hx, if_pos rfl] at hr1
    obtain ⟨s2, hs2, hr2⟩ := Option.bind_eq_some_iff.1 hr1
    have e : s2.put ⟨opKind s1.head.text, [], 0⟩ = s' := by simpa using hr2
    rw [← e]
    exact compared_op or_ n d hd h w lv sv s s1 s2 hp hs1 hx hs2
  | false =>
    rw [hx, if_neg (by simp)] at hr1
    have e : isNull s1 = s' := by simpa using hr1
    rw [← e]
    exact compared_no or_ n d hd h w lv sv s s1 hp hs1 hx

end Go.Proofs.YtcjmhmmjfgjcnaaGreatDoor.Pa

/- The parser: paths. -/
namespace Go.Proofs.YtcjmhmmjfgjcnaaGreatDoor.Pa
open Go.RowKit Go.Proofs.YtcjmhmmjfgjcnaaGreatDoor.Lx
variable {x : Px}

theorem cat2 (a b : Txt) : (⟨a.toArray⟩ ++ ⟨b.toArray⟩ : ByteArray) = ⟨(a ++ b).toArray⟩ := by
  apply L_inj
  rw [L_mk]
  show (_ ++ _ : ByteArray).data.toList = _
  rw [ByteArray.data_append]
  simp
theorem cat3' (a b c : Txt) : (⟨a.toArray⟩ ++ (⟨b.toArray⟩ ++ ⟨c.toArray⟩) : ByteArray) = ⟨(a ++ (b ++ c)).toArray⟩ := by
  rw [cat2, cat2]

theorem PS.left_mem {w : World} {lv sv : Value} {s : St} (h : PS x w lv sv s) : (∀ t ∈ s.left, TokFits t) ∧ s.left.length ≤ 16384 := by
  obtain ⟨k, n, c, a, rfl, hn, hc, hd⟩ := h.left
  rcases hd with e | ⟨rfl, e⟩
  · rw [e]; exact ⟨fun t ht => by simp at ht, by simp⟩
  · rw [e]
    refine ⟨fun t ht => h.ok.fits t (List.mem_of_mem_drop ht), ?_⟩
    have := h.ok.few
    rw [List.length_drop]; omega
theorem head_le {s : St} (h : ∀ t ∈ s.left, TokFits t) : s.head.text.length ≤ 16384 ∧ 0 ≤ s.head.num ∧ s.head.num ≤ 9223372036854775807 := by
  unfold St.head
  cases hl : s.left with
  | nil => simp [tok0]
  | cons t r =>
    have := h t (by rw [hl]; simp)
    exact ⟨this.txt, this.lo, this.hi⟩
theorem nameT_le {s : St} (h : ∀ t ∈ s.left, TokFits t) : s.nameT.length ≤ 16384 := by
  unfold St.nameT St.taken
  split
  · exact (head_le h).1
  · simp [tok0]
theorem drop_len {s : St} {k : Nat} {texts : List Txt} (hx : s.next k texts = true) : s.left.length = s.drop.left.length + 1 := by
  cases hl : s.left with
  | nil => rw [next_nil hl] at hx; cases hx
  | cons t r => unfold St.drop; simp [hl]
theorem fail_len (s : St) (a b : Nat) : (s.fail a b).left.length ≤ s.left.length := by unfold St.fail; split <;> simp
theorem need_len (s : St) (k : Nat) (texts : List Txt) : (s.need k texts).left.length ≤ s.left.length := by
  unfold St.need
  split
  · rename_i h; have := drop_len h; omega
  · exact fail_len _ _ _
theorem itoa_len (n : Int) (h0 : 0 ≤ n) (h : n ≤ 9223372036854775807) : (Lib.itoa n).length ≤ 21 := by
  obtain ⟨m, rfl⟩ := Int.eq_ofNat_of_zero_le h0
  have : Lib.itoa (m : Int) = Lib.decDigits m := by unfold Lib.itoa; rw [if_neg (by omega)]; simp
  rw [this]
  exact dec_length m (by omega)

set_option maxHeartbeats 1000000 in
set_option maxRecDepth 100000 in
theorem path_calls (n : Nat) (w : World) (lv sv : Value) (s s' : St) (hp : PS x w lv sv s) (hr : path n s = some s') :
    Calls Tryz.prog 211 #[.pointer (some ⟨x.B, 0, none⟩)] w (Did x w sv s') := by
  unfold path at hr
  obtain ⟨r, hr1, hr2⟩ := Option.map_eq_some_iff.1 hr
  have hm := hp.left_mem
  have Hb := Lib.hid (show s.nameT.length + 16385 * s.name.left.length ≤ 268468225 by
    have h1 := nameT_le hm.1
    have h2 := need_len s 1 []
    have h3 : s.name.left.length = (s.need 1 []).left.length := rfl
    omega)
  have Hr1 := Lib.hid hr1
  have Hr2 := Lib.hid hr2
  have Hp := Lib.hid hp
  clear hr hr1 hr2 hp hm
  go_enter Tryz.func211, Tryz.ntmps211
  go_wp2_with fail
  refine (name_calls Hp.out).mono ?_
  rintro e w1 ⟨rfl, lv1, sv1, h1⟩
  have H1 := Lib.hid h1
  clear h1
  go_wp2_with fail
  go_loopg [2] n (fun gk v2 wr => ∃ X : Txt, v2 = .string ⟨X.toArray⟩ ∧ Hid (∃ lv2 sv2 s2, Now x w sv wr lv2 sv2 s2 ∧ pathL gk X s2 = some r ∧ X.length + 16385 * s2.left.length ≤ 268468225))
  case atStart => exact ⟨_, rfl, _, _, _, H1.out, Hr1.out, Hb.out⟩
  case round =>
    obtain ⟨X, rfl, lv2, sv2, s2, h2, hr2, hb2⟩ := hrel
    cases gk with
    | zero => simp [pathL] at hr2
    | succ m =>
      rw [pathL] at hr2
      have H2 := Lib.hid h2
      cases hx : s2.next 5 [[46]] with
      | false =>
        rw [if_neg (by rw [hx]; simp)] at hr2
        have hs : (X, s2) = r := by simpa using hr2
        have Hs := Lib.hid hs
        have Hx := Lib.hid hx
        have Hx2 := Lib.hid (need_no hx).2
        clear hr2 hx h2 hs
        go_wp2_with fail
        refine (take_calls (H2.out.alloc _).ps 5 _ [[46]] (StrsAt.new wr [[46]] 1 _ _ _ rfl rfl) (by decide)).mono ?_
        rw [Hx.out, Hx2.out]
        rintro e w3 ⟨rfl, lv3, sv3, h3⟩
        have H3 := Lib.hid ((H2.out.alloc _).trans h3)
        generalize s2.taken 5 [[46]] = T at *
        unfold Tok.val
        clear h3
        go_wp2_with fail
        refine (put_calls (H3.out.alloc _).ps ⟨6, X, 0⟩).mono ?_
        rintro e w4 ⟨rfl, lv4, sv4, h4⟩
        have H4 := Lib.hid ((H3.out.alloc _).trans h4)
        clear h4
        go_wp2_with fail
        go_end0
        exact ⟨rfl, _, _, by rw [← Hr2.out, ← Hs.out]; exact H4.out⟩
      | true =>
        rw [if_pos hx] at hr2
        have hd2 := drop_len hx
        have hm2 := h2.ps.left_mem
        have Hx := Lib.hid hx
        have Hx2 := Lib.hid (next_take hx)
        have hsub : ∀ t ∈ s2.drop.left, TokFits t := fun t ht => hm2.1 t (List.mem_of_mem_tail ht)
        cases hi : s2.drop.next 3 [] with
        | true =>
          rw [if_pos hi] at hr2
          have hd3 := drop_len hi
          obtain ⟨hh1, hh2, hh3⟩ := head_le hsub
          have hil := itoa_len _ hh2 hh3
          have Hi := Lib.hid hi
          have Hi2 := Lib.hid (next_take hi)
          have Hr3 := Lib.hid hr2
          clear hr2 hx h2 hi hm2 hsub hh1
          generalize hD : s2.drop = D at *
          clear hD
          generalize s2.head = T at *
          generalize hE : D.drop = E at *
          clear hE
          generalize D.head = T2 at *
          have Hlo := Lib.hid hh2
          have Hhi := Lib.hid hh3
          have hl1 : 1 + (Lib.itoa T2.num).length ≤ 9223372036854775807 := by omega
          have hl2 : X.length + (1 + (Lib.itoa T2.num).length) ≤ 9223372036854775807 := by omega
          have Hb3 := Lib.hid (show (X ++ ([46] ++ Lib.itoa T2.num)).length + 16385 * E.left.length ≤ 268468225 by simp only [List.length_append, List.length_cons, List.length_nil]; omega)
          clear hh2 hh3 hd2 hd3 hb2 hil
          go_wp2_with fail
          refine (take_calls (H2.out.alloc _).ps 5 _ [[46]] (StrsAt.new wr [[46]] 1 _ _ _ rfl rfl) (by decide)).mono ?_
          rw [Hx.out, Hx2.out.1, Hx2.out.2]
          rintro e w3 ⟨rfl, lv3, sv3, h3⟩
          have H3 := Lib.hid ((H2.out.alloc _).trans h3)
          unfold Tok.val
          clear h3
          go_wp2_with fail
          refine (take_calls (H3.out.alloc _).ps 3 _ [] (StrsAt.nil _) (by decide)).mono ?_
          rw [Hi.out, Hi2.out.1, Hi2.out.2]
          rintro e w4 ⟨rfl, lv4, sv4, h4⟩
          have H4 := Lib.hid ((H3.out.alloc _).trans h4)
          unfold Tok.val
          clear h4
          go_wp2_with fail
          refine (formatInt_calls T2.num _ (by have := Hlo.out; omega) Hhi.out (H4.out.alloc _).ps.envw).mono ?_
          rintro e w5 ⟨rfl, hb5⟩
          have H5 := Lib.hid ((H4.out.alloc _).step hb5)
          clear hb5
          go_wp2_with fail
          go_roundg m
          case measure => omega
          case rel => exact ⟨_, congrArg Value.string (cat3' X [46] (Lib.itoa T2.num)), _, _, _, H5.out, Hr3.out, Hb3.out⟩
        | false =>
          rw [if_neg (by rw [hi]; simp)] at hr2
          have hn2 := nameT_le hsub
          have hd3 : s2.drop.name.left.length ≤ s2.drop.left.length := need_len s2.drop 1 []
          have Hi := Lib.hid hi
          have Hi2 := Lib.hid (need_no hi).2
          have Hr3 := Lib.hid hr2
          clear hr2 hx h2 hi hm2 hsub
          generalize hD : s2.drop = D at *
          clear hD
          generalize s2.head = T at *
          have hl1 : 1 + D.nameT.length ≤ 9223372036854775807 := by omega
          have hl2 : X.length + (1 + D.nameT.length) ≤ 9223372036854775807 := by omega
          have Hb3 := Lib.hid (show (X ++ ([46] ++ D.nameT)).length + 16385 * D.name.left.length ≤ 268468225 by simp only [List.length_append, List.length_cons, List.length_nil]; omega)
          clear hd2 hd3 hb2 hn2
          go_wp2_with fail
          refine (take_calls (H2.out.alloc _).ps 5 _ [[46]] (StrsAt.new wr [[46]] 1 _ _ _ rfl rfl) (by decide)).mono ?_
          rw [Hx.out, Hx2.out.1, Hx2.out.2]
          rintro e w3 ⟨rfl, lv3, sv3, h3⟩
          have H3 := Lib.hid ((H2.out.alloc _).trans h3)
          unfold Tok.val
          clear h3
          go_wp2_with fail
          refine (take_calls (H3.out.alloc _).ps 3 _ [] (StrsAt.nil _) (by decide)).mono ?_
          rw [Hi.out, Hi2.out]
          rintro e w4 ⟨rfl, lv4, sv4, h4⟩
          have H4 := Lib.hid ((H3.out.alloc _).trans h4)
          generalize D.taken 3 [] = T2 at *
          unfold Tok.val
          clear h4
          go_wp2_with fail
          refine (name_calls (H4.out.alloc _).ps).mono ?_
          rintro e w5 ⟨rfl, lv5, sv5, h5⟩
          have H5 := Lib.hid ((H4.out.alloc _).trans h5)
          clear h5
          go_wp2_with fail
          go_roundg m
          case measure => omega
          case rel => exact ⟨_, congrArg Value.string (cat3' X [46] D.nameT), _, _, _, H5.out, Hr3.out, Hb3.out⟩

end Go.Proofs.YtcjmhmmjfgjcnaaGreatDoor.Pa

/- apart: no text of a list stands twice. -/
namespace Go.Proofs.YtcjmhmmjfgjcnaaGreatDoor.Pa
open Go.RowKit Go.Proofs.YtcjmhmmjfgjcnaaGreatDoor.Lx Go.Maps

theorem keyS : Keyed Tryz.prog 9 := string_keyed Tryz.underlying9
theorem zeroI (w : World) : (zeroValue 3).run Tryz.prog w = .ok (.int .i64 0) w := by kernel_rfl

structure Seen (D : DataW Unit) (l : List Txt) : Prop where
  tidy : Tidy D
  map : IsMap D
  hasK : ∀ t : Txt, Maps.has D (.string t) = decide (t ∈ l)
  le : Maps.size D ≤ l.length
  nd : Maps.size D = l.length ↔ l.Nodup
theorem seen_nil : Seen (.map []) [] := ⟨⟨[], rfl, List.Pairwise.nil⟩, ⟨[], rfl⟩, fun t => by simp [Maps.has], by simp [Maps.size], by simp [Maps.size]⟩
theorem nodup_snoc (l : List Txt) (t : Txt) : (l ++ [t]).Nodup ↔ l.Nodup ∧ t ∉ l := by
  rw [List.nodup_append]
  constructor
  · rintro ⟨h1, _, h3⟩
    exact ⟨h1, fun ht => h3 t ht t (by simp) rfl⟩
  · rintro ⟨h1, h2⟩
    refine ⟨h1, by simp, fun a ha b hb => ?_⟩
    simp at hb
    subst hb
    intro e
    subst e
    exact h2 ha
theorem Seen.put {D : DataW Unit} {l : List Txt} (h : Seen D l) (t : Txt) (d : DataW Unit) : Seen (D.put (.string t) d) (l ++ [t]) := by
  have hk : WideAt.IsKeyLit (.string t) := by simp [WideAt.IsKeyLit]
  have hs := size_put (k := .string t) h.tidy d
  have hh := h.hasK t
  refine ⟨h.tidy.put hk d, h.map.put _ d, fun u => ?_, ?_, ?_⟩
  · by_cases e : u = t
    · subst e
      rw [has_put_same h.map hk]
      simp
    · rw [has_put_other (fun e' => e (by simpa using e')), h.hasK u]
      simp [e]
  · rw [hs, List.length_append]
    have := h.le
    by_cases hb : Maps.has D (.string t) = true
    · rw [if_pos hb]; omega
    · rw [if_neg hb]; simp only [List.length_cons, List.length_nil]; omega
  · rw [hs, List.length_append, nodup_snoc, hh]
    have h1 := h.le
    have h2 := h.nd
    clear hs hh
    by_cases ht : t ∈ l
    · simp [ht]
      omega
    · simp [ht]
      exact h2

theorem apart_size {l : List Txt} {a : Nat} {D : DataW Unit} (h : Seen D l) (ha : l.length = a) : (((Maps.size D : Nat) : Int) == (a : Int)) = decide l.Nodup := by
  rw [Bool.eq_iff_iff, decide_eq_true_iff, ← h.nd, beq_iff_eq, ← ha]
  omega

set_option maxRecDepth 100000 in
theorem apart_calls (w : World) (v : Value) (l : List Txt) (h : StrsAt w v l) (hl : l.length ≤ 1048576) (hls : ∀ t ∈ l, t.length ≤ 1073741824) :
    Calls Tryz.prog 111 #[v] w fun e w' => e = .returned (.bool (decide l.Nodup)) ∧ Below w.heap.size w w' := by
  obtain ⟨a, n, c, rfl, hn, hc, hj⟩ := h
  have Hn := Lib.hid hn
  have Hj := Lib.hid hj
  have Hls := Lib.hid hls
  have hn2 : n ≤ 1048576 := by omega
  clear hn hj hls
  have hmm := @run_makeMap Tryz.prog
  go_enter Tryz.func111, Tryz.ntmps111
  go_wp2
  go_loopw [9] (fun i wr => ∃ k : Nat, k ≤ n ∧ i = .int .i64 k ∧ Hid (∃ D, wr.ownsMap Tryz.prog 9 (plainElem (H := Unit) Tryz.prog 3) w.heap.size k D ∧ Seen D (l.take k)) ∧ Hid (Below w.heap.size w wr)) (fun i _ => n - (intOf i).toNat)
  case atStart => exact ⟨0, Nat.zero_le _, rfl, ⟨_, World.ownsMap_made _ _ _ _, seen_nil⟩, (Below.refl _ _).alloc (Nat.le_refl _) _⟩
  case round =>
    obtain ⟨k, hk, rfl, hm, hb⟩ := hrel
    obtain ⟨D, hown, hseen⟩ := hm
    by_cases hlt : k < n
    · have hkl : k < l.length := by rw [Hn.out]; exact hlt
      obtain ⟨g, rfl, hcell0⟩ := Hj.out k hkl
      have hcell := (hb.out.cell (p := ⟨g, k, none⟩) (World.block_lt_of_cell? _ _ hcell0)).trans hcell0
      have hlk := Hls.out _ (List.getElem_mem hkl)
      have Hkey := Lib.hid (Go.WideMaps.keyOf_string_mk (P := Tryz.prog) (k := 9) Tryz.underlying9 (s := ⟨(l[k]).toArray⟩) (by rw [size_mk]; unfold maxLen; omega))
      have Hp := Lib.hid (fun d => show Seen (D.put (.string (⟨(l[k]).toArray⟩ : ByteArray).data.toList) d) (l.take (k + 1)) by
        rw [List.take_succ_eq_append_getElem hkl]
        exact hseen.put l[k] d)
      have Hown := Lib.hid hown
      clear hcell0 hseen hown
      generalize l[k] = t at *
      go_wp2_with (first
        | (at_lookup; refine wpList_lookup_own_int _ rfl _ _ 192 rfl 9 3 .i64 keyS Tryz.underlying192 Tryz.underlying3 (zeroI _) w.heap.size k _ rfl Hown.out _ _ rfl Hkey.out ?_; intro c hat hwc; clear hat)
        | (at_mapUpdate; refine wpList_mapUpdate_own _ rfl _ _ _ 192 rfl 9 3 keyS Tryz.underlying192 _ w.heap.size k _ rfl Hown.out (by unfold maxLen; omega) _ _ _ rfl rfl Hkey.out _ [] (plainElem_int Tryz.underlying3 (wrap64_wf _)) ?_; intro w1 hown1 hgrow1))
      have Hm1 := Lib.hid (show ∃ D', w1.ownsMap Tryz.prog 9 (plainElem (H := Unit) Tryz.prog 3) w.heap.size (k + 1) D' ∧ Seen D' (l.take (k + 1)) from ⟨_, hown1, Hp.out _⟩)
      have Hb1 := Lib.hid (hb.out.grown hgrow1 hb.out.size (fun j hj => by cases hj; exact Nat.le_refl _))
      clear hown1 hgrow1
      go_roundw
      case rel => exact ⟨k + 1, by omega, by go_num, Hm1, Hb1⟩
      case measure => simp [intOf]; omega
    · have Hs := Lib.hid (show (((Maps.size D : Nat) : Int) == (n : Int)) = decide l.Nodup by
        have e : l.take k = l := List.take_of_length_le (by have := Hn.out; omega)
        rw [e] at hseen
        exact apart_size hseen Hn.out)
      have Hown := Lib.hid hown
      clear hseen hown
      go_wp2_with (at_len; refine wpList_len_own _ rfl _ 192 rfl 9 3 Tryz.underlying192 _ w.heap.size k _ rfl Hown.out ?_)
      go_ret
      exact ⟨ret_bool Hs.out, hb.out⟩

end Go.Proofs.YtcjmhmmjfgjcnaaGreatDoor.Pa
