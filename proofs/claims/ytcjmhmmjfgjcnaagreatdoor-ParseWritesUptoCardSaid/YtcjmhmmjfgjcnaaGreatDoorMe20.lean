/- Parts: PbA PbB. -/
import Derived.Test.YtcjmhmmjfgjcnaaGreatDoorMe18
import Derived.Test.YtcjmhmmjfgjcnaaGreatDoorMe19
import Derived.Laws.StructEq

/- parse: paths, a struct's names. -/
namespace Go.Proofs.YtcjmhmmjfgjcnaaGreatDoor.Pa
open Go.RowKit Go.Proofs.YtcjmhmmjfgjcnaaGreatDoor.Lx

theorem pathParts_drop (l : List Txt) (k : Nat) (h : k < l.length) : pathParts k (l.drop k) = ((nameB l[k] || (k != 0 && numberB l[k])) && pathParts (k + 1) (l.drop (k + 1))) := by
  rw [List.drop_eq_getElem_cons h]; rfl

set_option maxRecDepth 100000 in
theorem pathS_calls (s : Txt) (w : World) (hs : s.length ≤ 1073741823) (he : Env w) :
    Calls Tryz.prog 56 #[.string ⟨s.toArray⟩] w fun e w' => e = .returned (.bool (pathB s)) ∧ Below w.heap.size w w' := by
  have Hs := Lib.hid (split_calls s 46 w (by omega) he)
  have hcount := split_count s 46
  have Heach := Lib.hid (split_each s 46)
  have He := Lib.hid he
  have hsz : (⟨s.toArray⟩ : ByteArray).size = s.length := size_mk s
  unfold pathB
  generalize Lib.split s [46] = l at *
  have HT := Lib.hid (TextsAt.new w l l.length _ 9 (0, 0) rfl rfl)
  generalize hn : l.length = n at *
  have Hn := Lib.hid hn
  have Hsz := Lib.hid hsz
  have hn2 : n ≤ 1073741824 := by omega
  have Hs2 := Lib.hid hs
  generalize hR : pathParts 0 l = R at *
  have HR := Lib.hid (show pathParts 0 (l.drop 0) = R by rw [List.drop_zero]; exact hR)
  clear he hn hR hs hsz hcount
  go_enter Tryz.func56, Tryz.ntmps56
  go_wp2_with fail
  refine Hs.out.mono ?_
  rintro e w1 ⟨rfl, rfl⟩
  go_wp2_with fail
  go_loopw [8] (fun i wr => ∃ k : Nat, k ≤ n ∧ i = .int .i64 k ∧ Hid (Below (w.heap.size + 1) (w.alloc (.cells (strsC l).toArray 9)) wr ∧ pathParts k (l.drop k) = R)) (fun i _ => n - (intOf i).toNat)
  case atStart => exact ⟨0, Nat.zero_le _, rfl, Below.refl _ _, HR.out⟩
  case round =>
    obtain ⟨k, hk, rfl, hb, hR⟩ := hrel
    have Hb := Lib.hid hb
    have Hb0 := Lib.hid (show Below w.heap.size w wr from (alloc_below w _).trans (hb.mono (by omega)))
    by_cases hlt : k < n
    · have hkl : k < l.length := by rw [Hn.out]; exact hlt
      have hcell : wr.cell? ⟨w.heap.size, k, none⟩ = some (.string ⟨l[k].toArray⟩) := (hb.cell (p := ⟨w.heap.size, k, none⟩) (by simp)).trans (HT.out.2 k hkl)
      rw [pathParts_drop l k hkl] at hR
      have hlk := Heach.out _ (List.getElem_mem hkl)
      have hlk2 : l[k].length ≤ 1073741824 := by have := Hs2.out; omega
      have Hnm := Lib.hid (nameS_calls l[k] wr hlk2 (He.out.below Hb0.out))
      have Hnu := Lib.hid (fun (w2 : World) (hb2 : Below wr.heap.size wr w2) => number_calls' l[k] w2 hlk2 ((He.out.below Hb0.out).below hb2))
      clear hb hlk hlk2
      generalize l[k] = t at *
      cases hnb : nameB t with
      | true =>
        rw [hnb] at Hnm
        have hR' : pathParts (k + 1) (l.drop (k + 1)) = R := by rw [hnb] at hR; simpa using hR
        have HR' := Lib.hid hR'
        clear hR hR' hnb
        go_wp2_with fail
        refine Hnm.out.mono ?_
        rintro e w2 ⟨rfl, hb2⟩
        have Hb2 := Lib.hid (Hb.out.trans (hb2.mono (by have := Hb.out.size; simpa using this)))
        clear hb2
        go_wp2_with fail
        go_roundw
        case rel => exact ⟨k + 1, by omega, by go_num, Hb2.out, HR'.out⟩
        case measure => simp [intOf]; omega
      | false =>
        rw [hnb] at Hnm
        rcases Nat.eq_zero_or_pos k with h0 | h0
        · subst h0
          have hR' : R = false := by rw [hnb] at hR; simpa using hR.symm
          have HR' := Lib.hid hR'
          clear hR hR' hnb
          go_wp2_with fail
          refine Hnm.out.mono ?_
          rintro e w2 ⟨rfl, hb2⟩
          have Hb2 := Lib.hid (Hb0.out.trans (hb2.mono Hb0.out.size))
          clear hb2
          go_wp2_with fail
          go_ret
          exact ⟨ret_bool (by rw [HR'.out]; rfl), Hb2.out⟩
        · have hk0 : ((k : Int) == 0) = false := by rw [beq_eq_false_iff_ne]; omega
          cases hub : numberB t with
          | true =>
            have hR' : pathParts (k + 1) (l.drop (k + 1)) = R := by rw [hnb, hub, show (k != 0) = true by rw [bne_iff_ne]; omega] at hR; simpa using hR
            have HR' := Lib.hid hR'
            rw [hub] at Hnu
            clear hR hR' hnb hub
            go_wp2_with fail
            refine Hnm.out.mono ?_
            rintro e w2 ⟨rfl, hb2⟩
            have Hb1 := Lib.hid hb2
            clear hb2
            go_wp2_with fail
            refine (Hnu.out _ Hb1.out).mono ?_
            rintro e w3 ⟨rfl, hb3⟩
            have Hb2 := Lib.hid (Hb.out.trans ((Hb1.out.trans (hb3.mono Hb1.out.size)).mono (by have := Hb.out.size; simpa using this)))
            clear hb3
            go_wp2_with fail
            go_roundw
            case rel => exact ⟨k + 1, by omega, by go_num, Hb2.out, HR'.out⟩
            case measure => simp [intOf]; omega
          | false =>
            have hR' : R = false := by rw [hnb, hub] at hR; simpa using hR.symm
            have HR' := Lib.hid hR'
            rw [hub] at Hnu
            clear hR hR' hnb hub
            go_wp2_with fail
            refine Hnm.out.mono ?_
            rintro e w2 ⟨rfl, hb2⟩
            have Hb1 := Lib.hid hb2
            clear hb2
            go_wp2_with fail
            refine (Hnu.out _ Hb1.out).mono ?_
            rintro e w3 ⟨rfl, hb3⟩
            have Hb2 := Lib.hid (Hb0.out.trans ((Hb1.out.trans (hb3.mono Hb1.out.size)).mono Hb0.out.size))
            clear hb3
            go_wp2_with fail
            go_ret
            exact ⟨ret_bool (by rw [HR'.out]; rfl), Hb2.out⟩
    · have HR' := Lib.hid (show R = true by
        rw [List.drop_of_length_le (by rw [Hn.out]; omega)] at hR
        exact hR.symm)
      clear hR hb
      go_wp2_with fail
      go_ret
      exact ⟨ret_bool (by rw [HR'.out]; simp; omega), Hb0.out⟩

/-! ### a struct's names -/
theorem bad_calls (s : Txt) (w : World) (hs : s.length ≤ 1073741824) (he : Env w) :
    Calls Tryz.prog 113 #[.string ⟨s.toArray⟩] w fun e w' => e = .returned (.bool (!nameB s)) ∧ Below w.heap.size w w' := by
  have Hs := Lib.hid (nameS_calls s w hs he)
  clear he hs
  go_enter Tryz.func113, Tryz.ntmps113
  go_wp2_with fail
  refine Hs.out.mono ?_
  rintro e w1 ⟨rfl, hb⟩
  have Hb := Lib.hid hb
  clear hb
  go_wp2_with fail
  go_ret
  exact ⟨ret_bool (by simp), Hb.out⟩

/-- where the first bad name stands -/
def badI (l : List Txt) : Int := if l.all nameB then -1 else (l.findIdx fun t => !nameB t : Nat)
theorem badI_ge (l : List Txt) : decide (0 ≤ badI l) = !l.all nameB := by
  unfold badI
  split
  · rename_i h; rw [h]; rfl
  · rename_i h; simp at h ⊢; simpa using h
theorem badI_none {l : List Txt} (h : ∀ j (hj : j < l.length), nameB l[j] = true) : badI l = -1 := by
  unfold badI
  rw [if_pos]
  rw [List.all_eq_true]
  intro t ht
  obtain ⟨j, hj, e⟩ := List.getElem_of_mem ht
  rw [← e]; exact h j hj
theorem badI_at {l : List Txt} {k : Nat} (hk : k < l.length) (e : nameB l[k] = false) (h : ∀ j (hj : j < l.length), j < k → nameB l[j] = true) : badI l = k := by
  unfold badI
  rw [if_neg]
  · congr 1
    rw [List.findIdx_eq hk]
    exact ⟨by rw [e]; rfl, fun j hj => by rw [h j (by omega) hj]; rfl⟩
  · intro ha
    rw [List.all_eq_true] at ha
    rw [ha _ (List.getElem_mem hk)] at e
    cases e

set_option maxRecDepth 100000 in
theorem indexBad_calls (w : World) (v : Value) (l : List Txt) (h : StrsAt w v l) (hl : l.length ≤ 1073741824) (hs : ∀ t ∈ l, t.length ≤ 1073741824) (he : Env w) :
    Calls Tryz.prog 144 #[v, .func (.func 113) #[] #[]] w fun e w' => e = .returned (.int .i64 (badI l)) ∧ Below w.heap.size w w' := by
  obtain ⟨a, n, c, rfl, hn, hc, hj⟩ := h
  have Hn := Lib.hid hn
  have Hj := Lib.hid hj
  have Hs := Lib.hid hs
  have He := Lib.hid he
  have hn2 : n ≤ 1073741824 := by omega
  clear hn hj hs he
  go_enter Tryz.func144, Tryz.ntmps144
  go_wp2_with fail
  go_loopw [8] (fun i wr => ∃ k : Nat, k ≤ n ∧ i = .int .i64 k ∧ Hid (Below w.heap.size w wr ∧ ∀ j (hj : j < l.length), j < k → nameB l[j] = true)) (fun i _ => n - (intOf i).toNat)
  case atStart => exact ⟨0, Nat.zero_le _, rfl, Below.refl _ _, fun j _ hj => absurd hj (Nat.not_lt_zero _)⟩
  case round =>
    obtain ⟨k, hk, rfl, hb, hno⟩ := hrel
    have Hb := Lib.hid hb
    have Hno := Lib.hid hno
    by_cases hlt : k < n
    · have hkl : k < l.length := by rw [Hn.out]; exact hlt
      obtain ⟨g, rfl, hcell0⟩ := Hj.out k hkl
      have hcell := (hb.cell (p := ⟨g, k, none⟩) (World.block_lt_of_cell? _ _ hcell0)).trans hcell0
      have hc := bad_calls l[k] wr (Hs.out _ (List.getElem_mem hkl)) (He.out.below hb)
      cases e : nameB l[k] with
      | false =>
        have Hr := Lib.hid (badI_at hkl e hno)
        rw [e] at hc
        have Hc := Lib.hid hc
        generalize l[k] = t at *
        clear hc e hb hno hcell0
        go_wp2_with fail
        refine Hc.out.mono ?_
        rintro e w2 ⟨rfl, hb2⟩
        have Hb2 := Lib.hid (Hb.out.trans (hb2.mono Hb.out.size))
        clear hb2
        go_wp2_with fail
        go_ret
        exact ⟨ret_intI Hr.out.symm, Hb2.out⟩
      | true =>
        have Hr := Lib.hid (show ∀ j (hj : j < l.length), j < k + 1 → nameB l[j] = true from fun j h hj => by
          rcases Nat.lt_or_ge j k with h' | h'
          · exact hno j h h'
          · obtain rfl : j = k := by omega
            exact e)
        rw [e] at hc
        have Hc := Lib.hid hc
        generalize l[k] = t at *
        clear hc e hb hno hcell0
        go_wp2_with fail
        refine Hc.out.mono ?_
        rintro e w2 ⟨rfl, hb2⟩
        have Hb2 := Lib.hid (Hb.out.trans (hb2.mono Hb.out.size))
        clear hb2
        go_wp2_with fail
        go_roundw
        case rel => exact ⟨k + 1, by omega, by go_num, Hb2.out, Hr.out⟩
        case measure => simp [intOf]; omega
    · have Hr := Lib.hid (badI_none (l := l) fun j h => hno j h (by have := Hn.out; omega))
      clear hb hno
      go_wp2_with fail
      go_ret
      exact ⟨ret_intI Hr.out.symm, Hb.out⟩
theorem containsBad_calls (w : World) (v : Value) (l : List Txt) (h : StrsAt w v l) (hl : l.length ≤ 1073741824) (hs : ∀ t ∈ l, t.length ≤ 1073741824) (he : Env w) :
    Calls Tryz.prog 112 #[v, .func (.func 113) #[] #[]] w fun e w' => e = .returned (.bool (!l.all nameB)) ∧ Below w.heap.size w w' := by
  have Hi := Lib.hid (indexBad_calls w v l h hl hs he)
  have hb : -1 ≤ badI l ∧ badI l ≤ 1073741824 := by
    unfold badI
    split
    · omega
    · have := List.findIdx_le_length (p := fun t => !nameB t) (xs := l); omega
  obtain ⟨a, n, c, rfl, -⟩ := h
  have Hg := Lib.hid (badI_ge l)
  clear he hs
  go_enter Tryz.func112, Tryz.ntmps112
  go_wp2_with fail
  refine Hi.out.mono ?_
  rintro e w2 ⟨rfl, hb2⟩
  have Hb2 := Lib.hid hb2
  clear hb2
  go_wp2_with fail
  go_ret
  exact ⟨ret_bool Hg.out, Hb2.out⟩

end Go.Proofs.YtcjmhmmjfgjcnaaGreatDoor.Pa

/- parse: names of a struct, Takes. -/
namespace Go.Proofs.YtcjmhmmjfgjcnaaGreatDoor.Pa
open Go.RowKit Go.Proofs.YtcjmhmmjfgjcnaaGreatDoor.Lx

theorem empty_beq (s : Txt) : ((⟨s.toArray⟩ : ByteArray).toList == (⟨#[]⟩ : ByteArray).toList) = decide (s = []) := bytes_beq s []
set_option maxRecDepth 100000 in
theorem namesS_calls (s : Txt) (n : Int) (w : World) (hs : s.length ≤ 1048575) (he : Env w) :
    Calls Tryz.prog 57 #[.string ⟨s.toArray⟩, .int .i64 n] w fun e w' => e = .returned (.bool (namesB s n)) ∧ Below w.heap.size w w' := by
  have Hq := Lib.hid (empty_beq s)
  by_cases h0 : n = 0
  · subst h0
    have Hn := Lib.hid (show namesB s 0 = decide (s = []) by unfold namesB; rw [if_pos rfl])
    clear he hs
    go_enter Tryz.func57, Tryz.ntmps57
    go_wp2_with fail
    go_ret
    exact ⟨ret_bool (by rw [Hn.out, ← Hq.out]; simp), Below.refl _ _⟩
  · have hb0 : (n == 0) = false := by rw [beq_eq_false_iff_ne]; exact h0
    have Hs := Lib.hid (split_calls s 44 w (by omega) he)
    have hcount := split_count s 44
    have Heach := Lib.hid (split_each s 44)
    have He := Lib.hid he
    have Hn := Lib.hid (show namesB s n = (decide (((Lib.split s [44]).length : Int) = n) && (apartB (Lib.split s [44]) && (Lib.split s [44]).all nameB)) by unfold namesB; rw [if_neg h0])
    generalize namesB s n = R at *
    generalize Lib.split s [44] = l at *
    have HT := Lib.hid (TextsAt.new w l l.length _ 9 (0, 0) rfl rfl).strs
    have Hbel := Lib.hid (alloc_below w (.cells (strsC l).toArray 9))
    generalize hw1 : w.alloc (.cells (strsC l).toArray 9) = w1 at *
    have Hcount := Lib.hid hcount
    have Hs2 := Lib.hid hs
    generalize hm : l.length = m at *
    have Hm := Lib.hid hm
    clear he h0 hs hcount hw1 hm
    by_cases hl : (m : Int) = n
    · have hb1 : ((m : Int) == n) = true := by rw [beq_iff_eq]; exact hl
      have Ha := Lib.hid (apart_calls w1 _ l HT.out (by rw [Hm.out]; have := Hcount.out; have := Hs2.out; omega) (fun t ht => by have := Heach.out t ht; have := Hs2.out; omega))
      cases hap : apartB l with
      | false =>
        have HR := Lib.hid (show R = false by rw [Hn.out, hap]; simp)
        have e1 : decide l.Nodup = false := hap
        rw [e1] at Ha
        clear hl hap e1
        go_enter Tryz.func57, Tryz.ntmps57
        go_wp2_with fail
        refine Hs.out.mono ?_
        rintro e w2 ⟨rfl, rfl⟩
        go_wp2_with fail
        refine Ha.out.mono ?_
        rintro e w3 ⟨rfl, hb3⟩
        have Hb3 := Lib.hid (Hbel.out.trans (hb3.mono Hbel.out.size))
        clear hb3
        go_wp2_with fail
        go_ret
        exact ⟨ret_bool HR.out.symm, Hb3.out⟩
      | true =>
        have HR := Lib.hid (show R = l.all nameB by rw [Hn.out, hap]; simp [hl])
        have e1 : decide l.Nodup = true := hap
        rw [e1] at Ha
        have Hc := Lib.hid (fun (w2 : World) (hb : Below w1.heap.size w1 w2) => containsBad_calls w2 _ l (HT.out.below hb) (by rw [Hm.out]; have := Hcount.out; have := Hs2.out; omega) (fun t ht => by have := Heach.out t ht; have := Hs2.out; omega) ((He.out.below Hbel.out).below hb))
        clear hl hap e1
        go_enter Tryz.func57, Tryz.ntmps57
        go_wp2_with fail
        refine Hs.out.mono ?_
        rintro e w2 ⟨rfl, rfl⟩
        go_wp2_with fail
        refine Ha.out.mono ?_
        rintro e w3 ⟨rfl, hb3⟩
        have Hb3 := Lib.hid hb3
        clear hb3
        go_wp2_with fail
        refine (Hc.out _ Hb3.out).mono ?_
        rintro e w4 ⟨rfl, hb4⟩
        have Hb4 := Lib.hid (Hbel.out.trans ((Hb3.out.trans (hb4.mono Hb3.out.size)).mono Hbel.out.size))
        clear hb4
        go_wp2_with fail
        go_ret
        exact ⟨ret_bool (by rw [HR.out]), Hb4.out⟩
    · have hb1 : ((m : Int) == n) = false := by rw [beq_eq_false_iff_ne]; exact hl
      have HR := Lib.hid (show R = false by rw [Hn.out]; simp [hl])
      clear hl
      go_enter Tryz.func57, Tryz.ntmps57
      go_wp2_with fail
      refine Hs.out.mono ?_
      rintro e w2 ⟨rfl, rfl⟩
      go_wp2_with fail
      go_ret
      exact ⟨ret_bool HR.out.symm, Hbel.out⟩

/-! ### two steps compared -/
def stpB (x0 y0 : Int) (x1 y1 : ByteArray) (x2 y2 : Int) : Bool := (x0 == y0) && ((x1.toList == y1.toList) && (x2 == y2))
theorem stp_equal (d : Nat) (w : World) (x0 y0 : Int) (x1 y1 : ByteArray) (x2 y2 : Int) :
    (Op.equalIn (d + 2) 48 (.agg #[.int .u8 x0, .string x1, .int .i64 x2]) (.agg #[.int .u8 y0, .string y1, .int .i64 y2])).run Tryz.prog w = .ok (stpB x0 y0 x1 y1 x2 y2) w := by
  refine agg_of Tryz.underlying48 (by kernel_rfl) ?_
  refine fields_cons (by rfl) (by go_simp; rfl) (by go_simp; rfl) (by go_simp) ?_
  refine fields_cons (by rfl) (by go_simp; rfl) (by go_simp; rfl) (by go_simp) ?_
  exact fields_last (by rfl) (by go_simp; rfl) (by go_simp; rfl) (by go_simp)
theorem stpB_eq (x y : Stp) : stpB x.kind y.kind ⟨x.text.toArray⟩ ⟨y.text.toArray⟩ x.num y.num = decide (x = y) := by
  rw [Bool.eq_iff_iff, decide_eq_true_iff]
  cases x; cases y
  unfold stpB
  simp only [Bool.and_eq_true, beq_iff_eq, ByteArray.toList_eq, Stp.mk.injEq, Int.natCast_inj]

def takesV (o : Option Nat) : Value := .tuple #[.int .i64 (o.getD 0 : Nat), .bool o.isSome]

end Go.Proofs.YtcjmhmmjfgjcnaaGreatDoor.Pa
