/- Parts: PbB. -/
import Derived.Test.YtghnkgeaocpmaaaGreatDoorMg24
import Derived.Laws.StructEq

/- parse: names of a struct, Takes. -/
namespace Go.Proofs.YtghnkgeaocpmaaaGreatDoor.Pa
open Go.RowKit Go.Proofs.YtghnkgeaocpmaaaGreatDoor.Lx

theorem empty_beq (s : Txt) : ((⟨s.toArray⟩ : ByteArray).toList == (⟨#[]⟩ : ByteArray).toList) = decide (s = []) := bytes_beq s []
set_option maxRecDepth 100000 in
theorem namesS_calls (s : Txt) (n : Int) (w : World) (hs : s.length ≤ 1048575) (he : Env w) :
    Calls Tryz.prog 36 #[.string ⟨s.toArray⟩, .int .i64 n] w fun e w' => e = .returned (.bool (namesB s n)) ∧ Below w.heap.size w w' := by
  have Hq := Lib.hid (empty_beq s)
  by_cases h0 : n = 0
  · subst h0
    have Hn := Lib.hid (show namesB s 0 = decide (s = []) by unfold namesB; rw [if_pos rfl])
    clear he hs
    go_enter Tryz.func36, Tryz.ntmps36
    go_wp2_with fail
    go_ret
    exact ⟨ret_bool (by rw [Hn.out, ← Hq.out]; simp), Below.refl _ _⟩
  · have hb0 : (n == 0) = false := by rw [beq_eq_false_iff_ne]; exact h0
    have Hs := Lib.hid (split_calls s 44 w (by omega) he)
    have hcount := split_count s 44
    have Heach := Lib.hid (split_each s 44)
    have He := Lib.hid he
    have Hn := Lib.hid (show namesB s n = (decide (((Lib.split s [44]).length : Int) = n) && (apartB (Lib.split s [44]) && (Lib.split s [44]).all nameB)) by unfold namesB; rw [if_neg h0])
    generalize namesB s n = R at *
    generalize Lib.split s [44] = l at *
    have HT := Lib.hid (TextsAt.new w l l.length _ 9 (0, 0) rfl rfl).strs
    have Hbel := Lib.hid (alloc_below w (.cells (strsC l).toArray 9))
    generalize hw1 : w.alloc (.cells (strsC l).toArray 9) = w1 at *
    have Hcount := Lib.hid hcount
    have Hs2 := Lib.hid hs
    generalize hm : l.length = m at *
    have Hm := Lib.hid hm
    clear he h0 hs hcount hw1 hm
    by_cases hl : (m : Int) = n
    · have hb1 : ((m : Int) == n) = true := by rw [beq_iff_eq]; exact hl
      have Ha := Lib.hid (apart_calls w1 _ l HT.out (by rw [Hm.out]; have := Hcount.out; have := Hs2.out; omega) (fun t ht => by have := Heach.out t ht; have := Hs2.out; omega))
      cases hap : apartB l with
      | false =>
        have HR := Lib.hid (show R = false by rw [Hn.out, hap]; simp)
        have e1 : decide l.Nodup = false := hap
        rw [e1] at Ha
        clear hl hap e1
        go_enter Tryz.func36, Tryz.ntmps36
        go_wp2_with fail
        refine Hs.out.mono ?_
        rintro e w2 ⟨rfl, rfl⟩
        go_wp2_with fail
        refine Ha.out.mono ?_
        rintro e w3 ⟨rfl, hb3⟩
        have Hb3 := Lib.hid (Hbel.out.trans (hb3.mono Hbel.out.size))
        clear hb3
        go_wp2_with fail
        go_ret
        exact ⟨ret_bool HR.out.symm, Hb3.out⟩
      | true =>
        have HR := Lib.hid (show R = l.all nameB by rw [Hn.out, hap]; simp [hl])
        have e1 : decide l.Nodup = true := hap
        rw [e1] at Ha
        have Hc := Lib.hid (fun (w2 : World) (hb : Below w1.heap.size w1 w2) => containsBad_calls w2 _ l (HT.out.below hb) (by rw [Hm.out]; have := Hcount.out; have := Hs2.out; omega) (fun t ht => by have := Heach.out t ht; have := Hs2.out; omega) ((He.out.below Hbel.out).below hb))
        clear hl hap e1
        go_enter Tryz.func36, Tryz.ntmps36
        go_wp2_with fail
        refine Hs.out.mono ?_
        rintro e w2 ⟨rfl, rfl⟩
        go_wp2_with fail
        refine Ha.out.mono ?_
        rintro e w3 ⟨rfl, hb3⟩
        have Hb3 := Lib.hid hb3
        clear hb3
        go_wp2_with fail
        refine (Hc.out _ Hb3.out).mono ?_
        rintro e w4 ⟨rfl, hb4⟩
        have Hb4 := Lib.hid (Hbel.out.trans ((Hb3.out.trans (hb4.mono Hb3.out.size)).mono Hbel.out.size))
        clear hb4
        go_wp2_with fail
        go_ret
        exact ⟨ret_bool (by rw [HR.out]), Hb4.out⟩
    · have hb1 : ((m : Int) == n) = false := by rw [beq_eq_false_iff_ne]; exact hl
      have HR := Lib.hid (show R = false by rw [Hn.out]; simp [hl])
      clear hl
      go_enter Tryz.func36, Tryz.ntmps36
      go_wp2_with fail
      refine Hs.out.mono ?_
      rintro e w2 ⟨rfl, rfl⟩
      go_wp2_with fail
      go_ret
      exact ⟨ret_bool HR.out.symm, Hbel.out⟩

/-! ### two steps compared -/
def stpB (x0 y0 : Int) (x1 y1 : ByteArray) (x2 y2 : Int) : Bool := (x0 == y0) && ((x1.toList == y1.toList) && (x2 == y2))
theorem stp_equal (d : Nat) (w : World) (x0 y0 : Int) (x1 y1 : ByteArray) (x2 y2 : Int) :
    (Op.equalIn (d + 2) 29 (.agg #[.int .u8 x0, .string x1, .int .i64 x2]) (.agg #[.int .u8 y0, .string y1, .int .i64 y2])).run Tryz.prog w = .ok (stpB x0 y0 x1 y1 x2 y2) w := by
  refine agg_of Tryz.underlying29 (by kernel_rfl) ?_
  refine fields_cons (by rfl) (by go_simp; rfl) (by go_simp; rfl) (by go_simp) ?_
  refine fields_cons (by rfl) (by go_simp; rfl) (by go_simp; rfl) (by go_simp) ?_
  exact fields_last (by rfl) (by go_simp; rfl) (by go_simp; rfl) (by go_simp)
theorem stpB_eq (x y : Stp) : stpB x.kind y.kind ⟨x.text.toArray⟩ ⟨y.text.toArray⟩ x.num y.num = decide (x = y) := by
  rw [Bool.eq_iff_iff, decide_eq_true_iff]
  cases x; cases y
  unfold stpB
  simp only [Bool.and_eq_true, beq_iff_eq, ByteArray.toList_eq, Stp.mk.injEq, Int.natCast_inj]

def takesV (o : Option Nat) : Value := .tuple #[.int .i64 (o.getD 0 : Nat), .bool o.isSome]

end Go.Proofs.YtghnkgeaocpmaaaGreatDoor.Pa
