/- Parts: RcI. -/
import Derived.Test.YtcjmhmmjfgjcnaaGreatDoorMc08
import Derived.Test.YtcjmhmmjfgjcnaaGreatDoorMc29

/- codicilref13: Read. -/
namespace Go.Proofs.YtcjmhmmjfgjcnaaGreatDoor.Cd
open Go.RowKit Go.Proofs.YtcjmhmmjfgjcnaaGreatDoor.Lx Go.Proofs.YtcjmhmmjfgjcnaaGreatDoor.Pa Go.Proofs.YtcjmhmmjfgjcnaaGreatDoor.Rf

theorem instrR_text {l : Txt} {x : Ins} {n : Nat} (h : instrR l = some (x, n)) : x.st.text.length ≤ l.length := by
  cases l with
  | nil => cases h
  | cons b r =>
    rw [instrR] at h
    split at h
    · simp only [Option.some.injEq, Prod.mk.injEq] at h
      rw [← h.1]; exact Nat.zero_le _
    · split at h
      · cases hr : readN r with
        | none => rw [hr] at h; cases h
        | some m =>
          rw [hr, Option.bind_some] at h
          split at h
          · cases h
          · simp only [Option.some.injEq, Prod.mk.injEq] at h
            rw [← h.1]; exact Nat.zero_le _
      · split at h
        · cases r with
          | nil => cases h
          | cons c r2 =>
            rw [instrA] at h
            cases hr : readN r2 with
            | none => rw [hr] at h; cases h
            | some m =>
              rw [hr, Option.bind_some] at h
              cases hq : readN (r2.drop m.2) with
              | none => rw [hq] at h; cases h
              | some m2 =>
                rw [hq, Option.bind_some] at h
                split at h
                · cases h
                · simp only [Option.some.injEq, Prod.mk.injEq] at h
                  rw [← h.1]
                  simp only [List.length_take, List.length_drop, List.length_cons]
                  omega
        · cases h

theorem ins_one' (x : Ins) : ∀ u ∈ Ins.cells x, u.oneCell' = true := by
  intro u hu
  simp only [Ins.cells, List.mem_cons, List.mem_nil_iff, or_false] at hu
  rcases hu with rfl | rfl | rfl | rfl | rfl <;> rfl
theorem hr_size (b : UInt8) (r : Txt) : ((⟨(b :: r).toArray⟩ : ByteArray).size : Int) = r.length + 1 := by
  rw [size_mk, List.length_cons]; omega

def GaveRd (w : World) (l : Txt) (e : Ending) (w' : World) : Prop := Below w.heap.size w w' ∧
  if 16384 < l.length then e = .returned (.tuple #[.slice none 0 0, .int .i64 4])
  else match (readR l.length [] l).bind (fun q => if checkI q = true then some q else none) with
    | none => e = .returned (.tuple #[.slice none 0 0, .int .i64 11])
    | some q => ∃ v, e = .returned (.tuple #[v, .int .i64 0]) ∧ InsIn w' v q
theorem GaveRd.long {w : World} {l : Txt} {e : Ending} {w' : World} (hl : 16384 < l.length) (hb : Below w.heap.size w w') (he : e = .returned (.tuple #[.slice none 0 0, .int .i64 4])) : GaveRd w l e w' := ⟨hb, by rw [if_pos hl]; exact he⟩
theorem GaveRd.no {w : World} {l : Txt} {e : Ending} {w' : World} (hl : ¬ 16384 < l.length) (hr : (readR l.length [] l).bind (fun q => if checkI q = true then some q else none) = none) (hb : Below w.heap.size w w') (he : e = .returned (.tuple #[.slice none 0 0, .int .i64 11])) : GaveRd w l e w' := ⟨hb, by rw [if_neg hl, hr]; exact he⟩
theorem GaveRd.yes {w : World} {l : Txt} {q : List Ins} {v : Value} {e : Ending} {w' : World} (hl : ¬ 16384 < l.length) (hr : (readR l.length [] l).bind (fun q => if checkI q = true then some q else none) = some q) (hb : Below w.heap.size w w') (he : e = .returned (.tuple #[v, .int .i64 0])) (hv : InsIn w' v q) : GaveRd w l e w' := ⟨hb, by rw [if_neg hl, hr]; exact ⟨v, he, hv⟩⟩

set_option maxHeartbeats 2000000 in
set_option maxRecDepth 100000 in
theorem ReadR13_calls (w : World) (l0 : Txt) (hs : l0.length ≤ 1000000000) :
    Calls Tryz.prog 31 #[.string ⟨l0.toArray⟩] w (GaveRd w l0) := by
  by_cases hbig : 16384 < l0.length
  · have hbig2 : (16384 : Int) < l0.length := by omega
    have hg := fun e w' hb he => GaveRd.long (w := w) (e := e) (w' := w') hbig hb he
    have Hg := Lib.hid hg
    clear hg
    go_enter Tryz.func31, Tryz.ntmps31
    go_wp2_with fail
    go_ret2
    exact Hg.out _ _ (Below.refl _ _) rfl
  · have hbig2 : ¬ (16384 : Int) < l0.length := by omega
    have Hno := Lib.hid (fun hr e w' hb he => GaveRd.no (w := w) (e := e) (w' := w') hbig hr hb he)
    have Hyes := Lib.hid (fun q hr v e w' hb he hv => GaveRd.yes (w := w) (q := q) (v := v) (e := e) (w' := w') hbig hr hb he hv)
    have Hrf := Lib.hid (show readR l0.length [] l0 = readR l0.length [] l0 from rfl)
    have hl0 : l0.length ≤ 16384 := by omega
    go_enter Tryz.func31, Tryz.ntmps31
    go_wp2_with fail
    go_loopw [0, 4] (fun s0 s4 wr => ∃ (l : Txt) (out : List Ins) (f : Nat) (v : Value), s0 = .string ⟨l.toArray⟩ ∧ s4 = v ∧ l.length ≤ f ∧ out.length + l.length ≤ 16384 ∧ Hid (KeptRow w wr 63 5 v out.length (insC out)) ∧ Hid (readR l0.length [] l0 = readR f out l) ∧ Hid (∀ x ∈ out, x.st.text.length ≤ 16384)) (fun s0 _ _ => (match s0 with | .string b => b.size | _ => 0))
    case atStart => exact ⟨l0, [], l0.length, _, rfl, rfl, Nat.le_refl _, by simpa using hl0, Lib.hid (KeptRow.nil _ _ _), Lib.hid rfl, Lib.hid (fun x hx => nomatch hx)⟩
    case round =>
      obtain ⟨l, out, f, v, rfl, rfl, hlf, hsum, hrow, hrr, htx⟩ := hrel
      have Hrow := Lib.hid hrow.out
      have Hrr := Lib.hid hrr.out
      have Htx := Lib.hid htx.out
      obtain ⟨av, cv, rfl⟩ := rForm hrow.out.own
      clear hrow hrr htx
      cases l with
      | nil =>
        have Hre := Lib.hid (show readR l0.length [] l0 = some out by
          rw [Hrr.out]
          cases f with
          | zero => rw [readR, if_pos rfl]
          | succ f => rw [readR, if_pos rfl])
        have HC := Lib.hid (CheckR_calls wr _ out (InsIn.own Hrow.out.own rfl) (by simp at hsum; omega) (fun x hx => by have := Htx.out x hx; omega))
        unfold checkRV at HC
        cases hck : checkI out
        · rw [hck] at HC
          have Hf := Lib.hid (Hno.out (by rw [Hre.out, Option.bind_some, hck]; rfl))
          clear hck
          go_wp2_with fail
          refine HC.out.mono ?_
          rintro e w1 ⟨rfl, hb1⟩
          have Hb1 := Lib.hid (rStep Hrow.out.bel hb1)
          clear hb1
          simp only [Bool.false_eq_true, if_false]
          go_wp2_with fail
          go_ret2
          exact Hf.out _ _ Hb1.out rfl
        · rw [hck] at HC
          have Hf := Lib.hid (Hyes.out out (by rw [Hre.out, Option.bind_some, hck]; rfl))
          clear hck
          go_wp2_with fail
          refine HC.out.mono ?_
          rintro e w1 ⟨rfl, hb1⟩
          have Hb1 := Lib.hid (rStep Hrow.out.bel hb1)
          have Hin := Lib.hid ((InsIn.own Hrow.out.own rfl).below hb1)
          clear hb1
          simp only [if_true]
          go_wp2_with fail
          go_ret2
          exact Hf.out _ _ _ Hb1.out rfl Hin.out
      | cons b r =>
        rw [List.length_cons] at hlf hsum
        obtain ⟨f, rfl⟩ : ∃ f', f = f' + 1 := ⟨f - 1, by omega⟩
        have hne : ((b :: r : Txt) == []) = false := rfl
        have hdr := fun k => mk_drop (b :: r) k
        have HI := Lib.hid (fun W => instr_calls W b r (by omega))
        cases hi : instrR (b :: r) with
        | none =>
          rw [hi] at HI
          have Hf := Lib.hid (Hno.out (by rw [Hrr.out, readR, if_neg (by simp), hi]; rfl))
          clear hi
          go_wp2_with fail
          refine (HI.out _).mono ?_
          rintro e w1 ⟨hb1, x, rfl⟩
          have Hb1 := Lib.hid (rStep Hrow.out.bel hb1)
          clear hb1
          unfold Ins.val
          go_wp2_with fail
          go_ret2
          exact Hf.out _ _ (Hb1.out.alloc Hb1.out.size _) rfl
        | some xn =>
          obtain ⟨x, n⟩ := xn
          rw [hi] at HI
          obtain ⟨hn1, hn2, -, -⟩ := instr_some hi
          have hxt := instrR_text hi
          have Hn := Lib.hid (show readR l0.length [] l0 = readR f (out ++ [x]) ((b :: r).drop n) by rw [Hrr.out, readR, if_neg (by simp), hi]; rfl)
          rw [List.length_cons] at hn2 hxt
          have Hdl := Lib.hid (show ((b :: r).drop n).length = r.length + 1 - n by rw [List.length_drop, List.length_cons])
          have hdn := hdr n
          rw [size_mk, List.length_cons] at hdn
          generalize hD : (b :: r).drop n = D at *
          clear hi hD hdr
          go_wp2_with fail
          refine (HI.out _).mono ?_
          rintro e w1 ⟨hb1, rfl⟩
          have Hb1 := Lib.hid hb1
          clear hb1
          have Hrow2 := Lib.hid ((Hrow.out.step Hb1.out).step (rAlloc w1 (.cells (Ins.cells x).toArray 63)))
          have hn0 : ((n : Int) == 0) = false := by rw [beq_eq_false_iff_ne]; omega
          have hsz := hr_size b r
          unfold Ins.val
          simp only []
          go_wp2_with (at_builtin; go_must (refine wpList_more rfl _ _ 63 23 rfl Tryz.underlying23 _ 5 48 insInfo rfl (by decide) w (.slice av out.length cv) out.length (insC out) rfl (w1.heap.size + 1) rfl (Ins.cells x) rfl (ins_one' _) Hrow2.out (Array.size_push _) (by unfold maxLen; omega) (by omega) ?_); intro a7 n7 c7 w7 hn7 h7; have Hn7 := Lib.hid hn7.out; have H7 := Lib.hid h7; clear hn7 h7)
          refine ⟨⟨D, out ++ [x], f, .slice a7 n7 c7, rfl, rfl, ?_, ?_, ?_, Hn, ?_⟩, ?_⟩
          · rw [Hdl.out]; omega
          · rw [Hdl.out, List.length_append, List.length_singleton]; omega
          · rw [insC_snoc, List.length_append, List.length_singleton, ← Hn7.out]; exact Lib.hid H7.out
          · refine Lib.hid fun y hy => ?_
            rcases List.mem_append.1 hy with hy | hy
            · exact Htx.out y hy
            · rw [List.mem_singleton.1 hy]; omega
          · show (⟨D.toArray⟩ : ByteArray).size < (⟨(b :: r).toArray⟩ : ByteArray).size
            rw [size_mk, size_mk, Hdl.out, List.length_cons]; omega

end Go.Proofs.YtcjmhmmjfgjcnaaGreatDoor.Cd
