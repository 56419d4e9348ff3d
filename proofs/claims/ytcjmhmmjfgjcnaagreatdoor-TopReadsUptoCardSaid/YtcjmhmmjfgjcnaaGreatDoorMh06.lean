/- Parts: LxG. -/
import Derived.Test.YtcjmhmmjfgjcnaaGreatDoorMh03
import Derived.Test.YtcjmhmmjfgjcnaaGreatDoorMh05

/- The reader of texts. -/
namespace Go.Proofs.YtcjmhmmjfgjcnaaGreatDoor.Lx
open Go.RowKit

def textAfter (acc : List UInt8) (m : Nat) : List UInt8 → Option (List UInt8 × Nat)
  | [] => some (acc, m)
  | d :: r' => if d = 39 then (textL r').map fun x => (acc ++ 39 :: x.1, m + 1 + x.2) else some (acc, m)

theorem textL_cons (c : UInt8) (r : List UInt8) : textL (c :: r) = if c = 39 then textAfter [] 1 r else (textL r).map fun x => (c :: x.1, x.2 + 1) := by
  by_cases hc : c = 39
  · rw [if_pos hc]
    cases r with
    | nil => simp [textL, hc, textAfter]
    | cons d r' =>
      simp only [textAfter, List.nil_append]
      rw [textL.eq_def]
      simp only [hc, if_true]
      split
      · congr 1
        funext x
        simp; omega
      · rfl
  · rw [if_neg hc]
    cases r <;> (rw [textL.eq_def]; simp only [hc, if_false])

theorem textL_none : ∀ {r : List UInt8}, Lib.indexByte r 39 = -1 → textL r = none
  | [], _ => rfl
  | c :: r, h => by
    simp only [Lib.indexByte] at h
    by_cases hc : c = 39
    · simp [hc] at h
    · have hc' : (c == 39) = false := by simpa using hc
      have hr : Lib.indexByte r 39 = -1 := by
        have := Lib.indexByte_ge r 39
        rw [hc'] at h
        by_cases e : Lib.indexByte r 39 = -1
        · exact e
        · have e' : (Lib.indexByte r 39 == -1) = false := by simpa using e
          simp only [e', Bool.false_eq_true, if_false] at h
          omega
      rw [textL_cons, if_neg hc, textL_none hr]
      rfl

theorem textL_some : ∀ {r : List UInt8} {o : Nat}, Lib.indexByte r 39 = (o : Int) → o < r.length ∧ textL r = textAfter (r.take o) (o + 1) (r.drop (o + 1))
  | [], o, h => by simp [Lib.indexByte] at h
  | c :: r, o, h => by
    simp only [Lib.indexByte] at h
    by_cases hc : c = 39
    · subst hc
      have : o = 0 := by simp at h; omega
      subst this
      refine ⟨by simp, ?_⟩
      rw [textL_cons, if_pos rfl]
      simp
    · have hc' : (c == 39) = false := by simpa using hc
      rw [hc'] at h
      have hge := Lib.indexByte_ge r 39
      by_cases e : Lib.indexByte r 39 = -1
      · simp [e] at h
      · have e' : (Lib.indexByte r 39 == -1) = false := by simpa using e
        simp only [e', Bool.false_eq_true, if_false] at h
        obtain ⟨p, rfl⟩ : ∃ p, o = p + 1 := ⟨o - 1, by omega⟩
        have hp : Lib.indexByte r 39 = (p : Int) := by omega
        obtain ⟨h1, h2⟩ := textL_some hp
        refine ⟨by simpa using h1, ?_⟩
        rw [textL_cons, if_neg hc, h2]
        simp only [List.drop_succ_cons, List.take_succ_cons]
        cases r.drop (p + 1) with
        | nil => simp [textAfter]
        | cons d r' =>
          simp only [textAfter]
          split
          · rw [Option.map_map]
            congr 1
            funext x
            simp; omega
          · simp

def TextAt (s : ByteArray) (n : Nat) (acc : List UInt8) : Prop :=
  textL ((L s).drop 1) = (textL ((L s).drop n)).map fun x => (acc ++ x.1, n - 1 + x.2)

theorem byteCells_append (a b : List UInt8) : Lib.byteCells (a ++ b) = Lib.byteCells a ++ Lib.byteCells b := by simp [Lib.byteCells]
theorem strCells_eq (s : ByteArray) : Lib.strCells s = Lib.byteCells (L s) := rfl
theorem byteCells_length (a : List UInt8) : (Lib.byteCells a).length = a.length := by simp [Lib.byteCells]

structure TextSt (s : ByteArray) (w wr : World) (n : Nat) (acc : List UInt8) : Prop where
  lo : 1 ≤ n
  hi : n ≤ s.size
  at_ : TextAt s n acc
  len : acc.length ≤ n
  bld : Lib.IsBuilderF 125 5 (w.heap.size + 1) (w.heap.size + 1) (Lib.byteCells acc) wr
  tok : wr.heap[w.heap.size]? = some tokObj
  bel : Below w.heap.size w wr
  big : w.heap.size + 1 < wr.heap.size

theorem fresh_builder (w : World) : Lib.IsBuilderF 125 5 (w.heap.size + 1) (w.heap.size + 1) (Lib.byteCells []) ((w.alloc tokObj).alloc (.cells #[.pointer none, .slice none 0 0] 125)) := by
  have h := Lib.IsBuilderF.of (Lib.fresh_isBuilder 125 5 (w.alloc tokObj))
  have e : Lib.byteCells [] = [] := rfl
  rw [e]
  simpa using h

theorem idx_calls (s : ByteArray) (n : Nat) (w : World) (i : Int) (h : Lib.indexByte ((L s).drop n) 39 = i) :
    Calls Tryz.prog 132 #[.string (s.extract n s.size), .int .u8 39] w fun e w' => e = .returned (.int .i64 i) ∧ w = w' := by
  refine (Tryz.strings_IndexByte _ _ _).mono ?_
  rintro e w1 ⟨rfl, rfl⟩
  refine ⟨ret_int ?_, rfl⟩
  rw [← h, ← L_drop]
  rfl

theorem valid_calls (l : List UInt8) (w : World) (hl : (⟨l.toArray⟩ : ByteArray).size ≤ 9223372036854775807) (he : Env w) :
    Calls Tryz.prog 55 #[.string ⟨l.toArray⟩] w fun e w' => e = .returned (.bool (Lib.validD l)) ∧ Below w.heap.size w w' :=
  (Tryz.utf8_ValidString ⟨l.toArray⟩ w hl he.utf).mono fun _ _ h => h

theorem TextSt.none {s : ByteArray} {w wr : World} {n : Nat} {acc : List UInt8} (h : TextSt s w wr n acc) (hi : Lib.indexByte ((L s).drop n) 39 = -1) : textR (L s) = .err 13 := by
  unfold textR
  rw [h.at_, textL_none hi]
  rfl

def got (s : ByteArray) (n o : Nat) (acc : List UInt8) : List UInt8 := acc ++ ((L s).drop n).take o
theorem TextSt.found {s : ByteArray} {w wr : World} {n o : Nat} {acc : List UInt8} (h : TextSt s w wr n acc) (hi : Lib.indexByte ((L s).drop n) 39 = (o : Int)) :
    n + o < s.size ∧ textL ((L s).drop 1) = (textAfter (((L s).drop n).take o) (o + 1) ((L s).drop (n + o + 1))).map fun x => (acc ++ x.1, n - 1 + x.2) := by
  obtain ⟨h1, h2⟩ := textL_some hi
  rw [List.length_drop, L_length] at h1
  refine ⟨by omega, ?_⟩
  rw [h.at_, h2, List.drop_drop]
  rw [show n + (o + 1) = n + o + 1 by omega]
theorem got_length {s : ByteArray} {w wr : World} {n o : Nat} {acc : List UInt8} (h : TextSt s w wr n acc) : (got s n o acc).length ≤ n + o := by
  have := h.len
  simp only [got, List.length_append, List.length_take]
  omega
theorem TextSt.ends {s : ByteArray} {w wr : World} {n o : Nat} {acc : List UInt8} (h : TextSt s w wr n acc) (hi : Lib.indexByte ((L s).drop n) 39 = (o : Int)) (he : ∀ hk : n + (o + 1) < s.size, s[n + (o + 1)] ≠ 39) :
    textR (L s) = if 1024 < (got s n o acc).length then .err 4 else if Lib.validD (got s n o acc) then .ok ⟨4, got s n o acc, 0, 0⟩ (n + o + 1) else .err 9 := by
  obtain ⟨h1, h2⟩ := h.found hi
  have h3 : textL ((L s).drop 1) = some (got s n o acc, n + o) := by
    rw [h2]
    have hl := h.lo
    by_cases hk : n + o + 1 < s.size
    · have ed : (L s).drop (n + o + 1) = (L s)[n + o + 1]'(by rw [L_length]; exact hk) :: (L s).drop (n + o + 1 + 1) := List.drop_eq_getElem_cons _
      rw [ed]
      have hc : (L s)[n + o + 1]'(by rw [L_length]; exact hk) ≠ 39 := he hk
      simp only [textAfter, hc, if_false, Option.map_some, got]
      congr 2
      omega
    · have ed : (L s).drop (n + o + 1) = [] := List.drop_of_length_le (by rw [L_length]; omega)
      rw [ed]
      simp only [textAfter, Option.map_some, got]
      congr 2
      omega
  unfold textR
  rw [h3]
theorem TextSt.more {s : ByteArray} {w wr : World} {n o : Nat} {acc : List UInt8} (h : TextSt s w wr n acc) (hi : Lib.indexByte ((L s).drop n) 39 = (o : Int)) (hk : n + (o + 1) < s.size) (he : s[n + (o + 1)] = 39) :
    TextAt s (n + o + 2) (got s n o acc ++ [39]) := by
  obtain ⟨h1, h2⟩ := h.found hi
  unfold TextAt
  have ed : (L s).drop (n + o + 1) = (L s)[n + o + 1]'(by rw [L_length]; exact hk) :: (L s).drop (n + o + 2) := List.drop_eq_getElem_cons _
  rw [h2, ed]
  have hc : (L s)[n + o + 1]'(by rw [L_length]; exact hk) = 39 := he
  simp only [textAfter, hc, if_true, got, Option.map_map]
  congr 1
  funext x
  have hl := h.lo
  simp
  omega

set_option maxHeartbeats 2000000 in
set_option maxRecDepth 100000 in
theorem text_calls (s : ByteArray) (w : World) (hs : s.size ≤ maxLen) (hs2 : s.size ≤ 140737488355327) (h1 : 1 ≤ s.size) (he : Env w) :
    Calls Tryz.prog 95 #[.string s] w fun e w' => e = .returned (textR (L s)).val ∧ Below w.heap.size w w' := by
  have Hs := Lib.hid hs
  have Hs2 := Lib.hid hs2
  have He := Lib.hid he
  clear hs2 he
  unfold maxLen at hs
  have hst : TextSt s w ((w.alloc tokObj).alloc (.cells #[.pointer none, .slice none 0 0] 125)) 1 [] :=
    ⟨Nat.le_refl _, h1, by simp [TextAt], by simp, fresh_builder w, by rw [Below.heap_alloc _ _ _ (by simp)]; simp [World.alloc, -World.alloc_eq], ((Below.refl _ _).alloc (Nat.le_refl _) _).alloc (by simp) _, by simp⟩
  have Hst := Lib.hid hst
  clear hst
  go_enter Tryz.func95, Tryz.ntmps95
  go_wp2
  go_loopw [6] (fun v wr => ∃ (n : Nat) (acc : List UInt8), v = .int .i64 n ∧ Hid (TextSt s w wr n acc)) (fun v _ => s.size - (intOf v).toNat)
  case atStart => exact ⟨1, [], rfl, Hst.out⟩
  case round =>
    obtain ⟨n, acc, rfl, hst⟩ := hrel
    have hlo := hst.out.lo
    have hhi := hst.out.hi
    by_cases hno : Lib.indexByte ((L s).drop n) 39 = -1
    · have Hno := Lib.hid hno
      clear hno
      have Hr := Lib.hid (hst.out.none Hno.out)
      obtain ⟨⟨c0, c1, c2, c3⟩, f0, f1, f2, f3⟩ := four hst.out.tok
      go_wp2_with fail
      refine (idx_calls s n _ _ Hno.out).mono ?_
      rintro e w1 ⟨rfl, rfl⟩
      go_wp2_with fail
      rw [Hr.out]
      exact bodyPost_ret (v := (Rd.err 13).val) (by simp [results, Tryz.results95, go_sem, Rd.val, tok0, Tok.val, c0, c1, c2, c3]) rfl ⟨rfl, below_set4 hst.out.bel _ _ _ _ _ _ _ _⟩
    · obtain ⟨o, ho⟩ : ∃ o : Nat, Lib.indexByte ((L s).drop n) 39 = (o : Int) := ⟨(Lib.indexByte ((L s).drop n) 39).toNat, by have := Lib.indexByte_ge ((L s).drop n) 39; omega⟩
      clear hno
      have hf := (hst.out.found ho).1
      have Ho := Lib.hid ho
      clear ho
      have hgl : (Lib.byteCells acc).length + (s.extract n (n + o)).size ≤ 140737488355328 := by
        have := hst.out.len
        have h2 := Hs2.out
        rw [byteCells_length, ← L_length (s.extract n (n + o)), L_extract, List.length_take, List.length_drop, L_length]
        omega
      have Hgl := Lib.hid hgl
      clear hgl
      go_wp2_with fail
      refine (idx_calls s n _ _ Ho.out).mono ?_
      rintro e w1 ⟨rfl, rfl⟩
      go_wp2_with fail
      refine (writeString_calls _ _ _ _ _ hst.out.bld Hgl.out (Nat.le_of_lt hst.out.big)).mono ?_
      rintro e w2 ⟨rfl, hbld, hbel⟩
      have hbld2 : Lib.IsBuilderF 125 5 (w.heap.size + 1) (w.heap.size + 1) (Lib.byteCells (got s n o acc)) w2 := by
        have e : (L (s.extract n (n + o))) = ((L s).drop n).take o := by rw [L_extract]; congr 1; omega
        rw [got, byteCells_append, ← e, ← strCells_eq]
        exact hbld
      have Hbld := Lib.hid hbld2
      have hbig : w.heap.size + 1 < w2.heap.size := Nat.lt_of_lt_of_le hst.out.big hbel.size
      have Htok := Lib.hid (show w2.heap[w.heap.size]? = some tokObj from (hbel.block w.heap.size (by omega)).trans hst.out.tok)
      have Hb2 := Lib.hid (show Below w.heap.size w w2 from hst.out.bel.trans (hbel.mono (by omega)))
      clear hbld hbld2 hbel
      by_cases hk : n + (o + 1) < s.size
      · have hne : ((n : Int) + ((o : Int) + 1) == (s.size : Int)) = false := by rw [beq_eq_false_iff_ne]; omega
        by_cases hq : s[n + (o + 1)] = 39
        · have hq' : ((s[n + (o + 1)].toNat : Int) != 39) = false := by rw [hq]; rfl
          have Hat := Lib.hid (hst.out.more Ho.out hk hq)
          have Hgl2 := Lib.hid (show (Lib.byteCells (got s n o acc)).length + 1 ≤ 140737488355328 by
            have h2 := Hs2.out
            have h3 := got_length (o := o) hst.out
            rw [byteCells_length]; omega)
          have Hlen := Lib.hid (show (got s n o acc ++ [39]).length ≤ n + o + 2 by
            have h3 := got_length (o := o) hst.out
            simp only [List.length_append, List.length_cons, List.length_nil]; omega)
          clear hq
          go_wp2_with fail
          refine (writeByte_calls _ _ _ _ _ Hbld.out Hgl2.out (Nat.le_of_lt hbig)).mono ?_
          rintro e w3 ⟨rfl, hbld3, hbel3⟩
          have hst3 : TextSt s w w3 (n + o + 2) (got s n o acc ++ [39]) :=
            ⟨by omega, by omega, Hat.out, Hlen.out, by rw [byteCells_append]; exact hbld3, (hbel3.block w.heap.size (by omega)).trans Htok.out, Hb2.out.trans (hbel3.mono (by omega)), Nat.lt_of_lt_of_le hbig hbel3.size⟩
          have Hst3 := Lib.hid hst3
          clear hst3 hbld3 hbel3
          go_wp2_with fail
          go_roundw
          case rel => exact ⟨n + o + 2, _, by first | rfl | go_num | (congr 1; omega), Hst3.out⟩
          case measure => simp [intOf]; omega
        · have hq' : ((s[n + (o + 1)].toNat : Int) != 39) = true := by
            rw [bne_iff_ne]; intro h; exact hq (by rw [← UInt8.toNat_inj]; show s[n + (o + 1)].toNat = 39; omega)
          have hres := hst.out.ends Ho.out (fun _ => hq)
          clear hq
          by_cases hlong : 1024 < (got s n o acc).length
          · rw [if_pos hlong] at hres
            have Hres := Lib.hid hres
            clear hres
            go_wp2_with fail
            refine (Tryz.Builder_String_any_k _ _ _ _ Hbld.out (Nat.le_of_lt hbig)).mono ?_
            rintro e w3 ⟨rfl, -, hbel3, -⟩
            have htok3 : w3.heap[w.heap.size]? = some tokObj := (hbel3.block w.heap.size (by omega)).trans Htok.out
            have Hb3 := Lib.hid (show Below w.heap.size w w3 from Hb2.out.trans (hbel3.mono (by omega)))
            have hbig3 : w.heap.size + 1 < w3.heap.size := Nat.lt_of_lt_of_le hbig hbel3.size
            have hlt3 : w.heap.size < w3.heap.size := by omega
            obtain ⟨⟨c0, c1, c2, c3⟩, f0, f1, f2, f3⟩ := four htok3
            have Htok3 := Lib.hid htok3
            clear hbel3 htok3
            go_wp2_with fail
            rw [Hres.out]
            exact bodyPost_ret (v := (Rd.err 4).val) (by simp [results, Tryz.results95, go_sem, Rd.val, tok0, Tok.val, c0, c1, c2, c3, hlt3]) rfl ⟨rfl, (below_set4 Hb3.out _ _ _ _ _ _ _ _).alloc (by simp; omega) _⟩
          · rw [if_neg hlong] at hres
            cases hv : Lib.validD (got s n o acc)
            · rw [hv, if_neg (by simp)] at hres
              have Hres := Lib.hid hres
              clear hres
              go_wp2_with fail
              refine (Tryz.Builder_String_any_k _ _ _ _ Hbld.out (Nat.le_of_lt hbig)).mono ?_
              rintro e w3 ⟨rfl, -, hbel3, -⟩
              have htok3 : w3.heap[w.heap.size]? = some tokObj := (hbel3.block w.heap.size (by omega)).trans Htok.out
              have Hb3 := Lib.hid (show Below w.heap.size w w3 from Hb2.out.trans (hbel3.mono (by omega)))
              have hbig3 : w.heap.size + 1 < w3.heap.size := Nat.lt_of_lt_of_le hbig hbel3.size
              have hlt3 : w.heap.size < w3.heap.size := by omega
              obtain ⟨⟨c0, c1, c2, c3⟩, f0, f1, f2, f3⟩ := four htok3
              have Htok3 := Lib.hid htok3
              clear hbel3 htok3
              go_wp2_with fail
              have Hgs := Lib.hid (show (⟨(got s n o acc).toArray⟩ : ByteArray).size ≤ 9223372036854775807 by rw [size_mk]; omega)
              have He3 := Lib.hid (show Env (w3.alloc (.cells #[.int .u8 4, .string ⟨(got s n o acc).toArray⟩, .int .i64 0, .int .i64 0] 41)) from (He.out.below Hb3.out).alloc _)
              refine (valid_calls _ _ (Hgs.out) (He3.out)).mono ?_
              rintro e w4 ⟨rfl, hb4⟩
              have htok4 : w4.heap[w.heap.size]? = some tokObj := (hb4.block w.heap.size (by simp; omega)).trans ((Below.heap_alloc _ _ _ (by omega)).trans Htok3.out)
              have hnew4 := new_block _ _ hb4
              have Hb4 := Lib.hid (show Below w.heap.size w w4 from (Hb3.out.alloc (by omega) _).trans (hb4.mono (by simp; omega)))
              have hlt4 : w3.heap.size < w4.heap.size := by have := hb4.size; simp at this; omega
              clear hb4 c0 c1 c2 c3 f0 f1 f2 f3
              obtain ⟨⟨c0, c1, c2, c3⟩, f0, f1, f2, f3⟩ := four htok4
              obtain ⟨⟨d0, d1, d2, d3⟩, -⟩ := four hnew4
              clear htok4 hnew4
              go_wp2_with fail
              rw [Hres.out]
              exact bodyPost_ret (v := (Rd.err 9).val) (by simp [results, Tryz.results95, go_sem, Rd.val, tok0, Tok.val, c0, c1, c2, c3]) rfl ⟨rfl, below_set4 Hb4.out _ _ _ _ _ _ _ _⟩
            · rw [hv, if_pos rfl] at hres
              have Hres := Lib.hid hres
              clear hres
              go_wp2_with fail
              refine (Tryz.Builder_String_any_k _ _ _ _ Hbld.out (Nat.le_of_lt hbig)).mono ?_
              rintro e w3 ⟨rfl, -, hbel3, -⟩
              have htok3 : w3.heap[w.heap.size]? = some tokObj := (hbel3.block w.heap.size (by omega)).trans Htok.out
              have Hb3 := Lib.hid (show Below w.heap.size w w3 from Hb2.out.trans (hbel3.mono (by omega)))
              have hbig3 : w.heap.size + 1 < w3.heap.size := Nat.lt_of_lt_of_le hbig hbel3.size
              have hlt3 : w.heap.size < w3.heap.size := by omega
              obtain ⟨⟨c0, c1, c2, c3⟩, f0, f1, f2, f3⟩ := four htok3
              have Htok3 := Lib.hid htok3
              clear hbel3 htok3
              go_wp2_with fail
              have Hgs := Lib.hid (show (⟨(got s n o acc).toArray⟩ : ByteArray).size ≤ 9223372036854775807 by rw [size_mk]; omega)
              have He3 := Lib.hid (show Env (w3.alloc (.cells #[.int .u8 4, .string ⟨(got s n o acc).toArray⟩, .int .i64 0, .int .i64 0] 41)) from (He.out.below Hb3.out).alloc _)
              refine (valid_calls _ _ (Hgs.out) (He3.out)).mono ?_
              rintro e w4 ⟨rfl, hb4⟩
              have htok4 : w4.heap[w.heap.size]? = some tokObj := (hb4.block w.heap.size (by simp; omega)).trans ((Below.heap_alloc _ _ _ (by omega)).trans Htok3.out)
              have hnew4 := new_block _ _ hb4
              have Hb4 := Lib.hid (show Below w.heap.size w w4 from (Hb3.out.alloc (by omega) _).trans (hb4.mono (by simp; omega)))
              have hlt4 : w3.heap.size < w4.heap.size := by have := hb4.size; simp at this; omega
              clear hb4 c0 c1 c2 c3 f0 f1 f2 f3
              obtain ⟨⟨c0, c1, c2, c3⟩, f0, f1, f2, f3⟩ := four htok4
              obtain ⟨⟨d0, d1, d2, d3⟩, -⟩ := four hnew4
              clear htok4 hnew4
              go_wp2_with fail
              rw [Hres.out]
              exact bodyPost_ret (v := (Rd.ok ⟨4, got s n o acc, 0, 0⟩ (n + o + 1)).val) (by simp [results, Tryz.results95, go_sem, Rd.val, Tok.val, c0, c1, c2, c3]; omega) rfl ⟨rfl, below_set4 Hb4.out _ _ _ _ _ _ _ _⟩
      · have hne : ((n : Int) + ((o : Int) + 1) == (s.size : Int)) = true := by rw [beq_iff_eq]; omega
        have hres := hst.out.ends Ho.out (fun h => absurd h hk)
        by_cases hlong : 1024 < (got s n o acc).length
        · rw [if_pos hlong] at hres
          have Hres := Lib.hid hres
          clear hres
          go_wp2_with fail
          refine (Tryz.Builder_String_any_k _ _ _ _ Hbld.out (Nat.le_of_lt hbig)).mono ?_
          rintro e w3 ⟨rfl, -, hbel3, -⟩
          have htok3 : w3.heap[w.heap.size]? = some tokObj := (hbel3.block w.heap.size (by omega)).trans Htok.out
          have Hb3 := Lib.hid (show Below w.heap.size w w3 from Hb2.out.trans (hbel3.mono (by omega)))
          have hbig3 : w.heap.size + 1 < w3.heap.size := Nat.lt_of_lt_of_le hbig hbel3.size
          have hlt3 : w.heap.size < w3.heap.size := by omega
          obtain ⟨⟨c0, c1, c2, c3⟩, f0, f1, f2, f3⟩ := four htok3
          have Htok3 := Lib.hid htok3
          clear hbel3 htok3
          go_wp2_with fail
          rw [Hres.out]
          exact bodyPost_ret (v := (Rd.err 4).val) (by simp [results, Tryz.results95, go_sem, Rd.val, tok0, Tok.val, c0, c1, c2, c3, hlt3]) rfl ⟨rfl, (below_set4 Hb3.out _ _ _ _ _ _ _ _).alloc (by simp; omega) _⟩
        · rw [if_neg hlong] at hres
          cases hv : Lib.validD (got s n o acc)
          · rw [hv, if_neg (by simp)] at hres
            have Hres := Lib.hid hres
            clear hres
            go_wp2_with fail
            refine (Tryz.Builder_String_any_k _ _ _ _ Hbld.out (Nat.le_of_lt hbig)).mono ?_
            rintro e w3 ⟨rfl, -, hbel3, -⟩
            have htok3 : w3.heap[w.heap.size]? = some tokObj := (hbel3.block w.heap.size (by omega)).trans Htok.out
            have Hb3 := Lib.hid (show Below w.heap.size w w3 from Hb2.out.trans (hbel3.mono (by omega)))
            have hbig3 : w.heap.size + 1 < w3.heap.size := Nat.lt_of_lt_of_le hbig hbel3.size
            have hlt3 : w.heap.size < w3.heap.size := by omega
            obtain ⟨⟨c0, c1, c2, c3⟩, f0, f1, f2, f3⟩ := four htok3
            have Htok3 := Lib.hid htok3
            clear hbel3 htok3
            go_wp2_with fail
            have Hgs := Lib.hid (show (⟨(got s n o acc).toArray⟩ : ByteArray).size ≤ 9223372036854775807 by rw [size_mk]; omega)
            have He3 := Lib.hid (show Env (w3.alloc (.cells #[.int .u8 4, .string ⟨(got s n o acc).toArray⟩, .int .i64 0, .int .i64 0] 41)) from (He.out.below Hb3.out).alloc _)
            refine (valid_calls _ _ (Hgs.out) (He3.out)).mono ?_
            rintro e w4 ⟨rfl, hb4⟩
            have htok4 : w4.heap[w.heap.size]? = some tokObj := (hb4.block w.heap.size (by simp; omega)).trans ((Below.heap_alloc _ _ _ (by omega)).trans Htok3.out)
            have hnew4 := new_block _ _ hb4
            have Hb4 := Lib.hid (show Below w.heap.size w w4 from (Hb3.out.alloc (by omega) _).trans (hb4.mono (by simp; omega)))
            have hlt4 : w3.heap.size < w4.heap.size := by have := hb4.size; simp at this; omega
            clear hb4 c0 c1 c2 c3 f0 f1 f2 f3
            obtain ⟨⟨c0, c1, c2, c3⟩, f0, f1, f2, f3⟩ := four htok4
            obtain ⟨⟨d0, d1, d2, d3⟩, -⟩ := four hnew4
            clear htok4 hnew4
            go_wp2_with fail
            rw [Hres.out]
            exact bodyPost_ret (v := (Rd.err 9).val) (by simp [results, Tryz.results95, go_sem, Rd.val, tok0, Tok.val, c0, c1, c2, c3]) rfl ⟨rfl, below_set4 Hb4.out _ _ _ _ _ _ _ _⟩
          · rw [hv, if_pos rfl] at hres
            have Hres := Lib.hid hres
            clear hres
            go_wp2_with fail
            refine (Tryz.Builder_String_any_k _ _ _ _ Hbld.out (Nat.le_of_lt hbig)).mono ?_
            rintro e w3 ⟨rfl, -, hbel3, -⟩
            have htok3 : w3.heap[w.heap.size]? = some tokObj := (hbel3.block w.heap.size (by omega)).trans Htok.out
            have Hb3 := Lib.hid (show Below w.heap.size w w3 from Hb2.out.trans (hbel3.mono (by omega)))
            have hbig3 : w.heap.size + 1 < w3.heap.size := Nat.lt_of_lt_of_le hbig hbel3.size
            have hlt3 : w.heap.size < w3.heap.size := by omega
            obtain ⟨⟨c0, c1, c2, c3⟩, f0, f1, f2, f3⟩ := four htok3
            have Htok3 := Lib.hid htok3
            clear hbel3 htok3
            go_wp2_with fail
            have Hgs := Lib.hid (show (⟨(got s n o acc).toArray⟩ : ByteArray).size ≤ 9223372036854775807 by rw [size_mk]; omega)
            have He3 := Lib.hid (show Env (w3.alloc (.cells #[.int .u8 4, .string ⟨(got s n o acc).toArray⟩, .int .i64 0, .int .i64 0] 41)) from (He.out.below Hb3.out).alloc _)
            refine (valid_calls _ _ (Hgs.out) (He3.out)).mono ?_
            rintro e w4 ⟨rfl, hb4⟩
            have htok4 : w4.heap[w.heap.size]? = some tokObj := (hb4.block w.heap.size (by simp; omega)).trans ((Below.heap_alloc _ _ _ (by omega)).trans Htok3.out)
            have hnew4 := new_block _ _ hb4
            have Hb4 := Lib.hid (show Below w.heap.size w w4 from (Hb3.out.alloc (by omega) _).trans (hb4.mono (by simp; omega)))
            have hlt4 : w3.heap.size < w4.heap.size := by have := hb4.size; simp at this; omega
            clear hb4 c0 c1 c2 c3 f0 f1 f2 f3
            obtain ⟨⟨c0, c1, c2, c3⟩, f0, f1, f2, f3⟩ := four htok4
            obtain ⟨⟨d0, d1, d2, d3⟩, -⟩ := four hnew4
            clear htok4 hnew4
            go_wp2_with fail
            rw [Hres.out]
            exact bodyPost_ret (v := (Rd.ok ⟨4, got s n o acc, 0, 0⟩ (n + o + 1)).val) (by simp [results, Tryz.results95, go_sem, Rd.val, Tok.val, c0, c1, c2, c3]; omega) rfl ⟨rfl, below_set4 Hb4.out _ _ _ _ _ _ _ _⟩

end Go.Proofs.YtcjmhmmjfgjcnaaGreatDoor.Lx
