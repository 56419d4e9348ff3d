/- Parts: RaC LxL. -/
import Derived.Test.YtcjmhmmjfgjcnaaGreatDoorMc10
import Derived.Deep.DeepMust
import Derived.Shelf.Strings.Builder1
import Derived.Shelf.Strings.BuilderF
import Derived.Shelf.Strings.BuilderK
import Derived.Test.YtcjmhmmjfgjcnaaGreatDoorProg

/- codicilref09: kinds of bytes, great letters, keywords. -/
namespace Go.Proofs.YtcjmhmmjfgjcnaaGreatDoor.Rf
open Go.RowKit Go.Proofs.YtcjmhmmjfgjcnaaGreatDoor.Lx

theorem letterR_calls (c : UInt8) (w : World) : Calls Tryz.prog 190 #[.int .u8 c.toNat] w fun e w' => e = .returned (.bool (letterB c)) ∧ w = w' := by
  have H := Lib.hid (show ∀ b : Bool, (decide (97 ≤ (c.toNat : Int)) && decide ((c.toNat : Int) ≤ 122) || decide (65 ≤ (c.toNat : Int)) && decide ((c.toNat : Int) ≤ 90) || (c.toNat : Int) == 95) = b → letterB c = b by
    intro b; revert b; revert c; refine all_u8 ?_; decide +kernel)
  go_enter Tryz.func190, Tryz.ntmps190
  go_wp2
  all_goals go_ret
  all_goals refine ⟨ret_bool ?_, rfl⟩
  all_goals (symm; apply H.out; rw [Bool.eq_iff_iff]; simp only [Bool.or_eq_true, Bool.and_eq_true, decide_eq_true_eq, beq_iff_eq, iff_true]; omega)
theorem digitR_calls (c : UInt8) (w : World) : Calls Tryz.prog 191 #[.int .u8 c.toNat] w fun e w' => e = .returned (.bool (digitB c)) ∧ w = w' := by
  have H := Lib.hid (show ∀ b : Bool, (decide (48 ≤ (c.toNat : Int)) && decide ((c.toNat : Int) ≤ 57)) = b → digitB c = b by
    intro b; revert b; revert c; refine all_u8 ?_; decide +kernel)
  go_enter Tryz.func191, Tryz.ntmps191
  go_wp2
  all_goals go_ret
  all_goals refine ⟨ret_bool ?_, rfl⟩
  all_goals (symm; apply H.out; rw [Bool.eq_iff_iff]; simp only [Bool.and_eq_true, decide_eq_true_eq, Bool.false_eq_true, iff_false]; omega)
theorem blankR_calls (c : UInt8) (w : World) : Calls Tryz.prog 169 #[.int .u8 c.toNat] w fun e w' => e = .returned (.bool (blankB c)) ∧ w = w' := by
  have H := Lib.hid (show ∀ b : Bool, ((c.toNat : Int) == 32 || (c.toNat : Int) == 9 || (c.toNat : Int) == 10 || (c.toNat : Int) == 13) = b → blankB c = b by
    intro b; revert b; revert c; refine all_u8 ?_; decide +kernel)
  go_enter Tryz.func169, Tryz.ntmps169
  go_wp2
  all_goals go_ret
  all_goals refine ⟨ret_bool ?_, rfl⟩
  all_goals (symm; apply H.out; simp [*])

theorem upR_yes (c : UInt8) (h1 : 97 ≤ (c.toNat : Int)) (h2 : (c.toNat : Int) ≤ 122) : ((upB c).toNat : Int) = (c.toNat : Int) - 32 := by
  revert h1 h2; revert c; refine all_u8 ?_; decide +kernel

set_option maxRecDepth 100000 in
theorem greatR_calls (s : ByteArray) (w : World) (hs : s.size ≤ maxLen) :
    Calls Tryz.prog 204 #[.string s] w fun e w' => e = .returned (.string ⟨(great (L s)).toArray⟩) ∧ Below w.heap.size w w' := by
  unfold maxLen at hs
  obtain ⟨cap, w1, hcap, hconv, hb0, hsz0, hrow0⟩ := conv_bytes Tryz.prog 9 104 5 Tryz.underlying9 Tryz.underlying104 Tryz.underlying5 s w
  have hb1 := Lib.hid hb0
  have hrow := Lib.hid hrow0
  have hsz := Lib.hid hsz0
  clear hb0 hrow0 hsz0
  go_enter Tryz.func204, Tryz.ntmps204
  go_wp2
  go_loopw [9] (fun i wr => ∃ k : Nat, k ≤ s.size ∧ i = .int .i64 k ∧ Hid (Below w.heap.size w wr ∧ w.heap.size < wr.heap.size) ∧ Hid (BytesAt wr w.heap.size (greatTo (L s) k))) (fun i _ => s.size - (intOf i).toNat)
  case atStart => exact ⟨0, Nat.zero_le _, rfl, ⟨hb1.out, by rw [hsz.out]; omega⟩, by rw [greatTo_zero]; exact hrow.out⟩
  case round =>
    obtain ⟨k, hk, rfl, hb, hr⟩ := hrel
    by_cases hlt : k < s.size
    · have hlt' : k < (L s).length := by rw [L_length]; exact hlt
      have hck := (hr.out k (by rw [greatTo_length]; exact hlt')).1
      have hcz := (hr.out k (by rw [greatTo_length]; exact hlt')).2
      rw [greatTo_get _ hlt'] at hck
      generalize hc : (L s)[k] = c at hck
      have Hc := Lib.hid hc
      clear hc
      have hb' := hb.out.1
      have hz' := hb.out.2
      have hup := fun h1 h2 => (show BytesAt (wr.setCell ⟨w.heap.size, k, none⟩ (.int .u8 ((c.toNat : Int) - 32))) w.heap.size (greatTo (L s) (k + 1)) by
        rw [greatTo_succ _ hlt', Hc.out, ← upR_yes c h1 h2]
        exact hr.out.set k (upB c) (by rw [greatTo_length]; exact hlt'))
      have hno := fun h => (show BytesAt wr w.heap.size (greatTo (L s) (k + 1)) by
        rw [greatTo_same _ hlt' (by rw [Hc.out]; exact upB_no c h)]
        exact hr.out)
      have Hup := Lib.hid hup
      have Hno := Lib.hid hno
      clear hup hno
      have Hb := Lib.hid hb'
      clear hb'
      go_wp2
      · rename_i h1 h2
        go_roundw
        case rel => exact ⟨k + 1, by omega, by go_num, ⟨Hb.out.setCell (Nat.le_refl _) _, by simpa using hz'⟩, Hup.out h1 h2⟩
        case measure => simp [intOf]; omega
      · rename_i h1 h2
        go_roundw
        case rel => exact ⟨k + 1, by omega, by go_num, ⟨Hb.out, hz'⟩, Hno.out (by omega)⟩
        case measure => simp [intOf]; omega
      · rename_i h1
        go_roundw
        case rel => exact ⟨k + 1, by omega, by go_num, ⟨Hb.out, hz'⟩, Hno.out (by omega)⟩
        case measure => simp [intOf]; omega
    · have hback := conv_string Tryz.prog 104 9 5 Tryz.underlying104 Tryz.underlying9 Tryz.underlying5 wr w.heap.size s.size cap (greatTo (L s) k) (by rw [greatTo_length, L_length]) hr.out
      go_wp2
      go_ret
      exact ⟨ret_str (by rw [greatTo_all]; rw [L_length]; omega), hb.out.1⟩

theorem kws_some {x : List UInt8} {k : Nat} (hk : k < 26) (h : kwAt k = x) : x ∈ kws := by
  have hm : k < kws.length := by rw [kws_length]; exact hk
  rw [← h]
  simp only [kwAt, List.getD_eq_getElem?_getD, List.getElem?_eq_getElem hm, Option.getD_some]
  exact List.getElem_mem hm
theorem kws_none {x : List UInt8} (h : ∀ k, k < 26 → kwAt k ≠ x) : x ∉ kws := by
  intro hx
  obtain ⟨m, hm, e⟩ := List.getElem_of_mem hx
  refine h m (by rw [← kws_length]; exact hm) ?_
  rw [← e]
  simp [kwAt, List.getD_eq_getElem?_getD, List.getElem?_eq_getElem hm]

abbrev kwsObj : Obj := .cells #[.string ⟨#[65, 76, 76]⟩, .string ⟨#[65, 78, 68]⟩, .string ⟨#[65, 83]⟩, .string ⟨#[66, 89]⟩, .string ⟨#[67, 82, 69, 65, 84, 69]⟩, .string ⟨#[68, 69, 76, 69, 84, 69]⟩, .string ⟨#[68, 69, 83, 67]⟩, .string ⟨#[70, 65, 76, 83, 69]⟩, .string ⟨#[70, 82, 79, 77]⟩, .string ⟨#[72, 73, 83, 84, 79, 82, 89]⟩, .string ⟨#[73, 78]⟩, .string ⟨#[73, 78, 68, 69, 88]⟩, .string ⟨#[73, 78, 83, 69, 82, 84]⟩, .string ⟨#[73, 78, 84, 79]⟩, .string ⟨#[73, 83]⟩, .string ⟨#[78, 79, 84]⟩, .string ⟨#[78, 85, 76, 76]⟩, .string ⟨#[79, 78]⟩, .string ⟨#[79, 82]⟩, .string ⟨#[79, 82, 68, 69, 82]⟩, .string ⟨#[83, 69, 76, 69, 67, 84]⟩, .string ⟨#[83, 69, 84]⟩, .string ⟨#[84, 65, 66, 76, 69]⟩, .string ⟨#[84, 82, 85, 69]⟩, .string ⟨#[85, 80, 68, 65, 84, 69]⟩, .string ⟨#[87, 72, 69, 82, 69]⟩] 9
theorem kws_at (w : World) : KwsAt (w.alloc kwsObj) w.heap.size := by
  intro j hj
  rw [World.cell?_alloc_new]
  match j, hj with
  | 0, _ => rfl
  | 1, _ => rfl
  | 2, _ => rfl
  | 3, _ => rfl
  | 4, _ => rfl
  | 5, _ => rfl
  | 6, _ => rfl
  | 7, _ => rfl
  | 8, _ => rfl
  | 9, _ => rfl
  | 10, _ => rfl
  | 11, _ => rfl
  | 12, _ => rfl
  | 13, _ => rfl
  | 14, _ => rfl
  | 15, _ => rfl
  | 16, _ => rfl
  | 17, _ => rfl
  | 18, _ => rfl
  | 19, _ => rfl
  | 20, _ => rfl
  | 21, _ => rfl
  | 22, _ => rfl
  | 23, _ => rfl
  | 24, _ => rfl
  | 25, _ => rfl
  | n + 26, h => exact absurd h (by omega)
set_option maxHeartbeats 1000000 in
set_option maxRecDepth 100000 in
theorem KeywordR_calls (s : ByteArray) (w : World) (hs : s.size ≤ maxLen) :
    Calls Tryz.prog 203 #[.string s] w fun e w' => e = .returned (.bool (keywordB (L s))) ∧ Below w.heap.size w w' := by
  go_enter Tryz.func203, Tryz.ntmps203
  go_wp2_with fail
  have hW : KwsAt (w.alloc kwsObj) w.heap.size := kws_at w
  have hb : Below w.heap.size w (w.alloc kwsObj) := (Below.refl _ _).alloc (Nat.le_refl _) _
  have hz : w.heap.size < (w.alloc kwsObj).heap.size := by simp
  generalize w.alloc kwsObj = W at hW hb hz ⊢
  have HK := Lib.hid hW
  have Hb := Lib.hid hb
  clear hW hb
  go_loopw [7] (fun i wr => ∃ k : Nat, k ≤ 26 ∧ i = .int .i64 k ∧ Hid (Below W.heap.size W wr) ∧ Hid (∀ j, j < k → kwAt j ≠ great (L s))) (fun i _ => 26 - (intOf i).toNat)
  case atStart => exact ⟨0, Nat.zero_le _, rfl, Below.refl _ _, fun j h => absurd h (Nat.not_lt_zero _)⟩
  case round =>
    obtain ⟨k, hk, rfl, hbr, hno⟩ := hrel
    have Hbr := Lib.hid hbr.out
    clear hbr
    by_cases hlt : k < 26
    · have hc := (HK.out.below Hbr.out hz) k hlt
      generalize hg : kwAt k = g at hc
      have Hg := Lib.hid hg
      clear hg
      have Hgr := Lib.hid (fun w2 => greatR_calls s w2 hs)
      by_cases he : g = great (L s)
      · subst he
        go_wp2_with fail
        refine (Hgr.out _).mono ?_
        rintro e w2 ⟨rfl, hb2⟩
        have Hb2 := Lib.hid hb2
        clear hb2
        go_wp2_with fail
        go_ret
        exact ⟨ret_bool (by unfold keywordB; rw [decide_eq_true (kws_some hlt Hg.out)]), Hb.out.trans ((Hbr.out.trans (Hb2.out.mono Hbr.out.size)).mono (by omega))⟩
      · have hne : (g == great (L s)) = false := beq_eq_false_iff_ne.2 he
        go_wp2_with fail
        refine (Hgr.out _).mono ?_
        rintro e w2 ⟨rfl, hb2⟩
        have Hb2 := Lib.hid hb2
        clear hb2
        go_wp2_with fail
        go_roundw
        case rel => exact ⟨k + 1, by omega, by go_num, Hbr.out.trans (Hb2.out.mono Hbr.out.size), fun j hj => by
          by_cases h : j = k
          · subst h; rw [Hg.out]; exact he
          · exact hno.out j (by omega)⟩
        case measure => simp [intOf]; omega
    · go_wp2_with fail
      go_ret
      exact ⟨ret_bool (by unfold keywordB; rw [decide_eq_false (kws_none fun j hj => hno.out j (by omega))]), Hb.out.trans (Hbr.out.mono (by omega))⟩

end Go.Proofs.YtcjmhmmjfgjcnaaGreatDoor.Rf

/- Laid by hand after the shelf's plain form: a Builder's WriteString and WriteByte (the shelf's own command leaves these out where a type is named by no body). -/
namespace Go.Proofs.YtcjmhmmjfgjcnaaGreatDoor.Lx
open Go.Shelf Go.Proofs

def bRen : Go.Shelf.Ren := ⟨fun | 166 => 101 | 167 => 77 | 240 => 122 | 276 => 146 | n => n, fun | 0 => 0 | 3 => 3 | 4 => 4 | 5 => 5 | 9 => 9 | 20 => 20 | 37 => 104 | 70 => 123 | 72 => 125 | 75 => 127 | 80 => 130 | 164 => 195 | n => n, fun | n => n⟩

theorem lays166 : Go.Proofs.Lays.n166 Tryz.prog bRen := {
  mixed := by kernel_rfl
  f166 := Tryz.func101.trans (congrArg some (by kernel_rfl))
  f240 := Tryz.func122.trans (congrArg some (by kernel_rfl))
  f276 := Tryz.func146.trans (congrArg some (by kernel_rfl))
  t0 := Tryz.underlying0
  a0 := Tryz.isAgg0
  z0 := Tryz.sizeOf0
  v0 := Tryz.zeroValue0
  t3 := Tryz.underlying3
  a3 := Tryz.isAgg3
  z3 := Tryz.sizeOf3
  v3 := Tryz.zeroValue3
  t4 := Tryz.underlying4
  a4 := Tryz.isAgg4
  z4 := Tryz.sizeOf4
  v4 := Tryz.zeroValue4
  t9 := Tryz.underlying9
  a9 := Tryz.isAgg9
  z9 := Tryz.sizeOf9
  v9 := Tryz.zeroValue9
  t20 := Tryz.underlying20
  a20 := Tryz.isAgg20
  z20 := Tryz.sizeOf20
  v20 := Tryz.zeroValue20
  t37 := Tryz.underlying104
  a37 := Tryz.isAgg104
  z37 := Tryz.sizeOf104
  v37 := Tryz.zeroValue104
  t70 := Tryz.underlying123
  a70 := Tryz.isAgg123
  z70 := Tryz.sizeOf123
  v70 := Tryz.zeroValue123
  t72 := Tryz.underlying125
  a72 := Tryz.isAgg125
  z72 := Tryz.sizeOf125
  v72 := Tryz.zeroValue125
  t75 := Tryz.underlying127
  a75 := Tryz.isAgg127
  z75 := Tryz.sizeOf127
  v75 := Tryz.zeroValue127
  t164 := Tryz.underlying195
  a164 := Tryz.isAgg195
  z164 := Tryz.sizeOf195
  v164 := Tryz.zeroValue195 }

theorem lays167 : Go.Proofs.Lays.n167 Tryz.prog bRen := {
  mixed := by kernel_rfl
  f167 := Tryz.func77.trans (congrArg some (by kernel_rfl))
  f240 := Tryz.func122.trans (congrArg some (by kernel_rfl))
  f276 := Tryz.func146.trans (congrArg some (by kernel_rfl))
  t0 := Tryz.underlying0
  a0 := Tryz.isAgg0
  z0 := Tryz.sizeOf0
  v0 := Tryz.zeroValue0
  t4 := Tryz.underlying4
  a4 := Tryz.isAgg4
  z4 := Tryz.sizeOf4
  v4 := Tryz.zeroValue4
  t5 := Tryz.underlying5
  a5 := Tryz.isAgg5
  z5 := Tryz.sizeOf5
  v5 := Tryz.zeroValue5
  t9 := Tryz.underlying9
  a9 := Tryz.isAgg9
  z9 := Tryz.sizeOf9
  v9 := Tryz.zeroValue9
  t20 := Tryz.underlying20
  a20 := Tryz.isAgg20
  z20 := Tryz.sizeOf20
  v20 := Tryz.zeroValue20
  t37 := Tryz.underlying104
  a37 := Tryz.isAgg104
  z37 := Tryz.sizeOf104
  v37 := Tryz.zeroValue104
  t70 := Tryz.underlying123
  a70 := Tryz.isAgg123
  z70 := Tryz.sizeOf123
  v70 := Tryz.zeroValue123
  t72 := Tryz.underlying125
  a72 := Tryz.isAgg125
  z72 := Tryz.sizeOf125
  v72 := Tryz.zeroValue125
  t75 := Tryz.underlying127
  a75 := Tryz.isAgg127
  z75 := Tryz.sizeOf127
  v75 := Tryz.zeroValue127
  t164 := Tryz.underlying195
  a164 := Tryz.isAgg195
  z164 := Tryz.sizeOf195
  v164 := Tryz.zeroValue195 }

theorem bExtra : Builder.Extra Tryz.prog bRen := {
  sizeBuilder := by kernel_rfl
  liesBuilder := by kernel_rfl
  t5 := Tryz.underlying5
  a5 := Tryz.isAgg5
  z5 := Tryz.sizeOf5
  v5 := Tryz.zeroValue5
  infoByte := by kernel_rfl
  cellsByte := by kernel_rfl
  sizeByte := by kernel_rfl
  neB5 := by decide }
open Go.RowKit
theorem writeString_calls (B b : Nat) (bs : List Value) (s : ByteArray) (w : World) (h : Lib.IsBuilderF 125 5 B b bs w) (hl : bs.length + s.size ≤ 140737488355328) (hB : B ≤ w.heap.size) :
    Calls Tryz.prog 101 #[.pointer (some ⟨b, 0, none⟩), .string s] w fun e w' => e = .returned (.tuple #[.int .i64 s.size, .nilIface]) ∧ Lib.IsBuilderF 125 5 B b (bs ++ Lib.strCells s) w' ∧ Below B w w' :=
  (Any.Builder_WriteString_k lays166 bExtra B b bs s w h hl hB).mono fun _ _ h => ⟨h.1, .inr h.2.1, h.2.2.1⟩
theorem writeByte_calls (B b : Nat) (bs : List Value) (c : Int) (w : World) (h : Lib.IsBuilderF 125 5 B b bs w) (hl : bs.length + 1 ≤ 140737488355328) (hB : B ≤ w.heap.size) :
    Calls Tryz.prog 77 #[.pointer (some ⟨b, 0, none⟩), .int .u8 c] w fun e w' => e = .returned .nilIface ∧ Lib.IsBuilderF 125 5 B b (bs ++ [.int .u8 c]) w' ∧ Below B w w' :=
  (Any.Builder_WriteByte_k lays167 bExtra B b bs c w h hl hB).mono fun _ _ h => ⟨h.1, .inr h.2.1, h.2.2.1⟩
end Go.Proofs.YtcjmhmmjfgjcnaaGreatDoor.Lx
