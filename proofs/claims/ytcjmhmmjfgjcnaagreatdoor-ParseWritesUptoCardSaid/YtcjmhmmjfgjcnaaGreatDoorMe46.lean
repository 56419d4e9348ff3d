/- Parts: RdN. -/
import Derived.Test.YtcjmhmmjfgjcnaaGreatDoorMe41
import Derived.Test.YtcjmhmmjfgjcnaaGreatDoorMe45
import Derived.Deep.RegionHeld3
import Derived.RegionTactic

/- codicilref10: Print. -/
namespace Go.Proofs.YtcjmhmmjfgjcnaaGreatDoor.Rf
open Go.RowKit Go.Proofs.YtcjmhmmjfgjcnaaGreatDoor.Lx Go.Proofs.YtcjmhmmjfgjcnaaGreatDoor.Pa

/-- the parts of a SELECT's text, one after the other -/
def se1 (l : List Itm) : Txt := kSELECTX ++ (if l.isEmpty then [42] else [])
def se2 (l : List Itm) : Txt := se1 l ++ (asT l ++ kFROMX)
def se3 (l : List Itm) (h : Bool) (tb : Txt) : Txt := se2 l ++ frX h tb
def se4 (st : Stm) (h : Bool) : Txt := se3 st.items h st.table ++ whereT st
def se5 (st : Stm) (h : Bool) : Txt := se4 st h ++ orX st.field
def se6 (st : Stm) (h d : Bool) : Txt := se5 st h ++ (if d then kDESCX else [])
theorem se_all (st : Stm) (h d : Bool) : se6 st h d = kSELECTX ++ whX st.items ++ kFROMX ++ frX h st.table ++ whereT st ++ orY st.field d := by
  have e : (if st.items.isEmpty then [42] else []) ++ asT st.items = whX st.items := by
    unfold whX
    cases hx : st.items with
    | nil => rfl
    | cons a b => rfl
  unfold se6 se5 se4 se3 se2 se1 orY
  rw [← e]
  simp only [List.append_assoc]
theorem catA (s l k : List UInt8) : (⟨s.toArray⟩ ++ (⟨l.toArray⟩ ++ ⟨k.toArray⟩) : ByteArray) = ⟨(s ++ (l ++ k)).toArray⟩ := by rw [cat2, cat2]
theorem catB (s a b c : List UInt8) : (⟨s.toArray⟩ ++ (⟨a.toArray⟩ ++ ⟨b.toArray⟩ ++ ⟨c.toArray⟩) : ByteArray) = ⟨(s ++ (a ++ b ++ c)).toArray⟩ := by rw [cat2, cat2, cat2]

set_option maxHeartbeats 8000000 in
set_option maxRecDepth 100000 in
theorem PrintR_calls (st : Stm) (w : World) (vi ve : Value) (h : PrArgs w st vi ve) :
    Calls Tryz.prog 16 #[st.val vi ve] w fun e w' => e = .returned (printV st) ∧ Below w.heap.size w w' := by
  have hi := h.ck.hi
  have hv := h.ck.hv
  obtain ⟨ai, ni, ci, rfl, hni, hci, hji⟩ := hi
  obtain ⟨ae, ne, ce, rfl, hne, -⟩ := hv
  have He := Lib.hid h.ck.he
  have Hblk := Lib.hid (heap_alloc_new w (.cells (smC st (.slice ai ni ci) (.slice ae ne ce)) 33))
  have Hck := Lib.hid (fun (w2 : World) (hb : Below w.heap.size w w2) => CheckR10_calls st w2 (.slice ai ni ci) (.slice ae ne ce) ⟨h.ck.hi.below hb, h.ck.hv.below hb, h.ck.ht, h.ck.hf, h.ck.hl, h.ck.hy, h.ck.hil, h.ck.his, h.ck.he.below hb⟩)
  have Hsh := Lib.hid (fun (w2 : World) (hb : Below w.heap.size w w2) => ShowR_calls w2 (.slice ae ne ce) st.expr (h.ck.hv.below hb) h.ck.hl h.ck.hy h.hn (h.ck.he.below hb))
  have hel := showE_len h.hn h.ck.hy
  have Hts := Lib.hid h.ck.ht
  have Hfs := Lib.hid h.ck.hf
  unfold Stm.val at Hck ⊢
  cases hc : checkB st with
  | false =>
    have HV := Lib.hid (show printV st = .tuple #[.string ⟨#[]⟩, .int .i64 13] by unfold printV; rw [hc]; rfl)
    have HC := Lib.hid (show checkV st = .int .i64 13 by unfold checkV; rw [hc]; rfl)
    clear hc h hel hji hci
    obtain ⟨⟨k0, k1, k2, k3, k4, k5, k6⟩, -⟩ := seven Hblk.out
    go_enter Tryz.func16, Tryz.ntmps16
    go_wp2_with fail
    refine (Hck.out _ (alloc_below _ _)).mono ?_
    rw [HC.out]
    rintro e w2 ⟨rfl, hb2⟩
    have Hb2 := Lib.hid ((alloc_below w (.cells (smC st (.slice ai ni ci) (.slice ae ne ce)) 33)).trans (hb2.mono (alloc_below w _).size))
    clear hb2
    go_wp2_with fail
    go_ret2
    exact ⟨by rw [HV.out]; rfl, Hb2.out⟩
  | true =>
    have HV := Lib.hid (show printV st = .tuple #[.string ⟨(printT st).toArray⟩, .int .i64 0] by unfold printV; rw [hc]; rfl)
    have HC := Lib.hid (show checkV st = .int .i64 0 by unfold checkV; rw [hc]; rfl)
    have hn64 := check_items hc
    rw [hni] at hn64
    have Hni := Lib.hid hni
    have Hne := Lib.hid hne
    have HL := Lib.hid (fun (b : Bool) (w2 : World) (hb : Below w.heap.size w w2) => ListedR_calls b w2 (.slice ai ni ci) st.items (h.ck.hi.below hb) (check_items hc) h.ck.his h.hin (h.ck.he.below hb))
    have Hll := Lib.hid (fun b => listT_len b st.items st.items.length (check_items hc) h.ck.his h.hin)
    obtain ⟨ec, hec⟩ := showEV_val st.expr
    rw [hec] at Hsh
    have Hel := Lib.hid hel
    clear hc h hel hji hci hni hne hec
    obtain ⟨⟨k0, k1, k2, k3, k4, k5, k6⟩, -⟩ := seven Hblk.out
    go_enter Tryz.func16, Tryz.ntmps16
    go_wp2_with fail
    refine (Hck.out _ (alloc_below _ _)).mono ?_
    rw [HC.out]
    rintro e w2 ⟨rfl, hb2⟩
    have P2 := Lib.hid (show PrR w w2 st (.slice ai ni ci) (.slice ae ne ce) (.slice none 0 0) (.slice none 0 0) [] [] from
      ⟨(alloc_below w (.cells (smC st (.slice ai ni ci) (.slice ae ne ce)) 33)).trans (hb2.mono (alloc_below w _).size), (hb2.block _ (by simp)).trans Hblk.out, OwnStrs.nil _ _, OwnStrs.nil _ _, fun g h => by simp [Value.ownBlock] at h⟩)
    clear hb2 k0 k1 k2 k3 k4 k5 k6
    obtain ⟨⟨k0, k1, k2, k3, k4, k5, k6⟩, -⟩ := seven P2.out.blk
    go_wp2_with fail
    refine (Hsh.out _ P2.out.bel).mono ?_
    rintro e w3 ⟨rfl, hb3⟩
    have P3 := Lib.hid (P2.out.step hb3)
    clear hb3 k0 k1 k2 k3 k4 k5 k6
    obtain ⟨⟨k0, k1, k2, k3, k4, k5, k6⟩, -⟩ := seven P3.out.blk
    have hwl : (whereT st).length ≤ 8858489700 := by
      have := Hel.out
      unfold whereT
      split
      · simp
      · simp only [List.length_append, kWHEREX, List.length_cons, List.length_nil]; omega
    have hL7 : (setT st.items).length ≤ 650000000000 := by
      have h1 := Hll.out true
      rw [List.take_of_length_le (by rw [List.length_map]; exact Nat.le_refl _)] at h1
      exact h1
    have hL8 : (asT st.items).length ≤ 650000000000 := by
      have h1 := Hll.out false
      rw [List.take_of_length_le (by rw [List.length_map]; exact Nat.le_refl _)] at h1
      exact h1
    have HLs := Lib.hid (fun (w2 : World) (hb : Below w3.heap.size w3 w2) => show Calls Tryz.prog 52 #[.slice ai ni ci, .bool true] w2 _ from HL.out true w2 (P3.out.bel.trans (hb.mono P3.out.bel.size)))
    have HLa := Lib.hid (fun (w2 : World) (hb : Below w3.heap.size w3 w2) => show Calls Tryz.prog 52 #[.slice ai ni ci, .bool false] w2 _ from HL.out false w2 (P3.out.bel.trans (hb.mono P3.out.bel.size)))
    rw [listT_set] at HLs
    rw [listT_as] at HLa
    have hts := Hts.out
    have hfs := Hfs.out
    have hel := Hel.out
    go_upto_if 23 with fail
    go_cut [7] (fun s7 wx => s7 = .string ⟨(whereT st).toArray⟩ ∧ Hid (wx = w3))
    case first =>
      by_cases h0 : ne = 0
      · have g0 : ¬ (0 : Int) < (ne : Int) := by omega
        have HW := Lib.hid (show whereT st = [] by
          have : st.expr = [] := List.eq_nil_of_length_eq_zero (by rw [Hne.out]; exact h0)
          unfold whereT; rw [this]; rfl)
        clear h0
        go_wp2_with fail
        go_meet
        exact ⟨by rw [HW.out], rfl⟩
      · have g0 : (0 : Int) < (ne : Int) := by omega
        have HW := Lib.hid (show whereT st = kWHEREX ++ showE st.expr by
          have : st.expr.isEmpty = false := by cases hx : st.expr with
            | nil => exact absurd (by have := Hne.out; rw [hx] at this; exact this.symm) h0
            | cons => rfl
          unfold whereT; rw [this]; rfl)
        have z0 : 7 + (showE st.expr).length ≤ 9223372036854775807 := by omega
        clear h0
        go_wp2_with fail
        go_meet
        exact ⟨by rw [HW.out]; exact congrArg Value.string (cat2 _ _), rfl⟩
    case rest =>
      obtain ⟨rfl, hwx⟩ := hcut
      have hwx := hwx.out.symm
      subst hwx
      by_cases h1 : st.kind = 1
      · have HT := Lib.hid (show printT st = kCREATETABLEX ++ st.table by unfold printT; simp [h1])
        have b1 : ((st.kind : Int) == 1) = true := by rw [beq_iff_eq]; omega
        have z0 : 13 + st.table.length ≤ 9223372036854775807 := by omega
        clear h1
        go_wp2_with fail
        go_ret2
        exact ⟨by rw [HV.out, HT.out]; exact congrArg (fun x => Ending.returned (Value.tuple #[.string x, .int .i64 0])) (cat2 _ _), P3.out.bel⟩
      have b1 : ((st.kind : Int) == 1) = false := by rw [beq_eq_false_iff_ne]; omega
      by_cases h2 : st.kind = 2
      · have HT := Lib.hid (show printT st = kCREATEINDEXONX ++ st.table ++ kX' ++ st.field ++ [41] by unfold printT; simp [h2])
        have b2 : ((st.kind : Int) == 2) = true := by rw [beq_iff_eq]; omega
        have z0 : 16 + st.table.length ≤ 9223372036854775807 := by omega
        have z1 : 16 + st.table.length + 2 ≤ 9223372036854775807 := by omega
        have z2 : 16 + st.table.length + 2 + st.field.length ≤ 9223372036854775807 := by omega
        have z3 : 16 + st.table.length + 2 + st.field.length + 1 ≤ 9223372036854775807 := by omega
        clear h1 h2
        go_wp2_with fail
        go_ret2
        exact ⟨by rw [HV.out, HT.out]; exact congrArg (fun x => Ending.returned (Value.tuple #[.string x, .int .i64 0])) (cat5 kCREATEINDEXONX st.table kX' st.field [41]), P3.out.bel⟩
      have b2 : ((st.kind : Int) == 2) = false := by rw [beq_eq_false_iff_ne]; omega
      by_cases h3 : st.kind = 3
      · have HT := Lib.hid (show printT st = kINSERTINTOX ++ st.table ++ [32] ++ showE st.expr by unfold printT; simp [h3])
        have b3 : ((st.kind : Int) == 3) = true := by rw [beq_iff_eq]; omega
        have z0 : 12 + st.table.length ≤ 9223372036854775807 := by omega
        have z1 : 12 + st.table.length + 1 ≤ 9223372036854775807 := by omega
        have z2 : 12 + st.table.length + 1 + (showE st.expr).length ≤ 9223372036854775807 := by omega
        clear h1 h2 h3
        go_wp2_with fail
        go_ret2
        exact ⟨by rw [HV.out, HT.out]; exact congrArg (fun x => Ending.returned (Value.tuple #[.string x, .int .i64 0])) (cat4 kINSERTINTOX st.table [32] (showE st.expr)), P3.out.bel⟩
      have b3 : ((st.kind : Int) == 3) = false := by rw [beq_eq_false_iff_ne]; omega
      by_cases h4 : st.kind = 4
      · have HT := Lib.hid (show printT st = kUPDATEX ++ st.table ++ kSETX ++ setT st.items ++ whereT st by unfold printT; simp [h4])
        have b4 : ((st.kind : Int) == 4) = true := by rw [beq_iff_eq]; omega
        have z0 : 7 + st.table.length ≤ 9223372036854775807 := by omega
        have z1 : 7 + st.table.length + 5 ≤ 9223372036854775807 := by omega
        have z2 : 7 + st.table.length + 5 + (setT st.items).length ≤ 9223372036854775807 := by omega
        have z3 : 7 + st.table.length + 5 + (setT st.items).length + (whereT st).length ≤ 9223372036854775807 := by omega
        have y0 : ¬ 9223372036854775807 < 7 + st.table.length := by omega
        have y1 : ¬ 9223372036854775807 < 7 + st.table.length + 5 := by omega
        have y2 : ¬ 9223372036854775807 < 7 + st.table.length + 5 + (setT st.items).length := by omega
        have y3 : ¬ 9223372036854775807 < 7 + st.table.length + 5 + (setT st.items).length + (whereT st).length := by omega
        clear h1 h2 h3 h4
        go_wp2_with fail
        have hS0 : w3.drew.cell? ⟨w.heap.size, 1, none⟩ = some (.string ⟨st.table.toArray⟩) ∧ w3.drew.cell? ⟨w.heap.size, 3, none⟩ = some (.slice ai ni ci) ∧ Below w3.heap.size w3 w3.drew := ⟨k1, k3, (Below.refl _ _).drew⟩
        go_region_held3 (fun w' => w'.cell? ⟨w.heap.size, 1, none⟩ = some (.string ⟨st.table.toArray⟩) ∧ w'.cell? ⟨w.heap.size, 3, none⟩ = some (.slice ai ni ci) ∧ Below w3.heap.size w3 w')
          (first | exact hS0 | exact hS6)
          (first | (go_at_call 52; refine (HLs.out _ ?_).mono ?_; (go_split_ands; assumption); rintro e w9 ⟨rfl, hb9⟩; have hS6 : w9.cell? ⟨w.heap.size, 1, none⟩ = some (.string ⟨st.table.toArray⟩) ∧ w9.cell? ⟨w.heap.size, 3, none⟩ = some (.slice ai ni ci) ∧ Below w3.heap.size w3 w9 := (by go_split_ands; exact ⟨keepC (by assumption) hb9, keepC (by assumption) hb9, stepB (by assumption) hb9⟩); have hb10 := hS6.2.2))
        all_goals
          go_wp2_with fail
          go_ret2
          exact ⟨by rw [HV.out, HT.out]; exact congrArg (fun x => Ending.returned (Value.tuple #[.string x, .int .i64 0])) (cat5 kUPDATEX st.table kSETX (setT st.items) (whereT st)), P3.out.bel.trans (hb10.mono P3.out.bel.size)⟩
      have b4 : ((st.kind : Int) == 4) = false := by rw [beq_eq_false_iff_ne]; omega
      by_cases h5 : st.kind = 5
      · have HT := Lib.hid (show printT st = kDELETEFROMX ++ st.table ++ whereT st by unfold printT; simp [h5])
        have b5 : ((st.kind : Int) == 5) = true := by rw [beq_iff_eq]; omega
        have z0 : 12 + st.table.length ≤ 9223372036854775807 := by omega
        have z1 : 12 + st.table.length + (whereT st).length ≤ 9223372036854775807 := by omega
        clear h1 h2 h3 h4 h5
        go_wp2_with fail
        go_ret2
        exact ⟨by rw [HV.out, HT.out]; exact congrArg (fun x => Ending.returned (Value.tuple #[.string x, .int .i64 0])) (cat3L _ _ _), P3.out.bel⟩
      have b5 : ((st.kind : Int) == 5) = false := by rw [beq_eq_false_iff_ne]; omega
      have HT := Lib.hid (show printT st = se6 st st.history st.desc by rw [se_all]; unfold printT; simp only [h1, h2, h3, h4, h5, if_false]; rfl)
      clear h1 h2 h3 h4 h5
      have Hie : Hid (st.items.isEmpty = decide (ni = 0)) := by show _ = _; rw [← len0, Hni.out]
      obtain ⟨hh, hhh⟩ : ∃ hh, st.history = hh := ⟨_, rfl⟩
      obtain ⟨dd, hdd⟩ : ∃ dd, st.desc = dd := ⟨_, rfl⟩
      obtain ⟨fb, hfb⟩ : ∃ fb : ByteArray, fb = ⟨st.field.toArray⟩ := ⟨_, rfl⟩
      have hfz : fb.size ≤ 1073741824 := by rw [hfb, size_mk]; exact hfs
      have Hfe := Lib.hid (show fb.toList = [] ↔ st.field = [] by rw [hfb]; first | simp [ByteArray.toList_eq] | simp)
      have hX : ∀ wx, Below w3.heap.size w3 wx → wx.cell? ⟨w.heap.size, 1, none⟩ = some (.string ⟨st.table.toArray⟩) ∧ wx.cell? ⟨w.heap.size, 2, none⟩ = some (.string fb) ∧ wx.cell? ⟨w.heap.size, 5, none⟩ = some (.bool hh) ∧ wx.cell? ⟨w.heap.size, 6, none⟩ = some (.bool dd) := fun wx hb => by
        rw [hfb, ← hhh, ← hdd]; exact ⟨keepC k1 hb, keepC k2 hb, keepC k5 hb, keepC k6 hb⟩
      have HX := Lib.hid hX
      rw [hhh, hdd] at HT
      have Hfb := Lib.hid hfb
      have hol : (orX st.field).length ≤ 1073741834 := by
        unfold orX; split
        · simp
        · simp only [List.length_append, kORDERBYX, List.length_cons, List.length_nil]; omega
      have hfl : (frX hh st.table).length ≤ 1073741834 := by
        unfold frX; split
        · simp only [List.length_append, kHISTORYX, List.length_cons, List.length_nil]; omega
        · omega
      have l1 : (se1 st.items).length ≤ 8 := by
        unfold se1; split <;> simp [kSELECTX]
      have l2 : (se2 st.items).length ≤ 650000000020 := by
        unfold se2; simp only [List.length_append, kFROMX, List.length_cons, List.length_nil]; omega
      have l3 : (se3 st.items hh st.table).length ≤ 660000000020 := by
        unfold se3; rw [List.length_append]; omega
      have l4 : (se4 st hh).length ≤ 670000000020 := by
        unfold se4; rw [List.length_append]; omega
      have l5 : (se5 st hh).length ≤ 680000000020 := by
        unfold se5; rw [List.length_append]; omega
      clear hhh hdd hfb hX k2 k5 k6
      obtain ⟨-, k2, k5, k6⟩ := HX.out w3 (Below.refl _ _)
      go_upto_if 73 with fail
      go_cut [8] (fun s8 wx => s8 = .string ⟨(se1 st.items).toArray⟩ ∧ Hid (wx = w3))
      case first =>
        by_cases h0 : ni = 0
        · have g0 : ((ni : Int) == 0) = true := by rw [beq_iff_eq]; omega
          have HW := Lib.hid (show se1 st.items = kSELECTX ++ [42] by unfold se1; rw [Hie.out, decide_eq_true h0]; rfl)
          clear h0
          go_wp2_with fail
          go_meet
          exact ⟨by rw [HW.out]; exact congrArg Value.string (cat2 kSELECTX [42]), rfl⟩
        · have g0 : ((ni : Int) == 0) = false := by rw [beq_eq_false_iff_ne]; omega
          have HW := Lib.hid (show se1 st.items = kSELECTX by unfold se1; rw [Hie.out, decide_eq_false h0]; exact List.append_nil _)
          clear h0
          go_wp2_with fail
          go_meet
          exact ⟨by rw [HW.out]; rfl, rfl⟩
      obtain ⟨rfl, hwx⟩ := hcut
      have hwx := hwx.out.symm
      subst hwx
      have z0 : (asT st.items).length + 6 ≤ 9223372036854775807 := by omega
      have z1 : (se1 st.items).length + ((asT st.items).length + 6) ≤ 9223372036854775807 := by omega
      go_wp2_with fail
      refine (HLa.out _ (Below.refl _ _)).mono ?_
      rintro e w9 ⟨rfl, hb9⟩
      have Hb9 := Lib.hid hb9
      have Hb9w := Lib.hid (P3.out.bel.trans (hb9.mono P3.out.bel.size))
      clear k0 k1 k2 k3 k4 k5 k6 hb9
      obtain ⟨k1, k2, k5, k6⟩ := HX.out _ Hb9.out
      go_upto_if 83 with fail
      have e2 : (⟨(se1 st.items).toArray⟩ ++ (⟨(asT st.items).toArray⟩ ++ ⟨#[32, 70, 82, 79, 77, 32]⟩) : ByteArray) = ⟨(se2 st.items).toArray⟩ := catA (se1 st.items) (asT st.items) kFROMX
      rw [e2]
      go_cut [8] (fun s8 wx => s8 = .string ⟨(se3 st.items hh st.table).toArray⟩ ∧ Hid (wx = w9))
      case first =>
        cases hh with
        | true =>
          have z2 : 8 + st.table.length ≤ 9223372036854775807 := by omega
          have z3 : 8 + st.table.length + 1 ≤ 9223372036854775807 := by omega
          have z4 : (se2 st.items).length + (8 + st.table.length + 1) ≤ 9223372036854775807 := by omega
          go_wp2_with fail
          go_meet
          exact ⟨congrArg Value.string (catB (se2 st.items) kHISTORYX st.table [41]), rfl⟩
        | false =>
          have z4 : (se2 st.items).length + st.table.length ≤ 9223372036854775807 := by omega
          go_wp2_with fail
          go_meet
          exact ⟨congrArg Value.string (cat2 (se2 st.items) st.table), rfl⟩
      obtain ⟨rfl, hwx⟩ := hcut
      have hwx := hwx.out.symm
      subst hwx
      have z5 : (se3 st.items hh st.table).length + (whereT st).length ≤ 9223372036854775807 := by omega
      go_upto_if 99 with fail
      have e4 : (⟨(se3 st.items hh st.table).toArray⟩ ++ ⟨(whereT st).toArray⟩ : ByteArray) = ⟨(se4 st hh).toArray⟩ := cat2 (se3 st.items hh st.table) (whereT st)
      rw [e4]
      go_cut [8] (fun s8 wx => s8 = .string ⟨(se5 st hh).toArray⟩ ∧ Hid (wx = w9))
      case first =>
        have HO1 := Lib.hid (show (!fb.toList.isEmpty) = true → orX st.field = kORDERBYX ++ st.field from fun h => by
          unfold orX
          cases hx : st.field with
          | nil => rw [Hfe.out.2 hx] at h; cases h
          | cons => rfl)
        have HO0 := Lib.hid (show (!fb.toList.isEmpty) = false → orX st.field = [] from fun h => by
          have h1 : fb.toList = [] := by
            cases hx : fb.toList with
            | nil => rfl
            | cons => rw [hx] at h; cases h
          unfold orX; rw [Hfe.out.1 h1]; rfl)
        have z6 : 10 + fb.size ≤ 9223372036854775807 := by omega
        have z7 : (se4 st hh).length + (10 + fb.size) ≤ 9223372036854775807 := by omega
        go_wp2_with fail
        · go_meet
          exact ⟨by unfold se5; rw [HO1.out (by assumption), Hfb.out]; exact congrArg Value.string (catA (se4 st hh) kORDERBYX st.field), rfl⟩
        · go_meet
          exact ⟨by unfold se5; rw [HO0.out (by assumption), List.append_nil], rfl⟩
      obtain ⟨rfl, hwx⟩ := hcut
      have hwx := hwx.out.symm
      subst hwx
      have z8 : (se5 st hh).length + 5 ≤ 9223372036854775807 := by omega
      go_upto_if 106 with fail
      go_cut [8] (fun s8 wx => s8 = .string ⟨(se6 st hh dd).toArray⟩ ∧ Hid (wx = w9))
      case first =>
        cases dd with
        | true =>
          go_wp2_with fail
          go_meet
          exact ⟨congrArg Value.string (cat2 (se5 st hh) kDESCX), rfl⟩
        | false =>
          go_wp2_with fail
          go_meet
          exact ⟨by unfold se6; simp, rfl⟩
      obtain ⟨rfl, hwx⟩ := hcut
      have hwx := hwx.out.symm
      subst hwx
      clear k1 k2 k5 k6
      go_wp2_with fail
      go_ret2
      exact ⟨by rw [HV.out, HT.out]; rfl, Hb9w.out⟩

end Go.Proofs.YtcjmhmmjfgjcnaaGreatDoor.Rf
