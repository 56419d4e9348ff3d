/- Parts: RaN RaP PaR. -/
import Derived.Test.YtcjmhmmjfgjcnaaGreatDoorMe15
import Derived.Test.YtcjmhmmjfgjcnaaGreatDoorMe16
import Derived.Test.YtcjmhmmjfgjcnaaGreatDoorMe18
import Derived.Deep.LoopGhost
import Derived.IntWalk

/- codicilref10: Name, number, path, names. -/
namespace Go.Proofs.YtcjmhmmjfgjcnaaGreatDoor.Rf
open Go.RowKit Go.Proofs.YtcjmhmmjfgjcnaaGreatDoor.Lx Go.Proofs.YtcjmhmmjfgjcnaaGreatDoor.Pa

set_option maxHeartbeats 1000000 in
set_option maxRecDepth 100000 in
theorem NameR_calls (s : ByteArray) (w : World) (hs : s.size ≤ maxLen) :
    Calls Tryz.prog 63 #[.string s] w fun e w' => e = .returned (.bool (nameB (L s))) ∧ Below w.heap.size w w' := by
  have Hs := Lib.hid (fun b hb => ShowW_calls s w hs b hb)
  cases hb : nameB (L s)
  · have Hc := Lib.hid (Hs.out _ hb)
    unfold showV at Hc
    clear Hs hb
    go_enter Tryz.func63, Tryz.ntmps63
    go_wp2_with fail
    refine Hc.out.mono ?_
    rintro e w1 ⟨rfl, hb1⟩
    have Hb1 := Lib.hid hb1
    clear hb1
    simp only [Bool.false_eq_true, if_false]
    go_wp2_with fail
    go_ret
    exact ⟨rfl, Hb1.out⟩
  · have Hc := Lib.hid (Hs.out _ hb)
    unfold showV at Hc
    clear Hs hb
    go_enter Tryz.func63, Tryz.ntmps63
    go_wp2_with fail
    refine Hc.out.mono ?_
    rintro e w1 ⟨rfl, hb1⟩
    have Hb1 := Lib.hid hb1
    clear hb1
    simp only [if_true]
    go_wp2_with fail
    go_ret
    exact ⟨rfl, Hb1.out⟩

theorem numQ_err {s : Txt} {c a : Nat} (h : lexL s = .err c a) : numQ s = false := by unfold numQ; rw [h]
theorem numQ_one {s : Txt} {t : Tok} (h : lexL s = .ok [t]) : numQ s = (decide (t.kind = 3) && decide (Lib.itoa t.num = s)) := by unfold numQ; rw [h]
theorem numQ_len {s : Txt} {l : List Tok} (h : lexL s = .ok l) (h1 : l.length ≠ 1) : numQ s = false := by
  unfold numQ
  rw [h]
  match l, h1 with
  | [], _ => rfl
  | [t], h1 => exact absurd rfl h1
  | _ :: _ :: _, _ => rfl
set_option maxHeartbeats 2000000 in
set_option maxRecDepth 100000 in
theorem numQ_calls (s : ByteArray) (w : World) (hs : s.size ≤ maxLen) :
    Calls Tryz.prog 114 #[.string s] w fun e w' => e = .returned (.bool (numberB (L s))) ∧ Below w.heap.size w w' := by
  have Hl := Lib.hid (fun W => LexR_calls s W hs)
  rw [← numQ_eq]
  cases hx : lexL (L s) with
  | err c a =>
    have hv := lexL_codes hx
    rw [numQ_err hx]
    rw [hx] at Hl
    have hv2 : ((c : Int) == 0) = false := by rw [beq_eq_false_iff_ne]; intro e; rw [e] at hv; cases hv
    clear hx hv
    go_enter Tryz.func114, Tryz.ntmps114
    go_wp2_with fail
    refine (Hl.out _).mono ?_
    rintro e w1 ⟨rfl, hb1⟩
    have Hb1 := Lib.hid hb1
    clear hb1
    go_wp2_with fail
    go_ret
    exact ⟨rfl, Hb1.out⟩
  | ok l =>
    have hfit := lexL_fits hx
    rw [hx] at Hl
    by_cases h1 : l.length = 1
    · obtain ⟨t, rfl⟩ : ∃ t, l = [t] := by
        match l, h1 with
        | [t], _ => exact ⟨t, rfl⟩
      have hft := hfit t (by simp)
      have h0 := hft.lo
      have h9 := hft.hi
      rw [numQ_one hx]
      clear hfit hft hx
      by_cases hk : t.kind = 3
      · have ek : ((t.kind : Int) == 3) = true := by rw [hk]; rfl
        obtain ⟨n, hn⟩ : ∃ n : Nat, t.num = n := ⟨t.num.toNat, by omega⟩
        have HN := Lib.hid (fun W => NumberI_calls n (by omega) W)
        rw [decide_eq_true hk, Bool.true_and, hn]
        generalize Lib.itoa (n : Int) = d at HN ⊢
        go_enter Tryz.func114, Tryz.ntmps114
        go_wp2_with fail
        refine (Hl.out _).mono ?_
        rintro e w1 ⟨⟨v, rfl, hown⟩, hb1⟩
        obtain ⟨g, c, rfl, m0, m1, m2, m3, hc, hg⟩ := tok_cells hown
        rw [hn] at m2
        have Hb1 := Lib.hid hb1
        clear hb1 hown
        go_wp2_with (go_at_call 104; refine (HN.out _).mono ?_; rintro e w2 ⟨rfl, rfl⟩)
        go_ret
        exact ⟨ret_bool (by rw [toList_L, Bool.eq_iff_iff, beq_iff_eq, decide_eq_true_iff]), Hb1.out⟩
      · have ek : ((t.kind : Int) == 3) = false := by rw [beq_eq_false_iff_ne]; omega
        rw [decide_eq_false hk, Bool.false_and]
        go_enter Tryz.func114, Tryz.ntmps114
        go_wp2_with fail
        refine (Hl.out _).mono ?_
        rintro e w1 ⟨⟨v, rfl, hown⟩, hb1⟩
        obtain ⟨g, c, rfl, m0, m1, m2, m3, hc, hg⟩ := tok_cells hown
        have Hb1 := Lib.hid hb1
        clear hb1 hown
        go_wp2_with fail
        go_ret
        exact ⟨rfl, Hb1.out⟩
    · have el : ((l.length : Int) == 1) = false := by rw [beq_eq_false_iff_ne]; omega
      rw [numQ_len hx h1]
      clear hx
      go_enter Tryz.func114, Tryz.ntmps114
      go_wp2_with fail
      refine (Hl.out _).mono ?_
      rintro e w1 ⟨⟨v, rfl, hown⟩, hb1⟩
      obtain ⟨a, c, rfl⟩ := rForm hown
      have Hb1 := Lib.hid hb1
      clear hb1 hown
      go_wp2_with fail
      go_ret
      exact ⟨rfl, Hb1.out⟩

end Go.Proofs.YtcjmhmmjfgjcnaaGreatDoor.Rf

/- codicilref10: path, names. -/
namespace Go.Proofs.YtcjmhmmjfgjcnaaGreatDoor.Rf
open Go.RowKit Go.Proofs.YtcjmhmmjfgjcnaaGreatDoor.Lx Go.Proofs.YtcjmhmmjfgjcnaaGreatDoor.Pa

theorem part_small {s : ByteArray} {c : UInt8} {k : Nat} (h : k < (Lib.split (L s) [c]).length) (hs : s.size ≤ 2000000) : ((Lib.split (L s) [c])[k]).length ≤ 2000000 := by
  have := split_each (L s) c _ (List.getElem_mem h)
  rw [L_length] at this
  omega

set_option maxHeartbeats 2000000 in
set_option maxRecDepth 100000 in
theorem pathR_calls (s : ByteArray) (w : World) (hs : s.size ≤ 2000000) :
    Calls Tryz.prog 59 #[.string s] w fun e w' => e = .returned (.bool (pathB (L s))) ∧ Below w.heap.size w w' := by
  have HC := Lib.hid (CutR_calls s 46 w (by omega))
  have Hsm := Lib.hid (fun k (h : k < (Lib.split (L s) [46]).length) => part_small h hs)
  have Hlen := Lib.hid (show (Lib.split (L s) [46]).length ≤ 2000001 from by have := split_count (L s) 46; rw [L_length] at this; omega)
  have HP := Lib.hid (show pathB (L s) = (pathParts 0 (Lib.split (L s) [46]) && decide (s.size ≤ 1024)) from by unfold pathB; rw [L_length])
  go_enter Tryz.func59, Tryz.ntmps59
  go_wp2_with fail
  refine HC.out.mono ?_
  rintro e w1 ⟨v, rfl, hst⟩
  have Hb1 := Lib.hid hst.row.bel
  obtain ⟨a, n, c, rfl, hn, hc, hj⟩ := hst.in
  generalize Lib.split (L s) [46] = parts at hn hj HP Hsm Hlen
  subst hn
  have hlen := Hlen.out
  have Hj := Lib.hid hj
  clear hst hj HC
  go_wp2_with fail
  go_loopw [8] (fun s8 wr => ∃ k : Nat, s8 = .int .i64 k ∧ k ≤ parts.length ∧ Hid (Below w1.heap.size w1 wr) ∧ Hid (pathParts 0 parts = pathParts k (parts.drop k))) (fun s8 _ => parts.length - (intOf s8).toNat)
  case atStart => exact ⟨0, rfl, Nat.zero_le _, Lib.hid (Below.refl _ _), Lib.hid (by rw [List.drop_zero])⟩
  case round =>
    obtain ⟨k, rfl, hk, hbr, hpp⟩ := hrel
    have Hbr := Lib.hid hbr.out
    clear hbr
    by_cases hlt : k < parts.length
    · obtain ⟨g, o, ha, hcell0⟩ := Hj.out k hlt
      subst ha
      have hcell := (Hbr.out.cell (p := ⟨g, _, none⟩) (World.block_lt_of_cell? _ _ hcell0)).trans hcell0
      clear hcell0
      have hq := hpp.out
      rw [List.drop_eq_getElem_cons hlt, pathParts] at hq
      have hsz := Hsm.out k hlt
      generalize parts[k] = p at hcell hq hsz
      have HN := Lib.hid (fun W => NameR_calls ⟨p.toArray⟩ W (by rw [size_mk]; unfold maxLen; omega))
      have HQ := Lib.hid (fun W => numQ_calls ⟨p.toArray⟩ W (by rw [size_mk]; unfold maxLen; omega))
      rw [L_mk] at HN HQ
      clear hpp
      cases hnm : nameB p
      · rw [hnm] at HN hq
        by_cases h0 : k = 0
        · have e0 : ((k : Int) == 0) = true := by rw [h0]; rfl
          have HR := Lib.hid (show pathB (L s) = false by rw [HP.out, hq, h0]; rfl)
          clear hq h0
          go_wp2_with (go_at_call 63; refine (HN.out _).mono ?_; rintro e w2 ⟨rfl, hb2⟩; have Hb2 := Lib.hid hb2; clear hb2)
          go_ret
          exact ⟨by rw [HR.out]; rfl, rStep Hb1.out (rStep Hbr.out Hb2.out)⟩
        · have e0 : ((k : Int) == 0) = false := by rw [beq_eq_false_iff_ne]; omega
          cases hnq : numberB p
          · rw [hnq] at HQ hq
            have HR := Lib.hid (show pathB (L s) = false by rw [HP.out, hq]; simp)
            clear hq h0
            go_wp2_with (first | (go_at_call 63; refine (HN.out _).mono ?_; rintro e w2 ⟨rfl, hb2⟩; have Hb2 := Lib.hid hb2; clear hb2) | (go_at_call 114; refine (HQ.out _).mono ?_; rintro e w3 ⟨rfl, hb3⟩; have Hb3 := Lib.hid hb3; clear hb3))
            go_ret
            exact ⟨by rw [HR.out]; rfl, rStep Hb1.out (rStep (rStep Hbr.out Hb2.out) Hb3.out)⟩
          · rw [hnq] at HQ hq
            have HR := Lib.hid (show pathParts 0 parts = pathParts (k + 1) (parts.drop (k + 1)) by rw [hq]; simp [h0])
            clear hq h0
            go_wp2_with (first | (go_at_call 63; refine (HN.out _).mono ?_; rintro e w2 ⟨rfl, hb2⟩; have Hb2 := Lib.hid hb2; clear hb2) | (go_at_call 114; refine (HQ.out _).mono ?_; rintro e w3 ⟨rfl, hb3⟩; have Hb3 := Lib.hid hb3; clear hb3))
            go_roundw
            case rel => exact ⟨k + 1, by go_num, by omega, Lib.hid (rStep (rStep Hbr.out Hb2.out) Hb3.out), HR⟩
            case measure => simp [intOf]; omega
      · rw [hnm] at HN hq
        have HR := Lib.hid (show pathParts 0 parts = pathParts (k + 1) (parts.drop (k + 1)) by rw [hq]; simp)
        clear hq
        go_wp2_with (go_at_call 63; refine (HN.out _).mono ?_; rintro e w2 ⟨rfl, hb2⟩; have Hb2 := Lib.hid hb2; clear hb2)
        go_roundw
        case rel => exact ⟨k + 1, by go_num, by omega, Lib.hid (rStep Hbr.out Hb2.out), HR⟩
        case measure => simp [intOf]; omega
    · have hq := hpp.out
      rw [List.drop_of_length_le (by omega), pathParts] at hq
      have HR := Lib.hid (show pathB (L s) = decide ((s.size : Int) ≤ 1024) by rw [HP.out, hq, Bool.true_and]; exact decide_eq_decide.2 (by omega))
      clear hq hpp
      go_wp2_with fail
      go_ret
      exact ⟨by rw [HR.out]; rfl, rStep Hb1.out Hbr.out⟩

set_option maxHeartbeats 2000000 in
set_option maxRecDepth 100000 in
theorem namesR_calls (s : ByteArray) (n : Int) (w : World) (hs : s.size ≤ 2000000) :
    Calls Tryz.prog 60 #[.string s, .int .i64 n] w fun e w' => e = .returned (.bool (namesB (L s) n)) ∧ Below w.heap.size w w' := by
  by_cases h0 : n = 0
  · subst h0
    have HR := Lib.hid (show namesB (L s) 0 = (s.toList == []) by unfold namesB; rw [if_pos rfl, toList_L, Bool.eq_iff_iff, decide_eq_true_iff, beq_iff_eq])
    go_enter Tryz.func60, Tryz.ntmps60
    go_wp2_with fail
    go_ret
    exact ⟨ret_bool (by rw [HR.out]; cases s.toList <;> rfl), Below.refl _ _⟩
  · have e0 : (n == 0) = false := beq_eq_false_iff_ne.2 h0
    have HC := Lib.hid (CutR_calls s 44 w (by omega))
    have Hsm := Lib.hid (fun k (h : k < (Lib.split (L s) [44]).length) => part_small h hs)
    have Hlen := Lib.hid (show (Lib.split (L s) [44]).length ≤ 2000001 from by have := split_count (L s) 44; rw [L_length] at this; omega)
    have HP := Lib.hid (show namesB (L s) n = (decide (((Lib.split (L s) [44]).length : Int) = n) && (decide (Lib.split (L s) [44]).Nodup && (Lib.split (L s) [44]).all nameB)) from by unfold namesB apartB; rw [if_neg h0])
    clear h0
    go_enter Tryz.func60, Tryz.ntmps60
    go_wp2_with fail
    refine HC.out.mono ?_
    rintro e w1 ⟨v, rfl, hst⟩
    have Hb1 := Lib.hid hst.row.bel
    have Hin := Lib.hid hst.in
    obtain ⟨a, m, c, rfl, hn, hc, hj⟩ := hst.in
    generalize Lib.split (L s) [44] = parts at hn hj HP Hsm Hlen Hin
    subst hn
    have hlen := Hlen.out
    have Hj := Lib.hid hj
    clear hst hj HC
    go_wp2_with fail
    go_loopw [16] (fun s16 wr => ∃ k : Nat, s16 = .int .i64 k ∧ k ≤ parts.length ∧ Hid (Below w1.heap.size w1 wr) ∧ Hid ((parts.take k).all nameB = true)) (fun s16 _ => parts.length - (intOf s16).toNat)
    case atStart => exact ⟨0, rfl, Nat.zero_le _, Lib.hid (Below.refl _ _), Lib.hid rfl⟩
    case round =>
      obtain ⟨k, rfl, hk, hbr, hpp⟩ := hrel
      have Hbr := Lib.hid hbr.out
      clear hbr
      by_cases hlt : k < parts.length
      · obtain ⟨g, o, ha, hcell0⟩ := Hj.out k hlt
        subst ha
        have hcell := (Hbr.out.cell (p := ⟨g, _, none⟩) (World.block_lt_of_cell? _ _ hcell0)).trans hcell0
        clear hcell0
        have hsz := Hsm.out k hlt
        have hnx := List.take_succ_eq_append_getElem hlt
        have hmem := List.getElem_mem hlt
        generalize parts[k] = p at hcell hsz hnx hmem
        have HN := Lib.hid (fun W => NameR_calls ⟨p.toArray⟩ W (by rw [size_mk]; unfold maxLen; omega))
        rw [L_mk] at HN
        cases hnm : nameB p
        · rw [hnm] at HN
          have HR := Lib.hid (show namesB (L s) n = false by
            rw [HP.out]
            have : parts.all nameB = false := by
              rw [List.all_eq_false]
              exact ⟨p, hmem, by rw [hnm]; simp⟩
            rw [this]; simp)
          clear hpp hnx hmem hnm
          go_wp2_with (go_at_call 63; refine (HN.out _).mono ?_; rintro e w2 ⟨rfl, hb2⟩; have Hb2 := Lib.hid hb2; clear hb2)
          go_ret
          exact ⟨by rw [HR.out]; rfl, rStep Hb1.out (rStep Hbr.out Hb2.out)⟩
        · rw [hnm] at HN
          have HR := Lib.hid (show (parts.take (k + 1)).all nameB = true by rw [hnx, List.all_append, hpp.out]; simp [hnm])
          clear hpp hnx hmem hnm
          go_wp2_with (go_at_call 63; refine (HN.out _).mono ?_; rintro e w2 ⟨rfl, hb2⟩; have Hb2 := Lib.hid hb2; clear hb2)
          go_roundw
          case rel => exact ⟨k + 1, by go_num, by omega, Lib.hid (rStep Hbr.out Hb2.out), HR⟩
          case measure => simp [intOf]; omega
      · have hall := hpp.out
        rw [List.take_of_length_le (by omega)] at hall
        have HR := Lib.hid (show namesB (L s) n = (decide ((parts.length : Int) = n) && decide parts.Nodup) by rw [HP.out, hall, Bool.and_true])
        have HT := Lib.hid (twiceR_calls wr _ parts (Hin.out.below Hbr.out) (by omega))
        clear hall hpp
        by_cases hnn : (parts.length : Int) = n
        · have e1 : ((parts.length : Int) == n) = true := beq_iff_eq.2 hnn
          rw [decide_eq_true hnn, Bool.true_and] at HR
          generalize decide parts.Nodup = nd at HR HT
          clear hnn
          go_wp2_with (go_at_call 115; refine HT.out.mono ?_; rintro e w3 ⟨rfl, rfl⟩)
          all_goals go_ret
          all_goals exact ⟨by rw [HR.out]; simp, rStep Hb1.out Hbr.out⟩
        · have e1 : ((parts.length : Int) == n) = false := beq_eq_false_iff_ne.2 hnn
          rw [decide_eq_false hnn, Bool.false_and] at HR
          clear hnn
          go_wp2_with fail
          go_ret
          exact ⟨by rw [HR.out]; rfl, rStep Hb1.out Hbr.out⟩

end Go.Proofs.YtcjmhmmjfgjcnaaGreatDoor.Rf

/- The parser: rows of operators, signs ahead. -/
namespace Go.Proofs.YtcjmhmmjfgjcnaaGreatDoor.Pa
open Go.RowKit Go.Proofs.YtcjmhmmjfgjcnaaGreatDoor.Lx

/-- a row of texts in a block -/
def TextsAt (w : World) (g n : Nat) (l : List Txt) : Prop := l.length = n ∧ ∀ (j : Nat) (hj : j < l.length), w.cell? ⟨g, j, none⟩ = some (.string ⟨l[j].toArray⟩)
theorem TextsAt.strs {w : World} {g n : Nat} {l : List Txt} (h : TextsAt w g n l) : StrsAt w (.slice (some ⟨g, 0, none⟩) n n) l := ⟨_, n, n, rfl, h.1, Nat.le_refl _, fun j hj => ⟨g, rfl, h.2 j hj⟩⟩
theorem TextsAt.new (w : World) (l : List Txt) (n : Nat) (cs : Array Value) (T : TypeId) (mk : Nat × Nat) (hcs : cs = (strsC l).toArray) (hn : l.length = n) : TextsAt (w.alloc (.cells cs T mk)) w.heap.size n l := by
  refine ⟨hn, fun j hj => ?_⟩
  have hb := heap_alloc_new w (.cells cs T mk)
  have key : ∀ (W : World) (B : Nat), W.heap[B]? = some (.cells cs T mk) → W.cell? ⟨B, j, none⟩ = cs[j]? := fun W B h => by simp [World.cell?, h]
  rw [key _ _ hb, hcs]
  simp [strsC, List.getElem?_eq_getElem hj]
theorem TextsAt.now {x : Px} {w w' : World} {sv lv' sv' : Value} {s' : St} {g n : Nat} {l : List Txt} (h : TextsAt w g n l) (hg1 : g ≠ x.B) (hg2 : sv.ownBlock ≠ some g) (hn : Now x w sv w' lv' sv' s') : TextsAt w' g n l :=
  ⟨h.1, fun j hj => (World.cell?_of_block (w := w) (a := ⟨g, j, none⟩) (hn.keep.2 g (World.block_lt_of_cell? _ _ (h.2 j hj)) hg1 hg2)).trans (h.2 j hj)⟩

theorem operators_calls (w : World) : Calls Tryz.prog 103 #[] w fun e w' => e = .returned (.slice (some ⟨w.heap.size, 0, none⟩) 11 11) ∧ w.alloc (.cells (strsC operators).toArray 9) = w' := by
  go_enter Tryz.func103, Tryz.ntmps103
  go_wp2_with fail
  go_ret
  exact ⟨rfl, rfl⟩
theorem opVal (t : Txt) : IntKind.u8.wrap (12 + IntKind.u8.wrap (idxI operators t)) = (opKind t : Nat) := by
  unfold idxI opKind
  by_cases h : t ∈ operators
  · rw [if_pos h, if_pos h]
    have h1 := List.idxOf_lt_length_of_mem h
    have h2 : operators.length = 11 := rfl
    simp only [IntKind.wrap_u8]
    omega
  · rw [if_neg h, if_neg h]
    rfl

variable {x : Px} {w : World} {lv sv : Value} {s : St}

/-- a function of the program's own text is entered at a call -/
def Enters (g : FuncId) : Prop := ∀ (args : Array Value) (W : World), (callFunc g args).run Tryz.prog W = .ok (.enter g args) W
theorem enters_of {g : FuncId} {fn : Func} (hf : Tryz.prog.funcs[g]? = some fn) (hn : (fn.name == "runtime.NumGoroutine") = false) (hb : fn.body.isNone = false) : Enters g := fun args W => by
  have hn' : ¬ fn.name = "runtime.NumGoroutine" := by simpa using hn
  have hb' : ¬ fn.body = none := fun e => by rw [e] at hb; cases hb
  simp [callFunc, go_sem, hf, hn', hb']
theorem enters_signed : Enters 209 := enters_of Tryz.func209 (by kernel_rfl) (by kernel_rfl)
/-- what a function that reads a thing does: 'one' over the states -/
def Reads (x : Px) (g : FuncId) (d : Nat) (one : St → Option St) : Prop := ∀ (w : World) (lv sv : Value) (s s' : St), PS x w lv sv s → one s = some s' →
  Calls Tryz.prog g #[.pointer (some ⟨x.B, 0, none⟩), .int .i64 d] w (Did x w sv s')

set_option maxHeartbeats 1000000 in
set_option maxRecDepth 100000 in
theorem row_calls (h : PS x w lv sv s) (k : Nat) (g d gt nt : Nat) (texts : List Txt) (one : St → Option St) (hone : Reads x g d one) (hent : Enters g) (ht : TextsAt w gt nt texts) (hg1 : gt ≠ x.B) (hg2 : sv.ownBlock ≠ some gt) (hn100 : nt ≤ 100) (n : Nat) (s' : St)
    (hr : row one k texts n s = some s') :
    Calls Tryz.prog 149 #[.pointer (some ⟨x.B, 0, none⟩), .int .u8 k, .func (.func g) #[.pointer (some ⟨x.B, 0, none⟩)] #[], .int .i64 d, .slice (some ⟨gt, 0, none⟩) nt nt] w (Did x w sv s') := by
  obtain ⟨s1, hs1, hr1⟩ := Option.bind_eq_some_iff.1 hr
  have H1 := Lib.hid (hone w lv sv s s1 h hs1)
  have Ht := Lib.hid (fun w' lv' sv' s' hn => ht.now (w' := w') (lv' := lv') (sv' := sv') (s' := s') hg1 hg2 hn)
  have Hr := Lib.hid hr1
  have Hone := Lib.hid hone
  have Hlen := Lib.hid (show texts.length ≤ 100 by have := ht.1; omega)
  unfold Enters at hent
  clear h hr hr1 hs1 hone ht hg1 hg2
  go_enter Tryz.func149, Tryz.ntmps149
  go_wp2_with fail
  refine H1.out.mono ?_
  rintro e w1 ⟨rfl, lv1, sv1, h1⟩
  have Hn1 := Lib.hid h1
  clear h1
  go_wp2_with fail
  go_loopg [] n (fun gk wr => Hid (∃ lv2 sv2 s2, Now x w sv wr lv2 sv2 s2 ∧ rowL one k texts gk s2 = some s'))
  case atStart => exact ⟨_, _, _, Hn1.out, Hr.out⟩
  case round =>
    obtain ⟨lv2, sv2, s2, h2, hr2⟩ := hrel
    have Ht2 := Lib.hid (take_calls h2.ps k _ texts (Ht.out _ _ _ _ h2).strs Hlen.out)
    cases gk with
    | zero => simp [rowL] at hr2
    | succ m =>
      rw [rowL] at hr2
      have hkept := fun o w2 lv2 sv2 s2 h2' => kept (o := o) (w' := w2) (lv' := lv2) (sv' := sv2) (s' := s2) h2.ps h2'
      have H2 := Lib.hid h2
      cases hx : s2.next k texts with
      | false =>
        rw [hx] at hr2 Ht2
        rw [(need_no hx).2] at Ht2
        have hs : s2 = s' := by simpa using hr2
        subst hs
        clear hr2 hx hkept h2
        generalize s2.taken k texts = T at *
        go_wp2_with fail
        refine Ht2.out.mono ?_
        rintro e w3 ⟨rfl, lv3, sv3, h3⟩
        have H3 := Lib.hid (H2.out.trans h3)
        unfold Tok.val
        clear h3
        go_wp2_with fail
        go_end0
        exact ⟨rfl, _, _, H3.out.alloc _⟩
      | true =>
        rw [hx] at hr2 Ht2
        have e1 : s2.after k texts = s2.drop := by unfold St.after; rw [hx]; rfl
        have e2 : s2.taken k texts = s2.head := by unfold St.taken; rw [hx]; rfl
        rw [e1, e2] at Ht2
        simp only [if_true] at hr2
        obtain ⟨s3, hs3, hr3⟩ := Option.bind_eq_some_iff.1 hr2
        have Hs3 := Lib.hid hs3
        have Hr3 := Lib.hid hr3
        clear hr2 hx hkept h2 e1 e2 hs3 hr3
        generalize s2.head = T at *
        go_wp2_with fail
        refine Ht2.out.mono ?_
        rintro e w3 ⟨rfl, lv3, sv3, h3⟩
        have H3 := Lib.hid (H2.out.trans h3)
        have Hkept := Lib.hid (fun o w2 lv2 sv2 s2 h2' => kept (o := o) (w' := w2) (lv' := lv2) (sv' := sv2) (s' := s2) h3.ps h2')
        unfold Tok.val
        clear h3
        go_wp2_with fail
        refine (Hone.out _ _ _ _ s3 (H3.out.ps.step (alloc_below _ _)) Hs3.out).mono ?_
        rintro e w4 ⟨rfl, lv4, sv4, h4⟩
        have H4 := Lib.hid ((H3.out.alloc _).trans h4)
        obtain ⟨⟨k0, k1, k2, k3⟩, -⟩ := four (Hkept.out _ _ _ _ _ h4)
        have hlt4 : w3.heap.size < w4.heap.size := World.block_lt_of_cell? _ _ k0
        clear h4 Hkept
        go_wp2_with fail
        have Hops := Lib.hid (((TextsAt.new w4 operators 11 _ 9 (0, 0) rfl rfl).strs).below ((Below.refl _ (w4.alloc (.cells (strsC operators).toArray 9))).drew))
        have Hd := Lib.hid ((H4.out.alloc (.cells (strsC operators).toArray 9)).drew)
        have Hv := Lib.hid (opVal T.text)
        have hput := put_calls Hd.out.ps ⟨opKind T.text, [], 0⟩
        unfold Stp.val at hput
        simp only [] at hput
        rw [← Hv.out] at hput
        have Hput := Lib.hid hput
        clear hput
        go_region_with ((first | (go_at_call 103; refine (operators_calls _).mono ?_; rintro e w5 ⟨rfl, rfl⟩) | (go_at_call 174; refine (index_calls _ _ operators T.text Hops.out (by decide)).mono ?_; rintro e w5 ⟨rfl, rfl⟩) | (go_at_call 173; refine Hput.out.mono ?_; rintro e w6 ⟨rfl, lv6, sv6, h6⟩)))
        all_goals
          have Hn6 := Lib.hid (Hd.out.trans h6)
          clear h6
          go_wp2_with fail
          go_roundg m
          case measure => omega
          case rel => exact ⟨_, _, _, Hn6.out, Hr3.out⟩

/-- a closure over a thing's depth -/
def ReadsAt (x : Px) (g : FuncId) (one : Nat → St → Option St) : Prop := ∀ d, d ≤ 16 → Reads x g d (one d)

set_option maxRecDepth 100000 in
theorem ahead_calls (k : Nat) (g : FuncId) (text : Txt) (step : Nat) (other : Nat → St → Option St) (hoth : ReadsAt x g other) (hent : Enters g) : ∀ (n d : Nat) (w : World) (lv sv : Value) (s s' : St), d ≤ 16 → PS x w lv sv s → aheadF k text step other n d s = some s' →
    Calls Tryz.prog 196 #[.pointer (some ⟨x.B, 0, none⟩), .int .u8 k, .string ⟨text.toArray⟩, .int .u8 step, .int .i64 d, .func (.func g) #[.pointer (some ⟨x.B, 0, none⟩)] #[]] w (Did x w sv s')
  | 0, _, _, _, _, _, _, _, _, hr => by simp [aheadF] at hr
  | n + 1, d, w, lv, sv, s, s', hd, h, hr => by
    have Hn := Lib.hid (next_calls (h.step (alloc_below w (.cells #[.string ⟨text.toArray⟩] 9))) k _ [text] (StrsAt.new w [text] 1 _ _ _ rfl rfl) (by simp))
    have Hh := Lib.hid ((Now.refl h).alloc (.cells #[.string ⟨text.toArray⟩] 9))
    have hent' := hent
    unfold Enters at hent'
    rw [aheadF] at hr
    cases hx : s.next k [text] with
    | false =>
      rw [hx] at hr Hn
      have Ho := Lib.hid (hoth d hd _ _ _ _ s' Hh.out.ps (by simpa using hr))
      clear h hr hx hoth
      go_enter Tryz.func196, Tryz.ntmps196
      go_wp2_with fail
      refine Hn.out.mono ?_
      rintro e w1 ⟨rfl, rfl⟩
      go_wp2_with fail
      refine Ho.out.mono ?_
      rintro e w1 ⟨rfl, lv1, sv1, h1⟩
      have H1 := Lib.hid (Hh.out.trans h1)
      clear h1
      go_wp2_with fail
      go_end0
      exact ⟨rfl, _, _, H1.out⟩
    | true =>
      rw [hx] at hr Hn
      obtain ⟨t, r, hl⟩ : ∃ t r, s.left = t :: r := by
        cases hl : s.left with
        | nil => rw [next_nil hl] at hx; cases hx
        | cons t r => exact ⟨t, r, rfl⟩
      simp only [if_true] at hr
      by_cases hd16 : 16 ≤ d
      · rw [if_pos hd16] at hr
        have hs : s.deep = s' := by simpa using hr
        subst hs
        have Ho := Lib.hid (nest_deep Hh.out.ps d hd16 (by omega))
        clear h hr hx hoth hl
        go_enter Tryz.func196, Tryz.ntmps196
        go_wp2_with fail
        refine Hn.out.mono ?_
        rintro e w1 ⟨rfl, rfl⟩
        go_wp2_with fail
        refine Ho.out.mono ?_
        rintro e w1 ⟨rfl, lv1, sv1, h1⟩
        have H1 := Lib.hid (Hh.out.trans h1)
        clear h1
        go_wp2_with fail
        go_end0
        exact ⟨rfl, _, _, H1.out⟩
      · rw [if_neg hd16] at hr
        obtain ⟨s1, hs1, hr1⟩ := Option.bind_eq_some_iff.1 hr
        have hs : s1.put ⟨step, [], 0⟩ = s' := by simpa using hr1
        subst hs
        have Ho := Lib.hid (nest_yes Hh.out.ps d (by omega) hl)
        have Hs1 := Lib.hid hs1
        have Hoth := Lib.hid hoth
        have hdd : (d : Int) < 16 := by omega
        clear h hr hx hoth hl hs1 hr1
        go_enter Tryz.func196, Tryz.ntmps196
        go_wp2_with fail
        refine Hn.out.mono ?_
        rintro e w1 ⟨rfl, rfl⟩
        go_wp2_with fail
        refine Ho.out.mono ?_
        rintro e w1 ⟨rfl, lv1, sv1, h1⟩
        have H1 := Lib.hid (Hh.out.trans h1)
        clear h1
        go_wp2_with fail
        refine (ahead_calls k g text step other Hoth.out hent n (d + 1) w1 lv1 sv1 s.drop s1 (by omega) H1.out.ps Hs1.out).mono ?_
        rintro e w2 ⟨rfl, lv2, sv2, h2⟩
        have H2 := Lib.hid (H1.out.trans h2)
        clear h2
        go_wp2_with fail
        refine (put_calls H2.out.ps ⟨step, [], 0⟩).mono ?_
        rintro e w3 ⟨rfl, lv3, sv3, h3⟩
        have H3 := Lib.hid (H2.out.trans h3)
        clear h3
        go_wp2_with fail
        go_end0
        exact ⟨rfl, _, _, H3.out⟩

end Go.Proofs.YtcjmhmmjfgjcnaaGreatDoor.Pa
