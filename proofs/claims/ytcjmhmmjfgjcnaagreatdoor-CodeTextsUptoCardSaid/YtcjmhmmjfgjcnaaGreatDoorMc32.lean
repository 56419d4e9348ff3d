/- Parts: QaZ QaN QaO. -/
import Derived.Test.YtcjmhmmjfgjcnaaGreatDoorMc04
import Derived.Test.YtcjmhmmjfgjcnaaGreatDoorMc07

/- code: Text. -/
namespace Go.Proofs.YtcjmhmmjfgjcnaaGreatDoor.Cd
open Go.RowKit Go.Proofs.YtcjmhmmjfgjcnaaGreatDoor.Lx Go.Proofs.YtcjmhmmjfgjcnaaGreatDoor.Pa

theorem tn1 : (1 : Int).toNat = 1 := rfl
theorem tn2 : (2 : Int).toNat = 2 := rfl
theorem tn4 : (4 : Int).toNat = 4 := rfl
set_option maxHeartbeats 4000000 in
set_option maxRecDepth 100000 in
theorem Text_calls (w : World) (v : Value) (p : List Ins) (h : InsIn w v p) (hl : p.length ≤ 1000000) (HT : ∀ x ∈ p, TakesOk w x.st) (hn : ∀ x ∈ p, x.st.num ≤ 9223372036854775807) (ht : ∀ x ∈ p, x.st.text.length ≤ 1048575) :
    Calls Tryz.prog 28 #[v] w fun e w' => e = .returned (textV p) ∧ Below w.heap.size w w' := by
  have HCk := Lib.hid (Check_calls w v p h hl HT)
  unfold checkC at HCk
  cases hC : checkI p with
  | false =>
    rw [hC] at HCk
    have HV := Lib.hid (show textV p = .tuple #[.string ⟨#[]⟩, .int .i64 11] by unfold textV; rw [hC]; rfl)
    obtain ⟨a, n, c, rfl, -⟩ := h
    clear hC HT hn ht
    go_enter Tryz.func28, Tryz.ntmps28
    go_wp2_with fail
    refine HCk.out.mono ?_
    rintro e w2 ⟨rfl, hb2⟩
    have Hb2 := Lib.hid hb2
    clear hb2
    go_wp2_with fail
    go_ret2
    exact ⟨by rw [HV.out]; rfl, Hb2.out⟩
  | true =>
    rw [hC] at HCk
    have HV := Lib.hid (show textV p = .tuple (if (textL p).length ≤ 16384 then #[.string ⟨(textL p).toArray⟩, .int .i64 0] else #[.string ⟨#[]⟩, .int .i64 4]) by unfold textV; rw [hC]; rfl)
    obtain ⟨hok, hp1, hp2⟩ := check_ok hC
    have Hok := Lib.hid hok
    have Hnum := Lib.hid hn
    have Htxt := Lib.hid ht
    obtain ⟨a, n, c, rfl, hln, hnc, hj⟩ := h
    have Hln := Lib.hid hln
    have Hj := Lib.hid hj
    have hn256 : n ≤ 256 := by omega
    have hn1 : 1 ≤ n := by omega
    clear hC HT hn ht hok hln hj hl hp1 hp2
    go_enter Tryz.func28, Tryz.ntmps28
    go_wp2_with fail
    refine HCk.out.mono ?_
    rintro e w2 ⟨rfl, hb2⟩
    have Hb2 := Lib.hid hb2
    clear hb2
    go_wp2_with fail
    go_loopw [5, 15] (fun s5 i wr => ∃ (k m c5 : Nat) (b5 : Option Addr), k ≤ n ∧ i = .int .i64 k ∧ s5 = .slice b5 m c5 ∧ (textL (p.take k)).length = m ∧ Hid (OwnB wr w.heap.size (.slice b5 m c5) (textL (p.take k)) ∧ Below w.heap.size w wr)) (fun _ i _ => n - (intOf i).toNat)
    case atStart => exact ⟨0, 0, 0, none, Nat.zero_le _, rfl, rfl, rfl, OwnB.nil _ _, Hb2.out⟩
    case round =>
      obtain ⟨k, m, c5, b5, hk, rfl, rfl, hm, hst⟩ := hrel
      have Hst := Lib.hid hst.out
      have Hm := Lib.hid hm
      by_cases hlt : k < n
      · have hkl : k < p.length := by rw [Hln.out]; exact hlt
        obtain ⟨g, o, rfl, hcl⟩ := Hj.out k hkl
        have hgw : g < wr.heap.size := Nat.lt_of_lt_of_le hcl.lt hst.out.2.size
        obtain ⟨q0, q1, q2, q3, q4⟩ := hcl.below hst.out.2
        have htx := Htxt.out _ (List.getElem_mem hkl)
        have hnum := Hnum.out _ (List.getElem_mem hkl)
        have hox := Hok.out _ (List.getElem_mem hkl)
        have Htk := Lib.hid (textL_take p k hkl)
        have hsm : (textL (p.take k)).length ≤ 281600000 := by
          have h1 := textL_len (p := p.take k) fun x hx => Htxt.out x (List.mem_of_mem_take hx)
          have h2 : (p.take k).length ≤ 256 := by rw [List.length_take]; omega
          have := Nat.mul_le_mul_right 1100000 h2
          omega
        generalize p[k] = x at *
        generalize hl0 : textL (p.take k) = l at *
        have Hl0 := Lib.hid hl0
        have hbx := allocB wr (.cells #[.int .u8 x.op, .int .u8 x.st.kind, .string ⟨x.st.text.toArray⟩, .int .i64 x.st.num, .int .i64 x.to] 63)
        have Htx := Lib.hid (show TxM w wr (wr.alloc (.cells #[.int .u8 x.op, .int .u8 x.st.kind, .string ⟨x.st.text.toArray⟩, .int .i64 x.st.num, .int .i64 x.to] 63)) x (.slice b5 m c5) l from ⟨heap_alloc_new _ _, ownSame hst.out.1 fun g _ hg => hbx.block g hg, stepH hst.out.2 hbx⟩)
        have hop : x.op < 6 := by rcases hox.op with e | e | e | e | e <;> omega
        clear hst hm hcl hl0 hbx Hst
        subst m
        by_cases h1 : x.op = 1
        · obtain ⟨g1, g2, g3, g4⟩ := hox.step h1
          obtain ⟨nn, hnn⟩ : ∃ nn : Nat, x.st.num = nn := ⟨x.st.num.toNat, by omega⟩
          have hnn2 : nn ≤ 9223372036854775807 := by omega
          have b1 : ((x.op : Int) == 1) = true := by rw [beq_iff_eq]; omega
          have hu : u64 x.st.num = nn := by rw [hnn, u64_small (by omega) (by omega)]; exact Int.toNat_natCast nn
          have He := Lib.hid (show textI x = UInt8.ofNat x.op :: UInt8.ofNat x.st.kind :: (numT nn ++ (numT x.st.text.length ++ x.st.text)) by unfold textI; rw [if_pos h1, hu])
          have hl1 := (numB_length 9 nn).2
          have hl2 := (numB_length 9 x.st.text.length).2
          have HN1 := Lib.hid (fun w2 => Number_calls w2 nn (by omega))
          have HN2 := Lib.hid (fun w2 => Number_calls w2 x.st.text.length (by omega))
          unfold numT at He HN1 HN2
          generalize numB 9 nn = t1 at *
          generalize numB 9 x.st.text.length = t2 at *
          obtain ⟨op, ⟨kind, text, num⟩, to'⟩ := x
          simp only at hnn h1 g2 hnum htx
          subst hnn h1
          clear b1 g4 hu hox
          go_wp2_with (first | (at_builtin; (refine wpList_tx_byte rfl _ _ rfl w wr _ _ _ rfl _ rfl _ Htx.out (by first | rfl | simp) (by omega) (by omega) (by first | omega | (simp only [List.length_append, List.length_cons, List.length_nil]; omega)) ?_); intro a7 n7 c7 w7 hn7 h7; have Htx := Lib.hid h7; obtain ⟨⟨k0, k1, k2, k3, k4⟩, -⟩ := fiveB h7.blk; have hXB := ltH h7.blk; clear h7))
          refine (HN1.out _).mono ?_
          rintro e w8 ⟨rfl, hb8⟩
          have h8 := Htx.out.step hb8
          have Htx := Lib.hid h8
          obtain ⟨⟨k0, k1, k2, k3, k4⟩, -⟩ := fiveB h8.blk
          have hXB := ltH h8.blk
          clear h8 hb8
          go_wp2_with (first | (at_builtin; refine wpList_tx_str rfl _ _ rfl w wr _ _ _ rfl _ rfl Htx.out (by first | omega | (simp only [List.length_append, List.length_cons, List.length_nil]; omega)) ?_; intro a7 n7 c7 w7 hn7 h7; have Htx := Lib.hid h7; obtain ⟨⟨k0, k1, k2, k3, k4⟩, -⟩ := fiveB h7.blk; have hXB := ltH h7.blk; clear h7))
          refine (HN2.out _).mono ?_
          rintro e w8 ⟨rfl, hb8⟩
          have h8 := Htx.out.step hb8
          have Htx := Lib.hid h8
          obtain ⟨⟨k0, k1, k2, k3, k4⟩, -⟩ := fiveB h8.blk
          have hXB := ltH h8.blk
          clear h8 hb8
          go_wp2_with (first | (at_builtin; refine wpList_tx_str rfl _ _ rfl w wr _ _ _ rfl _ rfl Htx.out (by first | omega | (simp only [List.length_append, List.length_cons, List.length_nil]; omega)) ?_; intro a7 n7 c7 w7 hn7 h7; have Htx := Lib.hid h7; obtain ⟨⟨k0, k1, k2, k3, k4⟩, -⟩ := fiveB h7.blk; have hXB := ltH h7.blk; clear h7))
          go_roundw
          case rel => exact ⟨k + 1, _, _, _, by omega, by go_num, rfl, by (obtain ⟨_, _, e⟩ := Htx.out.own.form; simp only [Value.slice.injEq] at e; rw [Htk.out, He.out, e.2.1]; simp only [Int.toNat_natCast, tn1, List.append_assoc, List.cons_append, List.nil_append]), by rw [Htk.out, He.out]; exact (by have h := Htx.out; simp only [Int.toNat_natCast, tn1, List.append_assoc, List.cons_append, List.nil_append] at h; exact ⟨h.own, h.bel⟩)⟩
          case measure => simp [intOf]; omega
        by_cases h2 : x.op = 2
        · obtain ⟨g1, g2, g3⟩ := hox.jump (by omega)
          obtain ⟨nn, hnn⟩ : ∃ nn : Nat, x.to = nn := ⟨x.to.toNat, by omega⟩
          have hnn2 : nn ≤ 256 := by omega
          have b1 : ((x.op : Int) == 1) = false := by rw [beq_eq_false_iff_ne]; omega
          have b2 : ((x.op : Int) == 2) = true := by rw [beq_iff_eq]; omega
          have hu : u64 x.to = nn := by rw [hnn, u64_small (by omega) (by omega)]; exact Int.toNat_natCast nn
          have He := Lib.hid (show textI x = UInt8.ofNat x.op :: numT nn by unfold textI; rw [if_neg h1, if_pos (by omega), hu])
          have hl1 := (numB_length 9 nn).2
          have HN1 := Lib.hid (fun w2 => Number_calls w2 nn (by omega))
          unfold numT at He HN1
          generalize numB 9 nn = t1 at *
          obtain ⟨op, st, to'⟩ := x
          simp only at hnn h2
          subst hnn h2
          clear h1 hu hox b1 b2
          go_wp2_with (first | (at_builtin; (refine wpList_tx_byte rfl _ _ rfl w wr _ _ _ rfl _ rfl _ Htx.out (by first | rfl | simp) (by omega) (by omega) (by first | omega | (simp only [List.length_append, List.length_cons, List.length_nil]; omega)) ?_); intro a7 n7 c7 w7 hn7 h7; have Htx := Lib.hid h7; obtain ⟨⟨k0, k1, k2, k3, k4⟩, -⟩ := fiveB h7.blk; have hXB := ltH h7.blk; clear h7))
          refine (HN1.out _).mono ?_
          rintro e w8 ⟨rfl, hb8⟩
          have h8 := Htx.out.step hb8
          have Htx := Lib.hid h8
          obtain ⟨⟨k0, k1, k2, k3, k4⟩, -⟩ := fiveB h8.blk
          have hXB := ltH h8.blk
          clear h8 hb8
          go_wp2_with (first | (at_builtin; refine wpList_tx_str rfl _ _ rfl w wr _ _ _ rfl _ rfl Htx.out (by first | omega | (simp only [List.length_append, List.length_cons, List.length_nil]; omega)) ?_; intro a7 n7 c7 w7 hn7 h7; have Htx := Lib.hid h7; obtain ⟨⟨k0, k1, k2, k3, k4⟩, -⟩ := fiveB h7.blk; have hXB := ltH h7.blk; clear h7))
          go_roundw
          case rel => exact ⟨k + 1, _, _, _, by omega, by go_num, rfl, by (obtain ⟨_, _, e⟩ := Htx.out.own.form; simp only [Value.slice.injEq] at e; rw [Htk.out, He.out, e.2.1]; simp only [tn2, List.append_assoc, List.cons_append, List.nil_append]), by rw [Htk.out, He.out]; exact (by have h := Htx.out; simp only [tn2, List.append_assoc, List.cons_append, List.nil_append] at h; exact ⟨h.own, h.bel⟩)⟩
          case measure => simp [intOf]; omega
        by_cases h4 : x.op = 4
        · obtain ⟨g1, g2, g3⟩ := hox.jump (by omega)
          obtain ⟨nn, hnn⟩ : ∃ nn : Nat, x.to = nn := ⟨x.to.toNat, by omega⟩
          have hnn2 : nn ≤ 256 := by omega
          have b1 : ((x.op : Int) == 1) = false := by rw [beq_eq_false_iff_ne]; omega
          have b2 : ((x.op : Int) == 2) = false := by rw [beq_eq_false_iff_ne]; omega
          have b4 : ((x.op : Int) == 4) = true := by rw [beq_iff_eq]; omega
          have hu : u64 x.to = nn := by rw [hnn, u64_small (by omega) (by omega)]; exact Int.toNat_natCast nn
          have He := Lib.hid (show textI x = UInt8.ofNat x.op :: numT nn by unfold textI; rw [if_neg h1, if_pos (by omega), hu])
          have hl1 := (numB_length 9 nn).2
          have HN1 := Lib.hid (fun w2 => Number_calls w2 nn (by omega))
          unfold numT at He HN1
          generalize numB 9 nn = t1 at *
          obtain ⟨op, st, to'⟩ := x
          simp only at hnn h4
          subst hnn h4
          clear h1 hu hox b1 b2 b4
          go_wp2_with (first | (at_builtin; (refine wpList_tx_byte rfl _ _ rfl w wr _ _ _ rfl _ rfl _ Htx.out (by first | rfl | simp) (by omega) (by omega) (by first | omega | (simp only [List.length_append, List.length_cons, List.length_nil]; omega)) ?_); intro a7 n7 c7 w7 hn7 h7; have Htx := Lib.hid h7; obtain ⟨⟨k0, k1, k2, k3, k4⟩, -⟩ := fiveB h7.blk; have hXB := ltH h7.blk; clear h7))
          refine (HN1.out _).mono ?_
          rintro e w8 ⟨rfl, hb8⟩
          have h8 := Htx.out.step hb8
          have Htx := Lib.hid h8
          obtain ⟨⟨k0, k1, k2, k3, k4⟩, -⟩ := fiveB h8.blk
          have hXB := ltH h8.blk
          clear h8 hb8
          go_wp2_with (first | (at_builtin; refine wpList_tx_str rfl _ _ rfl w wr _ _ _ rfl _ rfl Htx.out (by first | omega | (simp only [List.length_append, List.length_cons, List.length_nil]; omega)) ?_; intro a7 n7 c7 w7 hn7 h7; have Htx := Lib.hid h7; obtain ⟨⟨k0, k1, k2, k3, k4⟩, -⟩ := fiveB h7.blk; have hXB := ltH h7.blk; clear h7))
          go_roundw
          case rel => exact ⟨k + 1, _, _, _, by omega, by go_num, rfl, by (obtain ⟨_, _, e⟩ := Htx.out.own.form; simp only [Value.slice.injEq] at e; rw [Htk.out, He.out, e.2.1]; simp only [tn4, List.append_assoc, List.cons_append, List.nil_append]), by rw [Htk.out, He.out]; exact (by have h := Htx.out; simp only [tn4, List.append_assoc, List.cons_append, List.nil_append] at h; exact ⟨h.own, h.bel⟩)⟩
          case measure => simp [intOf]; omega
        · have b1 : ((x.op : Int) == 1) = false := by rw [beq_eq_false_iff_ne]; omega
          have b2 : ((x.op : Int) == 2) = false := by rw [beq_eq_false_iff_ne]; omega
          have b4 : ((x.op : Int) == 4) = false := by rw [beq_eq_false_iff_ne]; omega
          have He := Lib.hid (show textI x = [UInt8.ofNat x.op] by unfold textI; rw [if_neg h1, if_neg (by omega)])
          clear h1 h2 h4 hox
          go_wp2_with (first | (at_builtin; (refine wpList_tx_byte rfl _ _ rfl w wr _ _ _ rfl _ rfl _ Htx.out (by first | rfl | simp) (by omega) (by omega) (by first | omega | (simp only [List.length_append, List.length_cons, List.length_nil]; omega)) ?_); intro a7 n7 c7 w7 hn7 h7; have Htx := Lib.hid h7; obtain ⟨⟨k0, k1, k2, k3, k4⟩, -⟩ := fiveB h7.blk; have hXB := ltH h7.blk; clear h7))
          go_roundw
          case rel => exact ⟨k + 1, _, _, _, by omega, by go_num, rfl, by (obtain ⟨_, _, e⟩ := Htx.out.own.form; simp only [Value.slice.injEq] at e; rw [Htk.out, He.out, e.2.1]; simp only [Int.toNat_natCast]), by rw [Htk.out, He.out]; exact (by have h := Htx.out; simp only [Int.toNat_natCast] at h; exact ⟨h.own, h.bel⟩)⟩
          case measure => simp [intOf]; omega
      · have hkn : k = n := by omega
        subst hkn
        have hst' := hst.out
        rw [show p.take k = p by rw [List.take_of_length_le]; rw [Hln.out]; exact Nat.le_refl _] at hst' hm
        have hne : textL p ≠ [] := fun e => by
          have : 1 ≤ (textL p).length := by
            cases p with
            | nil => have := Hln.out; simp at this; omega
            | cons x p =>
              have h1 := text_pos x
              have e2 : textL (x :: p) = textI x ++ textL p := rfl
              rw [e2, List.length_append]; omega
          rw [e] at this
          simp at this
        obtain ⟨gb, cb, ev, hby, -, -⟩ := hst'.1.at hne
        rw [hm] at ev
        simp only [Value.slice.injEq, true_and] at ev
        obtain ⟨rfl, rfl⟩ := ev
        have Hbel := Lib.hid hst'.2
        have hback := conv_string Tryz.prog 104 9 5 Tryz.underlying104 Tryz.underlying9 Tryz.underlying5 wr gb m c5 (textL p) hm hby
        clear hst hst' hby hne
        by_cases hlen : m ≤ 16384
        · have HV2 := Lib.hid (show textV p = .tuple #[.string ⟨(textL p).toArray⟩, .int .i64 0] by rw [HV.out, if_pos (by omega)])
          have hlen2 : ¬ (16384 : Int) < m := by omega
          clear hlen
          go_wp2_with fail
          go_ret2
          exact ⟨by rw [HV2.out]; rfl, Hbel.out⟩
        · have HV2 := Lib.hid (show textV p = .tuple #[.string ⟨#[]⟩, .int .i64 4] by rw [HV.out, if_neg (by omega)])
          have hlen2 : (16384 : Int) < m := by omega
          clear hlen
          go_wp2_with fail
          go_ret2
          exact ⟨by rw [HV2.out]; rfl, Hbel.out⟩

end Go.Proofs.YtcjmhmmjfgjcnaaGreatDoor.Cd

/- code: joined. -/
namespace Go.Proofs.YtcjmhmmjfgjcnaaGreatDoor.Cd
open Go.RowKit Go.Proofs.YtcjmhmmjfgjcnaaGreatDoor.Lx Go.Proofs.YtcjmhmmjfgjcnaaGreatDoor.Pa

structure JnSt (w wr : World) (v : Value) (out : List Ins) : Prop where
  bel : Below w.heap.size w wr
  own : wr.ownsRow w.heap.size 63 5 v out.length (insC out)
theorem JnSt.step {w wr w' : World} {v : Value} {out : List Ins} (h : JnSt w wr v out) (hb : Below wr.heap.size wr w') : JnSt w w' v out :=
  ⟨stepH h.bel hb, ownSame h.own fun g _ hg => hb.block g hg⟩
theorem JnSt.more {w wr w' : World} {v v' : Value} {out : List Ins} {x : Ins} {n : Nat} {cs : List Value} (h : JnSt w wr v out) (hown : w'.ownsRow w.heap.size 63 5 v' n cs) (hg : wr.grownBy w' v.ownBlock)
    (hn : n = out.length + 1) (hc : cs = insC out ++ x.cells) : JnSt w w' v' (out ++ [x]) :=
  ⟨h.bel.grown hg h.bel.size fun b hb => (World.ownsRow.lt h.own b hb).1, by rw [insC_snoc, ← hc, List.length_append, List.length_singleton, ← hn]; exact hown⟩
theorem join_take (ps : List (List Ins)) (k : Nat) (h : k < ps.length) : joinI (ps.take (k + 1)) = joinOne (joinI (ps.take k)) ps[k] := by
  unfold joinI
  rw [List.take_succ_eq_append_getElem h, List.foldl_append]
  rfl
theorem total_take (ps : List (List Ins)) (k : Nat) (h : k < ps.length) : (joinI (ps.take k)).length + ps[k].length ≤ total ps := by
  rw [joinI_length]
  have h1 : total ps = total (ps.take (k + 1)) + total (ps.drop (k + 1)) := by rw [← total_app, List.take_append_drop]
  have h2 : total (ps.take (k + 1)) = total (ps.take k) + ps[k].length := by
    rw [List.take_succ_eq_append_getElem h, total_app]
    simp [total]
  unfold total at h1 h2 ⊢
  omega

theorem news1 (w : World) (cs : Array Value) {T : TypeId} {o : Obj} : ∀ (j : Nat) (u : Value), cs.toList[j]? = some u → ((w.alloc o).alloc (.cells cs T)).cell? ((⟨w.heap.size + 1, 0, none⟩ : Addr).add j) = some u := by
  have h := World.news_of_block (cs := cs) (t := T) (fr := (0, 0)) (heap_alloc_new (w.alloc o) (.cells cs T))
  have es : (w.alloc o).heap.size = w.heap.size + 1 := by simp
  rw [es] at h
  exact h

set_option maxHeartbeats 2000000 in
set_option maxRecDepth 100000 in
theorem joined_calls (w : World) (v : Value) (ps : List (List Ins)) (h : ProgsIn w v ps) (hn : ps.length ≤ 1000000) (hlen : total ps ≤ 1000000) (hto : ∀ p ∈ ps, ∀ x ∈ p, x.to ≤ 1000000) :
    Calls Tryz.prog 35 #[v] w fun e w' => ∃ v', e = .returned v' ∧ JnSt w w' v' (joinI ps) := by
  obtain ⟨a, n, c, rfl, hln, hnc, hj⟩ := h
  have Hln := Lib.hid hln
  have Hj := Lib.hid hj
  have Hlen := Lib.hid hlen
  have Hto := Lib.hid hto
  have hn2 : n ≤ 1000000 := by omega
  obtain ⟨i0, hi0, hz0, hz1, hz2⟩ := info_parts insInfo
  have Hi0 := Lib.hid hi0
  have Hz0 := Lib.hid hz0
  have Hz1 := Lib.hid hz1
  have Hz2 := Lib.hid hz2
  clear hi0 hz0 hz1 hz2 hln hj hlen hto hn
  go_enter Tryz.func35, Tryz.ntmps35
  go_wp2_with fail
  go_loopw [3, 11] (fun s3 i wr => ∃ (k m c3 : Nat) (b3 : Option Addr), k ≤ n ∧ i = .int .i64 k ∧ s3 = .slice b3 m c3 ∧ (joinI (ps.take k)).length = m ∧ Hid (JnSt w wr (.slice b3 m c3) (joinI (ps.take k)))) (fun _ i _ => n - (intOf i).toNat)
  case atStart => exact ⟨0, 0, 0, none, Nat.zero_le _, rfl, rfl, rfl, ⟨Below.refl _ _, World.ownsRow_nil _ _ _ _⟩⟩
  case round =>
    obtain ⟨k, m, c3, b3, hk, rfl, rfl, hm, hst⟩ := hrel
    have Hst := Lib.hid hst.out
    by_cases hlt : k < n
    · have hkl : k < ps.length := by rw [Hln.out]; exact hlt
      obtain ⟨g, o, ve, rfl, q0, hin⟩ := Hj.out k hkl
      have q0 := (hst.out.bel.cell (p := ⟨g, o + k, none⟩) (World.block_lt_of_cell? _ _ q0)).trans q0
      have hin := hin
      have Hjt := Lib.hid (join_take ps k hkl)
      have htt := Nat.le_trans (total_take ps k hkl) Hlen.out
      rw [hm] at htt
      have hto := Hto.out _ (List.getElem_mem hkl)
      generalize ps[k] = p at *
      obtain ⟨a5, n5, c5, rfl, hl5, hc5, hj5⟩ := hin
      have Hl5 := Lib.hid hl5
      have Hj5 := Lib.hid hj5
      have Hto5 := Lib.hid hto
      have Hm := Lib.hid hm
      rw [hl5] at htt
      clear hst hl5 hj5 hto hm
      go_wp2_with fail
      go_loopw [3, 19] (fun s3 i w2 => ∃ (j m3 c3 : Nat) (b3 : Option Addr), j ≤ n5 ∧ i = .int .i64 j ∧ s3 = .slice b3 m3 c3 ∧ m3 = m + j ∧ Hid (JnSt w w2 (.slice b3 m3 c3) (joinI (ps.take k) ++ (p.take j).map (shift m)))) (fun _ i _ => n5 - (intOf i).toNat)
      case atStart => exact ⟨0, m, c3, b3, Nat.zero_le _, rfl, rfl, rfl, by rw [List.take_zero, List.map_nil, List.append_nil]; exact Hst⟩
      case round =>
        obtain ⟨j, m3, c3, b3, hjn, rfl, rfl, rfl, hst⟩ := hrel
        have Hst := Lib.hid hst.out
        by_cases hlt5 : j < n5
        · have hjl : j < p.length := by rw [Hl5.out]; exact hlt5
          obtain ⟨g5, o5, rfl, hcl⟩ := Hj5.out j hjl
          have hgw : g5 < wr.heap.size := Nat.lt_of_lt_of_le hcl.lt hst.out.bel.size
          obtain ⟨q0, q1, q2, q3, q4⟩ := hcl.below hst.out.bel
          have htx := Hto5.out _ (List.getElem_mem hjl)
          have Hsn := Lib.hid (show (p.take (j + 1)).map (shift m) = (p.take j).map (shift m) ++ [shift m p[j]] by rw [List.take_succ_eq_append_getElem hjl, List.map_append]; rfl)
          have Hlo := Lib.hid (show (joinI (ps.take k) ++ (p.take j).map (shift m)).length = m + j by rw [List.length_append, List.length_map, List.length_take, Hm.out]; omega)
          generalize p[j] = x at *
          generalize hout : joinI (ps.take k) ++ (p.take j).map (shift m) = out at *
          have Hout := Lib.hid hout
          clear hout
          by_cases hx : 0 < x.to
          · have He := Lib.hid (show shift m x = ⟨x.op, x.st, (x.to + m)⟩ by unfold shift; rw [if_pos hx])
            have Hst2 := Lib.hid ((Hst.out.step (allocB wr (.cells #[.int .u8 x.op, .int .u8 x.st.kind, .string ⟨x.st.text.toArray⟩, .int .i64 x.st.num, .int .i64 (x.to + m)] 63))).step (allocB (wr.alloc (.cells #[.int .u8 x.op, .int .u8 x.st.kind, .string ⟨x.st.text.toArray⟩, .int .i64 x.st.num, .int .i64 (x.to + m)] 63)) (.cells #[.int .u8 x.op, .int .u8 x.st.kind, .string ⟨x.st.text.toArray⟩, .int .i64 x.st.num, .int .i64 (x.to + m)] 63)))
            have hown := Hst2.out.own
            rw [Hlo.out] at hown
            have Hown := Lib.hid hown
            clear hst hown hcl hin
            go_wp2_with (at_builtin; go_must (refine wpList_append_own_at _ rfl _ _ 23 rfl w.heap.size 63 i0 _ 5 48 Tryz.underlying23 Hi0.out Hz0.out Hz1.out Hz2.out rfl (by decide) _ (m + j) (insC out) rfl Hown.out ⟨wr.heap.size + 1, 0, none⟩ 1 1 (Ins.cells ⟨x.op, x.st, (x.to + m)⟩) rfl rfl ?c1 ?c2 ?c3 ?c4 ?c5 ?_))
            case c1 => first | exact news1 wr #[.int .u8 x.op, .int .u8 x.st.kind, .string ⟨x.st.text.toArray⟩, .int .i64 x.st.num, .int .i64 (x.to + m)] | exact fun j u h => h
            case c2 => simp [Ins.cells, Value.oneCell']
            case c3 => unfold maxLen; omega
            case c4 => omega
            case c5 => first | exact Hst2.out.bel.size | exact Nat.le_trans Hst.out.bel.size (Nat.le_add_right _ 2)
            intro v7 w7 hown7 hgrow7 _ hat7
            have Hst7 := Lib.hid (Hst2.out.more hown7 hgrow7 (by rw [Hlo.out]) rfl)
            obtain ⟨a7, c7, rfl⟩ := ownForm hown7
            clear hown7 hgrow7 hat7
            go_wp2_with fail
            go_roundw
            case rel => exact ⟨j + 1, m + j + 1, c7, a7, by omega, by go_num, rfl, by omega, by rw [Hsn.out, He.out, ← List.append_assoc, Hout.out]; exact Hst7⟩
            case measure => simp [intOf]; omega
          · have He := Lib.hid (show shift m x = ⟨x.op, x.st, x.to⟩ by unfold shift; rw [if_neg hx])
            have Hst2 := Lib.hid ((Hst.out.step (allocB wr (.cells #[.int .u8 x.op, .int .u8 x.st.kind, .string ⟨x.st.text.toArray⟩, .int .i64 x.st.num, .int .i64 x.to] 63))).step (allocB (wr.alloc (.cells #[.int .u8 x.op, .int .u8 x.st.kind, .string ⟨x.st.text.toArray⟩, .int .i64 x.st.num, .int .i64 x.to] 63)) (.cells #[.int .u8 x.op, .int .u8 x.st.kind, .string ⟨x.st.text.toArray⟩, .int .i64 x.st.num, .int .i64 x.to] 63)))
            have hown := Hst2.out.own
            rw [Hlo.out] at hown
            have Hown := Lib.hid hown
            clear hst hown hcl hin
            go_wp2_with (at_builtin; go_must (refine wpList_append_own_at _ rfl _ _ 23 rfl w.heap.size 63 i0 _ 5 48 Tryz.underlying23 Hi0.out Hz0.out Hz1.out Hz2.out rfl (by decide) _ (m + j) (insC out) rfl Hown.out ⟨wr.heap.size + 1, 0, none⟩ 1 1 (Ins.cells ⟨x.op, x.st, x.to⟩) rfl rfl ?c1 ?c2 ?c3 ?c4 ?c5 ?_))
            case c1 => first | exact news1 wr #[.int .u8 x.op, .int .u8 x.st.kind, .string ⟨x.st.text.toArray⟩, .int .i64 x.st.num, .int .i64 x.to] | exact fun j u h => h
            case c2 => simp [Ins.cells, Value.oneCell']
            case c3 => unfold maxLen; omega
            case c4 => omega
            case c5 => first | exact Hst2.out.bel.size | exact Nat.le_trans Hst.out.bel.size (Nat.le_add_right _ 2)
            intro v7 w7 hown7 hgrow7 _ hat7
            have Hst7 := Lib.hid (Hst2.out.more hown7 hgrow7 (by rw [Hlo.out]) rfl)
            obtain ⟨a7, c7, rfl⟩ := ownForm hown7
            clear hown7 hgrow7 hat7
            go_wp2_with fail
            go_roundw
            case rel => exact ⟨j + 1, m + j + 1, c7, a7, by omega, by go_num, rfl, by omega, by rw [Hsn.out, He.out, ← List.append_assoc, Hout.out]; exact Hst7⟩
            case measure => simp [intOf]; omega
        · have hjn' : j = n5 := by omega
          subst hjn'
          have Htk := Lib.hid (show p.take j = p by rw [List.take_of_length_le]; rw [Hl5.out]; exact Nat.le_refl _)
          have hst' := Hst.out
          rw [Htk.out] at hst'
          have Hst' := Lib.hid hst'
          have Hnx := Lib.hid (show joinI (ps.take (k + 1)) = joinI (ps.take k) ++ p.map (shift m) by rw [Hjt.out]; unfold joinOne; rw [Hm.out])
          clear hst hst'
          go_wp2_with fail
          go_roundw
          case rel => exact ⟨k + 1, m + j, c3, b3, by omega, by go_num, rfl, by rw [Hnx.out, List.length_append, List.length_map, Hm.out, Hl5.out], by rw [Hnx.out]; exact Hst'⟩
          case measure => simp [intOf]; omega
    · have hkn : k = n := by omega
      subst hkn
      have hst' := hst.out
      rw [show ps.take k = ps by rw [List.take_of_length_le]; rw [Hln.out]; exact Nat.le_refl _] at hst'
      have Hst' := Lib.hid hst'
      clear hst hst'
      go_wp2_with fail
      go_ret
      exact ⟨_, rfl, Hst'.out⟩

end Go.Proofs.YtcjmhmmjfgjcnaaGreatDoor.Cd

/- code: logic. -/
namespace Go.Proofs.YtcjmhmmjfgjcnaaGreatDoor.Cd
open Go.RowKit Go.Proofs.YtcjmhmmjfgjcnaaGreatDoor.Lx Go.Proofs.YtcjmhmmjfgjcnaaGreatDoor.Pa

theorem JnSt.later {w w1 w' : World} {v : Value} {out : List Ins} (h : JnSt w1 w' v out) (hb : Below w.heap.size w w1) : JnSt w w' v out :=
  ⟨stepH hb h.bel, ownBase h.own hb.size⟩
theorem InsIn.one {w : World} {B : Nat} {op : Nat} {tg : Int} (h : w.heap[B]? = some (.cells #[.int .u8 op, .int .u8 0, .string ⟨#[]⟩, .int .i64 0, .int .i64 tg] 63)) : InsIn w (.slice (some ⟨B, 0, none⟩) 1 1) [⟨op, stp0, tg⟩] := by
  obtain ⟨⟨k0, k1, k2, k3, k4⟩, -⟩ := fiveB h
  refine ⟨_, _, _, rfl, rfl, Nat.le_refl _, fun i hi => ⟨B, 0, rfl, ?_⟩⟩
  obtain rfl : i = 0 := by simp at hi; omega
  exact ⟨k0, k1, k2, k3, k4⟩
theorem ProgsIn.four {w : World} {B : Nat} {va vj vb vc : Value} {a j b c : List Ins} {T : TypeId} (h : w.heap[B]? = some (.cells #[va, vj, vb, vc] T)) (ha : InsIn w va a) (hj : InsIn w vj j) (hb : InsIn w vb b) (hc : InsIn w vc c) :
    ProgsIn w (.slice (some ⟨B, 0, none⟩) 4 4) [a, j, b, c] := by
  refine ⟨_, _, _, rfl, rfl, Nat.le_refl _, fun i hi => ?_⟩
  match i, hi with
  | 0, _ => exact ⟨B, 0, va, rfl, by simp [World.cell?, h], ha⟩
  | 1, _ => exact ⟨B, 0, vj, rfl, by simp [World.cell?, h], hj⟩
  | 2, _ => exact ⟨B, 0, vb, rfl, by simp [World.cell?, h], hb⟩
  | 3, _ => exact ⟨B, 0, vc, rfl, by simp [World.cell?, h], hc⟩

set_option maxHeartbeats 2000000 in
set_option maxRecDepth 100000 in
theorem logic_calls (w : World) (jump behind : Nat) (va vb : Value) (a b : List Ins) (ha : InsIn w va a) (hb : InsIn w vb b) (hla : a.length ≤ 100000) (hlb : b.length ≤ 100000) (hta : ∀ x ∈ a, x.to ≤ 1000000) (htb : ∀ x ∈ b, x.to ≤ 1000000) :
    Calls Tryz.prog 34 #[.int .u8 jump, .int .u8 behind, va, vb] w fun e w' => ∃ v', e = .returned v' ∧ JnSt w w' v' (logicI jump behind a b) := by
  obtain ⟨aa, na, ca, rfl, -⟩ := id ha
  obtain ⟨ab, nb, cb, rfl, hnb, -⟩ := id hb
  have hnb2 : nb ≤ 100000 := by omega
  have Hlg := Lib.hid (show logicI jump behind a b = joinI [a, [⟨jump, stp0, (nb : Int) + 2⟩], b, [⟨behind, stp0, 0⟩]] by rw [← hnb]; rfl)
  have hb1 := allocB w (.cells #[.int .u8 jump, .int .u8 0, .string ⟨#[]⟩, .int .i64 0, .int .i64 ((nb : Int) + 2)] 63)
  have hb2 := allocB (w.alloc (.cells #[.int .u8 jump, .int .u8 0, .string ⟨#[]⟩, .int .i64 0, .int .i64 ((nb : Int) + 2)] 63)) (.cells #[.int .u8 behind, .int .u8 0, .string ⟨#[]⟩, .int .i64 0, .int .i64 0] 63)
  have hb3 := allocB ((w.alloc (.cells #[.int .u8 jump, .int .u8 0, .string ⟨#[]⟩, .int .i64 0, .int .i64 ((nb : Int) + 2)] 63)).alloc (.cells #[.int .u8 behind, .int .u8 0, .string ⟨#[]⟩, .int .i64 0, .int .i64 0] 63)) (.cells #[.slice aa na ca, .slice (some ⟨w.heap.size, 0, none⟩) 1 1, .slice ab nb cb, .slice (some ⟨w.heap.size + 1, 0, none⟩) 1 1] 23)
  have h1 := heap_alloc_new w (.cells #[.int .u8 jump, .int .u8 0, .string ⟨#[]⟩, .int .i64 0, .int .i64 ((nb : Int) + 2)] 63)
  have h2 := heap_alloc_new (w.alloc (.cells #[.int .u8 jump, .int .u8 0, .string ⟨#[]⟩, .int .i64 0, .int .i64 ((nb : Int) + 2)] 63)) (.cells #[.int .u8 behind, .int .u8 0, .string ⟨#[]⟩, .int .i64 0, .int .i64 0] 63)
  have h3 := heap_alloc_new ((w.alloc (.cells #[.int .u8 jump, .int .u8 0, .string ⟨#[]⟩, .int .i64 0, .int .i64 ((nb : Int) + 2)] 63)).alloc (.cells #[.int .u8 behind, .int .u8 0, .string ⟨#[]⟩, .int .i64 0, .int .i64 0] 63)) (.cells #[.slice aa na ca, .slice (some ⟨w.heap.size, 0, none⟩) 1 1, .slice ab nb cb, .slice (some ⟨w.heap.size + 1, 0, none⟩) 1 1] 23)
  have e1 : (w.alloc (.cells #[.int .u8 jump, .int .u8 0, .string ⟨#[]⟩, .int .i64 0, .int .i64 ((nb : Int) + 2)] 63)).heap.size = w.heap.size + 1 := by simp
  have e2 : ((w.alloc (.cells #[.int .u8 jump, .int .u8 0, .string ⟨#[]⟩, .int .i64 0, .int .i64 ((nb : Int) + 2)] 63)).alloc (.cells #[.int .u8 behind, .int .u8 0, .string ⟨#[]⟩, .int .i64 0, .int .i64 0] 63)).heap.size = w.heap.size + 2 := by simp
  have hp := ProgsIn.four h3 (((ha.below hb1).below hb2).below hb3) (((InsIn.one h1).below hb2).below hb3) (((hb.below hb1).below hb2).below hb3) (by
    have := (InsIn.one h2).below hb3
    rw [e1] at this
    exact this)
  rw [e2] at hp
  have Hj := Lib.hid (joined_calls _ _ _ hp (by simp) (by simp [total]; omega) (by
    intro p hpm x hx
    simp only [List.mem_cons, List.not_mem_nil, or_false] at hpm
    rcases hpm with rfl | rfl | rfl | rfl
    · exact hta x hx
    · rw [List.mem_singleton] at hx; subst hx; simp only; omega
    · exact htb x hx
    · rw [List.mem_singleton] at hx; subst hx; simp only; omega))
  have Hb := Lib.hid (stepH (stepH hb1 hb2) hb3)
  clear ha hb hla hlb hta htb hnb hb1 hb2 hb3 h1 h2 h3 e1 e2 hp
  go_enter Tryz.func34, Tryz.ntmps34
  go_wp2_with fail
  refine Hj.out.mono ?_
  rintro e w' ⟨v', rfl, hst⟩
  have Hst := Lib.hid (hst.later Hb.out)
  clear hst
  go_wp2_with fail
  go_ret
  exact ⟨_, rfl, by rw [Hlg.out]; exact Hst.out⟩

end Go.Proofs.YtcjmhmmjfgjcnaaGreatDoor.Cd
