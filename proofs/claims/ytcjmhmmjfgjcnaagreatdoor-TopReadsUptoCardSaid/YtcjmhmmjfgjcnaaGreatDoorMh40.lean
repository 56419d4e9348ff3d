/- Parts: PhT LxT PhZ. -/
import Derived.Test.YtcjmhmmjfgjcnaaGreatDoorMh03
import Derived.Test.YtcjmhmmjfgjcnaaGreatDoorMh04
import Derived.Test.YtcjmhmmjfgjcnaaGreatDoorMh11
import Derived.Test.YtcjmhmmjfgjcnaaGreatDoorMh14
import Derived.Test.YtcjmhmmjfgjcnaaGreatDoorMh15
import Derived.Test.YtcjmhmmjfgjcnaaGreatDoorMh39
import Derived.WalkKit
import Derived.ProofKit
import Derived.OpenShut
import Derived.Deep.DeepHandedRow
import Derived.Deep.DeepWitnessRowRef
import Derived.Carry
import Derived.SevenTiedAt
import Derived.Lay
import Derived.Lib.LaidU8T
import Derived.PinnedBridge
import Derived.MakeChecks
import Derived.Shelf.Vars
import Derived.Test.YtcjmhmmjfgjcnaaGreatDoorRows
import Derived.Test.YtcjmhmmjfgjcnaaGreatDoorCards
import Derived.Test.YtcjmhmmjfgjcnaaGreatDoorTie

/- TopReads: the walk. -/
namespace Go.Proofs.YtcjmhmmjfgjcnaaGreatDoor.Pa
open Go.RowKit Go.Proofs.YtcjmhmmjfgjcnaaGreatDoor.Lx Go.Proofs.YtcjmhmmjfgjcnaaGreatDoor.Sh

theorem pr_below {w w' : World} {st : Stm} {vi ve : Value} (h : PrArgs w st vi ve) (hb : Below w.heap.size w w') : PrArgs w' st vi ve :=
  ⟨⟨h.ck.hi.below hb, h.ck.hv.below hb, h.ck.ht, h.ck.hf, h.ck.hl, h.ck.hy, h.ck.hil, h.ck.his, h.ck.he.below hb⟩, h.hn, h.hin⟩
structure RdM (w wr : World) (B : Nat) (st : Stm) (vi ve : Value) (a : Option Addr) (toks : List Lx.Tok) (tx : ByteArray) (want : List Lx.Tok) (k : Nat) : Prop where
  bel : Below w.heap.size w wr
  blk : wr.heap[B]? = some (.cells (smC st vi ve) 33)
  pr : PrArgs wr st vi ve
  lie : ToksIn wr a toks
  trail : Trail (L tx) want
  er : want.map Tok.er = (toks.take k).map Tok.er
  len : tx.size ≤ 16386 * k
theorem RdM.step {w wr w' : World} {B : Nat} {st : Stm} {vi ve : Value} {a : Option Addr} {toks : List Lx.Tok} {tx : ByteArray} {want : List Lx.Tok} {k : Nat} (h : RdM w wr B st vi ve a toks tx want k) (hb : Below wr.heap.size wr w') : RdM w w' B st vi ve a toks tx want k :=
  ⟨stepB h.bel hb, (hb.block _ (lt_of_heap h.blk)).trans h.blk, pr_below h.pr hb, h.lie.below hb, h.trail, h.er, h.len⟩
theorem RdM.more {w wr : World} {B : Nat} {st : Stm} {vi ve : Value} {a : Option Addr} {toks : List Lx.Tok} {tx : ByteArray} {want : List Lx.Tok} {k : Nat} (h : RdM w wr B st vi ve a toks tx want k) (hk : k < toks.length) (ho : showOk toks[k] = true) :
    RdM w wr B st vi ve a toks (tx ++ (⟨(showS toks[k]).toArray⟩ ++ ⟨#[32, 10]⟩)) (want ++ [{ toks[k] with pos := (L tx).length }]) (k + 1) := by
  have hl := shown_length ho
  have e : L (tx ++ (⟨(showS toks[k]).toArray⟩ ++ ⟨#[32, 10]⟩)) = L tx ++ (showS toks[k] ++ (32 :: [10])) := by
    simp [L, ByteArray.data_append]
  refine ⟨h.bel, h.blk, h.pr, h.lie, ?_, ?_, ?_⟩
  · rw [e]
    exact h.trail.more ho (b := [10]) (by intro c hc; rw [List.mem_singleton] at hc; subst hc; rfl)
  · rw [List.take_succ_eq_append_getElem hk, List.map_append, List.map_append, h.er]
    rfl
  · have := h.len
    rw [ByteArray.size_append, ByteArray.size_append, size_mk]
    show tx.size + ((showS toks[k]).length + 2) ≤ _
    omega

set_option maxHeartbeats 8000000 in
set_option maxRecDepth 100000 in
theorem TopReads_calls (s : ByteArray) (w : World) (hs : s.size ≤ 1048576) (he : Env w) (hc : KC w) :
    Calls Tryz.prog 4 #[.string s] w fun e w' => e = .returned (.bool true) ∧ Below w.heap.size w w' := by
  have He := Lib.hid he
  have Hc := Lib.hid hc
  have Hs := Lib.hid (show s.size ≤ maxLen by unfold maxLen; omega)
  obtain ⟨n0, hn0⟩ := parseF_total (L s)
  obtain ⟨r, hr⟩ := hn0 n0 (Nat.le_refl _)
  have Hr := Bx.mk hr
  have Hbg := Lib.hid (begins_calls w hc)
  have HP := Lib.hid (fun w2 (hb : Below w.heap.size w w2) => Parse_calls n0 s w2 (show s.size ≤ maxLen by unfold maxLen; omega) (he.below hb) hr)
  clear he hc hs hn0
  cases hl : lexL (L s) with
  | err c p =>
    have hrr : r = .err c p := by unfold parseF at hr; rw [hl] at hr; exact (Option.some.inj hr).symm
    subst hrr
    have hne := lexL_ne hl
    have HL := Lib.hid (fun w2 (hb : Below w.heap.size w w2) => Lex_err s w2 Hs.out (He.out.below hb) hl)
    clear hr hl
    go_enter Tryz.func4, Tryz.ntmps4
    go_wp2_with fail
    refine Hbg.out.mono ?_
    rintro e w1 ⟨rfl, hb1⟩
    have Hb1 := Lib.hid hb1
    clear hb1
    go_wp2_with fail
    refine (HP.out _ Hb1.out).mono ?_
    rintro e w2 ⟨hb2, hg2⟩
    simp only at hg2
    subst hg2
    have Hb2 := Lib.hid (stepB Hb1.out hb2)
    clear hb2
    unfold Stm.val
    go_wp2_with fail
    refine (HL.out _ (stepB Hb2.out (alloc_below _ _))).mono ?_
    rintro e w3 ⟨rfl, hb3⟩
    have Hb3 := Lib.hid (stepB (stepB Hb2.out (alloc_below _ _)) hb3)
    clear hb3
    by_cases c13 : c = 13
    · subst c13
      go_wp2_with fail
      go_ret
      exact ⟨rfl, Hb3.out⟩
    by_cases c18 : c = 18
    · subst c18
      go_wp2_with fail
      go_ret
      exact ⟨rfl, Hb3.out⟩
    by_cases c10 : c = 10
    · subst c10
      go_wp2_with fail
      go_ret
      exact ⟨rfl, Hb3.out⟩
    by_cases c3 : c = 3
    · subst c3
      go_wp2_with fail
      go_ret
      exact ⟨rfl, Hb3.out⟩
    have d13 : ((c : Int) == 13) = false := by rw [beq_eq_false_iff_ne]; omega
    have d18 : ((c : Int) == 18) = false := by rw [beq_eq_false_iff_ne]; omega
    have d10 : ((c : Int) == 10) = false := by rw [beq_eq_false_iff_ne]; omega
    have d3 : ((c : Int) == 3) = false := by rw [beq_eq_false_iff_ne]; omega
    clear c13 c18 c10 c3
    go_wp2_with fail
    go_ret
    exact ⟨rfl, Hb3.out⟩
  | ok toks =>
    have Hl := Bx.mk hl
    have HL := Lib.hid (fun w2 (hb : Below w.heap.size w w2) => Lex_ok s w2 Hs.out (He.out.below hb) hl)
    cases r with
    | err c a =>
      have hcode : c = 13 ∨ c = 18 ∨ c = 10 ∨ c = 3 := by
        rcases parseF_codes hr with h | h | h | h | ⟨p, h⟩
        · exact .inl h
        · exact .inr (.inl h)
        · exact .inr (.inr (.inl h))
        · exact .inr (.inr (.inr h))
        · rw [hl] at h; cases h
      clear hr hl
      go_enter Tryz.func4, Tryz.ntmps4
      go_wp2_with fail
      refine Hbg.out.mono ?_
      rintro e w1 ⟨rfl, hb1⟩
      have Hb1 := Lib.hid hb1
      clear hb1
      go_wp2_with fail
      refine (HP.out _ Hb1.out).mono ?_
      rintro e w2 ⟨hb2, hg2⟩
      simp only at hg2
      subst hg2
      have Hb2 := Lib.hid (stepB Hb1.out hb2)
      clear hb2
      unfold Stm.val
      go_wp2_with fail
      refine (HL.out _ (stepB Hb2.out (alloc_below _ _))).mono ?_
      rintro e w3 ⟨a3, c3, rfl, -, hb3⟩
      have Hb3 := Lib.hid (stepB (stepB Hb2.out (alloc_below _ _)) hb3)
      clear hb3
      rcases hcode with rfl | rfl | rfl | rfl
      all_goals
        go_wp2_with fail
        go_ret
        exact ⟨rfl, Hb3.out⟩
    | ok st =>
      have hck := parseF_right hr
      obtain ⟨pt, pc, hPV⟩ : ∃ (s : ByteArray) (c : Int), printV st = .tuple #[.string s, .int .i64 c] ∧ c = 0 := by
        unfold printV; rw [if_pos hck]; exact ⟨_, _, rfl, rfl⟩
      obtain ⟨hPV, rfl⟩ := hPV
      have HPr := Lib.hid (fun (vi ve : Value) (w2 : World) (h : PrArgs w2 st vi ve) => hPV ▸ Print_calls st w2 vi ve h)
      have Hsok := Lib.hid (fun (k : Nat) (hk : k < toks.length) => (places hl k hk).show_)
      have Hfit := Lib.hid (fun (k : Nat) (hk : k < toks.length) => lexL_fits hl toks[k] (List.getElem_mem hk))
      have hcnt : toks.length ≤ 16384 := toks_few hl
      clear hr hl hck hPV
      go_enter Tryz.func4, Tryz.ntmps4
      go_wp2_with fail
      refine Hbg.out.mono ?_
      rintro e w1 ⟨rfl, hb1⟩
      have Hb1 := Lib.hid hb1
      clear hb1
      go_wp2_with fail
      refine (HP.out _ Hb1.out).mono ?_
      rintro e w2 ⟨hb2, vi, ve, rfl, hi, hv, hst, -, -⟩
      obtain ⟨ai, ni, ci, rfl, -⟩ := id hi
      obtain ⟨ae, ne, ce, rfl, -⟩ := id hv
      have Hb2 := Lib.hid (stepB Hb1.out hb2)
      have Hpr2 := Lib.hid (hst.pr hi hv (He.out.below Hb2.out))
      have Hst := Lib.hid hst
      clear hb2 hi hv hst
      have Hblk := Lib.hid (heap_alloc_new w2 (.cells (smC st (.slice ai ni ci) (.slice ae ne ce)) 33))
      have Hb2a := Lib.hid (stepB Hb2.out (alloc_below w2 (.cells (smC st (.slice ai ni ci) (.slice ae ne ce)) 33)))
      unfold Stm.val
      go_wp2_with fail
      refine (HL.out _ Hb2a.out).mono ?_
      rintro e w3 ⟨a3, c3, rfl, hta, hb3⟩
      have Hm := Lib.hid (show RdM w w3 w2.heap.size st (.slice ai ni ci) (.slice ae ne ce) a3 toks ⟨#[]⟩ [] 0 from
        ⟨stepB Hb2a.out hb3, (hb3.block _ (by simp)).trans Hblk.out, pr_below (pr_below Hpr2.out (alloc_below _ _)) hb3, ownsRow_toks hta rfl, Trail.nil, rfl, Nat.zero_le _⟩)
      clear hta hb3
      obtain ⟨n, hn⟩ : ∃ n, n = toks.length := ⟨_, rfl⟩
      have Hn := Bx.mk hn
      rw [← hn] at hcnt
      rw [← hn]
      clear hn
      go_wp2_with fail
      go_loopw [9, 58] (fun s9 i wr => ∃ (k : Nat) (tx : ByteArray) (want : List Lx.Tok), k ≤ n ∧ s9 = .string tx ∧ i = .int .i64 k ∧ Hid (RdM w wr w2.heap.size st (.slice ai ni ci) (.slice ae ne ce) a3 toks tx want k)) (fun _ i _ => n - (intOf i).toNat)
      case atStart => exact ⟨0, _, _, Nat.zero_le _, rfl, rfl, Hm⟩
      case round =>
        obtain ⟨k, tx, want, hk, rfl, rfl, P⟩ := hrel
        clear Hm
        by_cases hlt : k < n
        · have hkl : k < toks.length := by rw [← Hn.out]; exact hlt
          obtain ⟨g, rfl, ⟨q0, q1, q2, q3⟩⟩ := P.out.lie k hkl
          have hok := Hsok.out k hkl
          have hfit := Hfit.out k hkl
          have hsl := shown_length hok
          have hlen := P.out.len
          have Hmore := Lib.hid (fun (wx : World) (h : RdM w wx w2.heap.size st (.slice ai ni ci) (.slice ae ne ce) (some ⟨g, 0, none⟩) toks tx want k) => h.more hkl hok)
          have hsv : showV toks[k] = .tuple #[.string ⟨(showS toks[k]).toArray⟩, .int .i64 0] := by unfold showV; rw [if_pos hok]
          have Hsh := Lib.hid (fun (wx : World) (hb : Below w.heap.size w wx) => hsv ▸ Show_calls toks[k] toks[k].pos wx (by have := hfit.txt; omega) (by have := hfit.lo; omega) hfit.hi (by omega) (He.out.below hb))
          clear hok hfit hsv
          generalize toks[k] = t at *
          have hbw : tx.size ≤ 268500000 := by
            have := Nat.mul_le_mul_left 16386 (show k ≤ 16384 by omega)
            omega
          have z0 : (showS t).length + 2 ≤ 9223372036854775807 := by omega
          have z1 : ¬ 9223372036854775807 < (showS t).length + 2 := by omega
          have z2 : tx.size + ((showS t).length + 2) ≤ 9223372036854775807 := by omega
          have z3 : ¬ 9223372036854775807 < tx.size + ((showS t).length + 2) := by omega
          have HP1 := Lib.hid (P.out.step (alloc_below wr (.cells #[.int .u8 t.kind, .string ⟨t.text.toArray⟩, .int .i64 t.num, .int .i64 t.pos] 41)))
          go_wp2_with fail
          refine (Hsh.out _ HP1.out.bel).mono ?_
          rintro e w5 ⟨rfl, hb5⟩
          have HP5 := Lib.hid (Hmore.out _ (HP1.out.step hb5))
          clear hb5 q0 q1 q2 q3
          go_wp2_with fail
          go_roundw
          case rel => exact ⟨k + 1, _, _, by omega, rfl, by go_num, HP5⟩
          case measure => simp [intOf]; omega
        · have hkn : k = n := by omega
          subst hkn
          have her := P.out.er
          rw [List.take_of_length_le (by rw [← Hn.out]; exact Nat.le_refl _)] at her
          have Her := Bx.mk her
          have Hp := Lib.hid (HPr.out (.slice ai ni ci) (.slice ae ne ce) wr P.out.pr)
          have hlen := P.out.len
          clear her
          obtain ⟨⟨k0, k1, k2, k3, k4, k5, k6⟩, -⟩ := seven P.out.blk
          go_wp2_with fail
          refine Hp.out.mono ?_
          rintro e w5 ⟨rfl, hb5⟩
          have HP5 := Lib.hid (P.out.step hb5)
          clear hb5 k0 k1 k2 k3 k4 k5 k6
          by_cases hbig : 16384 < tx.size
          · have z0 : decide ((16384 : Int) < (tx.size : Int)) = true := by rw [decide_eq_true_iff]; omega
            have z1 : (16384 : Int) < (tx.size : Int) := by omega
            go_wp2_with fail
            go_ret
            exact ⟨rfl, HP5.out.bel⟩
          · have z0 : decide ((16384 : Int) < (tx.size : Int)) = false := by rw [decide_eq_false_iff_not]; omega
            have z1 : ¬ (16384 : Int) < (tx.size : Int) := by omega
            have HP2 := Lib.hid (Parse_calls n0 tx w5 (by unfold maxLen; omega) (He.out.below HP5.out.bel) (reads_law Hl.out P.out.trail (by rw [L_length]; omega) Her.out Hr.out))
            go_wp2_with fail
            refine HP2.out.mono ?_
            rintro e w6 ⟨hb6, vi6, ve6, rfl, hi6, hv6, hst6, -, -⟩
            obtain ⟨ai6, ni6, ci6, rfl, -⟩ := id hi6
            obtain ⟨ae6, ne6, ce6, rfl, -⟩ := id hv6
            have Hb6 := Lib.hid (stepB HP5.out.bel hb6)
            have Hpr6 := Lib.hid (pr_below (hst6.pr hi6 hv6 (He.out.below Hb6.out)) (alloc_below w6 (.cells (smC st (.slice ai6 ni6 ci6) (.slice ae6 ne6 ce6)) 33)))
            have Hp7 := Lib.hid (HPr.out _ _ _ Hpr6.out)
            have Hb7 := Lib.hid (stepB Hb6.out (alloc_below w6 (.cells (smC st (.slice ai6 ni6 ci6) (.slice ae6 ne6 ce6)) 33)))
            clear hb6 hi6 hv6 hst6
            unfold Stm.val at Hp7 ⊢
            go_wp2_with fail
            refine Hp7.out.mono ?_
            rintro e w8 ⟨rfl, hb8⟩
            have Hb8 := Lib.hid (stepB Hb7.out hb8)
            clear hb8
            go_wp2_with fail
            go_ret
            exact ⟨rfl, Hb8.out⟩

end Go.Proofs.YtcjmhmmjfgjcnaaGreatDoor.Pa

/- The frame of a law: a call that answers true and turns nothing old meets the row's post. Nothing here speaks of the program. -/
namespace Go.Proofs.YtcjmhmmjfgjcnaaGreatDoor.Lx
open Go.RowKit Go.ChangeShapes

theorem stay_all {H : Type} {enc : TypeId × Value → H} {P : Program} (hl : laidOutB P = true) {W W' : World} (hb : Below W.heap.size W W') :
    ∀ {ts : List TypeId} {vs : List Value} {ds : List (DataW H)} {ps : List MemPlace}, ts.all (fun t => P.readableRec t && decide (t < P.types.size)) = true →
      DataW.TrodAll enc P W 0 (fun _ => true) true ts vs ds ps → (∀ x ∈ ps, x.block < W.heap.size) → DataW.TrodAll enc P W' 0 (fun b => decide (b < W.heap.size)) true ts vs ds ps
  | [], _, _, _, _, h, _ => by
    obtain ⟨rfl, rfl, rfl⟩ := trodAll_nil h
    exact rfl
  | t :: ts, _, _, _, ht, h, hlt => by
    obtain ⟨v, vs, d, ds, p, q, rfl, rfl, rfl, h0, hr⟩ := trodAll_cons h
    simp only [List.all_cons, Bool.and_eq_true, decide_eq_true_eq] at ht
    exact ⟨p, q, Below.trod hl ht.1.1 ht.1.2 h0 hb fun x hx => hlt x (by simp [hx]), stay_all hl hb (by simpa using ht.2) hr fun x hx => hlt x (by simp [hx]), rfl⟩

theorem law_post {H : Type} {enc : TypeId × Value → H} {P : Program} {fn : Func} {s : ChangeSpec} {tb : TypeId} {W W' : World} {args : Array Value} {ds gs : List (DataW H)} {before : List MemPlace}
    (hl : laidOutB P = true) (hts : fn.params.toList.all (fun t => P.readableRec t && decide (t < P.types.size)) = true) (hr : fn.resultTypes = #[tb]) (hb : P.underlying tb = some .bool) (hv : s.vars = [])
    (hW : DataW.Whole enc P fn.params.toList s.vars false W args.toList ds gs before) (hfn : s.fn H (ds ++ gs) = { results := [.lit (.bool true)], args := ds }) (bel : Below W.heap.size W W') :
    s.post enc P fn false true false false W args (.bool true) W' := by
  have hW' := hW
  have hlt := hW.lt
  obtain ⟨p, q, hA, hV, rfl, _, _⟩ := hW
  rw [hv] at hV
  obtain ⟨rfl, rfl⟩ := trodVars_none hV
  refine ⟨ds, [], p ++ [], [], p, [], hW', ?_, ?_, ?_, bel.frame _, fun h => by cases h⟩
  · rw [hfn, hr]; exact trodAll_mk1 (shut_bool hb _)
  · rw [hfn]; exact stay_all hl bel hts hA fun x hx => hlt x (by simpa using hx)
  · rw [hfn, hv]; rfl
theorem law_calls {H : Type} {enc : TypeId × Value → H} {P : Program} {fid : FuncId} {fn : Func} {s : ChangeSpec} {tb : TypeId} {W : World} {args : Array Value} {ds gs : List (DataW H)} {before : List MemPlace}
    (hl : laidOutB P = true) (hts : fn.params.toList.all (fun t => P.readableRec t && decide (t < P.types.size)) = true) (hr : fn.resultTypes = #[tb]) (hb : P.underlying tb = some .bool) (hv : s.vars = [])
    (hW : DataW.Whole enc P fn.params.toList s.vars false W args.toList ds gs before) (hfn : s.fn H (ds ++ gs) = { results := [.lit (.bool true)], args := ds })
    (walk : Calls P fid args W fun e W' => e = .returned (.bool true) ∧ Below W.heap.size W W') :
    Calls P fid args W fun e W' => ∃ v, e = .returned v ∧ s.post enc P fn false true false false W args v W' :=
  walk.mono fun _ _ ⟨he, hbel⟩ => ⟨_, he, law_post hl hts hr hb hv hW hfn hbel⟩

theorem iface_of_reads {P : Program} {W : World} {name : String} {g : Nat} {t : TypeId} {ms : Array (String × TypeId)} {d : DataW Unit} {tn : String}
    (hg : P.globalNamed name = some g) (hty : (P.globals[g]?).map (·.type) = some t) (ht : P.underlying t = some (.interface ms)) (h : Go.Lib.VarReads P W name (.iface tn d)) :
    ∃ ev, W.cell? ⟨g, 0, none⟩ = some ev ∧ (ev = .nilIface ∨ ∃ te pe, ev = .iface te pe) := by
  obtain ⟨g', t', cs, fuel, p, hg', hty', hvar, hd⟩ := h
  obtain rfl := Option.some.inj (hg.symm.trans hg')
  obtain rfl := Option.some.inj (hty.symm.trans hty')
  have hc := World.var?_cell hg hvar 0
  cases fuel with
  | zero => simp [DataW.trod] at hd
  | succ fuel =>
    unfold DataW.trod at hd
    simp only [ht] at hd
    split at hd <;> try (first | (rename_i e1 e2; cases e1; done) | (rename_i e1; cases e1; done))
    all_goals first
      | (simp at hd; done)
      | (rename_i u v hcs; exact ⟨_, by rw [hc, ← Array.getElem?_toList, hcs]; rfl, .inr ⟨_, _, rfl⟩⟩)
      | skip
theorem cell_lt {W : World} {g c : Nat} {v : Value} (h : W.cell? ⟨g, c, none⟩ = some v) : g < W.heap.size := World.block_lt_of_cell? _ _ h

end Go.Proofs.YtcjmhmmjfgjcnaaGreatDoor.Lx

/- What TopReads' listed variables give the walks; a start for the witness. -/
namespace Go.Proofs.YtcjmhmmjfgjcnaaGreatDoor.Lx
open Go.RowKit Go.ChangeShapes

theorem own : ownKnob Tryz.prog.godebug = none := by kernel_rfl
theorem laidOut : laidOutB Tryz.prog = true := by kernel_rfl
theorem gSyn : Tryz.prog.globalNamed "strconv.ErrSyntax" = some 5 := by kernel_rfl
theorem gRng : Tryz.prog.globalNamed "strconv.ErrRange" = some 6 := by kernel_rfl

abbrev laidL := Rows.topReadsRow.laid

theorem env_of {W : World} (hL : laidMetH Tryz.prog laidL W) (hS : W.ShapedOpen Tryz.prog) : Env W := by
  rw [MakeChecks.laidMetH_plain _ _ _ (by kernel_rfl)] at hL
  have r2 := Lib.laidMet.reads hL (.tail _ (.tail _ (.head _)))
  have r3 := Lib.laidMet.reads hL (.tail _ (.tail _ (.tail _ (.head _))))
  have r4 := Lib.laidMet.reads hL (.tail _ (.tail _ (.tail _ (.tail _ (.head _)))))
  have r5 := Lib.laidMet.reads hL (.tail _ (.tail _ (.tail _ (.tail _ (.tail _ (.head _))))))
  have r6 := Lib.laidMet.reads hL (.tail _ (.tail _ (.tail _ (.tail _ (.tail _ (.tail _ (.tail _ (.head _))))))))
  have syn := iface_of_reads gSyn (t := 127) (by kernel_rfl) Tryz.underlying127 r5
  have rng := iface_of_reads gRng (t := 127) (by kernel_rfl) Tryz.underlying127 r4
  have max : ∃ m, W.cell? ⟨4, 0, none⟩ = some (.int .i64 m) :=
    cell_of_shapedOpen_int (zero := #[.int .i64 0]) (t := 3) hS (of_decide_eq_true (by kernel_rfl)) (by kernel_rfl) rfl (by kernel_rfl) (by kernel_rfl) Tryz.underlying3
  have pow : Lib.TabIs Tryz.prog W "internal/strconv.uint64pow10" .u64 Lib.pow10Tab := by
    obtain ⟨g, t, cs, fuel, p, hg, hty, hvar, hd⟩ := r2
    obtain rfl := Option.some.inj (gPow.symm.trans hg)
    obtain rfl := Option.some.inj ((show (Tryz.prog.globals[3]?).map (·.type) = some 206 by kernel_rfl).symm.trans hty)
    unfold Lib.TabIs
    rw [hvar, ← Lib.cells_of_tab (zs := Lib.pow10Tab) Tryz.underlying206 Tryz.underlying106 (by kernel_rfl) (by kernel_rfl) hd]
  have utf : Lib.Utf8Tabs 0 1 W :=
    utf8Tabs_of_readsT (U8Types.of196 Tryz.laysValid) ⟨by kernel_rfl, by kernel_rfl, by kernel_rfl, by kernel_rfl, by kernel_rfl, by kernel_rfl, by kernel_rfl⟩ (by have := r6; rw [show Rows.laid_unicode_utf8_first = Lib.firstData from Pinned.utf8First_eq] at this; exact this) r3
  have hp := World.var?_cell gPow pow 0
  exact {
    syn := syn, rng := rng, max := max, pow := pow, utf := utf
    ltS := let ⟨_, h, _⟩ := syn; cell_lt h
    ltR := let ⟨_, h, _⟩ := rng; cell_lt h
    ltM := let ⟨_, h⟩ := max; cell_lt h
    ltP := cell_lt (hp.trans (by rfl))
    ltF := cell_lt (utf.1 0 (by decide))
    ltA := cell_lt (utf.2 0 (by decide)).1 }

theorem gSha : Tryz.prog.globalNamed "codicil/sha.constants" = some 2 := by kernel_rfl
theorem kc_of {W : World} (hL : laidMetH Tryz.prog laidL W) : Sh.KC W := by
  rw [MakeChecks.laidMetH_plain _ _ _ (by kernel_rfl)] at hL
  have r := Lib.laidMet.reads hL (.tail _ (.tail _ (.tail _ (.tail _ (.tail _ (.tail _ (.head _)))))))
  have tab : Lib.TabIs Tryz.prog W "codicil/sha.constants" .u32 (Sh.ks.map fun (x : Nat) => (x : Int)) := by
    obtain ⟨g, t, cs, fuel, p, hg, hty, hvar, hd⟩ := r
    obtain rfl := Option.some.inj (gSha.symm.trans hg)
    obtain rfl := Option.some.inj ((show (Tryz.prog.globals[2]?).map (·.type) = some 197 by kernel_rfl).symm.trans hty)
    unfold Lib.TabIs
    rw [hvar, ← Lib.cells_of_tab (zs := Sh.ks.map fun (x : Nat) => (x : Int)) Tryz.underlying197 Tryz.underlying132 (by kernel_rfl) (by kernel_rfl) hd]
  intro j v hv
  have hc := World.var?_cell gSha tab j
  rw [Nat.zero_add, hc]
  simpa [Sh.u32s] using hv
theorem laid_met (os : Os) (args : Array Value) : laidMetH Tryz.prog laidL ((World.laidAll Tryz.prog os laidL).forCall (fun _ _ => 0) ⟨#[], args, []⟩).memory := by
  rw [MakeChecks.laidMetH_plain _ _ _ (by kernel_rfl)]
  exact laidMet_laidAll _ (by kernel_rfl) (by kernel_rfl)

theorem bulk_string {H : Type} (bytes : List UInt8) : Rows.uptoBulk (DataW.lit (H := H) (.string bytes)) = bytes.length + 1 := by
  simp [Rows.uptoBulk]
theorem bulk_le {H : Type} {l : List (DataW H)} (hk : Rows.uptoSmall H l = true) : Rows.uptoBulkAll l ≤ 1048576 := by
  simpa [Rows.uptoSmall] using hk

end Go.Proofs.YtcjmhmmjfgjcnaaGreatDoor.Lx
