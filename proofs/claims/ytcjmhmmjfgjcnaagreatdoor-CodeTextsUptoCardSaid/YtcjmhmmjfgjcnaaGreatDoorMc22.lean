/- Parts: PaA PaU RaN RaP. -/
import Derived.Test.YtcjmhmmjfgjcnaaGreatDoorMc19
import Derived.Test.YtcjmhmmjfgjcnaaGreatDoorMc21
import Derived.Maps.Own
import Derived.Maps.OwnOps
import Derived.Maps.OwnSet
import Derived.Maps.Views
import Derived.StringKeys
import Derived.Lib.SplitLaws

/- apart: no text of a list stands twice. -/
namespace Go.Proofs.YtcjmhmmjfgjcnaaGreatDoor.Pa
open Go.RowKit Go.Proofs.YtcjmhmmjfgjcnaaGreatDoor.Lx Go.Maps

theorem keyS : Keyed Tryz.prog 9 := string_keyed Tryz.underlying9
theorem zeroI (w : World) : (zeroValue 3).run Tryz.prog w = .ok (.int .i64 0) w := by kernel_rfl

structure Seen (D : DataW Unit) (l : List Txt) : Prop where
  tidy : Tidy D
  map : IsMap D
  hasK : ∀ t : Txt, Maps.has D (.string t) = decide (t ∈ l)
  le : Maps.size D ≤ l.length
  nd : Maps.size D = l.length ↔ l.Nodup
theorem seen_nil : Seen (.map []) [] := ⟨⟨[], rfl, List.Pairwise.nil⟩, ⟨[], rfl⟩, fun t => by simp [Maps.has], by simp [Maps.size], by simp [Maps.size]⟩
theorem nodup_snoc (l : List Txt) (t : Txt) : (l ++ [t]).Nodup ↔ l.Nodup ∧ t ∉ l := by
  rw [List.nodup_append]
  constructor
  · rintro ⟨h1, _, h3⟩
    exact ⟨h1, fun ht => h3 t ht t (by simp) rfl⟩
  · rintro ⟨h1, h2⟩
    refine ⟨h1, by simp, fun a ha b hb => ?_⟩
    simp at hb
    subst hb
    intro e
    subst e
    exact h2 ha
theorem Seen.put {D : DataW Unit} {l : List Txt} (h : Seen D l) (t : Txt) (d : DataW Unit) : Seen (D.put (.string t) d) (l ++ [t]) := by
  have hk : WideAt.IsKeyLit (.string t) := by simp [WideAt.IsKeyLit]
  have hs := size_put (k := .string t) h.tidy d
  have hh := h.hasK t
  refine ⟨h.tidy.put hk d, h.map.put _ d, fun u => ?_, ?_, ?_⟩
  · by_cases e : u = t
    · subst e
      rw [has_put_same h.map hk]
      simp
    · rw [has_put_other (fun e' => e (by simpa using e')), h.hasK u]
      simp [e]
  · rw [hs, List.length_append]
    have := h.le
    by_cases hb : Maps.has D (.string t) = true
    · rw [if_pos hb]; omega
    · rw [if_neg hb]; simp only [List.length_cons, List.length_nil]; omega
  · rw [hs, List.length_append, nodup_snoc, hh]
    have h1 := h.le
    have h2 := h.nd
    clear hs hh
    by_cases ht : t ∈ l
    · simp [ht]
      omega
    · simp [ht]
      exact h2

theorem apart_size {l : List Txt} {a : Nat} {D : DataW Unit} (h : Seen D l) (ha : l.length = a) : (((Maps.size D : Nat) : Int) == (a : Int)) = decide l.Nodup := by
  rw [Bool.eq_iff_iff, decide_eq_true_iff, ← h.nd, beq_iff_eq, ← ha]
  omega

set_option maxRecDepth 100000 in
theorem apart_calls (w : World) (v : Value) (l : List Txt) (h : StrsAt w v l) (hl : l.length ≤ 1048576) (hls : ∀ t ∈ l, t.length ≤ 1073741824) :
    Calls Tryz.prog 111 #[v] w fun e w' => e = .returned (.bool (decide l.Nodup)) ∧ Below w.heap.size w w' := by
  obtain ⟨a, n, c, rfl, hn, hc, hj⟩ := h
  have Hn := Lib.hid hn
  have Hj := Lib.hid hj
  have Hls := Lib.hid hls
  have hn2 : n ≤ 1048576 := by omega
  clear hn hj hls
  have hmm := @run_makeMap Tryz.prog
  go_enter Tryz.func111, Tryz.ntmps111
  go_wp2
  go_loopw [9] (fun i wr => ∃ k : Nat, k ≤ n ∧ i = .int .i64 k ∧ Hid (∃ D, wr.ownsMap Tryz.prog 9 (plainElem (H := Unit) Tryz.prog 3) w.heap.size k D ∧ Seen D (l.take k)) ∧ Hid (Below w.heap.size w wr)) (fun i _ => n - (intOf i).toNat)
  case atStart => exact ⟨0, Nat.zero_le _, rfl, ⟨_, World.ownsMap_made _ _ _ _, seen_nil⟩, (Below.refl _ _).alloc (Nat.le_refl _) _⟩
  case round =>
    obtain ⟨k, hk, rfl, hm, hb⟩ := hrel
    obtain ⟨D, hown, hseen⟩ := hm
    by_cases hlt : k < n
    · have hkl : k < l.length := by rw [Hn.out]; exact hlt
      obtain ⟨g, rfl, hcell0⟩ := Hj.out k hkl
      have hcell := (hb.out.cell (p := ⟨g, k, none⟩) (World.block_lt_of_cell? _ _ hcell0)).trans hcell0
      have hlk := Hls.out _ (List.getElem_mem hkl)
      have Hkey := Lib.hid (Go.WideMaps.keyOf_string_mk (P := Tryz.prog) (k := 9) Tryz.underlying9 (s := ⟨(l[k]).toArray⟩) (by rw [size_mk]; unfold maxLen; omega))
      have Hp := Lib.hid (fun d => show Seen (D.put (.string (⟨(l[k]).toArray⟩ : ByteArray).data.toList) d) (l.take (k + 1)) by
        rw [List.take_succ_eq_append_getElem hkl]
        exact hseen.put l[k] d)
      have Hown := Lib.hid hown
      clear hcell0 hseen hown
      generalize l[k] = t at *
      go_wp2_with (first
        | (at_lookup; refine wpList_lookup_own_int _ rfl _ _ 192 rfl 9 3 .i64 keyS Tryz.underlying192 Tryz.underlying3 (zeroI _) w.heap.size k _ rfl Hown.out _ _ rfl Hkey.out ?_; intro c hat hwc; clear hat)
        | (at_mapUpdate; refine wpList_mapUpdate_own _ rfl _ _ _ 192 rfl 9 3 keyS Tryz.underlying192 _ w.heap.size k _ rfl Hown.out (by unfold maxLen; omega) _ _ _ rfl rfl Hkey.out _ [] (plainElem_int Tryz.underlying3 (wrap64_wf _)) ?_; intro w1 hown1 hgrow1))
      have Hm1 := Lib.hid (show ∃ D', w1.ownsMap Tryz.prog 9 (plainElem (H := Unit) Tryz.prog 3) w.heap.size (k + 1) D' ∧ Seen D' (l.take (k + 1)) from ⟨_, hown1, Hp.out _⟩)
      have Hb1 := Lib.hid (hb.out.grown hgrow1 hb.out.size (fun j hj => by cases hj; exact Nat.le_refl _))
      clear hown1 hgrow1
      go_roundw
      case rel => exact ⟨k + 1, by omega, by go_num, Hm1, Hb1⟩
      case measure => simp [intOf]; omega
    · have Hs := Lib.hid (show (((Maps.size D : Nat) : Int) == (n : Int)) = decide l.Nodup by
        have e : l.take k = l := List.take_of_length_le (by have := Hn.out; omega)
        rw [e] at hseen
        exact apart_size hseen Hn.out)
      have Hown := Lib.hid hown
      clear hseen hown
      go_wp2_with (at_len; refine wpList_len_own _ rfl _ 192 rfl 9 3 Tryz.underlying192 _ w.heap.size k _ rfl Hown.out ?_)
      go_ret
      exact ⟨ret_bool Hs.out, hb.out⟩

end Go.Proofs.YtcjmhmmjfgjcnaaGreatDoor.Pa

/- parse: names, numbers, paths, a struct's names. -/
namespace Go.Proofs.YtcjmhmmjfgjcnaaGreatDoor.Pa
open Go.RowKit Go.Proofs.YtcjmhmmjfgjcnaaGreatDoor.Lx

theorem showV_err (t : Tok) : ∃ (b : ByteArray) (c : Int), showV t = .tuple #[.string b, .int .i64 c] ∧ (c == 0) = showOk t := by
  unfold showV
  by_cases h : showOk t = true
  · rw [if_pos h]; exact ⟨_, _, rfl, by rw [h]; rfl⟩
  · rw [if_neg h]; exact ⟨_, _, rfl, by have : showOk t = false := by simpa using h
                                        rw [this]; rfl⟩
theorem nameS_calls (s : Txt) (w : World) (hs : s.length ≤ 1073741824) (he : Env w) :
    Calls Tryz.prog 61 #[.string ⟨s.toArray⟩] w fun e w' => e = .returned (.bool (nameB s)) ∧ Below w.heap.size w w' := by
  have Hs := Lib.hid (Show_calls ⟨1, s, 0, 0⟩ 0 w hs (by simp) (by simp) (by rw [showS_str _ (by simp) (by simp)]; simp only; omega) he)
  obtain ⟨b, c, hv, hc⟩ := showV_err ⟨1, s, 0, 0⟩
  rw [hv] at Hs
  have Hc := Lib.hid (show (c == 0) = nameB s from hc)
  clear hs he hv hc
  go_enter Tryz.func61, Tryz.ntmps61
  go_wp2_with fail
  refine Hs.out.mono ?_
  rintro e w1 ⟨rfl, hb⟩
  have Hb := Lib.hid hb
  clear hb
  go_wp2_with fail
  go_ret
  exact ⟨ret_bool Hc.out, Hb.out⟩

theorem parseInt_ok (s : ByteArray) (w : World) (hs : s.size ≤ 281474976710656) (v : Int) (hp : Lib.parseIntB 64 (L s) = .ok v) :
    Calls Tryz.prog 143 #[.string s, .int .i64 10, .int .i64 64] w fun e w' => e = .returned (.tuple #[.int .i64 v, .nilIface]) ∧ Below w.heap.size w w' := by
  refine (Tryz.strconv_ParseInt_10_at64_ok s (by omega) v hp w).mono ?_
  rintro e w' ⟨rfl, hw⟩
  refine ⟨rfl, ?_⟩
  rcases hw with rfl | ⟨t, rfl⟩
  · exact Below.refl _ _
  · exact ⟨rfl, rfl, rfl, by rw [Lib.bytesWorld_size]; omega, fun i hi => Lib.bytesWorld_at_old w _ _ i hi⟩
theorem parseInt_bad (s : ByteArray) (w : World) (hs : s.size ≤ 281474976710656) (he : Env w) (hp : ∀ u, Lib.parseIntB 64 (L s) ≠ .ok u) :
    Calls Tryz.prog 143 #[.string s, .int .i64 10, .int .i64 64] w fun e w' => (∃ (u : Int) (N : Nat), e = .returned (.tuple #[.int .i64 u, .iface 217 (.pointer (some ⟨N, 0, none⟩))])) ∧ Below w.heap.size w w' := by
  cases hq : Lib.parseIntB 64 (L s) with
  | ok u => exact absurd hq (hp u)
  | range =>
    obtain ⟨ev, h1, h2⟩ := he.rng
    refine (Tryz.strconv_ParseInt_10_at64_range s hs hq ev w h1 h2).mono ?_
    rintro e w' ⟨N, rfl, _, _, hb⟩
    exact ⟨⟨_, N, rfl⟩, hb⟩
  | _ =>
    obtain ⟨ev, h1, h2⟩ := he.syn
    refine (Any.strconv_ParseInt_10_at64_syntax Tryz.laysC174 s hs hq ev w h1 h2).mono ?_
    rintro e w' ⟨N, rfl, _, _, hb⟩
    exact ⟨⟨_, N, rfl⟩, hb⟩
theorem parseInt_bd {l : Txt} {v : Int} (h : Lib.parseIntB 64 l = .ok v) : -9223372036854775808 ≤ v ∧ v ≤ 9223372036854775807 := by
  unfold Lib.parseIntB at h
  split at h
  · cases h
  · simp only at h
    split at h
    · cases h
    · cases h
    · rename_i u hu
      split at h
      · cases h
      · split at h
        · cases h
        · simp only [Lib.NumEnd.ok.injEq] at h
          rename_i h1 h2
          simp only [not_and, Nat.not_le, Nat.not_lt] at h1 h2
          split at h <;> (rename_i h3; first | (have := h2 h3; omega) | (have := h1 h3; omega))

set_option maxRecDepth 100000 in
theorem number_calls' (s : Txt) (w : World) (hs : s.length ≤ 1073741824) (he : Env w) :
    Calls Tryz.prog 110 #[.string ⟨s.toArray⟩] w fun e w' => e = .returned (.bool (numberB s)) ∧ Below w.heap.size w w' := by
  have He := Lib.hid he
  have hsz : (⟨s.toArray⟩ : ByteArray).size ≤ 281474976710656 := by rw [size_mk]; omega
  by_cases hok : ∃ v, Lib.parseIntB 64 s = .ok v
  · obtain ⟨v, hv⟩ := hok
    obtain ⟨b1, b2⟩ := parseInt_bd hv
    have Hp := Lib.hid (parseInt_ok ⟨s.toArray⟩ w hsz v (by rw [L_mk]; exact hv))
    by_cases h0 : 0 ≤ v
    · have Hn := Lib.hid (show decide (Lib.itoa v = s) = numberB s by unfold numberB; rw [hv]; simp [h0])
      have Hq := Lib.hid (bytes_beq (Lib.itoa v) s)
      have hd : decide (0 ≤ v) = true := by simp [h0]
      clear hv he hs
      go_enter Tryz.func110, Tryz.ntmps110
      go_wp2_with fail
      refine Hp.out.mono ?_
      rintro e w1 ⟨rfl, hb⟩
      have Hb := Lib.hid hb
      clear hb
      go_wp2_with fail
      refine (formatInt_calls v w1 b1 b2 (He.out.below Hb.out)).mono ?_
      rintro e w2 ⟨rfl, hb2⟩
      have Hb2 := Lib.hid (Hb.out.trans (hb2.mono Hb.out.size))
      clear hb2
      go_wp2_with fail
      go_ret
      exact ⟨ret_bool (by rw [← Hn.out, ← Hq.out]; simp), Hb2.out⟩
    · have Hn := Lib.hid (show numberB s = false by unfold numberB; rw [hv]; simp [h0])
      have hd : decide (0 ≤ v) = false := by simp [h0]
      clear hv he hs
      go_enter Tryz.func110, Tryz.ntmps110
      go_wp2_with fail
      refine Hp.out.mono ?_
      rintro e w1 ⟨rfl, hb⟩
      have Hb := Lib.hid hb
      clear hb
      go_wp2_with fail
      go_ret
      exact ⟨ret_bool Hn.out.symm, Hb.out⟩
  · have Hn := Lib.hid (show numberB s = false by
      unfold numberB
      split
      · rename_i n hn; exact absurd ⟨n, hn⟩ hok
      · rfl)
    have Hp := Lib.hid (parseInt_bad ⟨s.toArray⟩ w hsz he (fun u hu => hok ⟨u, by rwa [L_mk] at hu⟩))
    clear hok he hs
    go_enter Tryz.func110, Tryz.ntmps110
    go_wp2_with fail
    refine Hp.out.mono ?_
    rintro e w1 ⟨⟨u, N, rfl⟩, hb⟩
    have Hb := Lib.hid hb
    clear hb
    go_wp2_with fail
    go_ret
    exact ⟨ret_bool Hn.out.symm, Hb.out⟩

theorem splitB_strs (s : Txt) (c : UInt8) : ((Lib.splitB ⟨#[c]⟩ 0 (Lib.countB ⟨s.toArray⟩ ⟨#[c]⟩) ⟨s.toArray⟩).map Value.string) = strsC (Lib.split s [c]) := by
  have h := Lib.splitB_data ⟨#[c]⟩ 0 (Lib.countB ⟨s.toArray⟩ ⟨#[c]⟩) ⟨s.toArray⟩
  have e : Lib.split s [c] = (Lib.splitB ⟨#[c]⟩ 0 (Lib.countB ⟨s.toArray⟩ ⟨#[c]⟩) ⟨s.toArray⟩).map (·.data.toList) := by
    rw [h]
    unfold Lib.split Lib.countB
    simp
  rw [e]
  unfold strsC
  rw [List.map_map]
  exact List.map_congr_left fun b _ => by simp
theorem split_len (s : Txt) (c : UInt8) : (Lib.split s [c]).length = Lib.countB ⟨s.toArray⟩ ⟨#[c]⟩ + 1 := by
  have h := congrArg List.length (splitB_strs s c)
  rw [List.length_map, Lib.splitB_all ⟨#[c]⟩ (Nat.le_refl 1) 0 _ _ rfl] at h
  simp only [strsC, List.length_map] at h
  exact h.symm
theorem split_calls (s : Txt) (c : UInt8) (w : World) (hs : s.length ≤ 1073741824) (he : Env w) :
    Calls Tryz.prog 109 #[.string ⟨s.toArray⟩, .string ⟨#[c]⟩] w fun e w' => e = .returned (.slice (some ⟨w.heap.size, 0, none⟩) (Lib.split s [c]).length (Lib.split s [c]).length) ∧ w.alloc (.cells (strsC (Lib.split s [c])).toArray 9) = w' := by
  obtain ⟨m, hm⟩ := he.max
  refine (Tryz.strings_Split ⟨s.toArray⟩ ⟨#[c]⟩ m w (by rw [size_mk]; omega) hm (Nat.le_refl 1)).mono ?_
  rintro e w' ⟨rfl, rfl⟩
  refine ⟨?_, ?_⟩
  · rw [split_len]
  · rw [splitB_strs]
theorem split_each (s : Txt) (c : UInt8) : ∀ t ∈ Lib.split s [c], t.length ≤ s.length := by
  have key : ∀ (k : Nat) (s : Txt), ∀ t ∈ Lib.splitK [c] 0 k s, t.length ≤ s.length := by
    intro k
    induction k with
    | zero => intro s t ht; simp [Lib.splitK] at ht; subst ht; exact Nat.le_refl _
    | succ k ih =>
      intro s t ht
      unfold Lib.splitK at ht
      split at ht
      · simp at ht; subst ht; exact Nat.le_refl _
      · rcases List.mem_cons.1 ht with h | h
        · subst h; rw [List.length_take]; omega
        · have := ih _ t h
          rw [List.length_drop] at this
          omega
  exact key _ s
theorem split_count (s : Txt) (c : UInt8) : (Lib.split s [c]).length ≤ s.length + 1 := by
  rw [split_len]
  have := Lib.countB_le ⟨#[c]⟩ (Nat.le_refl 1) s.length ⟨s.toArray⟩ (by rw [size_mk]; exact Nat.le_refl _)
  rw [size_mk] at this
  omega

end Go.Proofs.YtcjmhmmjfgjcnaaGreatDoor.Pa

/- codicilref10: Name, number, path, names. -/
namespace Go.Proofs.YtcjmhmmjfgjcnaaGreatDoor.Rf
open Go.RowKit Go.Proofs.YtcjmhmmjfgjcnaaGreatDoor.Lx Go.Proofs.YtcjmhmmjfgjcnaaGreatDoor.Pa

set_option maxHeartbeats 1000000 in
set_option maxRecDepth 100000 in
theorem NameR_calls (s : ByteArray) (w : World) (hs : s.size ≤ maxLen) :
    Calls Tryz.prog 63 #[.string s] w fun e w' => e = .returned (.bool (nameB (L s))) ∧ Below w.heap.size w w' := by
  have Hs := Lib.hid (fun b hb => ShowW_calls s w hs b hb)
  cases hb : nameB (L s)
  · have Hc := Lib.hid (Hs.out _ hb)
    unfold showV at Hc
    clear Hs hb
    go_enter Tryz.func63, Tryz.ntmps63
    go_wp2_with fail
    refine Hc.out.mono ?_
    rintro e w1 ⟨rfl, hb1⟩
    have Hb1 := Lib.hid hb1
    clear hb1
    simp only [Bool.false_eq_true, if_false]
    go_wp2_with fail
    go_ret
    exact ⟨rfl, Hb1.out⟩
  · have Hc := Lib.hid (Hs.out _ hb)
    unfold showV at Hc
    clear Hs hb
    go_enter Tryz.func63, Tryz.ntmps63
    go_wp2_with fail
    refine Hc.out.mono ?_
    rintro e w1 ⟨rfl, hb1⟩
    have Hb1 := Lib.hid hb1
    clear hb1
    simp only [if_true]
    go_wp2_with fail
    go_ret
    exact ⟨rfl, Hb1.out⟩

theorem numQ_err {s : Txt} {c a : Nat} (h : lexL s = .err c a) : numQ s = false := by unfold numQ; rw [h]
theorem numQ_one {s : Txt} {t : Tok} (h : lexL s = .ok [t]) : numQ s = (decide (t.kind = 3) && decide (Lib.itoa t.num = s)) := by unfold numQ; rw [h]
theorem numQ_len {s : Txt} {l : List Tok} (h : lexL s = .ok l) (h1 : l.length ≠ 1) : numQ s = false := by
  unfold numQ
  rw [h]
  match l, h1 with
  | [], _ => rfl
  | [t], h1 => exact absurd rfl h1
  | _ :: _ :: _, _ => rfl
set_option maxHeartbeats 2000000 in
set_option maxRecDepth 100000 in
theorem numQ_calls (s : ByteArray) (w : World) (hs : s.size ≤ maxLen) :
    Calls Tryz.prog 114 #[.string s] w fun e w' => e = .returned (.bool (numberB (L s))) ∧ Below w.heap.size w w' := by
  have Hl := Lib.hid (fun W => LexR_calls s W hs)
  rw [← numQ_eq]
  cases hx : lexL (L s) with
  | err c a =>
    have hv := lexL_codes hx
    rw [numQ_err hx]
    rw [hx] at Hl
    have hv2 : ((c : Int) == 0) = false := by rw [beq_eq_false_iff_ne]; intro e; rw [e] at hv; cases hv
    clear hx hv
    go_enter Tryz.func114, Tryz.ntmps114
    go_wp2_with fail
    refine (Hl.out _).mono ?_
    rintro e w1 ⟨rfl, hb1⟩
    have Hb1 := Lib.hid hb1
    clear hb1
    go_wp2_with fail
    go_ret
    exact ⟨rfl, Hb1.out⟩
  | ok l =>
    have hfit := lexL_fits hx
    rw [hx] at Hl
    by_cases h1 : l.length = 1
    · obtain ⟨t, rfl⟩ : ∃ t, l = [t] := by
        match l, h1 with
        | [t], _ => exact ⟨t, rfl⟩
      have hft := hfit t (by simp)
      have h0 := hft.lo
      have h9 := hft.hi
      rw [numQ_one hx]
      clear hfit hft hx
      by_cases hk : t.kind = 3
      · have ek : ((t.kind : Int) == 3) = true := by rw [hk]; rfl
        obtain ⟨n, hn⟩ : ∃ n : Nat, t.num = n := ⟨t.num.toNat, by omega⟩
        have HN := Lib.hid (fun W => NumberI_calls n (by omega) W)
        rw [decide_eq_true hk, Bool.true_and, hn]
        generalize Lib.itoa (n : Int) = d at HN ⊢
        go_enter Tryz.func114, Tryz.ntmps114
        go_wp2_with fail
        refine (Hl.out _).mono ?_
        rintro e w1 ⟨⟨v, rfl, hown⟩, hb1⟩
        obtain ⟨g, c, rfl, m0, m1, m2, m3, hc, hg⟩ := tok_cells hown
        rw [hn] at m2
        have Hb1 := Lib.hid hb1
        clear hb1 hown
        go_wp2_with (go_at_call 104; refine (HN.out _).mono ?_; rintro e w2 ⟨rfl, rfl⟩)
        go_ret
        exact ⟨ret_bool (by rw [toList_L, Bool.eq_iff_iff, beq_iff_eq, decide_eq_true_iff]), Hb1.out⟩
      · have ek : ((t.kind : Int) == 3) = false := by rw [beq_eq_false_iff_ne]; omega
        rw [decide_eq_false hk, Bool.false_and]
        go_enter Tryz.func114, Tryz.ntmps114
        go_wp2_with fail
        refine (Hl.out _).mono ?_
        rintro e w1 ⟨⟨v, rfl, hown⟩, hb1⟩
        obtain ⟨g, c, rfl, m0, m1, m2, m3, hc, hg⟩ := tok_cells hown
        have Hb1 := Lib.hid hb1
        clear hb1 hown
        go_wp2_with fail
        go_ret
        exact ⟨rfl, Hb1.out⟩
    · have el : ((l.length : Int) == 1) = false := by rw [beq_eq_false_iff_ne]; omega
      rw [numQ_len hx h1]
      clear hx
      go_enter Tryz.func114, Tryz.ntmps114
      go_wp2_with fail
      refine (Hl.out _).mono ?_
      rintro e w1 ⟨⟨v, rfl, hown⟩, hb1⟩
      obtain ⟨a, c, rfl⟩ := rForm hown
      have Hb1 := Lib.hid hb1
      clear hb1 hown
      go_wp2_with fail
      go_ret
      exact ⟨rfl, Hb1.out⟩

end Go.Proofs.YtcjmhmmjfgjcnaaGreatDoor.Rf

/- codicilref10: path, names. -/
namespace Go.Proofs.YtcjmhmmjfgjcnaaGreatDoor.Rf
open Go.RowKit Go.Proofs.YtcjmhmmjfgjcnaaGreatDoor.Lx Go.Proofs.YtcjmhmmjfgjcnaaGreatDoor.Pa

theorem part_small {s : ByteArray} {c : UInt8} {k : Nat} (h : k < (Lib.split (L s) [c]).length) (hs : s.size ≤ 2000000) : ((Lib.split (L s) [c])[k]).length ≤ 2000000 := by
  have := split_each (L s) c _ (List.getElem_mem h)
  rw [L_length] at this
  omega

set_option maxHeartbeats 2000000 in
set_option maxRecDepth 100000 in
theorem pathR_calls (s : ByteArray) (w : World) (hs : s.size ≤ 2000000) :
    Calls Tryz.prog 59 #[.string s] w fun e w' => e = .returned (.bool (pathB (L s))) ∧ Below w.heap.size w w' := by
  have HC := Lib.hid (CutR_calls s 46 w (by omega))
  have Hsm := Lib.hid (fun k (h : k < (Lib.split (L s) [46]).length) => part_small h hs)
  have Hlen := Lib.hid (show (Lib.split (L s) [46]).length ≤ 2000001 from by have := split_count (L s) 46; rw [L_length] at this; omega)
  have HP := Lib.hid (show pathB (L s) = (pathParts 0 (Lib.split (L s) [46]) && decide (s.size ≤ 1024)) from by unfold pathB; rw [L_length])
  go_enter Tryz.func59, Tryz.ntmps59
  go_wp2_with fail
  refine HC.out.mono ?_
  rintro e w1 ⟨v, rfl, hst⟩
  have Hb1 := Lib.hid hst.row.bel
  obtain ⟨a, n, c, rfl, hn, hc, hj⟩ := hst.in
  generalize Lib.split (L s) [46] = parts at hn hj HP Hsm Hlen
  subst hn
  have hlen := Hlen.out
  have Hj := Lib.hid hj
  clear hst hj HC
  go_wp2_with fail
  go_loopw [8] (fun s8 wr => ∃ k : Nat, s8 = .int .i64 k ∧ k ≤ parts.length ∧ Hid (Below w1.heap.size w1 wr) ∧ Hid (pathParts 0 parts = pathParts k (parts.drop k))) (fun s8 _ => parts.length - (intOf s8).toNat)
  case atStart => exact ⟨0, rfl, Nat.zero_le _, Lib.hid (Below.refl _ _), Lib.hid (by rw [List.drop_zero])⟩
  case round =>
    obtain ⟨k, rfl, hk, hbr, hpp⟩ := hrel
    have Hbr := Lib.hid hbr.out
    clear hbr
    by_cases hlt : k < parts.length
    · obtain ⟨g, o, ha, hcell0⟩ := Hj.out k hlt
      subst ha
      have hcell := (Hbr.out.cell (p := ⟨g, _, none⟩) (World.block_lt_of_cell? _ _ hcell0)).trans hcell0
      clear hcell0
      have hq := hpp.out
      rw [List.drop_eq_getElem_cons hlt, pathParts] at hq
      have hsz := Hsm.out k hlt
      generalize parts[k] = p at hcell hq hsz
      have HN := Lib.hid (fun W => NameR_calls ⟨p.toArray⟩ W (by rw [size_mk]; unfold maxLen; omega))
      have HQ := Lib.hid (fun W => numQ_calls ⟨p.toArray⟩ W (by rw [size_mk]; unfold maxLen; omega))
      rw [L_mk] at HN HQ
      clear hpp
      cases hnm : nameB p
      · rw [hnm] at HN hq
        by_cases h0 : k = 0
        · have e0 : ((k : Int) == 0) = true := by rw [h0]; rfl
          have HR := Lib.hid (show pathB (L s) = false by rw [HP.out, hq, h0]; rfl)
          clear hq h0
          go_wp2_with (go_at_call 63; refine (HN.out _).mono ?_; rintro e w2 ⟨rfl, hb2⟩; have Hb2 := Lib.hid hb2; clear hb2)
          go_ret
          exact ⟨by rw [HR.out]; rfl, rStep Hb1.out (rStep Hbr.out Hb2.out)⟩
        · have e0 : ((k : Int) == 0) = false := by rw [beq_eq_false_iff_ne]; omega
          cases hnq : numberB p
          · rw [hnq] at HQ hq
            have HR := Lib.hid (show pathB (L s) = false by rw [HP.out, hq]; simp)
            clear hq h0
            go_wp2_with (first | (go_at_call 63; refine (HN.out _).mono ?_; rintro e w2 ⟨rfl, hb2⟩; have Hb2 := Lib.hid hb2; clear hb2) | (go_at_call 114; refine (HQ.out _).mono ?_; rintro e w3 ⟨rfl, hb3⟩; have Hb3 := Lib.hid hb3; clear hb3))
            go_ret
            exact ⟨by rw [HR.out]; rfl, rStep Hb1.out (rStep (rStep Hbr.out Hb2.out) Hb3.out)⟩
          · rw [hnq] at HQ hq
            have HR := Lib.hid (show pathParts 0 parts = pathParts (k + 1) (parts.drop (k + 1)) by rw [hq]; simp [h0])
            clear hq h0
            go_wp2_with (first | (go_at_call 63; refine (HN.out _).mono ?_; rintro e w2 ⟨rfl, hb2⟩; have Hb2 := Lib.hid hb2; clear hb2) | (go_at_call 114; refine (HQ.out _).mono ?_; rintro e w3 ⟨rfl, hb3⟩; have Hb3 := Lib.hid hb3; clear hb3))
            go_roundw
            case rel => exact ⟨k + 1, by go_num, by omega, Lib.hid (rStep (rStep Hbr.out Hb2.out) Hb3.out), HR⟩
            case measure => simp [intOf]; omega
      · rw [hnm] at HN hq
        have HR := Lib.hid (show pathParts 0 parts = pathParts (k + 1) (parts.drop (k + 1)) by rw [hq]; simp)
        clear hq
        go_wp2_with (go_at_call 63; refine (HN.out _).mono ?_; rintro e w2 ⟨rfl, hb2⟩; have Hb2 := Lib.hid hb2; clear hb2)
        go_roundw
        case rel => exact ⟨k + 1, by go_num, by omega, Lib.hid (rStep Hbr.out Hb2.out), HR⟩
        case measure => simp [intOf]; omega
    · have hq := hpp.out
      rw [List.drop_of_length_le (by omega), pathParts] at hq
      have HR := Lib.hid (show pathB (L s) = decide ((s.size : Int) ≤ 1024) by rw [HP.out, hq, Bool.true_and]; exact decide_eq_decide.2 (by omega))
      clear hq hpp
      go_wp2_with fail
      go_ret
      exact ⟨by rw [HR.out]; rfl, rStep Hb1.out Hbr.out⟩

set_option maxHeartbeats 2000000 in
set_option maxRecDepth 100000 in
theorem namesR_calls (s : ByteArray) (n : Int) (w : World) (hs : s.size ≤ 2000000) :
    Calls Tryz.prog 60 #[.string s, .int .i64 n] w fun e w' => e = .returned (.bool (namesB (L s) n)) ∧ Below w.heap.size w w' := by
  by_cases h0 : n = 0
  · subst h0
    have HR := Lib.hid (show namesB (L s) 0 = (s.toList == []) by unfold namesB; rw [if_pos rfl, toList_L, Bool.eq_iff_iff, decide_eq_true_iff, beq_iff_eq])
    go_enter Tryz.func60, Tryz.ntmps60
    go_wp2_with fail
    go_ret
    exact ⟨ret_bool (by rw [HR.out]; cases s.toList <;> rfl), Below.refl _ _⟩
  · have e0 : (n == 0) = false := beq_eq_false_iff_ne.2 h0
    have HC := Lib.hid (CutR_calls s 44 w (by omega))
    have Hsm := Lib.hid (fun k (h : k < (Lib.split (L s) [44]).length) => part_small h hs)
    have Hlen := Lib.hid (show (Lib.split (L s) [44]).length ≤ 2000001 from by have := split_count (L s) 44; rw [L_length] at this; omega)
    have HP := Lib.hid (show namesB (L s) n = (decide (((Lib.split (L s) [44]).length : Int) = n) && (decide (Lib.split (L s) [44]).Nodup && (Lib.split (L s) [44]).all nameB)) from by unfold namesB apartB; rw [if_neg h0])
    clear h0
    go_enter Tryz.func60, Tryz.ntmps60
    go_wp2_with fail
    refine HC.out.mono ?_
    rintro e w1 ⟨v, rfl, hst⟩
    have Hb1 := Lib.hid hst.row.bel
    have Hin := Lib.hid hst.in
    obtain ⟨a, m, c, rfl, hn, hc, hj⟩ := hst.in
    generalize Lib.split (L s) [44] = parts at hn hj HP Hsm Hlen Hin
    subst hn
    have hlen := Hlen.out
    have Hj := Lib.hid hj
    clear hst hj HC
    go_wp2_with fail
    go_loopw [16] (fun s16 wr => ∃ k : Nat, s16 = .int .i64 k ∧ k ≤ parts.length ∧ Hid (Below w1.heap.size w1 wr) ∧ Hid ((parts.take k).all nameB = true)) (fun s16 _ => parts.length - (intOf s16).toNat)
    case atStart => exact ⟨0, rfl, Nat.zero_le _, Lib.hid (Below.refl _ _), Lib.hid rfl⟩
    case round =>
      obtain ⟨k, rfl, hk, hbr, hpp⟩ := hrel
      have Hbr := Lib.hid hbr.out
      clear hbr
      by_cases hlt : k < parts.length
      · obtain ⟨g, o, ha, hcell0⟩ := Hj.out k hlt
        subst ha
        have hcell := (Hbr.out.cell (p := ⟨g, _, none⟩) (World.block_lt_of_cell? _ _ hcell0)).trans hcell0
        clear hcell0
        have hsz := Hsm.out k hlt
        have hnx := List.take_succ_eq_append_getElem hlt
        have hmem := List.getElem_mem hlt
        generalize parts[k] = p at hcell hsz hnx hmem
        have HN := Lib.hid (fun W => NameR_calls ⟨p.toArray⟩ W (by rw [size_mk]; unfold maxLen; omega))
        rw [L_mk] at HN
        cases hnm : nameB p
        · rw [hnm] at HN
          have HR := Lib.hid (show namesB (L s) n = false by
            rw [HP.out]
            have : parts.all nameB = false := by
              rw [List.all_eq_false]
              exact ⟨p, hmem, by rw [hnm]; simp⟩
            rw [this]; simp)
          clear hpp hnx hmem hnm
          go_wp2_with (go_at_call 63; refine (HN.out _).mono ?_; rintro e w2 ⟨rfl, hb2⟩; have Hb2 := Lib.hid hb2; clear hb2)
          go_ret
          exact ⟨by rw [HR.out]; rfl, rStep Hb1.out (rStep Hbr.out Hb2.out)⟩
        · rw [hnm] at HN
          have HR := Lib.hid (show (parts.take (k + 1)).all nameB = true by rw [hnx, List.all_append, hpp.out]; simp [hnm])
          clear hpp hnx hmem hnm
          go_wp2_with (go_at_call 63; refine (HN.out _).mono ?_; rintro e w2 ⟨rfl, hb2⟩; have Hb2 := Lib.hid hb2; clear hb2)
          go_roundw
          case rel => exact ⟨k + 1, by go_num, by omega, Lib.hid (rStep Hbr.out Hb2.out), HR⟩
          case measure => simp [intOf]; omega
      · have hall := hpp.out
        rw [List.take_of_length_le (by omega)] at hall
        have HR := Lib.hid (show namesB (L s) n = (decide ((parts.length : Int) = n) && decide parts.Nodup) by rw [HP.out, hall, Bool.and_true])
        have HT := Lib.hid (twiceR_calls wr _ parts (Hin.out.below Hbr.out) (by omega))
        clear hall hpp
        by_cases hnn : (parts.length : Int) = n
        · have e1 : ((parts.length : Int) == n) = true := beq_iff_eq.2 hnn
          rw [decide_eq_true hnn, Bool.true_and] at HR
          generalize decide parts.Nodup = nd at HR HT
          clear hnn
          go_wp2_with (go_at_call 115; refine HT.out.mono ?_; rintro e w3 ⟨rfl, rfl⟩)
          all_goals go_ret
          all_goals exact ⟨by rw [HR.out]; simp, rStep Hb1.out Hbr.out⟩
        · have e1 : ((parts.length : Int) == n) = false := beq_eq_false_iff_ne.2 hnn
          rw [decide_eq_false hnn, Bool.false_and] at HR
          clear hnn
          go_wp2_with fail
          go_ret
          exact ⟨by rw [HR.out]; rfl, rStep Hb1.out Hbr.out⟩

end Go.Proofs.YtcjmhmmjfgjcnaaGreatDoor.Rf
