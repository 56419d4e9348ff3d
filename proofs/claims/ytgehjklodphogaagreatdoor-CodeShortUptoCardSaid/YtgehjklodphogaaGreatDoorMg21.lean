/- Parts: PaU PaR. -/
import Derived.Test.YtgehjklodphogaaGreatDoorMg20
import Derived.Lib.SplitLaws
import Derived.Deep.LoopGhost
import Derived.IntWalk

/- parse: names, numbers, paths, a struct's names. -/
namespace Go.Proofs.YtgehjklodphogaaGreatDoor.Pa
open Go.RowKit Go.Proofs.YtgehjklodphogaaGreatDoor.Lx

theorem showV_err (t : Tok) : ∃ (b : ByteArray) (c : Int), showV t = .tuple #[.string b, .int .i64 c] ∧ (c == 0) = showOk t := by
  unfold showV
  by_cases h : showOk t = true
  · rw [if_pos h]; exact ⟨_, _, rfl, by rw [h]; rfl⟩
  · rw [if_neg h]; exact ⟨_, _, rfl, by have : showOk t = false := by simpa using h
                                        rw [this]; rfl⟩
theorem nameS_calls (s : Txt) (w : World) (hs : s.length ≤ 1073741824) (he : Env w) :
    Calls Tryz.prog 66 #[.string ⟨s.toArray⟩] w fun e w' => e = .returned (.bool (nameB s)) ∧ Below w.heap.size w w' := by
  have Hs := Lib.hid (Show_calls ⟨1, s, 0, 0⟩ 0 w hs (by simp) (by simp) (by rw [showS_str _ (by simp) (by simp)]; simp only; omega) he)
  obtain ⟨b, c, hv, hc⟩ := showV_err ⟨1, s, 0, 0⟩
  rw [hv] at Hs
  have Hc := Lib.hid (show (c == 0) = nameB s from hc)
  clear hs he hv hc
  go_enter Tryz.func66, Tryz.ntmps66
  go_wp2_with fail
  refine Hs.out.mono ?_
  rintro e w1 ⟨rfl, hb⟩
  have Hb := Lib.hid hb
  clear hb
  go_wp2_with fail
  go_ret
  exact ⟨ret_bool Hc.out, Hb.out⟩

theorem parseInt_ok (s : ByteArray) (w : World) (hs : s.size ≤ 281474976710656) (v : Int) (hp : Lib.parseIntB 64 (L s) = .ok v) :
    Calls Tryz.prog 147 #[.string s, .int .i64 10, .int .i64 64] w fun e w' => e = .returned (.tuple #[.int .i64 v, .nilIface]) ∧ Below w.heap.size w w' := by
  refine (Tryz.strconv_ParseInt_10_at64_ok s (by omega) v hp w).mono ?_
  rintro e w' ⟨rfl, hw⟩
  refine ⟨rfl, ?_⟩
  rcases hw with rfl | ⟨t, rfl⟩
  · exact Below.refl _ _
  · exact ⟨rfl, rfl, rfl, by rw [Lib.bytesWorld_size]; omega, fun i hi => Lib.bytesWorld_at_old w _ _ i hi⟩
theorem parseInt_bad (s : ByteArray) (w : World) (hs : s.size ≤ 281474976710656) (he : Env w) (hp : ∀ u, Lib.parseIntB 64 (L s) ≠ .ok u) :
    Calls Tryz.prog 147 #[.string s, .int .i64 10, .int .i64 64] w fun e w' => (∃ (u : Int) (N : Nat), e = .returned (.tuple #[.int .i64 u, .iface 219 (.pointer (some ⟨N, 0, none⟩))])) ∧ Below w.heap.size w w' := by
  cases hq : Lib.parseIntB 64 (L s) with
  | ok u => exact absurd hq (hp u)
  | range =>
    obtain ⟨ev, h1, h2⟩ := he.rng
    refine (Tryz.strconv_ParseInt_10_at64_range s hs hq ev w h1 h2).mono ?_
    rintro e w' ⟨N, rfl, _, _, hb⟩
    exact ⟨⟨_, N, rfl⟩, hb⟩
  | _ =>
    obtain ⟨ev, h1, h2⟩ := he.syn
    refine (Any.strconv_ParseInt_10_at64_syntax Tryz.laysC174 s hs hq ev w h1 h2).mono ?_
    rintro e w' ⟨N, rfl, _, _, hb⟩
    exact ⟨⟨_, N, rfl⟩, hb⟩
theorem parseInt_bd {l : Txt} {v : Int} (h : Lib.parseIntB 64 l = .ok v) : -9223372036854775808 ≤ v ∧ v ≤ 9223372036854775807 := by
  unfold Lib.parseIntB at h
  split at h
  · cases h
  · simp only at h
    split at h
    · cases h
    · cases h
    · rename_i u hu
      split at h
      · cases h
      · split at h
        · cases h
        · simp only [Lib.NumEnd.ok.injEq] at h
          rename_i h1 h2
          simp only [not_and, Nat.not_le, Nat.not_lt] at h1 h2
          split at h <;> (rename_i h3; first | (have := h2 h3; omega) | (have := h1 h3; omega))

set_option maxRecDepth 100000 in
theorem number_calls' (s : Txt) (w : World) (hs : s.length ≤ 1073741824) (he : Env w) :
    Calls Tryz.prog 115 #[.string ⟨s.toArray⟩] w fun e w' => e = .returned (.bool (numberB s)) ∧ Below w.heap.size w w' := by
  have He := Lib.hid he
  have hsz : (⟨s.toArray⟩ : ByteArray).size ≤ 281474976710656 := by rw [size_mk]; omega
  by_cases hok : ∃ v, Lib.parseIntB 64 s = .ok v
  · obtain ⟨v, hv⟩ := hok
    obtain ⟨b1, b2⟩ := parseInt_bd hv
    have Hp := Lib.hid (parseInt_ok ⟨s.toArray⟩ w hsz v (by rw [L_mk]; exact hv))
    by_cases h0 : 0 ≤ v
    · have Hn := Lib.hid (show decide (Lib.itoa v = s) = numberB s by unfold numberB; rw [hv]; simp [h0])
      have Hq := Lib.hid (bytes_beq (Lib.itoa v) s)
      have hd : decide (0 ≤ v) = true := by simp [h0]
      clear hv he hs
      go_enter Tryz.func115, Tryz.ntmps115
      go_wp2_with fail
      refine Hp.out.mono ?_
      rintro e w1 ⟨rfl, hb⟩
      have Hb := Lib.hid hb
      clear hb
      go_wp2_with fail
      refine (formatInt_calls v w1 b1 b2 (He.out.below Hb.out)).mono ?_
      rintro e w2 ⟨rfl, hb2⟩
      have Hb2 := Lib.hid (Hb.out.trans (hb2.mono Hb.out.size))
      clear hb2
      go_wp2_with fail
      go_ret
      exact ⟨ret_bool (by rw [← Hn.out, ← Hq.out]; simp), Hb2.out⟩
    · have Hn := Lib.hid (show numberB s = false by unfold numberB; rw [hv]; simp [h0])
      have hd : decide (0 ≤ v) = false := by simp [h0]
      clear hv he hs
      go_enter Tryz.func115, Tryz.ntmps115
      go_wp2_with fail
      refine Hp.out.mono ?_
      rintro e w1 ⟨rfl, hb⟩
      have Hb := Lib.hid hb
      clear hb
      go_wp2_with fail
      go_ret
      exact ⟨ret_bool Hn.out.symm, Hb.out⟩
  · have Hn := Lib.hid (show numberB s = false by
      unfold numberB
      split
      · rename_i n hn; exact absurd ⟨n, hn⟩ hok
      · rfl)
    have Hp := Lib.hid (parseInt_bad ⟨s.toArray⟩ w hsz he (fun u hu => hok ⟨u, by rwa [L_mk] at hu⟩))
    clear hok he hs
    go_enter Tryz.func115, Tryz.ntmps115
    go_wp2_with fail
    refine Hp.out.mono ?_
    rintro e w1 ⟨⟨u, N, rfl⟩, hb⟩
    have Hb := Lib.hid hb
    clear hb
    go_wp2_with fail
    go_ret
    exact ⟨ret_bool Hn.out.symm, Hb.out⟩

theorem splitB_strs (s : Txt) (c : UInt8) : ((Lib.splitB ⟨#[c]⟩ 0 (Lib.countB ⟨s.toArray⟩ ⟨#[c]⟩) ⟨s.toArray⟩).map Value.string) = strsC (Lib.split s [c]) := by
  have h := Lib.splitB_data ⟨#[c]⟩ 0 (Lib.countB ⟨s.toArray⟩ ⟨#[c]⟩) ⟨s.toArray⟩
  have e : Lib.split s [c] = (Lib.splitB ⟨#[c]⟩ 0 (Lib.countB ⟨s.toArray⟩ ⟨#[c]⟩) ⟨s.toArray⟩).map (·.data.toList) := by
    rw [h]
    unfold Lib.split Lib.countB
    simp
  rw [e]
  unfold strsC
  rw [List.map_map]
  exact List.map_congr_left fun b _ => by simp
theorem split_len (s : Txt) (c : UInt8) : (Lib.split s [c]).length = Lib.countB ⟨s.toArray⟩ ⟨#[c]⟩ + 1 := by
  have h := congrArg List.length (splitB_strs s c)
  rw [List.length_map, Lib.splitB_all ⟨#[c]⟩ (Nat.le_refl 1) 0 _ _ rfl] at h
  simp only [strsC, List.length_map] at h
  exact h.symm
theorem split_calls (s : Txt) (c : UInt8) (w : World) (hs : s.length ≤ 1073741824) (he : Env w) :
    Calls Tryz.prog 114 #[.string ⟨s.toArray⟩, .string ⟨#[c]⟩] w fun e w' => e = .returned (.slice (some ⟨w.heap.size, 0, none⟩) (Lib.split s [c]).length (Lib.split s [c]).length) ∧ w.alloc (.cells (strsC (Lib.split s [c])).toArray 9) = w' := by
  obtain ⟨m, hm⟩ := he.max
  refine (Tryz.strings_Split ⟨s.toArray⟩ ⟨#[c]⟩ m w (by rw [size_mk]; omega) hm (Nat.le_refl 1)).mono ?_
  rintro e w' ⟨rfl, rfl⟩
  refine ⟨?_, ?_⟩
  · rw [split_len]
  · rw [splitB_strs]
theorem split_each (s : Txt) (c : UInt8) : ∀ t ∈ Lib.split s [c], t.length ≤ s.length := by
  have key : ∀ (k : Nat) (s : Txt), ∀ t ∈ Lib.splitK [c] 0 k s, t.length ≤ s.length := by
    intro k
    induction k with
    | zero => intro s t ht; simp [Lib.splitK] at ht; subst ht; exact Nat.le_refl _
    | succ k ih =>
      intro s t ht
      unfold Lib.splitK at ht
      split at ht
      · simp at ht; subst ht; exact Nat.le_refl _
      · rcases List.mem_cons.1 ht with h | h
        · subst h; rw [List.length_take]; omega
        · have := ih _ t h
          rw [List.length_drop] at this
          omega
  exact key _ s
theorem split_count (s : Txt) (c : UInt8) : (Lib.split s [c]).length ≤ s.length + 1 := by
  rw [split_len]
  have := Lib.countB_le ⟨#[c]⟩ (Nat.le_refl 1) s.length ⟨s.toArray⟩ (by rw [size_mk]; exact Nat.le_refl _)
  rw [size_mk] at this
  omega

end Go.Proofs.YtgehjklodphogaaGreatDoor.Pa

/- The parser: rows of operators, signs ahead. -/
namespace Go.Proofs.YtgehjklodphogaaGreatDoor.Pa
open Go.RowKit Go.Proofs.YtgehjklodphogaaGreatDoor.Lx

/-- a row of texts in a block -/
def TextsAt (w : World) (g n : Nat) (l : List Txt) : Prop := l.length = n ∧ ∀ (j : Nat) (hj : j < l.length), w.cell? ⟨g, j, none⟩ = some (.string ⟨l[j].toArray⟩)
theorem TextsAt.strs {w : World} {g n : Nat} {l : List Txt} (h : TextsAt w g n l) : StrsAt w (.slice (some ⟨g, 0, none⟩) n n) l := ⟨_, n, n, rfl, h.1, Nat.le_refl _, fun j hj => ⟨g, rfl, h.2 j hj⟩⟩
theorem TextsAt.new (w : World) (l : List Txt) (n : Nat) (cs : Array Value) (T : TypeId) (mk : Nat × Nat) (hcs : cs = (strsC l).toArray) (hn : l.length = n) : TextsAt (w.alloc (.cells cs T mk)) w.heap.size n l := by
  refine ⟨hn, fun j hj => ?_⟩
  have hb := heap_alloc_new w (.cells cs T mk)
  have key : ∀ (W : World) (B : Nat), W.heap[B]? = some (.cells cs T mk) → W.cell? ⟨B, j, none⟩ = cs[j]? := fun W B h => by simp [World.cell?, h]
  rw [key _ _ hb, hcs]
  simp [strsC, List.getElem?_eq_getElem hj]
theorem TextsAt.now {x : Px} {w w' : World} {sv lv' sv' : Value} {s' : St} {g n : Nat} {l : List Txt} (h : TextsAt w g n l) (hg1 : g ≠ x.B) (hg2 : sv.ownBlock ≠ some g) (hn : Now x w sv w' lv' sv' s') : TextsAt w' g n l :=
  ⟨h.1, fun j hj => (World.cell?_of_block (w := w) (a := ⟨g, j, none⟩) (hn.keep.2 g (World.block_lt_of_cell? _ _ (h.2 j hj)) hg1 hg2)).trans (h.2 j hj)⟩

theorem operators_calls (w : World) : Calls Tryz.prog 108 #[] w fun e w' => e = .returned (.slice (some ⟨w.heap.size, 0, none⟩) 11 11) ∧ w.alloc (.cells (strsC operators).toArray 9) = w' := by
  go_enter Tryz.func108, Tryz.ntmps108
  go_wp2_with fail
  go_ret
  exact ⟨rfl, rfl⟩
theorem opVal (t : Txt) : IntKind.u8.wrap (12 + IntKind.u8.wrap (idxI operators t)) = (opKind t : Nat) := by
  unfold idxI opKind
  by_cases h : t ∈ operators
  · rw [if_pos h, if_pos h]
    have h1 := List.idxOf_lt_length_of_mem h
    have h2 : operators.length = 11 := rfl
    simp only [IntKind.wrap_u8]
    omega
  · rw [if_neg h, if_neg h]
    rfl

variable {x : Px} {w : World} {lv sv : Value} {s : St}

/-- a function of the program's own text is entered at a call -/
def Enters (g : FuncId) : Prop := ∀ (args : Array Value) (W : World), (callFunc g args).run Tryz.prog W = .ok (.enter g args) W
theorem enters_of {g : FuncId} {fn : Func} (hf : Tryz.prog.funcs[g]? = some fn) (hn : (fn.name == "runtime.NumGoroutine") = false) (hb : fn.body.isNone = false) : Enters g := fun args W => by
  have hn' : ¬ fn.name = "runtime.NumGoroutine" := by simpa using hn
  have hb' : ¬ fn.body = none := fun e => by rw [e] at hb; cases hb
  simp [callFunc, go_sem, hf, hn', hb']
theorem enters_signed : Enters 213 := enters_of Tryz.func213 (by kernel_rfl) (by kernel_rfl)
/-- what a function that reads a thing does: 'one' over the states -/
def Reads (x : Px) (g : FuncId) (d : Nat) (one : St → Option St) : Prop := ∀ (w : World) (lv sv : Value) (s s' : St), PS x w lv sv s → one s = some s' →
  Calls Tryz.prog g #[.pointer (some ⟨x.B, 0, none⟩), .int .i64 d] w (Did x w sv s')

set_option maxHeartbeats 1000000 in
set_option maxRecDepth 100000 in
theorem row_calls (h : PS x w lv sv s) (k : Nat) (g d gt nt : Nat) (texts : List Txt) (one : St → Option St) (hone : Reads x g d one) (hent : Enters g) (ht : TextsAt w gt nt texts) (hg1 : gt ≠ x.B) (hg2 : sv.ownBlock ≠ some gt) (hn100 : nt ≤ 100) (n : Nat) (s' : St)
    (hr : row one k texts n s = some s') :
    Calls Tryz.prog 153 #[.pointer (some ⟨x.B, 0, none⟩), .int .u8 k, .func (.func g) #[.pointer (some ⟨x.B, 0, none⟩)] #[], .int .i64 d, .slice (some ⟨gt, 0, none⟩) nt nt] w (Did x w sv s') := by
  obtain ⟨s1, hs1, hr1⟩ := Option.bind_eq_some_iff.1 hr
  have H1 := Lib.hid (hone w lv sv s s1 h hs1)
  have Ht := Lib.hid (fun w' lv' sv' s' hn => ht.now (w' := w') (lv' := lv') (sv' := sv') (s' := s') hg1 hg2 hn)
  have Hr := Lib.hid hr1
  have Hone := Lib.hid hone
  have Hlen := Lib.hid (show texts.length ≤ 100 by have := ht.1; omega)
  unfold Enters at hent
  clear h hr hr1 hs1 hone ht hg1 hg2
  go_enter Tryz.func153, Tryz.ntmps153
  go_wp2_with fail
  refine H1.out.mono ?_
  rintro e w1 ⟨rfl, lv1, sv1, h1⟩
  have Hn1 := Lib.hid h1
  clear h1
  go_wp2_with fail
  go_loopg [] n (fun gk wr => Hid (∃ lv2 sv2 s2, Now x w sv wr lv2 sv2 s2 ∧ rowL one k texts gk s2 = some s'))
  case atStart => exact ⟨_, _, _, Hn1.out, Hr.out⟩
  case round =>
    obtain ⟨lv2, sv2, s2, h2, hr2⟩ := hrel
    have Ht2 := Lib.hid (take_calls h2.ps k _ texts (Ht.out _ _ _ _ h2).strs Hlen.out)
    cases gk with
    | zero => simp [rowL] at hr2
    | succ m =>
      rw [rowL] at hr2
      have hkept := fun o w2 lv2 sv2 s2 h2' => kept (o := o) (w' := w2) (lv' := lv2) (sv' := sv2) (s' := s2) h2.ps h2'
      have H2 := Lib.hid h2
      cases hx : s2.next k texts with
      | false =>
        rw [hx] at hr2 Ht2
        rw [(need_no hx).2] at Ht2
        have hs : s2 = s' := by simpa using hr2
        subst hs
        clear hr2 hx hkept h2
        generalize s2.taken k texts = T at *
        go_wp2_with fail
        refine Ht2.out.mono ?_
        rintro e w3 ⟨rfl, lv3, sv3, h3⟩
        have H3 := Lib.hid (H2.out.trans h3)
        unfold Tok.val
        clear h3
        go_wp2_with fail
        go_end0
        exact ⟨rfl, _, _, H3.out.alloc _⟩
      | true =>
        rw [hx] at hr2 Ht2
        have e1 : s2.after k texts = s2.drop := by unfold St.after; rw [hx]; rfl
        have e2 : s2.taken k texts = s2.head := by unfold St.taken; rw [hx]; rfl
        rw [e1, e2] at Ht2
        simp only [if_true] at hr2
        obtain ⟨s3, hs3, hr3⟩ := Option.bind_eq_some_iff.1 hr2
        have Hs3 := Lib.hid hs3
        have Hr3 := Lib.hid hr3
        clear hr2 hx hkept h2 e1 e2 hs3 hr3
        generalize s2.head = T at *
        go_wp2_with fail
        refine Ht2.out.mono ?_
        rintro e w3 ⟨rfl, lv3, sv3, h3⟩
        have H3 := Lib.hid (H2.out.trans h3)
        have Hkept := Lib.hid (fun o w2 lv2 sv2 s2 h2' => kept (o := o) (w' := w2) (lv' := lv2) (sv' := sv2) (s' := s2) h3.ps h2')
        unfold Tok.val
        clear h3
        go_wp2_with fail
        refine (Hone.out _ _ _ _ s3 (H3.out.ps.step (alloc_below _ _)) Hs3.out).mono ?_
        rintro e w4 ⟨rfl, lv4, sv4, h4⟩
        have H4 := Lib.hid ((H3.out.alloc _).trans h4)
        obtain ⟨⟨k0, k1, k2, k3⟩, -⟩ := four (Hkept.out _ _ _ _ _ h4)
        have hlt4 : w3.heap.size < w4.heap.size := World.block_lt_of_cell? _ _ k0
        clear h4 Hkept
        go_wp2_with fail
        have Hops := Lib.hid (((TextsAt.new w4 operators 11 _ 9 (0, 0) rfl rfl).strs).below ((Below.refl _ (w4.alloc (.cells (strsC operators).toArray 9))).drew))
        have Hd := Lib.hid ((H4.out.alloc (.cells (strsC operators).toArray 9)).drew)
        have Hv := Lib.hid (opVal T.text)
        have hput := put_calls Hd.out.ps ⟨opKind T.text, [], 0⟩
        unfold Stp.val at hput
        simp only [] at hput
        rw [← Hv.out] at hput
        have Hput := Lib.hid hput
        clear hput
        go_region_with ((first | (go_at_call 108; refine (operators_calls _).mono ?_; rintro e w5 ⟨rfl, rfl⟩) | (go_at_call 178; refine (index_calls _ _ operators T.text Hops.out (by decide)).mono ?_; rintro e w5 ⟨rfl, rfl⟩) | (go_at_call 177; refine Hput.out.mono ?_; rintro e w6 ⟨rfl, lv6, sv6, h6⟩)))
        all_goals
          have Hn6 := Lib.hid (Hd.out.trans h6)
          clear h6
          go_wp2_with fail
          go_roundg m
          case measure => omega
          case rel => exact ⟨_, _, _, Hn6.out, Hr3.out⟩

/-- a closure over a thing's depth -/
def ReadsAt (x : Px) (g : FuncId) (one : Nat → St → Option St) : Prop := ∀ d, d ≤ 16 → Reads x g d (one d)

set_option maxRecDepth 100000 in
theorem ahead_calls (k : Nat) (g : FuncId) (text : Txt) (step : Nat) (other : Nat → St → Option St) (hoth : ReadsAt x g other) (hent : Enters g) : ∀ (n d : Nat) (w : World) (lv sv : Value) (s s' : St), d ≤ 16 → PS x w lv sv s → aheadF k text step other n d s = some s' →
    Calls Tryz.prog 200 #[.pointer (some ⟨x.B, 0, none⟩), .int .u8 k, .string ⟨text.toArray⟩, .int .u8 step, .int .i64 d, .func (.func g) #[.pointer (some ⟨x.B, 0, none⟩)] #[]] w (Did x w sv s')
  | 0, _, _, _, _, _, _, _, _, hr => by simp [aheadF] at hr
  | n + 1, d, w, lv, sv, s, s', hd, h, hr => by
    have Hn := Lib.hid (next_calls (h.step (alloc_below w (.cells #[.string ⟨text.toArray⟩] 9))) k _ [text] (StrsAt.new w [text] 1 _ _ _ rfl rfl) (by simp))
    have Hh := Lib.hid ((Now.refl h).alloc (.cells #[.string ⟨text.toArray⟩] 9))
    have hent' := hent
    unfold Enters at hent'
    rw [aheadF] at hr
    cases hx : s.next k [text] with
    | false =>
      rw [hx] at hr Hn
      have Ho := Lib.hid (hoth d hd _ _ _ _ s' Hh.out.ps (by simpa using hr))
      clear h hr hx hoth
      go_enter Tryz.func200, Tryz.ntmps200
      go_wp2_with fail
      refine Hn.out.mono ?_
      rintro e w1 ⟨rfl, rfl⟩
      go_wp2_with fail
      refine Ho.out.mono ?_
      rintro e w1 ⟨rfl, lv1, sv1, h1⟩
      have H1 := Lib.hid (Hh.out.trans h1)
      clear h1
      go_wp2_with fail
      go_end0
      exact ⟨rfl, _, _, H1.out⟩
    | true =>
      rw [hx] at hr Hn
      obtain ⟨t, r, hl⟩ : ∃ t r, s.left = t :: r := by
        cases hl : s.left with
        | nil => rw [next_nil hl] at hx; cases hx
        | cons t r => exact ⟨t, r, rfl⟩
      simp only [if_true] at hr
      by_cases hd16 : 16 ≤ d
      · rw [if_pos hd16] at hr
        have hs : s.deep = s' := by simpa using hr
        subst hs
        have Ho := Lib.hid (nest_deep Hh.out.ps d hd16 (by omega))
        clear h hr hx hoth hl
        go_enter Tryz.func200, Tryz.ntmps200
        go_wp2_with fail
        refine Hn.out.mono ?_
        rintro e w1 ⟨rfl, rfl⟩
        go_wp2_with fail
        refine Ho.out.mono ?_
        rintro e w1 ⟨rfl, lv1, sv1, h1⟩
        have H1 := Lib.hid (Hh.out.trans h1)
        clear h1
        go_wp2_with fail
        go_end0
        exact ⟨rfl, _, _, H1.out⟩
      · rw [if_neg hd16] at hr
        obtain ⟨s1, hs1, hr1⟩ := Option.bind_eq_some_iff.1 hr
        have hs : s1.put ⟨step, [], 0⟩ = s' := by simpa using hr1
        subst hs
        have Ho := Lib.hid (nest_yes Hh.out.ps d (by omega) hl)
        have Hs1 := Lib.hid hs1
        have Hoth := Lib.hid hoth
        have hdd : (d : Int) < 16 := by omega
        clear h hr hx hoth hl hs1 hr1
        go_enter Tryz.func200, Tryz.ntmps200
        go_wp2_with fail
        refine Hn.out.mono ?_
        rintro e w1 ⟨rfl, rfl⟩
        go_wp2_with fail
        refine Ho.out.mono ?_
        rintro e w1 ⟨rfl, lv1, sv1, h1⟩
        have H1 := Lib.hid (Hh.out.trans h1)
        clear h1
        go_wp2_with fail
        refine (ahead_calls k g text step other Hoth.out hent n (d + 1) w1 lv1 sv1 s.drop s1 (by omega) H1.out.ps Hs1.out).mono ?_
        rintro e w2 ⟨rfl, lv2, sv2, h2⟩
        have H2 := Lib.hid (H1.out.trans h2)
        clear h2
        go_wp2_with fail
        refine (put_calls H2.out.ps ⟨step, [], 0⟩).mono ?_
        rintro e w3 ⟨rfl, lv3, sv3, h3⟩
        have H3 := Lib.hid (H2.out.trans h3)
        clear h3
        go_wp2_with fail
        go_end0
        exact ⟨rfl, _, _, H3.out⟩

end Go.Proofs.YtgehjklodphogaaGreatDoor.Pa
