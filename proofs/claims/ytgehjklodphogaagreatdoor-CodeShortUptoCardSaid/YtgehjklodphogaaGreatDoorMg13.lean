/- Parts: LxF LxE. -/
import Derived.Test.YtgehjklodphogaaGreatDoorMg12
import Derived.Test.YtgehjklodphogaaGreatDoorShelf
import Derived.WalkSmall

/- The reader of signs. -/
namespace Go.Proofs.YtgehjklodphogaaGreatDoor.Lx
open Go.RowKit

theorem find_at {α : Type} {p : α → Bool} : ∀ {l : List α} {k : Nat} (hk : k < l.length), (∀ j (h : j < l.length), j < k → p l[j] = false) → p l[k] = true → l.find? p = some l[k]
  | [], _, hk, _, _ => absurd hk (by simp)
  | a :: l, 0, _, _, h => by
    have h' : p a = true := h
    simp [h']
  | a :: l, k + 1, hk, h0, h => by
    have ha : p a = false := h0 0 (by simp) (by omega)
    have hk' : k < l.length := by simpa using hk
    simp only [List.find?_cons, ha, List.getElem_cons_succ]
    exact find_at hk' (fun j hj hjk => h0 (j + 1) (by simpa using hj) (by omega)) (by simpa using h)

def SignsAt (w : World) (B : Nat) : Prop := ∀ j (h : j < signs.length), w.cell? ⟨B, j, none⟩ = some (.string ⟨signs[j].toArray⟩)
theorem signs_length : signs.length = 18 := rfl

abbrev tokObj : Obj := .cells #[.int .u8 0, .string ⟨#[]⟩, .int .i64 0, .int .i64 0] 49
abbrev signsObj : Obj := .cells #[.string ⟨#[60, 62]⟩, .string ⟨#[60, 61]⟩, .string ⟨#[62, 61]⟩, .string ⟨#[61]⟩, .string ⟨#[60]⟩, .string ⟨#[62]⟩, .string ⟨#[43]⟩, .string ⟨#[45]⟩, .string ⟨#[42]⟩, .string ⟨#[40]⟩, .string ⟨#[41]⟩, .string ⟨#[91]⟩, .string ⟨#[93]⟩, .string ⟨#[123]⟩, .string ⟨#[125]⟩, .string ⟨#[44]⟩, .string ⟨#[58]⟩, .string ⟨#[46]⟩] 9
theorem signs_at (w : World) : SignsAt (w.alloc signsObj) w.heap.size := by
  intro j hj
  rw [World.cell?_alloc_new]
  match j, hj with
  | 0, _ => rfl
  | 1, _ => rfl
  | 2, _ => rfl
  | 3, _ => rfl
  | 4, _ => rfl
  | 5, _ => rfl
  | 6, _ => rfl
  | 7, _ => rfl
  | 8, _ => rfl
  | 9, _ => rfl
  | 10, _ => rfl
  | 11, _ => rfl
  | 12, _ => rfl
  | 13, _ => rfl
  | 14, _ => rfl
  | 15, _ => rfl
  | 16, _ => rfl
  | 17, _ => rfl
  | n + 18, h => exact absurd h (by rw [signs_length]; omega)
theorem sign_world (w : World) : Below w.heap.size w ((w.alloc tokObj).alloc signsObj) ∧ ((w.alloc tokObj).alloc signsObj).heap[w.heap.size]? = some tokObj ∧ SignsAt ((w.alloc tokObj).alloc signsObj) (w.heap.size + 1) := by
  refine ⟨((Below.refl _ _).alloc (Nat.le_refl _) _).alloc (by simp) _, ?_, ?_⟩
  · rw [Below.heap_alloc _ _ _ (by simp)]
    simp [World.alloc, -World.alloc_eq]
  · have := signs_at (w.alloc tokObj)
    simpa using this

/-- none of the first k signs begins the text -/
def NoSign (l : List UInt8) (k : Nat) : Prop := ∀ j (h : j < signs.length), j < k → Lib.hasPrefix l signs[j] = false
theorem NoSign.end_ {l : List UInt8} {k : Nat} (h : NoSign l k) (hk : 18 ≤ k) : signR l = .err 13 := by
  unfold signR
  have : (signs.find? fun t => Lib.hasPrefix l t) = none := by
    rw [List.find?_eq_none]
    intro t ht
    obtain ⟨j, hj, rfl⟩ := List.getElem_of_mem ht
    simp [h j hj (by rw [signs_length] at hj; omega)]
  rw [this]
theorem NoSign.hit {l : List UInt8} {k : Nat} (h : NoSign l k) (hk : k < signs.length) (hp : Lib.hasPrefix l signs[k] = true) : signR l = .ok ⟨5, signs[k], 0, 0⟩ signs[k].length := by
  unfold signR
  rw [find_at hk h hp]
theorem NoSign.step {l : List UInt8} {k : Nat} (h : NoSign l k) (hp : ∀ hk : k < signs.length, Lib.hasPrefix l signs[k] = false) : NoSign l (k + 1) := by
  intro j hj hjk
  by_cases e : j = k
  · subst e; exact hp hj
  · exact h j hj (by omega)

set_option maxRecDepth 100000 in
theorem sign_calls (s : ByteArray) (w : World) :
    Calls Tryz.prog 102 #[.string s] w fun e w' => e = .returned (signR (L s)).val ∧ Below w.heap.size w w' := by
  go_enter Tryz.func102, Tryz.ntmps102
  go_wp2
  obtain ⟨hb, ht, hS⟩ := sign_world w
  generalize hW : (w.alloc tokObj).alloc signsObj = W at hb ht hS ⊢
  clear hW
  have Hb := Lib.hid hb
  have HS := Lib.hid hS
  obtain ⟨⟨c0, c1, c2, c3⟩, f0, f1, f2, f3⟩ := four ht
  have Ht := Lib.hid ht
  clear hb hS ht
  go_loop [9] (fun i => ∃ k : Nat, k ≤ 18 ∧ i = .int .i64 k ∧ Hid (NoSign (L s) k)) (fun i => 18 - (intOf i).toNat)
  case atStart => exact ⟨0, Nat.zero_le _, rfl, fun j _ h => absurd h (Nat.not_lt_zero _)⟩
  case round =>
    obtain ⟨k, hk, rfl, hn⟩ := hrel
    by_cases hlt : k < 18
    · have hlt' : k < signs.length := hlt
      have hc := HS.out k hlt'
      generalize hg : signs[k] = g at hc
      have Hg := Lib.hid hg
      clear hg
      cases hp : Lib.hasPrefix (L s) (L ⟨g.toArray⟩)
      · have Hp := Lib.hid (hn.out.step fun h => by rw [Hg.out, ← L_mk g]; exact hp)
        go_wp2_with (first | (go_at_call 137; refine (Tryz.strings_HasPrefix _ _ _).mono ?_; rintro e w' ⟨rfl, rfl⟩))
        go_round
        case rel => exact ⟨k + 1, by omega, by go_num, Hp⟩
        case measure => simp [intOf]; omega
      · have Hp := Lib.hid (hn.out.hit hlt' (by rw [Hg.out, ← L_mk g]; exact hp))
        go_wp2_with (first | (go_at_call 137; refine (Tryz.strings_HasPrefix _ _ _).mono ?_; rintro e w' ⟨rfl, rfl⟩))
        have hv : (signR (L s)).val = .tuple #[.agg #[.int .u8 5, .string ⟨g.toArray⟩, .int .i64 0, .int .i64 0], .int .i64 g.length, .int .i64 0] := by
          rw [Hp.out, Hg.out]; rfl
        rw [hv]
        exact bodyPost_ret (v := .tuple #[.agg #[.int .u8 5, .string ⟨g.toArray⟩, .int .i64 0, .int .i64 0], .int .i64 g.length, .int .i64 0]) (by simp [results, Tryz.results102, go_sem, c0, c1, c2, c3]) rfl ⟨rfl, below_set4 Hb.out _ _ _ _ _ _ _ _⟩
    · have Hn := Lib.hid (hn.out.end_ (by omega))
      go_wp2
      rw [Hn.out]
      exact bodyPost_ret (v := (Rd.err 13).val) (by simp [results, Tryz.results102, go_sem, Rd.val, tok0, Tok.val, c0, c1, c2, c3]) rfl ⟨rfl, below_set4 Hb.out _ _ _ _ _ _ _ _⟩

end Go.Proofs.YtgehjklodphogaaGreatDoor.Lx

/- What the walks ask of a world's package-level variables, and that it lasts. -/
namespace Go.Proofs.YtgehjklodphogaaGreatDoor.Lx
open Go.RowKit

structure Env (w : World) : Prop where
  syn : ∃ ev, w.cell? ⟨5, 0, none⟩ = some ev ∧ (ev = .nilIface ∨ ∃ te pe, ev = .iface te pe)
  rng : ∃ ev, w.cell? ⟨6, 0, none⟩ = some ev ∧ (ev = .nilIface ∨ ∃ te pe, ev = .iface te pe)
  max : ∃ m, w.cell? ⟨4, 0, none⟩ = some (.int .i64 m)
  pow : Lib.TabIs Tryz.prog w "internal/strconv.uint64pow10" .u64 Lib.pow10Tab
  utf : Lib.Utf8Tabs 0 1 w
  ltS : 5 < w.heap.size
  ltR : 6 < w.heap.size
  ltM : 4 < w.heap.size
  ltP : 3 < w.heap.size
  ltF : 0 < w.heap.size
  ltA : 1 < w.heap.size

theorem gPow : Tryz.prog.globalNamed "internal/strconv.uint64pow10" = some 3 := by kernel_rfl

theorem Env.below {w w' : World} (h : Env w) (hb : Below w.heap.size w w') : Env w' where
  syn := let ⟨ev, h1, h2⟩ := h.syn; ⟨ev, (hb.cell (p := ⟨_, 0, none⟩) h.ltS).trans h1, h2⟩
  rng := let ⟨ev, h1, h2⟩ := h.rng; ⟨ev, (hb.cell (p := ⟨_, 0, none⟩) h.ltR).trans h1, h2⟩
  max := let ⟨m, h1⟩ := h.max; ⟨m, (hb.cell (p := ⟨_, 0, none⟩) h.ltM).trans h1⟩
  pow := var?_below hb gPow h.ltP h.pow
  utf := ⟨fun c hc => (hb.cell (p := ⟨_, c, none⟩) h.ltF).trans (h.utf.1 c hc), fun i hi => ⟨(hb.cell (p := ⟨_, 2 * i, none⟩) h.ltA).trans (h.utf.2 i hi).1, (hb.cell (p := ⟨_, 2 * i + 1, none⟩) h.ltA).trans (h.utf.2 i hi).2⟩⟩
  ltS := Nat.lt_of_lt_of_le h.ltS hb.size
  ltR := Nat.lt_of_lt_of_le h.ltR hb.size
  ltM := Nat.lt_of_lt_of_le h.ltM hb.size
  ltP := Nat.lt_of_lt_of_le h.ltP hb.size
  ltF := Nat.lt_of_lt_of_le h.ltF hb.size
  ltA := Nat.lt_of_lt_of_le h.ltA hb.size
theorem Env.alloc {w : World} (h : Env w) (o : Obj) : Env (w.alloc o) := h.below ((Below.refl _ _).alloc (Nat.le_refl _) o)

end Go.Proofs.YtgehjklodphogaaGreatDoor.Lx
