/- Parts: LxC LxF RaM RaB. -/
import Derived.Test.YtcjmhmmjfgjcnaaGreatDoorMc01
import Derived.Test.YtcjmhmmjfgjcnaaGreatDoorMc03
import Derived.Test.YtcjmhmmjfgjcnaaGreatDoorMc10
import Derived.Test.YtcjmhmmjfgjcnaaGreatDoorMc11
import Derived.Test.YtcjmhmmjfgjcnaaGreatDoorMc12
import Derived.Test.YtcjmhmmjfgjcnaaGreatDoorProg
import Derived.Maps.AppendAt
import Derived.Deep.DeepMust
import Derived.Deep.AppendLies
import Derived.Laws.OwnMore
import Derived.Lib.IndexLaws

/- The readers of single tokens: word, number, sign, text. -/
namespace Go.Proofs.YtcjmhmmjfgjcnaaGreatDoor.Lx
open Go.RowKit

def Tok.val (t : Tok) : Value := .agg #[.int .u8 t.kind, .string ⟨t.text.toArray⟩, .int .i64 t.num, .int .i64 t.pos]
def Rd.val : Rd → Value
  | .ok t n => .tuple #[t.val, .int .i64 n, .int .i64 0]
  | .err e => .tuple #[tok0.val, .int .i64 0, .int .i64 e]

theorem four {w : World} {B : Nat} {a b c d : Value} {T : TypeId} (h : w.heap[B]? = some (.cells #[a, b, c, d] T)) :
    (w.cell? ⟨B, 0, none⟩ = some a ∧ w.cell? ⟨B, 1, none⟩ = some b ∧ w.cell? ⟨B, 2, none⟩ = some c ∧ w.cell? ⟨B, 3, none⟩ = some d) ∧
    (w.frozen? ⟨B, 0, none⟩ = false ∧ w.frozen? ⟨B, 1, none⟩ = false ∧ w.frozen? ⟨B, 2, none⟩ = false ∧ w.frozen? ⟨B, 3, none⟩ = false) := by
  simp [World.cell?, World.frozen?, h]
theorem new_block (w : World) (o : Obj) {w' : World} (hb : Below (w.alloc o).heap.size (w.alloc o) w') : w'.heap[w.heap.size]? = some o := by
  rw [hb.block w.heap.size (by simp)]
  simp [World.alloc, -World.alloc_eq]
theorem below_new {w w' : World} {o : Obj} (hb : Below (w.alloc o).heap.size (w.alloc o) w') : Below w.heap.size w w' :=
  ((Below.refl _ _).alloc (Nat.le_refl _) o).trans (hb.mono (by simp))

theorem ext_le (s : ByteArray) (n : Nat) (h : s.size ≤ maxLen) : (s.extract 0 n).size ≤ maxLen := by
  rw [← L_length, L_take, List.length_take]; exact Nat.le_trans (Nat.min_le_right _ _) (by rw [L_length]; exact h)

theorem below_set4 {w w1 : World} (h : Below w.heap.size w w1) (a b c d : Value) (i j k l : Nat) :
    Below w.heap.size w ((((w1.setCell ⟨w.heap.size, i, none⟩ a).setCell ⟨w.heap.size, j, none⟩ b).setCell ⟨w.heap.size, k, none⟩ c).setCell ⟨w.heap.size, l, none⟩ d) :=
  (((h.setCell (Nat.le_refl _) _).setCell (Nat.le_refl _) _).setCell (Nat.le_refl _) _).setCell (Nat.le_refl _) _

set_option maxRecDepth 100000 in
theorem word_calls (s : ByteArray) (w : World) (hs : s.size ≤ maxLen) :
    Calls Tryz.prog 91 #[.string s] w fun e w' => e = .returned (wordR (L s)).val ∧ Below w.heap.size w w' := by
  have hle := runN_le wordB (L s)
  rw [L_length] at hle
  have Hs := Lib.hid hs
  unfold maxLen at hs
  unfold wordR
  cases hk : keywordB ((L s).take (runN wordB (L s)))
  · rw [if_neg (by simp)]
    have hk' : keywordB (L (s.extract 0 (runN wordB (L s)))) = false := by rw [L_take]; exact hk
    have Hk := Lib.hid hk
    clear hk
    by_cases h64 : 64 < runN wordB (L s)
    · rw [if_pos h64]
      go_enter Tryz.func91, Tryz.ntmps91
      go_wp2_with fail
      refine (runN_word _ _ Hs.out).mono ?_
      rintro e w1 ⟨rfl, rfl⟩
      go_wp2_with fail
      refine (Keyword_calls _ _ (ext_le _ _ Hs.out)).mono ?_
      rintro e w1 ⟨rfl, hb1⟩
      have hw1 := new_block _ _ hb1
      have Hb1 := Lib.hid (below_new hb1)
      have hz1 : w.heap.size < w1.heap.size := by have := hb1.size; simp at this; omega
      have Hw1 := Lib.hid hw1
      clear hb1 hw1
      obtain ⟨⟨c0, c1, c2, c3⟩, f0, f1, f2, f3⟩ := four Hw1.out
      go_wp2_with fail
      refine bodyPost_ret (v := (Rd.err 13).val) (by simp [results, Tryz.results91, go_sem, Rd.val, tok0, Tok.val, c0, c1, c2, c3]) rfl ⟨rfl, below_set4 Hb1.out _ _ _ _ _ _ _ _⟩
    · rw [if_neg h64]
      go_enter Tryz.func91, Tryz.ntmps91
      go_wp2_with fail
      refine (runN_word _ _ Hs.out).mono ?_
      rintro e w1 ⟨rfl, rfl⟩
      go_wp2_with fail
      refine (Keyword_calls _ _ (ext_le _ _ Hs.out)).mono ?_
      rintro e w1 ⟨rfl, hb1⟩
      have hw1 := new_block _ _ hb1
      have Hb1 := Lib.hid (below_new hb1)
      have hz1 : w.heap.size < w1.heap.size := by have := hb1.size; simp at this; omega
      have Hw1 := Lib.hid hw1
      clear hb1 hw1
      obtain ⟨⟨c0, c1, c2, c3⟩, f0, f1, f2, f3⟩ := four Hw1.out
      go_wp2_with fail
      refine bodyPost_ret (v := .tuple #[.agg #[.int .u8 1, .string (s.extract 0 (runN wordB (L s))), .int .i64 0, .int .i64 0], .int .i64 (runN wordB (L s)), .int .i64 0]) (by simp [results, Tryz.results91, go_sem, c0, c1, c2, c3]) rfl ⟨?_, below_set4 Hb1.out _ _ _ _ _ _ _ _⟩
      simp only [Rd.val, Tok.val]
      rw [← L_take, mk_L]
      rfl
  · rw [if_pos rfl]
    have hk' : keywordB (L (s.extract 0 (runN wordB (L s)))) = true := by rw [L_take]; exact hk
    have Hk := Lib.hid hk
    clear hk
    go_enter Tryz.func91, Tryz.ntmps91
    go_wp2_with fail
    refine (runN_word _ _ Hs.out).mono ?_
    rintro e w1 ⟨rfl, rfl⟩
    go_wp2_with fail
    refine (Keyword_calls _ _ (ext_le _ _ Hs.out)).mono ?_
    rintro e w1 ⟨rfl, hb1⟩
    have hw1 := new_block _ _ hb1
    have Hb1 := Lib.hid (below_new hb1)
    have hz1 : w.heap.size < w1.heap.size := by have := hb1.size; simp at this; omega
    have Hw1 := Lib.hid hw1
    clear hb1 hw1
    go_wp2_with fail
    refine (great_calls _ _ (ext_le _ _ Hs.out)).mono ?_
    rintro e w2 ⟨rfl, hb2⟩
    have hw2 : w2.heap[w.heap.size]? = _ := (hb2.block _ hz1).trans Hw1.out
    have Hb2 := Lib.hid (Hb1.out.trans (hb2.mono (by omega)))
    have hz2 : w.heap.size < w2.heap.size := Nat.lt_of_lt_of_le hz1 hb2.size
    obtain ⟨⟨c0, c1, c2, c3⟩, f0, f1, f2, f3⟩ := four hw2
    clear hb2 hw2
    go_wp2_with fail
    refine bodyPost_ret (v := (Rd.ok ⟨2, great ((L s).take (runN wordB (L s))), 0, 0⟩ (runN wordB (L s))).val) (by rw [← L_take]; simp [results, Tryz.results91, go_sem, Rd.val, Tok.val, c0, c1, c2, c3]) rfl ⟨rfl, below_set4 Hb2.out _ _ _ _ _ _ _ _⟩

end Go.Proofs.YtcjmhmmjfgjcnaaGreatDoor.Lx

/- The reader of signs. -/
namespace Go.Proofs.YtcjmhmmjfgjcnaaGreatDoor.Lx
open Go.RowKit

theorem find_at {α : Type} {p : α → Bool} : ∀ {l : List α} {k : Nat} (hk : k < l.length), (∀ j (h : j < l.length), j < k → p l[j] = false) → p l[k] = true → l.find? p = some l[k]
  | [], _, hk, _, _ => absurd hk (by simp)
  | a :: l, 0, _, _, h => by
    have h' : p a = true := h
    simp [h']
  | a :: l, k + 1, hk, h0, h => by
    have ha : p a = false := h0 0 (by simp) (by omega)
    have hk' : k < l.length := by simpa using hk
    simp only [List.find?_cons, ha, List.getElem_cons_succ]
    exact find_at hk' (fun j hj hjk => h0 (j + 1) (by simpa using hj) (by omega)) (by simpa using h)

def SignsAt (w : World) (B : Nat) : Prop := ∀ j (h : j < signs.length), w.cell? ⟨B, j, none⟩ = some (.string ⟨signs[j].toArray⟩)
theorem signs_length : signs.length = 18 := rfl

abbrev tokObj : Obj := .cells #[.int .u8 0, .string ⟨#[]⟩, .int .i64 0, .int .i64 0] 41
abbrev signsObj : Obj := .cells #[.string ⟨#[60, 62]⟩, .string ⟨#[60, 61]⟩, .string ⟨#[62, 61]⟩, .string ⟨#[61]⟩, .string ⟨#[60]⟩, .string ⟨#[62]⟩, .string ⟨#[43]⟩, .string ⟨#[45]⟩, .string ⟨#[42]⟩, .string ⟨#[40]⟩, .string ⟨#[41]⟩, .string ⟨#[91]⟩, .string ⟨#[93]⟩, .string ⟨#[123]⟩, .string ⟨#[125]⟩, .string ⟨#[44]⟩, .string ⟨#[58]⟩, .string ⟨#[46]⟩] 9
theorem signs_at (w : World) : SignsAt (w.alloc signsObj) w.heap.size := by
  intro j hj
  rw [World.cell?_alloc_new]
  match j, hj with
  | 0, _ => rfl
  | 1, _ => rfl
  | 2, _ => rfl
  | 3, _ => rfl
  | 4, _ => rfl
  | 5, _ => rfl
  | 6, _ => rfl
  | 7, _ => rfl
  | 8, _ => rfl
  | 9, _ => rfl
  | 10, _ => rfl
  | 11, _ => rfl
  | 12, _ => rfl
  | 13, _ => rfl
  | 14, _ => rfl
  | 15, _ => rfl
  | 16, _ => rfl
  | 17, _ => rfl
  | n + 18, h => exact absurd h (by rw [signs_length]; omega)
theorem sign_world (w : World) : Below w.heap.size w ((w.alloc tokObj).alloc signsObj) ∧ ((w.alloc tokObj).alloc signsObj).heap[w.heap.size]? = some tokObj ∧ SignsAt ((w.alloc tokObj).alloc signsObj) (w.heap.size + 1) := by
  refine ⟨((Below.refl _ _).alloc (Nat.le_refl _) _).alloc (by simp) _, ?_, ?_⟩
  · rw [Below.heap_alloc _ _ _ (by simp)]
    simp [World.alloc, -World.alloc_eq]
  · have := signs_at (w.alloc tokObj)
    simpa using this

def NoSign (l : List UInt8) (k : Nat) : Prop := ∀ j (h : j < signs.length), j < k → Lib.hasPrefix l signs[j] = false
theorem NoSign.end_ {l : List UInt8} {k : Nat} (h : NoSign l k) (hk : 18 ≤ k) : signR l = .err 13 := by
  unfold signR
  have : (signs.find? fun t => Lib.hasPrefix l t) = none := by
    rw [List.find?_eq_none]
    intro t ht
    obtain ⟨j, hj, rfl⟩ := List.getElem_of_mem ht
    simp [h j hj (by rw [signs_length] at hj; omega)]
  rw [this]
theorem NoSign.hit {l : List UInt8} {k : Nat} (h : NoSign l k) (hk : k < signs.length) (hp : Lib.hasPrefix l signs[k] = true) : signR l = .ok ⟨5, signs[k], 0, 0⟩ signs[k].length := by
  unfold signR
  rw [find_at hk h hp]
theorem NoSign.step {l : List UInt8} {k : Nat} (h : NoSign l k) (hp : ∀ hk : k < signs.length, Lib.hasPrefix l signs[k] = false) : NoSign l (k + 1) := by
  intro j hj hjk
  by_cases e : j = k
  · subst e; exact hp hj
  · exact h j hj (by omega)

set_option maxRecDepth 100000 in
theorem sign_calls (s : ByteArray) (w : World) :
    Calls Tryz.prog 97 #[.string s] w fun e w' => e = .returned (signR (L s)).val ∧ Below w.heap.size w w' := by
  go_enter Tryz.func97, Tryz.ntmps97
  go_wp2
  obtain ⟨hb, ht, hS⟩ := sign_world w
  generalize hW : (w.alloc tokObj).alloc signsObj = W at hb ht hS ⊢
  clear hW
  have Hb := Lib.hid hb
  have HS := Lib.hid hS
  obtain ⟨⟨c0, c1, c2, c3⟩, f0, f1, f2, f3⟩ := four ht
  have Ht := Lib.hid ht
  clear hb hS ht
  go_loop [9] (fun i => ∃ k : Nat, k ≤ 18 ∧ i = .int .i64 k ∧ Hid (NoSign (L s) k)) (fun i => 18 - (intOf i).toNat)
  case atStart => exact ⟨0, Nat.zero_le _, rfl, fun j _ h => absurd h (Nat.not_lt_zero _)⟩
  case round =>
    obtain ⟨k, hk, rfl, hn⟩ := hrel
    by_cases hlt : k < 18
    · have hlt' : k < signs.length := hlt
      have hc := HS.out k hlt'
      generalize hg : signs[k] = g at hc
      have Hg := Lib.hid hg
      clear hg
      cases hp : Lib.hasPrefix (L s) (L ⟨g.toArray⟩)
      · have Hp := Lib.hid (hn.out.step fun h => by rw [Hg.out, ← L_mk g]; exact hp)
        go_wp2_with (first | (go_at_call 133; refine (Tryz.strings_HasPrefix _ _ _).mono ?_; rintro e w' ⟨rfl, rfl⟩))
        go_round
        case rel => exact ⟨k + 1, by omega, by go_num, Hp⟩
        case measure => simp [intOf]; omega
      · have Hp := Lib.hid (hn.out.hit hlt' (by rw [Hg.out, ← L_mk g]; exact hp))
        go_wp2_with (first | (go_at_call 133; refine (Tryz.strings_HasPrefix _ _ _).mono ?_; rintro e w' ⟨rfl, rfl⟩))
        have hv : (signR (L s)).val = .tuple #[.agg #[.int .u8 5, .string ⟨g.toArray⟩, .int .i64 0, .int .i64 0], .int .i64 g.length, .int .i64 0] := by
          rw [Hp.out, Hg.out]; rfl
        rw [hv]
        exact bodyPost_ret (v := .tuple #[.agg #[.int .u8 5, .string ⟨g.toArray⟩, .int .i64 0, .int .i64 0], .int .i64 g.length, .int .i64 0]) (by simp [results, Tryz.results97, go_sem, c0, c1, c2, c3]) rfl ⟨rfl, below_set4 Hb.out _ _ _ _ _ _ _ _⟩
    · have Hn := Lib.hid (hn.out.end_ (by omega))
      go_wp2
      rw [Hn.out]
      exact bodyPost_ret (v := (Rd.err 13).val) (by simp [results, Tryz.results97, go_sem, Rd.val, tok0, Tok.val, c0, c1, c2, c3]) rfl ⟨rfl, below_set4 Hb.out _ _ _ _ _ _ _ _⟩

end Go.Proofs.YtcjmhmmjfgjcnaaGreatDoor.Lx

/- The reference's own rows in memory: bytes, texts, tokens. -/
namespace Go.Proofs.YtcjmhmmjfgjcnaaGreatDoor.Rf
open Go.RowKit Go.Proofs.YtcjmhmmjfgjcnaaGreatDoor.Lx Go.Proofs.YtcjmhmmjfgjcnaaGreatDoor.Pa

theorem rLt {w : World} {b : Nat} {o : Obj} (h : w.heap[b]? = some o) : b < w.heap.size := (Array.getElem?_eq_some_iff.1 h).1
theorem rAlloc (w : World) (o : Obj) : Below w.heap.size w (w.alloc o) := (Below.refl _ _).alloc (Nat.le_refl _) _
theorem rStep {a b c : World} (h1 : Below a.heap.size a b) (h2 : Below b.heap.size b c) : Below a.heap.size a c := h1.trans (h2.mono h1.size)
theorem rSame {w w' : World} {base : Nat} {e : TypeId} {size n : Nat} {v : Value} {xs : List Value} (h : w.ownsRow base e size v n xs)
    (hb : ∀ g, v.ownBlock = some g → g < w.heap.size → w'.heap[g]? = w.heap[g]?) : w'.ownsRow base e size v n xs := by
  refine ⟨h.1, ?_⟩
  rcases h.2 with h2 | ⟨g, cap, cur, rfl, h3, h4, h5⟩
  · exact .inl h2
  · refine .inr ⟨g, cap, cur, rfl, h3, ?_, h5⟩
    rw [hb g rfl (Array.getElem?_eq_some_iff.1 h4).1]
    exact h4
theorem rForm {w : World} {base n : Nat} {e : TypeId} {size : Nat} {v : Value} {xs : List Value} (h : w.ownsRow base e size v n xs) : ∃ a c, v = .slice a n c := by
  rcases h.2 with ⟨rfl, rfl⟩ | ⟨g, cap, cur, rfl, _⟩
  · exact ⟨_, _, rfl⟩
  · exact ⟨_, _, rfl⟩

structure KeptRow (w wx : World) (T : TypeId) (size : Nat) (v : Value) (n : Nat) (cs : List Value) : Prop where
  own : wx.ownsRow w.heap.size T size v n cs
  bel : Below w.heap.size w wx
theorem KeptRow.step {w wx w' : World} {T : TypeId} {size n : Nat} {v : Value} {cs : List Value} (h : KeptRow w wx T size v n cs) (hb : Below wx.heap.size wx w') : KeptRow w w' T size v n cs :=
  ⟨rSame h.own fun g _ hg => hb.block g hg, rStep h.bel hb⟩
theorem KeptRow.nil (w : World) (T : TypeId) (size : Nat) : KeptRow w w T size (.slice none 0 0) 0 [] := ⟨World.ownsRow_nil _ _ _ _, Below.refl _ _⟩
section
variable {ops : Array Oper} {rest : List Oper} {o : Oper} {a : Act} {Q : Exit → Act → World → Prop}
theorem wpList_more {W : World} (hgd : o.guard = none) (sl y : Operand) (T S : TypeId) (ho : o.op = .call { callee := .builtin .append, args := #[sl, y], argTypes := #[S, S] })
    (hu : Tryz.prog.underlying S = some (.slice T)) (z : Value) (size bytes : Nat) (hi : (Tryz.prog.info? T).map (fun i => (i.zero, i.size, i.bytes)) = some (some z, size, bytes)) (hzs : z.cells.size = size) (hsz : 0 < size)
    (w : World) (v : Value) (n : Nat) (cs : List Value) (hs : a.eval sl = v) (B0 : Nat) (hx : a.eval y = .slice (some ⟨B0, 0, none⟩) 1 1) (news : List Value) (hl : news.length = size) (h1 : ∀ u ∈ news, u.oneCell' = true)
    (H : KeptRow w W T size v n cs) (hB0 : W.heap.size = B0) (h63 : n + 1 ≤ maxLen) (hby : (n + 1) * bytes ≤ 140737488355328)
    (h : ∀ a' n' c' w', Hid (n' = n + 1) → KeptRow w w' T size (.slice a' n' c') n' (cs ++ news) → wpList Tryz.prog ops Q rest (a.put o.dst (.slice a' n' c')) w') :
    wpList Tryz.prog ops Q (o :: rest) a (W.alloc (.cells news.toArray T)) := by
  subst hB0
  obtain ⟨i0, hi0, hzz0, hz10, hz2⟩ := info_parts hi
  have H1 := H.step (rAlloc W (.cells news.toArray T))
  refine wpList_append_own_at _ hgd sl y S ho w.heap.size T i0 _ size bytes hu hi0 hzz0 hz10 hz2 hzs hsz v n cs hs H1.own ⟨W.heap.size, 0, none⟩ 1 1 news hx (by omega) (World.news_of_block (heap_alloc_new W _)) h1 h63 hby H1.bel.size ?_
  intro v' w' hown hg _ _
  obtain ⟨a', c', rfl⟩ := rForm hown
  exact h a' _ c' w' (Lib.hid rfl) ⟨hown, H1.bel.grown hg H1.bel.size fun g e => (World.ownsRow.lt H1.own g e).1⟩
end

/-! ### bytes -/
def bytesR (l : List UInt8) : List Value := l.map fun b => Value.int .u8 b.toNat
theorem bytesR_snoc (l : List UInt8) (b : UInt8) : bytesR (l ++ [b]) = bytesR l ++ [.int .u8 b.toNat] := by simp [bytesR]
theorem u8InfoR : (Tryz.prog.info? 5).map (fun i => (i.zero, i.size, i.bytes)) = some (some (.int .u8 0), 1, 1) := by kernel_rfl
structure ByT (w wx : World) (v : Value) (l : Txt) : Prop where
  row : KeptRow w wx 5 1 v l.length (bytesR l)
theorem ByT.nil (w : World) : ByT w w (.slice none 0 0) [] := ⟨KeptRow.nil _ _ _⟩
theorem ByT.step {w wx w' : World} {v : Value} {l : Txt} (h : ByT w wx v l) (hb : Below wx.heap.size wx w') : ByT w w' v l := ⟨h.row.step hb⟩
theorem ByT.form {w wx : World} {v : Value} {l : Txt} (h : ByT w wx v l) : ∃ a c, v = .slice a l.length c := rForm h.row.own
theorem ByT.at {w wx : World} {v : Value} {l : List UInt8} (h : ByT w wx v l) (hne : l ≠ []) : ∃ g c, v = .slice (some ⟨g, 0, none⟩) l.length c ∧ BytesAt wx g l := by
  rcases h.row.own.2 with ⟨rfl, h0⟩ | ⟨g, cap, cur, e, h1, h2, h3, h4, h5, h6⟩
  · exact absurd (List.eq_nil_of_length_eq_zero h0) hne
  · subst e
    refine ⟨g, cap, rfl, fun j hj => ⟨?_, ?_⟩⟩
    · rw [World.ownsRow.cellAt h.row.own j (by omega)]
      simp [bytesR, List.getElem?_eq_getElem hj]
    · simp [World.frozen?, h2]
theorem ByT.back {w wx : World} {v : Value} {l : Txt} (h : ByT w wx v l) : (convert 104 9 v).run Tryz.prog wx = .ok (.string ⟨l.toArray⟩) wx := by
  by_cases hne : l = []
  · subst hne
    rcases h.row.own.2 with ⟨rfl, h0⟩ | ⟨g, cap, cur, e, h1, h2, h3, h4, h5, h6⟩
    · exact run_convert_bytes_nil wx 104 5 Tryz.underlying104 Tryz.underlying5 0 0 9 Tryz.underlying9
    · subst e
      have := run_convert_bytes_arg (P := Tryz.prog) wx 104 5 Tryz.underlying104 Tryz.underlying5 g 0 0 cap [] (by simp) (fun i hi => absurd hi (Nat.not_lt_zero _)) 9 Tryz.underlying9
      exact this
  · obtain ⟨g, c, rfl, hat⟩ := h.at hne
    exact conv_string Tryz.prog 104 9 5 Tryz.underlying104 Tryz.underlying9 Tryz.underlying5 wx g _ c l rfl hat

/-! ### texts -/
def strsR (l : List Txt) : List Value := l.map fun t => Value.string ⟨t.toArray⟩
theorem strsR_snoc (l : List Txt) (t : Txt) : strsR (l ++ [t]) = strsR l ++ [.string ⟨t.toArray⟩] := by simp [strsR]
theorem strInfoR : (Tryz.prog.info? 9).map (fun i => (i.zero, i.size, i.bytes)) = some (some (.string ⟨#[]⟩), 1, 16) := by kernel_rfl
structure StT (w wx : World) (v : Value) (l : List Txt) : Prop where
  row : KeptRow w wx 9 1 v l.length (strsR l)
theorem StT.nil (w : World) : StT w w (.slice none 0 0) [] := ⟨KeptRow.nil _ _ _⟩
theorem StT.step {w wx w' : World} {v : Value} {l : List Txt} (h : StT w wx v l) (hb : Below wx.heap.size wx w') : StT w w' v l := ⟨h.row.step hb⟩
theorem StT.form {w wx : World} {v : Value} {l : List Txt} (h : StT w wx v l) : ∃ a c, v = .slice a l.length c := rForm h.row.own
def TxsIn (w : World) (v : Value) (l : List Txt) : Prop := ∃ (a : Option Addr) (n c : Nat), v = .slice a n c ∧ l.length = n ∧ n ≤ c ∧ ∀ (j : Nat) (h : j < l.length), ∃ g o, a = some ⟨g, o, none⟩ ∧ w.cell? ⟨g, o + j, none⟩ = some (.string ⟨l[j].toArray⟩)
theorem TxsIn.nil (w : World) : TxsIn w (.slice none 0 0) [] := ⟨none, 0, 0, rfl, rfl, Nat.le_refl _, fun _ h => absurd h (Nat.not_lt_zero _)⟩
theorem TxsIn.below {w w' : World} {v : Value} {l : List Txt} (h : TxsIn w v l) (hb : Below w.heap.size w w') : TxsIn w' v l := by
  obtain ⟨a, n, c, rfl, hn, hc, hj⟩ := h
  refine ⟨a, n, c, rfl, hn, hc, fun j hlt => ?_⟩
  obtain ⟨g, o, e, hcell⟩ := hj j hlt
  exact ⟨g, o, e, (hb.cell (p := ⟨g, _, none⟩) (World.block_lt_of_cell? _ _ hcell)).trans hcell⟩
theorem StT.in {w wx : World} {v : Value} {l : List Txt} (h : StT w wx v l) : TxsIn wx v l := by
  rcases h.row.own.2 with ⟨rfl, h0⟩ | ⟨g, cap, cur, e, h1, h2, h3, h4, h5, h6⟩
  · exact ⟨none, 0, 0, rfl, h0, Nat.le_refl _, fun j hj => by omega⟩
  · subst e
    refine ⟨_, _, _, rfl, rfl, h3, fun j hj => ⟨g, 0, rfl, ?_⟩⟩
    rw [Nat.zero_add, World.ownsRow.cellAt h.row.own j (by omega)]
    simp [strsR, List.getElem?_eq_getElem hj]

section
variable {ops : Array Oper} {rest : List Oper} {o : Oper} {a : Act} {Q : Exit → Act → World → Prop}
theorem wpList_byte {W : World} (hgd : o.guard = none) (sl y : Operand) (ho : o.op = .call { callee := .builtin .append, args := #[sl, y], argTypes := #[104, 104] })
    (w : World) (v : Value) (l : Txt) (hs : a.eval sl = v) (B0 : Nat) (hx : a.eval y = .slice (some ⟨B0, 0, none⟩) 1 1) (z : Int) (b : UInt8) (hz : z = (b.toNat : Int)) (H : ByT w W v l) (hB0 : W.heap.size = B0) (hl : l.length + 1 ≤ 1000000000)
    (h : ∀ a' n' c' w', Hid (n' = l.length + 1) → ByT w w' (.slice a' n' c') (l ++ [b]) → wpList Tryz.prog ops Q rest (a.put o.dst (.slice a' n' c')) w') : wpList Tryz.prog ops Q (o :: rest) a (W.alloc (.cells #[.int .u8 z] 5)) := by
  subst hz
  refine wpList_more hgd sl y 5 104 ho Tryz.underlying104 _ 1 1 u8InfoR rfl (by decide) w v l.length (bytesR l) hs B0 hx [.int .u8 b.toNat] rfl (by intro u hu; rw [List.mem_singleton] at hu; subst hu; rfl) H.row hB0 (by unfold maxLen; omega) (by omega) ?_
  intro a' n' c' w' hn hr
  refine h a' n' c' w' hn ⟨?_⟩
  rw [bytesR_snoc, List.length_append, List.length_singleton, ← hn.out]
  exact hr
theorem wpList_text {W : World} (hgd : o.guard = none) (sl y : Operand) (ho : o.op = .call { callee := .builtin .append, args := #[sl, y], argTypes := #[93, 93] })
    (w : World) (v : Value) (l : List Txt) (hs : a.eval sl = v) (B0 : Nat) (hx : a.eval y = .slice (some ⟨B0, 0, none⟩) 1 1) (t : ByteArray) (x : Txt) (ht : t = ⟨x.toArray⟩) (H : StT w W v l) (hB0 : W.heap.size = B0) (hl : l.length + 1 ≤ 1000000000)
    (h : ∀ a' n' c' w', Hid (n' = l.length + 1) → StT w w' (.slice a' n' c') (l ++ [x]) → wpList Tryz.prog ops Q rest (a.put o.dst (.slice a' n' c')) w') : wpList Tryz.prog ops Q (o :: rest) a (W.alloc (.cells #[.string t] 9)) := by
  subst ht
  refine wpList_more hgd sl y 9 93 ho Tryz.underlying93 _ 1 16 strInfoR rfl (by decide) w v l.length (strsR l) hs B0 hx [.string ⟨x.toArray⟩] rfl (by intro u hu; rw [List.mem_singleton] at hu; subst hu; rfl) H.row hB0 (by unfold maxLen; omega) (by omega) ?_
  intro a' n' c' w' hn hr
  refine h a' n' c' w' hn ⟨?_⟩
  rw [strsR_snoc, List.length_append, List.length_singleton, ← hn.out]
  exact hr
end

end Go.Proofs.YtcjmhmmjfgjcnaaGreatDoor.Rf

/- The reference's parts of texts, numbers, names that stand twice. Plain. -/
namespace Go.Proofs.YtcjmhmmjfgjcnaaGreatDoor.Rf
open Go.Proofs.YtcjmhmmjfgjcnaaGreatDoor.Lx Go.Proofs.YtcjmhmmjfgjcnaaGreatDoor.Pa

/-! ### texts cut at a byte -/
theorem prefix_miss_ {c z : UInt8} (t : Txt) (h : ¬ c = z) : ([c] : Txt).isPrefixOf (z :: t) = false := by simp [List.isPrefixOf, h]
theorem index_at_ {c : UInt8} {p : Txt} (r : Txt) (h : c ∉ p) : Lib.index (p ++ c :: r) [c] = p.length := by
  refine Lib.index_first (by simp) ?_ ?_
  · unfold Lib.occAt
    rw [List.drop_left' rfl]
    simp [List.isPrefixOf]
  · intro j hj
    unfold Lib.occAt
    rw [List.drop_append_of_le_length (by omega), List.drop_eq_getElem_cons hj, List.cons_append]
    exact prefix_miss_ _ fun e => h (e ▸ List.getElem_mem hj)
theorem index_miss_ {c : UInt8} {p : Txt} (h : c ∉ p) : Lib.index p [c] = -1 := by
  refine Lib.index_none fun j hj => ?_
  unfold Lib.occAt
  cases hd : p.drop j with
  | nil => rfl
  | cons d r =>
    have hm : d ∈ p := List.mem_of_mem_drop (i := j) (by rw [hd]; simp)
    have hne : ¬ c = d := fun e => h (e ▸ hm)
    simp [List.isPrefixOf, hne]
theorem split_at_ {c : UInt8} {p : Txt} (r : Txt) (h : c ∉ p) : Lib.split (p ++ c :: r) [c] = p :: Lib.split r [c] := by
  have hi := index_at_ r h
  have hc := Lib.count_hit (sub := [c]) (by simp) hi
  have hd : (p ++ c :: r).drop (p.length + 1) = r := by rw [← List.drop_drop, List.drop_left' rfl]; rfl
  have hl : [c].length = 1 := rfl
  rw [hl, hd] at hc
  unfold Lib.split
  rw [hc, Nat.add_comm 1, Lib.splitK, hi]
  rw [if_neg (by rw [beq_iff_eq]; omega), Int.toNat_natCast, Nat.add_zero, List.take_left' rfl, hl, hd]
theorem split_last {c : UInt8} {p : Txt} (h : c ∉ p) : Lib.split p [c] = [p] := by
  unfold Lib.split
  rw [Lib.count_miss (index_miss_ h)]
  rfl

structure CutTo (l : Txt) (c : UInt8) (from_ i : Nat) (out : List Txt) : Prop where
  le : from_ ≤ i
  bd : i ≤ l.length
  no : c ∉ (l.drop from_).take (i - from_)
  eq : Lib.split l [c] = out ++ Lib.split (l.drop from_) [c]
theorem CutTo.start (l : Txt) (c : UInt8) : CutTo l c 0 0 [] := ⟨Nat.le_refl _, Nat.zero_le _, by simp, by simp⟩
theorem take_snoc {l : Txt} {a i : Nat} (h : a ≤ i) (hi : i < l.length) : (l.drop a).take (i + 1 - a) = (l.drop a).take (i - a) ++ [l[i]] := by
  rw [show i + 1 - a = (i - a) + 1 by omega, List.take_succ_eq_append_getElem (by rw [List.length_drop]; omega)]
  congr 1
  simp [show a + (i - a) = i by omega]
theorem CutTo.next {l : Txt} {c : UInt8} {a i : Nat} {out : List Txt} (h : CutTo l c a i out) (hi : i < l.length) (hc : l[i] ≠ c) : CutTo l c a (i + 1) out :=
  ⟨by have := h.le; omega, hi, by
    rw [take_snoc h.le hi]
    intro hm
    rcases List.mem_append.1 hm with hm | hm
    · exact h.no hm
    · exact hc (List.mem_singleton.1 hm).symm, h.eq⟩
theorem CutTo.part {l : Txt} {c : UInt8} {a i : Nat} {out : List Txt} (h : CutTo l c a i out) (hi : i < l.length) (hc : l[i] = c) : CutTo l c (i + 1) (i + 1) (out ++ [(l.drop a).take (i - a)]) :=
  ⟨Nat.le_refl _, hi, by simp, by
    have hle := h.le
    have e : l.drop a = (l.drop a).take (i - a) ++ c :: l.drop (i + 1) := by
      conv => lhs; rw [← List.take_append_drop (i - a) (l.drop a)]
      rw [List.drop_drop, show a + (i - a) = i by omega, List.drop_eq_getElem_cons hi, hc]
    rw [h.eq]
    conv => lhs; rw [e, split_at_ _ h.no]
    simp⟩
theorem CutTo.end_ {l : Txt} {c : UInt8} {a : Nat} {out : List Txt} (h : CutTo l c a l.length out) : Lib.split l [c] = out ++ [(l.drop a).take (l.length - a)] := by
  have hn := h.no
  rw [h.eq]
  rw [List.take_of_length_le (by rw [List.length_drop]; omega)] at hn ⊢
  rw [split_last hn]

/-! ### numbers -/
theorem parse_itoa {n : Int} (h0 : 0 ≤ n) (h1 : n ≤ 9223372036854775807) : Lib.parseIntB 64 (Lib.itoa n) = .ok n := by
  obtain ⟨u, rfl⟩ : ∃ u : Nat, n = u := ⟨n.toNat, by omega⟩
  have e : Lib.itoa (u : Int) = Lib.decDigits u := Lib.itoa_nonneg u
  rw [e]
  have hp := parse_dec u (by omega)
  have hd := dec_digit u
  have hne := decDigits_ne u
  unfold Lib.parseIntB Lib.parseUintB
  cases hx : Lib.decDigits u with
  | nil => exact absurd hx hne
  | cons c r =>
    obtain ⟨h2, h3⟩ := digit_range (hd c (by rw [hx]; simp))
    rw [hx] at hp
    simp only
    rw [if_neg (show ¬ (c.toNat = 43 ∨ c.toNat = 45) by omega), if_neg (by simp), show (2 ^ 64 - 1 : Nat) = 18446744073709551615 by decide, hp]
    simp only
    rw [if_neg (by omega), if_neg (by omega), if_neg (by omega)]
theorem parseInt_le {l : Txt} {v : Int} (h : Lib.parseIntB 64 l = .ok v) : v ≤ 9223372036854775807 := by
  unfold Lib.parseIntB at h
  cases l with
  | nil => cases h
  | cons c r =>
    simp only at h
    split at h
    · cases h
    · cases h
    · rename_i u hu
      have hp : (2 : Nat) ^ (64 - 1) = 9223372036854775808 := by decide
      rw [hp] at h
      split at h
      · cases h
      · split at h
        · cases h
        · rename_i h1 h2
          simp only [Lib.NumEnd.ok.injEq] at h
          by_cases hc : c.toNat = 45
          · rw [if_pos hc] at h; omega
          · rw [if_neg hc] at h
            have : ¬ 9223372036854775808 ≤ u := fun hh => h1 ⟨hc, hh⟩
            omega
def numQ (s : Txt) : Bool := match lexL s with
  | .ok [t] => decide (t.kind = 3) && decide (Lib.itoa t.num = s)
  | _ => false
theorem next_itoa {n : Int} (h0 : 0 ≤ n) (h1 : n ≤ 9223372036854775807) : nextR (Lib.itoa n) = .ok ⟨3, [], n, 0⟩ (Lib.itoa n).length := by
  obtain ⟨u, rfl⟩ : ∃ u : Nat, n = u := ⟨n.toNat, by omega⟩
  have e : Lib.itoa (u : Int) = Lib.decDigits u := Lib.itoa_nonneg u
  rw [e]
  have hp := parse_dec u (by omega)
  have hd := dec_digit u
  have hne := decDigits_ne u
  have hr : Lx.runN digitB (Lib.decDigits u) = (Lib.decDigits u).length := runN_all hd
  have hu : (Lib.decDigits u).length = 1 ∨ 10 ≤ u := by
    by_cases h : u < 10
    · left; rw [Lib.decDigits, dif_pos h]; rfl
    · exact .inr (by omega)
  have hN : numberR (Lib.decDigits u) = .ok ⟨3, [], u, 0⟩ (Lib.decDigits u).length := by
    unfold numberR Lib.parseUintB
    rw [hr, List.take_length, if_neg hne, show (2 ^ 64 - 1 : Nat) = 18446744073709551615 by decide, hp]
    simp only
    rw [if_neg (by omega), if_neg (by rintro ⟨h2, h3⟩; rcases hu with hu | hu; (· omega); exact dec_lead u hu h3)]
    rw [if_pos (by unfold endsB; rw [List.drop_length])]
  cases hx : Lib.decDigits u with
  | nil => exact absurd hx hne
  | cons c r =>
    have hc := hd c (by rw [hx]; simp)
    rw [hx] at hN
    unfold nextR
    simp only
    rw [digit_letter c hc, hc]
    simpa using hN
theorem numQ_eq (s : Txt) : numQ s = numberB s := by
  unfold numQ numberB
  cases hp : Lib.parseIntB 64 s with
  | ok n =>
    have hle := parseInt_le hp
    simp only
    by_cases h0 : 0 ≤ n
    · by_cases hi : Lib.itoa n = s
      · have hl : (Lib.itoa n).length ≤ 16384 := by
          obtain ⟨u, rfl⟩ : ∃ u : Nat, n = u := ⟨n.toNat, by omega⟩
          have e : Lib.itoa (u : Int) = Lib.decDigits u := Lib.itoa_nonneg u
          rw [e]
          have := dec_length u (by omega)
          omega
        have := lex_one (next_itoa h0 hle) hl
        rw [hi] at this
        rw [this]
        simp [h0, hi]
      · have hx : ∀ t, lexL s = .ok [t] → ¬ (t.kind = 3 ∧ Lib.itoa t.num = s) := by
          rintro t ht ⟨hk, he⟩
          have hf := lexL_fits ht t (by simp)
          have := parse_itoa hf.lo hf.hi
          rw [he, hp, Lib.NumEnd.ok.injEq] at this
          exact hi (this ▸ he)
        cases hl : lexL s with
        | err e a => simp [hi]
        | ok l =>
          match l, hl with
          | [], _ => simp [hi]
          | [t], hl =>
            have := hx t hl
            simp only [hi, decide_false, Bool.and_false, Bool.and_eq_false_iff, decide_eq_false_iff_not]
            by_cases h : t.kind = 3
            · exact .inr fun e => this ⟨h, e⟩
            · exact .inl h
          | _ :: _ :: _, _ => simp [hi]
    · have hx : ∀ t, lexL s = .ok [t] → ¬ (t.kind = 3 ∧ Lib.itoa t.num = s) := by
        rintro t ht ⟨hk, he⟩
        have hf := lexL_fits ht t (by simp)
        have := parse_itoa hf.lo hf.hi
        rw [he, hp, Lib.NumEnd.ok.injEq] at this
        have := hf.lo
        omega
      cases hl : lexL s with
      | err e a => simp [h0]
      | ok l =>
        match l, hl with
        | [], _ => simp [h0]
        | [t], hl =>
          have := hx t hl
          simp only [h0, decide_false, Bool.false_and, Bool.and_eq_false_iff, decide_eq_false_iff_not]
          by_cases h : t.kind = 3
          · exact .inr fun e => this ⟨h, e⟩
          · exact .inl h
        | _ :: _ :: _, _ => simp [h0]
  | _ =>
    have hx : ∀ t, lexL s = .ok [t] → ¬ (t.kind = 3 ∧ Lib.itoa t.num = s) := by
      rintro t ht ⟨hk, he⟩
      have hf := lexL_fits ht t (by simp)
      have := parse_itoa hf.lo hf.hi
      rw [he, hp] at this
      cases this
    cases hl : lexL s with
    | err e a => rfl
    | ok l =>
      match l, hl with
      | [], _ => rfl
      | [t], hl =>
        have := hx t hl
        simp only [Bool.and_eq_false_iff, decide_eq_false_iff_not]
        by_cases h : t.kind = 3
        · exact .inr fun e => this ⟨h, e⟩
        · exact .inl h
      | _ :: _ :: _, _ => rfl

theorem nameB_lex (s : Txt) : nameB s = decide (lexL s = .ok [⟨1, s, 0, 0⟩]) := by
  unfold nameB showOk showS
  rfl

end Go.Proofs.YtcjmhmmjfgjcnaaGreatDoor.Rf
