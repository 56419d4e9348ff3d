/- Parts: PgC. -/
import Derived.Test.YtcjmhmmjfgjcnaaGreatDoorMh03
import Derived.Deep.MidRow
import Derived.Deep.RegionHeld3
import Derived.RegionTactic
import Derived.Deep.RegionWith
import Derived.Laws.CopyOwn
import Derived.Deep.RegionLawGrows

/- sha: block. -/
namespace Go.Proofs.YtcjmhmmjfgjcnaaGreatDoor.Sh
open Go.RowKit Go.Proofs.YtcjmhmmjfgjcnaaGreatDoor.Lx

def u32s (l : List Nat) : List Value := l.map fun (x : Nat) => Value.int .u32 (x : Int)
def Arr (w : World) (b : Nat) (l : List Nat) (r : List Value) (T : TypeId) : Prop := w.heap[b]? = some (.cells (u32s l ++ r).toArray T (0, 0))
theorem Arr.get {w : World} {b : Nat} {l : List Nat} {r : List Value} {T : TypeId} (h : Arr w b l r T) {i : Nat} {v : Nat} (hi : l[i]? = some v) : w.cell? ⟨b, i, none⟩ = some (.int .u32 v) := by
  obtain ⟨hl, rfl⟩ := List.getElem?_eq_some_iff.mp hi
  unfold Arr at h
  simp [World.cell?, h, u32s, List.getElem?_append, hl]
theorem Arr.frozen {w : World} {b : Nat} {l : List Nat} {r : List Value} {T : TypeId} (h : Arr w b l r T) (i : Nat) : w.frozen? ⟨b, i, none⟩ = false := by
  unfold Arr at h
  simp [World.frozen?, h]
theorem Arr.set {w : World} {b : Nat} {l : List Nat} {r : List Value} {T : TypeId} (h : Arr w b l r T) {i : Nat} (hi : i < l.length) (v : Nat) : Arr (w.setCell ⟨b, i, none⟩ (.int .u32 v)) b (l.set i v) r T := by
  unfold Arr at h ⊢
  have hlt : b < w.heap.size := shLt h
  have e : w.heap[b] = .cells (u32s l ++ r).toArray T (0, 0) := (Array.getElem?_eq_some_iff.mp h).2
  have hi' : i < (u32s l ++ r).length := by simp [u32s]; omega
  have hset : (u32s l ++ r).set i (.int .u32 v) = u32s (l.set i v) ++ r := by
    rw [List.set_append_left _ _ (by simpa [u32s] using hi)]
    simp [u32s, List.map_set]
  simp only [World.setCell, Array.getElem?_modify, h, if_true, Option.map_some, ← hset, List.setIfInBounds_toArray, Option.isSome_none, Bool.false_eq_true, if_false]
theorem Arr.other {w w' : World} {b : Nat} {l : List Nat} {r : List Value} {T : TypeId} (h : Arr w b l r T) (hk : w'.heap[b]? = w.heap[b]?) : Arr w' b l r T := hk.trans h

theorem or_lt {x y : Nat} (hx : x < M) (hy : y < M) : x ||| y < M := Nat.or_lt_two_pow (n := 32) hx hy
theorem xor_lt {x y : Nat} (hx : x < M) (hy : y < M) : x ^^^ y < M := Nat.xor_lt_two_pow (n := 32) hx hy
theorem word_val (a b c d : UInt8) :
    bits .or .u32 (bits .or .u32 (bits .or .u32 ((a.toNat : Int) % 4294967296 * 16777216 % 4294967296) ((b.toNat : Int) % 4294967296 * 65536 % 4294967296)) ((c.toNat : Int) % 4294967296 * 256 % 4294967296)) ((d.toNat : Int) % 4294967296) =
      ((a.toNat <<< 24 ||| b.toNat <<< 16 ||| c.toNat <<< 8 ||| d.toNat : Nat) : Int) := by
  have ha := a.toNat_lt
  have hb := b.toNat_lt
  have hc := c.toNat_lt
  have hd := d.toNat_lt
  have e1 : (a.toNat : Int) % (4294967296 : Int) * (16777216 : Int) % (4294967296 : Int) = ((a.toNat <<< 24 : Nat) : Int) := by rw [Nat.shiftLeft_eq]; omega
  have e2 : (b.toNat : Int) % (4294967296 : Int) * (65536 : Int) % (4294967296 : Int) = ((b.toNat <<< 16 : Nat) : Int) := by rw [Nat.shiftLeft_eq]; omega
  have e3 : (c.toNat : Int) % (4294967296 : Int) * (256 : Int) % (4294967296 : Int) = ((c.toNat <<< 8 : Nat) : Int) := by rw [Nat.shiftLeft_eq]; omega
  have e4 : (d.toNat : Int) % (4294967296 : Int) = ((d.toNat : Nat) : Int) := by omega
  have l1 : a.toNat <<< 24 < M := by rw [Nat.shiftLeft_eq]; unfold M; omega
  have l2 : b.toNat <<< 16 < M := by rw [Nat.shiftLeft_eq]; unfold M; omega
  have l3 : c.toNat <<< 8 < M := by rw [Nat.shiftLeft_eq]; unfold M; omega
  have l4 : d.toNat < M := by unfold M; omega
  rw [e1, e2, e3, e4, bits_or l1 l2, bits_or (or_lt l1 l2) l3, bits_or (or_lt (or_lt l1 l2) l3) l4]
theorem word_eq {s : ByteArray} {k : Nat} (n0 : 4 * k < s.size) (n1 : 4 * k + 1 < s.size) (n2 : 4 * k + 2 < s.size) (n3 : 4 * k + 3 < s.size) :
    word s.data.toList k = s[4 * k].toNat <<< 24 ||| s[4 * k + 1].toNat <<< 16 ||| s[4 * k + 2].toNat <<< 8 ||| s[4 * k + 3].toNat := by
  have g : ∀ i (h : i < s.size), s.data.toList.getD i 0 = s[i] := fun i h => by
    have : i < s.data.toList.length := by simpa using h
    rw [List.getD_eq_getElem?_getD, List.getElem?_eq_getElem this]
    rfl
  unfold word
  rw [g _ n0, g _ n1, g _ n2, g _ n3]

def Sched (w : World) (s : List UInt8) (k : Nat) (wr : World) : Prop := ∃ L : List Nat, L.length = 64 ∧ (∀ j, j < k → L[j]? = some (word s j)) ∧ Below w.heap.size w wr ∧ Arr wr w.heap.size L [] 197
theorem next_val {L : List Nat} {k a b c d : Nat} (ea : L[k - 16]? = some a) (eb : L[k - 15]? = some b) (ec : L[k - 7]? = some c) (ed : L[k - 2]? = some d) (lb : b < M) (ld : d < M) :
    IntKind.u32.wrap (IntKind.u32.wrap (IntKind.u32.wrap ((a : Int) + bits .xor .u32 (bits .xor .u32 ((rotr b 7 : Nat) : Int) ((rotr b 18 : Nat) : Int)) ((b : Int) / 8)) + (c : Int)) + bits .xor .u32 (bits .xor .u32 ((rotr d 17 : Nat) : Int) ((rotr d 19 : Nat) : Int)) ((d : Int) / 1024)) = ((nextW L k : Nat) : Int) := by
  have h1 : (b : Int) / (8 : Int) = ((b >>> 3 : Nat) : Int) := by rw [Nat.shiftRight_eq_div_pow]; rfl
  have h2 : (d : Int) / (1024 : Int) = ((d >>> 10 : Nat) : Int) := by rw [Nat.shiftRight_eq_div_pow]; rfl
  have l1 : b >>> 3 < M := by rw [Nat.shiftRight_eq_div_pow]; exact Nat.lt_of_le_of_lt (Nat.div_le_self _ _) lb
  have l2 : d >>> 10 < M := by rw [Nat.shiftRight_eq_div_pow]; exact Nat.lt_of_le_of_lt (Nat.div_le_self _ _) ld
  rw [h1, h2, bits_xor (rotr_lt lb) (rotr_lt lb), bits_xor (xor_lt (rotr_lt lb) (rotr_lt lb)) l1, bits_xor (rotr_lt ld) (rotr_lt ld), bits_xor (xor_lt (rotr_lt ld) (rotr_lt ld)) l2]
  rw [← Int.natCast_add, wrap32_mod, ← Int.natCast_add, wrap32_mod, ← Int.natCast_add, wrap32_mod]
  unfold nextW
  simp only [List.getD_eq_getElem?_getD, ea, eb, ec, ed, Option.getD_some]
theorem next_val' {L : List Nat} {k a b c d : Nat} (ea : L[k - 16]? = some a) (eb : L[k - 15]? = some b) (ec : L[k - 7]? = some c) (ed : L[k - 2]? = some d) (lb : b < M) (ld : d < M) :
    ((a : Int) + bits .xor .u32 (bits .xor .u32 ((rotr b 7 : Nat) : Int) ((rotr b 18 : Nat) : Int)) ((b : Int) / 8) + (c : Int) + bits .xor .u32 (bits .xor .u32 ((rotr d 17 : Nat) : Int) ((rotr d 19 : Nat) : Int)) ((d : Int) / 1024)) % (4294967296 : Int) = ((nextW L k : Nat) : Int) := by
  rw [← next_val ea eb ec ed lb ld]
  have h : ∀ n : Int, IntKind.u32.wrap n = n % 4294967296 := fun n => by simp [IntKind.wrap, IntKind.bits, IntKind.signed]
  rw [h, h, h]
  omega
def Sched2 (w : World) (s : List UInt8) (k : Nat) (wr : World) : Prop := ∃ L : List Nat, L.length = 64 ∧ (∀ j, j < k → L[j]? = (words s)[j]?) ∧ Below w.heap.size w wr ∧ Arr wr w.heap.size L [] 197
theorem Sched.two {w wr : World} {s : List UInt8} (h : Sched w s 16 wr) : Sched2 w s 16 wr := by
  obtain ⟨L, h1, h2, h3, h4⟩ := h
  exact ⟨L, h1, fun j hj => by rw [h2 j hj, words_first s hj], h3, h4⟩
structure Bx (p : Prop) : Prop where
  out : p
def KC (w : World) : Prop := w.rangeAt 2 0 (u32s ks)
theorem KC.below {w w' : World} (h : KC w) (hb : Below w.heap.size w w') : KC w' := fun j v hv => by
  have := h j v hv
  exact (hb.cell (p := ⟨_, _, none⟩) (World.block_lt_of_cell? _ _ this)).trans this
theorem run_index_arr (w : World) (C : List Value) (k : Nat) (v : Value) (h : C[k]? = some v) (hk : k < 64) :
    (Instr.index 197 (.agg C.toArray) (.int .i64 (k : Int))).run Tryz.prog w = .ok v w := by
  obtain ⟨i, hi1, hi2⟩ := Option.map_eq_some_iff.1 (show (Tryz.prog.info? 132).map (·.size) = some 1 by kernel_rfl)
  have hag : ∀ w, (isAgg 132).run Tryz.prog w = .ok false w := fun w => by
    unfold isAgg
    rw [Sem.run_bind, run_underlying Tryz.underlying132 w]
    rfl
  simp [Instr.index, run_underlying Tryz.underlying197, asIntOf, sizeOf, typeInfo, hi1, hi2, go_sem, part, hag, hk, h]
theorem Sched2.full {w wr : World} {s : List UInt8} (h : Sched2 w s 64 wr) : Below w.heap.size w wr ∧ Arr wr w.heap.size (words s) [] 197 := by
  obtain ⟨L, h1, h2, h3, h4⟩ := h
  have e : L = words s := by
    apply List.ext_getElem?
    intro j
    by_cases hj : j < 64
    · exact h2 j hj
    · rw [List.getElem?_eq_none (by omega), List.getElem?_eq_none (by rw [words_length]; omega)]
  rw [← e]
  exact ⟨h3, h4⟩
structure Blk (w : World) (s : List UInt8) (Bv : Nat) (V : List Nat) (wr : World) : Prop where
  bel : Below w.heap.size w wr
  ws : Arr wr w.heap.size (words s) [] 197
  vs : Arr wr Bv V [] 133
  lt : ∀ a ∈ V, a < M
  sz : V.length = 8
theorem KC.idx (k : Nat) (hk : k < 64) : ∃ c, ks[k]? = some c ∧ c < M := by
  have h : ∀ k : Fin 64, ∃ c, ks[k.val]? = some c ∧ c < M := by decide +kernel
  exact h ⟨k, hk⟩
theorem and_lt {x y : Nat} (hy : y < M) : x &&& y < M := Nat.and_lt_two_pow (n := 32) _ (by exact hy)
theorem add_mod (a b : Nat) : ((a : Int) + (b : Int)) % 4294967296 = (((a + b) % M : Nat) : Int) := by unfold M; omega
theorem grown_of {w wr : World} {row : Option Nat} (h : Below w.heap.size w wr) : w.grownBy wr row := ⟨h.os, h.tape, h.output, h.size, fun i hi _ => h.block i hi⟩
theorem grown_set {w wr : World} {B : Nat} (h : w.grownBy wr (some B)) (i : Nat) (v : Value) : w.grownBy (wr.setCell ⟨B, i, none⟩ v) (some B) :=
  ⟨h.os, h.tape, h.output, by simpa using h.size, fun k hk hne => (Below.heap_setCell wr ⟨B, i, none⟩ v k (fun e => hne (by simp at e; rw [e]))).trans (h.block k hk hne)⟩
theorem grown_drew {w wr : World} {row : Option Nat} (h : w.grownBy wr row) : w.grownBy wr.drew row := ⟨h.os, h.tape, h.output, h.size, h.block⟩

def T1 (e f g h k w : Nat) : Nat := ((((h + (rotr e 6 ^^^ rotr e 11 ^^^ rotr e 25)) % M + ((e &&& f) ^^^ ((4294967295 ^^^ e) &&& g))) % M + k) % M + w) % M
def U1 (a b c : Nat) : Nat := ((rotr a 2 ^^^ rotr a 13 ^^^ rotr a 22) + ((a &&& b) ^^^ (a &&& c) ^^^ (b &&& c))) % M
theorem round_eq (a b c d e f g h k w : Nat) : round [a, b, c, d, e, f, g, h] k w = [(T1 e f g h k w + U1 a b c) % M, a, b, c, (d + T1 e f g h k w) % M, e, f, g] := rfl
theorem T1_val (e f g h k w : Nat) (he : e < M) (hf : f < M) (hg : g < M) :
    IntKind.u32.wrap (IntKind.u32.wrap (IntKind.u32.wrap (IntKind.u32.wrap ((h : Int) + bits .xor .u32 (bits .xor .u32 ((rotr e 6 : Nat) : Int) ((rotr e 11 : Nat) : Int)) ((rotr e 25 : Nat) : Int)) +
      bits .xor .u32 (bits .and .u32 (e : Int) (f : Int)) (bits .and .u32 (bits .xor .u32 IntKind.u32.max (e : Int)) (g : Int))) + (k : Int)) + (w : Int)) = ((T1 e f g h k w : Nat) : Int) := by
  have h15 : bits .xor .u32 IntKind.u32.max (e : Int) = ((4294967295 ^^^ e : Nat) : Int) := bits_xor (x := 4294967295) (by decide) he
  have l15 : 4294967295 ^^^ e < M := xor_lt (by decide) he
  rw [bits_xor (rotr_lt he) (rotr_lt he), bits_xor (xor_lt (rotr_lt he) (rotr_lt he)) (rotr_lt he), h15, bits_and he hf, bits_and l15 hg, bits_xor (and_lt hf) (and_lt hg),
    ← Int.natCast_add, wrap32_mod, ← Int.natCast_add, wrap32_mod, ← Int.natCast_add, wrap32_mod, ← Int.natCast_add, wrap32_mod]
  rfl
theorem U1_val (a b c : Nat) (ha : a < M) (hb : b < M) (hc : c < M) :
    IntKind.u32.wrap (bits .xor .u32 (bits .xor .u32 ((rotr a 2 : Nat) : Int) ((rotr a 13 : Nat) : Int)) ((rotr a 22 : Nat) : Int) +
      bits .xor .u32 (bits .xor .u32 (bits .and .u32 (a : Int) (b : Int)) (bits .and .u32 (a : Int) (c : Int))) (bits .and .u32 (b : Int) (c : Int))) = ((U1 a b c : Nat) : Int) := by
  rw [bits_xor (rotr_lt ha) (rotr_lt ha), bits_xor (xor_lt (rotr_lt ha) (rotr_lt ha)) (rotr_lt ha), bits_and ha hb, bits_and ha hc, bits_and hb hc, bits_xor (and_lt hb) (and_lt hc), bits_xor (xor_lt (and_lt hb) (and_lt hc)) (and_lt hc), ← Int.natCast_add, wrap32_mod]
  rfl
theorem U1_mod (a b c : Nat) (ha : a < M) (hb : b < M) (hc : c < M) :
    (bits .xor .u32 (bits .xor .u32 ((rotr a 2 : Nat) : Int) ((rotr a 13 : Nat) : Int)) ((rotr a 22 : Nat) : Int) +
      bits .xor .u32 (bits .xor .u32 (bits .and .u32 (a : Int) (b : Int)) (bits .and .u32 (a : Int) (c : Int))) (bits .and .u32 (b : Int) (c : Int))) % 4294967296 = ((U1 a b c : Nat) : Int) :=
  (show _ = IntKind.u32.wrap _ from rfl).trans (U1_val a b c ha hb hc)
theorem Arr.src {w : World} {b : Nat} {l : List Nat} {T : TypeId} (h : Arr w b l [] T) (n : Nat) (j : Nat) (v : Value) (hv : (u32s (l.take n))[j]? = some v) : w.cell? ((⟨b, 0, none⟩ : Addr).add j) = some v := by
  rw [Addr.add_mid, Nat.zero_add]
  unfold u32s at hv
  rw [List.getElem?_map] at hv
  obtain ⟨x, hx, rfl⟩ := Option.map_eq_some_iff.1 hv
  exact h.get (by rw [List.getElem?_take] at hx; split at hx; exact hx; cases hx)
theorem copy_step {ops : Array Oper} {o : Oper} {a : Act} {K : Act → World → Prop} {Q : Exit → Act → World → Prop} {E : Prop} {W : World} {Bv b0 b1 b2 b3 b4 b5 b6 b7 : Nat} (hgd : o.guard = none) (d s : Operand)
    (ho : o.op = .call { callee := .builtin .copy, args := #[d, s], argTypes := #[199, 199] }) (hd : a.eval d = .slice (some ⟨Bv, 1, none⟩) 7 7) (hs : a.eval s = .slice (some ⟨Bv, 0, none⟩) 7 8)
    (hV : Bx (Arr W Bv [b0, b1, b2, b3, b4, b5, b6, b7] [] 133))
    (h : ∀ w', Bx (Arr w' Bv [b0, b0, b1, b2, b3, b4, b5, b6] [] 133) → Bx (Below Bv W w') → K (a.put o.dst (goInt 7)) w') :
    if Region.wanted o (yielded ops a.tmps) = true then Oper.wp Tryz.prog o a W K Q else E := by
  refine step_copy_splice hgd d s _ _ ho 132 Tryz.underlying199 (by kernel_rfl) (some ⟨Bv, 1, none⟩) (some ⟨Bv, 0, none⟩) 7 7 7 8 hd hs Bv 1 (u32s [b0, b1, b2, b3, b4, b5, b6, b7] ++ []) 133 hV.out
    (u32s ([b0, b1, b2, b3, b4, b5, b6, b7].take 7)) rfl (fun _ => ⟨rfl, _, rfl, hV.out.src 7⟩) (by simp [u32s]) (by intro v hv; unfold u32s at hv; obtain ⟨x, _, rfl⟩ := List.mem_map.1 hv; rfl) Bv W (Below.refl _ _) (Nat.le_refl _) ?_
  intro w' hg hb
  exact h w' ⟨hg.out⟩ ⟨hb⟩
theorem rounds_snoc : ∀ (k : Nat) (l m : List Nat) (v : List Nat) (c d : Nat), l[k]? = some c → m[k]? = some d → rounds (l.take (k + 1)) (m.take (k + 1)) v = round (rounds (l.take k) (m.take k) v) c d
  | 0, a :: l, b :: m, v, c, d, h1, h2 => by
    simp only [List.getElem?_cons_zero, Option.some.injEq] at h1 h2
    subst h1; subst h2
    simp [rounds]
  | k + 1, a :: l, b :: m, v, c, d, h1, h2 => by
    simp only [List.getElem?_cons_succ] at h1 h2
    simp only [List.take_succ_cons, rounds]
    exact rounds_snoc k l m _ c d h1 h2
theorem Blk.next {w wr w4 : World} {s : List UInt8} {Bv b0 b1 b2 b3 b4 b5 b6 b7 t u : Nat} (h : Blk w s Bv [b0, b1, b2, b3, b4, b5, b6, b7] wr) (hB : w.heap.size < Bv) (h4 : Arr w4 Bv [b0, b0, b1, b2, b3, b4, b5, b6] [] 133) (hb : Below Bv wr w4) :
    Blk w s Bv [(t + u) % M, b0, b1, b2, (b3 + t) % M, b4, b5, b6] ((w4.setCell ⟨Bv, 0, none⟩ (.int .u32 (((t + u) % M : Nat) : Int))).setCell ⟨Bv, 4, none⟩ (.int .u32 (((b3 + t) % M : Nat) : Int))) := by
  have e : ∀ (W : World) (i : Nat) (v : Value), (W.setCell ⟨Bv, i, none⟩ v).heap[w.heap.size]? = W.heap[w.heap.size]? := fun W i v => Below.heap_setCell W _ _ _ (by simp; omega)
  refine ⟨?_, ?_, ?_, ?_, rfl⟩
  · exact ((h.bel.trans (hb.mono (Nat.le_of_lt hB))).setCell (Nat.le_of_lt hB) _).setCell (Nat.le_of_lt hB) _
  · exact h.ws.other ((e _ _ _).trans ((e _ _ _).trans (hb.block _ hB)))
  · exact (h4.set (i := 0) (by simp) ((t + u) % M)).set (i := 4) (by simp) ((b3 + t) % M)
  · intro a ha
    have hm : ∀ n : Nat, n % M < M := fun n => Nat.mod_lt _ (by decide)
    simp only [List.mem_cons, List.not_mem_nil, or_false] at ha
    rcases ha with rfl | rfl | rfl | rfl | rfl | rfl | rfl | rfl
    · exact hm _
    · exact h.lt _ (by simp)
    · exact h.lt _ (by simp)
    · exact h.lt _ (by simp)
    · exact hm _
    · exact h.lt _ (by simp)
    · exact h.lt _ (by simp)
    · exact h.lt _ (by simp)
theorem addW_len {a b : List Nat} (h : a.length = b.length) : (addW a b).length = a.length := by simp [addW, h]
theorem addW_get {a b : List Nat} {k x y : Nat} (hx : a[k]? = some x) (hy : b[k]? = some y) : (addW a b)[k]? = some ((x + y) % M) := by
  unfold addW; rw [List.getElem?_zipWith, hx, hy]
def part (h V : List Nat) (k : Nat) : List Nat := (addW h V).take k ++ h.drop k
theorem part_len {h V : List Nat} (he : h.length = V.length) {k : Nat} (hk : k ≤ h.length) : (part h V k).length = h.length := by
  unfold part; rw [List.length_append, List.length_take, List.length_drop, addW_len he]; omega
theorem part_get {h V : List Nat} (he : h.length = V.length) {k x : Nat} (hx : h[k]? = some x) : (part h V k)[k]? = some x := by
  have hk := (List.getElem?_eq_some_iff.1 hx).1
  unfold part
  rw [List.getElem?_append_right (by rw [List.length_take]; omega), List.length_take, addW_len he, Nat.min_eq_left (by omega), Nat.sub_self, List.getElem?_drop, Nat.add_zero]
  exact hx
theorem part_set {h V : List Nat} (he : h.length = V.length) {k x y : Nat} (hx : h[k]? = some x) (hy : V[k]? = some y) : (part h V k).set k ((x + y) % M) = part h V (k + 1) := by
  have hk := (List.getElem?_eq_some_iff.1 hx).1
  have hka : k < (addW h V).length := by rw [addW_len he]; exact hk
  have e : (addW h V)[k] = (x + y) % M := by
    have := addW_get hx hy
    rw [List.getElem?_eq_getElem hka] at this
    exact Option.some.inj this
  unfold part
  rw [List.set_append_right _ _ (by rw [List.length_take]; omega), List.length_take, Nat.min_eq_left (by omega), Nat.sub_self, List.drop_eq_getElem_cons hk, List.set_cons_zero, List.take_succ_eq_append_getElem hka, e, List.append_assoc]
  rfl
theorem part_all {h V : List Nat} (he : h.length = V.length) : part h V h.length = addW h V := by
  unfold part
  rw [List.take_of_length_le (by rw [addW_len he]; exact Nat.le_refl _), List.drop_of_length_le (Nat.le_refl _), List.append_nil]
structure Sm (w : World) (B Bv : Nat) (h V : List Nat) (x y : Value) (k : Nat) (wr : World) : Prop where
  gro : w.grownBy wr (some B)
  arr : Arr wr B (part h V k) [x, y] 135
  vs : Arr wr Bv V [] 133
theorem Sm.next {w wr : World} {B Bv : Nat} {h V : List Nat} {x y : Value} {k a b : Nat} (H : Sm w B Bv h V x y k wr) (hB : B ≠ Bv) (he : h.length = V.length) (hx : h[k]? = some a) (hy : V[k]? = some b) :
    Sm w B Bv h V x y (k + 1) (wr.drew.setCell ⟨B, k, none⟩ (.int .u32 (((a + b) % M : Nat) : Int))) := by
  have hk := (List.getElem?_eq_some_iff.1 hx).1
  refine ⟨grown_set (grown_drew H.gro) k _, ?_, H.vs.other (Below.heap_setCell _ _ _ _ (by simp; exact fun e => hB e.symm))⟩
  rw [← part_set he hx hy]
  exact Arr.set (w := wr.drew) H.arr (by rw [part_len he (by omega)]; exact hk) _

set_option maxHeartbeats 4000000 in
set_option maxRecDepth 100000 in
theorem block_calls (w : World) (hc : KC w) (B : Nat) (h : List Nat) (x y : Value) (s : ByteArray) (hs : 64 ≤ s.size)
    (hb : Arr w B h [x, y] 135) (hl : h.length = 8) (hlt : ∀ a ∈ h, a < M) :
    Calls Tryz.prog 124 #[.pointer (some ⟨B, 0, none⟩), .string s] w fun e w' => e = .returned (.tuple #[]) ∧ w.grownBy w' (some B) ∧
      Arr w' B (block h s.data.toList) [x, y] 135 := by
  obtain ⟨a0, a1, a2, a3, a4, a5, a6, a7, rfl⟩ : ∃ a0 a1 a2 a3 a4 a5 a6 a7, h = [a0, a1, a2, a3, a4, a5, a6, a7] := by
    match h, hl with
    | [a0, a1, a2, a3, a4, a5, a6, a7], _ => exact ⟨_, _, _, _, _, _, _, _, rfl⟩
  have Hc := Lib.hid hc
  have Hb := Lib.hid hb
  have Hlt := Lib.hid hlt
  have hBw : B < w.heap.size := shLt hb
  clear hc hb hl hlt
  go_enter Tryz.func124, Tryz.ntmps124
  go_wp2_with fail
  go_loopw [5, 21] (fun s5 i wr => ∃ (k : Nat), k ≤ 16 ∧ i = .int .i64 k ∧ Hid (Sched w s.data.toList k wr)) (fun _ i _ => 16 - (intOf i).toNat)
  case atStart =>
    refine ⟨0, Nat.zero_le _, rfl, ⟨List.replicate 64 0, by simp, fun j h => absurd h (Nat.not_lt_zero _), shNew _ _, ?_⟩⟩
    exact heap_alloc_new _ _
  case round =>
    obtain ⟨k, hk, rfl, P⟩ := hrel
    by_cases hk16 : k < 16
    · as_aux_lemma =>
      obtain ⟨L, hL, hw, hbel, hA⟩ := P.out
      have hk64 : k < L.length := by omega
      have q := hA.get (List.getElem?_eq_getElem hk64)
      have qf := hA.frozen k
      have b0 : 4 * (k : Int) < (s.size : Int) := by omega
      have b1 : 4 * (k : Int) + 1 < (s.size : Int) := by omega
      have b2 : 4 * (k : Int) + 2 < (s.size : Int) := by omega
      have b3 : 4 * (k : Int) + 3 < (s.size : Int) := by omega
      have z0 : 0 ≤ 4 * (k : Int) := by omega
      have z1 : 0 ≤ 4 * (k : Int) + 1 := by omega
      have z2 : 0 ≤ 4 * (k : Int) + 2 := by omega
      have z3 : 0 ≤ 4 * (k : Int) + 3 := by omega
      have n0 : 4 * k < s.size := by omega
      have n1 : 4 * k + 1 < s.size := by omega
      have n2 : 4 * k + 2 < s.size := by omega
      have n3 : 4 * k + 3 < s.size := by omega
      have P0 := P
      clear hbel hw hL P
      go_wp2_with fail
      go_region
      go_wp2_with fail
      refine ⟨⟨k + 1, by omega, rfl, ?_⟩, by simp [intOf]; omega⟩
      obtain ⟨L', hL', hw', hbel', hA'⟩ := P0.out
      have hk' : k < L'.length := by omega
      refine ⟨L'.set k (word s.data.toList k), by simpa using hL', fun j hj => ?_, ?_, ?_⟩
      · rw [List.getElem?_set]
        by_cases h1 : k = j
        · subst h1; simp [hk']
        · rw [if_neg h1]; exact hw' j (by omega)
      · exact (hbel'.setCell (show w.heap.size ≤ (⟨w.heap.size, k, none⟩ : Addr).block from Nat.le_refl _) _).drew
      · rw [word_val, ← word_eq n0 n1 n2 n3]
        exact (hA'.set hk' _).other rfl
    · have hk16' : k = 16 := by omega
      subst hk16'
      have P2 := Lib.hid (P.out.two)
      clear P
      go_wp2_with fail
      go_loopw [6, 7, 8] (fun i s7 s8 wr => ∃ (k : Nat), 16 ≤ k ∧ k ≤ 64 ∧ i = .int .i64 k ∧ Hid (Sched2 w s.data.toList k wr)) (fun i _ _ _ => 64 - (intOf i).toNat)
      case atStart => exact ⟨16, Nat.le_refl _, by omega, rfl, P2.out⟩
      case round =>
        obtain ⟨k, hk, hk', rfl, P⟩ := hrel
        by_cases hk64 : k < 64
        · as_aux_lemma =>
          obtain ⟨L, hL, hw, hbel, hA⟩ := P.out
          obtain ⟨a, ea⟩ : ∃ a, L[k - 16]? = some a := ⟨_, List.getElem?_eq_getElem (by omega)⟩
          obtain ⟨b, eb⟩ : ∃ b, L[k - 15]? = some b := ⟨_, List.getElem?_eq_getElem (by omega)⟩
          obtain ⟨c, ec⟩ : ∃ c, L[k - 7]? = some c := ⟨_, List.getElem?_eq_getElem (by omega)⟩
          obtain ⟨d, ed⟩ : ∃ d, L[k - 2]? = some d := ⟨_, List.getElem?_eq_getElem (by omega)⟩
          obtain ⟨z, ez⟩ : ∃ z, L[k]? = some z := ⟨_, List.getElem?_eq_getElem (by omega)⟩
          have la : a < M := words_lt s.data.toList (j := k - 16) ((hw (k - 16) (by omega)).symm.trans ea)
          have lb : b < M := words_lt s.data.toList (j := k - 15) ((hw (k - 15) (by omega)).symm.trans eb)
          have lc : c < M := words_lt s.data.toList (j := k - 7) ((hw (k - 7) (by omega)).symm.trans ec)
          have ld : d < M := words_lt s.data.toList (j := k - 2) ((hw (k - 2) (by omega)).symm.trans ed)
          have q0 := hA.get ea
          have q1 := hA.get eb
          have q2 := hA.get ec
          have q3 := hA.get ed
          have q4 := hA.get ez
          have qf := hA.frozen k
          have z0 : 0 ≤ (k : Int) - 16 := by omega
          have z1 : (k : Int) - 16 < 64 := by omega
          have z2 : 0 ≤ (k : Int) - 7 := by omega
          have z3 : (k : Int) - 7 < 64 := by omega
          have z4 : (k : Int) < 64 := by omega
          have i0 : (16 : Int) ≤ (k : Int) := by omega
          have i1 : (7 : Int) ≤ (k : Int) := by omega
          have w0 : IntKind.i64.wrap ((k : Int) - 16) = (k : Int) - 16 := by simp [IntKind.wrap, IntKind.bits, IntKind.signed]; omega
          have w1 : IntKind.i64.wrap ((k : Int) - 7) = (k : Int) - 7 := by simp [IntKind.wrap, IntKind.bits, IntKind.signed]; omega
          have t1 : ((k : Int) - 16).toNat = k - 16 := by omega
          have t2 : ((k : Int) - 15).toNat = k - 15 := by omega
          have t3 : ((k : Int) - 7).toNat = k - 7 := by omega
          have t4 : ((k : Int) - 2).toNat = k - 2 := by omega
          have P0 := Lib.hid (show L.length = 64 ∧ (∀ j, j < k → L[j]? = (words s.data.toList)[j]?) ∧ Below w.heap.size w wr ∧ Arr wr w.heap.size L [] 197 from ⟨hL, hw, hbel, hA⟩)
          clear hbel hw hL P hA hs
          go_wp2_with fail
          go_region
          go_wp2_with fail
          have hS0 : wr.drew.cell? ⟨w.heap.size, k - 16, none⟩ = some (.int .u32 a) ∧ wr.drew.cell? ⟨w.heap.size, k - 7, none⟩ = some (.int .u32 c) ∧ (wr.drew.cell? ⟨w.heap.size, k, none⟩).isSome = true ∧ wr.drew.frozen? ⟨w.heap.size, k, none⟩ = false := ⟨q0, q2, by rw [show wr.drew.cell? ⟨w.heap.size, k, none⟩ = _ from q4]; rfl, qf⟩
          have ne0 : k - 16 ≠ k := by omega
          have ne1 : k - 7 ≠ k := by omega
          go_region_held3 (fun w' => w'.cell? ⟨w.heap.size, k - 16, none⟩ = some (.int .u32 a) ∧ w'.cell? ⟨w.heap.size, k - 7, none⟩ = some (.int .u32 c) ∧ (w'.cell? ⟨w.heap.size, k, none⟩).isSome = true ∧ w'.frozen? ⟨w.heap.size, k, none⟩ = false)
            (first | exact hS0 | assumption | (go_split_ands; assumption) | (simp [*, go_sem]; done))
            (first | (go_at_call 147; refine (rotr_callsC _ _ _ (by assumption) (by decide) (by decide)).mono ?_; rintro e w5 ⟨rfl, rfl⟩))
          go_wp2_with fail
          go_simp
          refine ⟨⟨k + 1, by omega, by omega, by simp, ?_⟩, by simp [intOf]; omega⟩
          rw [next_val' ea eb ec ed lb ld]
          obtain ⟨hL', hw', hbel', hA'⟩ := P0.out
          have hkl : k < L.length := by omega
          refine ⟨L.set k (nextW L k), by simpa using hL', fun j hj => ?_, ?_, ?_⟩
          · rw [List.getElem?_set]
            by_cases h1 : k = j
            · subst h1
              rw [words_next _ hk hk64, nextW_congr hk hw']
              simp [hkl]
            · rw [if_neg h1]; exact hw' j (by omega)
          · exact (hbel'.setCell (show w.heap.size ≤ (⟨w.heap.size, k, none⟩ : Addr).block from Nat.le_refl _) _).drew.drew
          · exact (hA'.set hkl _).other rfl
        · have hk64' : k = 64 := by omega
          subst hk64'
          obtain ⟨hbel, hws⟩ := P.out.full
          clear P P2
          have hB := Hb.out.other (hbel.block B hBw)
          have q0 := hB.get (i := 0) rfl
          have q1 := hB.get (i := 1) rfl
          have q2 := hB.get (i := 2) rfl
          have q3 := hB.get (i := 3) rfl
          have q4 := hB.get (i := 4) rfl
          have q5 := hB.get (i := 5) rfl
          have q6 := hB.get (i := 6) rfl
          have q7 := hB.get (i := 7) rfl
          have Hbel := Lib.hid hbel
          have Hws := Lib.hid hws
          clear hbel hws hB
          have Hkc := Lib.hid (((Hc.out.below Hbel.out).below (shNew wr (.cells #[.int .u32 a0, .int .u32 a1, .int .u32 a2, .int .u32 a3, .int .u32 a4, .int .u32 a5, .int .u32 a6, .int .u32 a7] 133))))
          obtain ⟨C, hC⟩ : ∃ C : List Value, C = u32s ks := ⟨_, rfl⟩
          have HC := Lib.hid hC
          have Hrg := Lib.hid (show (wr.alloc (.cells #[.int .u32 a0, .int .u32 a1, .int .u32 a2, .int .u32 a3, .int .u32 a4, .int .u32 a5, .int .u32 a6, .int .u32 a7] 133)).rangeAt 2 0 C from hC ▸ Hkc.out)
          have Hcl := Lib.hid (show (Tryz.prog.info? 197).map (·.size) = some C.length by rw [hC]; kernel_rfl)
          clear hC
          go_wp2_with (first | (refine wpList_load_mid rfl 197 _ rfl 2 0 rfl C _ Hrg.out Tryz.underlying197 rfl Hcl.out ?_))
          obtain ⟨Bv, hBv⟩ : ∃ Bv, Bv = wr.heap.size := ⟨_, rfl⟩
          have HBv := Lib.hid (show w.heap.size < Bv by rw [hBv]; exact shLt Hws.out)
          have Hst := Lib.hid (show Blk w s.data.toList Bv [a0, a1, a2, a3, a4, a5, a6, a7] (wr.alloc (.cells #[.int .u32 a0, .int .u32 a1, .int .u32 a2, .int .u32 a3, .int .u32 a4, .int .u32 a5, .int .u32 a6, .int .u32 a7] 133)) from
            ⟨Hbel.out.trans ((shNew wr _).mono Hbel.out.size), Hws.out.other ((shNew wr _).block _ (shLt Hws.out)), hBv ▸ heap_alloc_new wr _, Hlt.out, rfl⟩)
          have HkC := Lib.hid (show ∀ W, Below w.heap.size w W → KC W from fun W hb => Hc.out.below hb)
          rw [← hBv]
          clear q0 q1 q2 q3 q4 q5 q6 q7 Hkc Hrg Hws Hbel hBv hk hk' hk64
          go_loopw [10, 11, 12, 13, 14, 15, 16, 17, 18, 19, 101] (fun s10 s11 s12 s13 s14 s15 s16 s17 s18 s19 i w3 => ∃ (k : Nat) (V : List Nat), k ≤ 64 ∧ i = .int .i64 k ∧ Hid (Blk w s.data.toList Bv V w3) ∧ Hid (V = rounds (ks.take k) ((words s.data.toList).take k) [a0, a1, a2, a3, a4, a5, a6, a7])) (fun _ _ _ _ _ _ _ _ _ _ i _ => 64 - (intOf i).toNat)
          case atStart => exact ⟨0, _, Nat.zero_le _, rfl, Hst, Lib.hid rfl⟩
          case round =>
            obtain ⟨k, V, hk, rfl, P, hV⟩ := hrel
            by_cases hk64 : k < 64
            · as_aux_lemma =>
              obtain ⟨b0, b1, b2, b3, b4, b5, b6, b7, rfl⟩ : ∃ b0 b1 b2 b3 b4 b5 b6 b7, V = [b0, b1, b2, b3, b4, b5, b6, b7] := by
                have := P.out.sz
                match V, this with
                | [b0, b1, b2, b3, b4, b5, b6, b7], _ => exact ⟨_, _, _, _, _, _, _, _, rfl⟩
              obtain ⟨ck, hck, lck⟩ := KC.idx k hk64
              obtain ⟨wd, hwd⟩ : ∃ wd, (words s.data.toList)[k]? = some wd := ⟨_, List.getElem?_eq_getElem (by rw [words_length]; exact hk64)⟩
              have lwd := words_lt _ hwd
              have r0 := P.out.vs.get (i := 0) rfl
              have r1 := P.out.vs.get (i := 1) rfl
              have r2 := P.out.vs.get (i := 2) rfl
              have r4 := P.out.vs.get (i := 4) rfl
              have r5 := P.out.vs.get (i := 5) rfl
              have r6 := P.out.vs.get (i := 6) rfl
              have z0 : (k : Int) < 64 := by omega
              have hix : ∀ W : World, (Instr.index 197 (.agg C.toArray) (.int .i64 (k : Int))).run Tryz.prog W = .ok (.int .u32 ck) W := fun W =>
                run_index_arr W C k _ (by rw [HC.out]; simp [u32s, hck]) hk64
              have Hck := Bx.mk hck
              have Hwd := Bx.mk hwd
              have Llwd := Lib.hid lwd
              have Llck := Lib.hid lck
              clear hck hwd lwd lck
              go_wp2_with fail
              go_region
              clear hix r0 r1 r2 r4 r5 r6
              have l4 : b4 < M := P.out.lt _ (by simp)
              have r7 := P.out.vs.get (i := 7) rfl
              have q := P.out.ws.get Hwd.out
              go_wp2_with fail
              have hS0 : wr.drew.cell? ⟨Bv, 7, none⟩ = some (.int .u32 b7) ∧ wr.drew.cell? ⟨w.heap.size, k, none⟩ = some (.int .u32 wd) := ⟨r7, q⟩
              clear r7 q
              go_region_held3 (fun w' => w'.cell? ⟨Bv, 7, none⟩ = some (.int .u32 b7) ∧ w'.cell? ⟨w.heap.size, k, none⟩ = some (.int .u32 wd))
                (first | exact hS0 | assumption | (go_split_ands; assumption))
                (first | (go_at_call 147; refine (rotr_callsC b4 _ _ l4 (by decide) (by decide)).mono ?_; rintro e w5 ⟨rfl, rfl⟩))
              obtain ⟨tt, Htt, Ett⟩ : ∃ tt : Nat, Bx (tt = T1 b4 b5 b6 b7 ck wd) ∧ Bx (IntKind.u32.wrap (IntKind.u32.wrap (IntKind.u32.wrap (IntKind.u32.wrap ((b7 : Int) + bits .xor .u32 (bits .xor .u32 ((rotr b4 6 : Nat) : Int) ((rotr b4 11 : Nat) : Int)) ((rotr b4 25 : Nat) : Int)) +
                bits .xor .u32 (bits .and .u32 (b4 : Int) (b5 : Int)) (bits .and .u32 (bits .xor .u32 IntKind.u32.max (b4 : Int)) (b6 : Int))) + (ck : Int)) + (wd : Int)) = ((tt : Nat) : Int)) :=
                ⟨_, ⟨rfl⟩, ⟨T1_val b4 b5 b6 b7 ck wd l4 (P.out.lt _ (by simp)) (P.out.lt _ (by simp))⟩⟩
              rw [Ett.out]
              clear Ett l4
              have l0 : b0 < M := P.out.lt _ (by simp)
              go_wp2_with fail
              refine (rotr_callsC b0 _ _ l0 (by decide) (by decide)).mono ?_
              rintro e w5 ⟨rfl, rfl⟩
              go_wp2_with fail
              refine (rotr_callsC b0 _ _ l0 (by decide) (by decide)).mono ?_
              rintro e w5 ⟨rfl, rfl⟩
              go_wp2_with fail
              refine (rotr_callsC b0 _ _ l0 (by decide) (by decide)).mono ?_
              rintro e w5 ⟨rfl, rfl⟩
              go_wp2_with fail
              obtain ⟨uu, Huu, Euu⟩ : ∃ uu : Nat, Bx (uu = U1 b0 b1 b2) ∧ Bx ((bits .xor .u32 (bits .xor .u32 ((rotr b0 2 : Nat) : Int) ((rotr b0 13 : Nat) : Int)) ((rotr b0 22 : Nat) : Int) +
                bits .xor .u32 (bits .xor .u32 (bits .and .u32 (b0 : Int) (b1 : Int)) (bits .and .u32 (b0 : Int) (b2 : Int))) (bits .and .u32 (b1 : Int) (b2 : Int))) % 4294967296 = ((uu : Nat) : Int)) :=
                ⟨_, ⟨rfl⟩, ⟨U1_mod b0 b1 b2 l0 (P.out.lt _ (by simp)) (P.out.lt _ (by simp))⟩⟩
              rw [Euu.out]
              clear Euu l0
              have HV := Bx.mk (show Arr wr.drew.drew.drew Bv [b0, b1, b2, b3, b4, b5, b6, b7] [] 133 from P.out.vs)
              go_region_law (first | (refine copy_step rfl _ _ rfl rfl rfl HV ?_; intro w4 hg4 hb4))
              have r0 := hg4.out.get (i := 0) rfl
              have r4 := hg4.out.get (i := 4) rfl
              have f0 := hg4.out.frozen 0
              have f4 := hg4.out.frozen 4
              go_wp2_with fail
              refine ⟨⟨k + 1, [(tt + uu) % M, b0, b1, b2, (b3 + tt) % M, b4, b5, b6], by omega, by simp, ?_, ?_⟩, by simp [intOf]; omega⟩
              · rw [add_mod, add_mod]
                exact P.out.next HBv.out hg4.out ((Below.refl Bv wr).drew.drew.drew.trans hb4.out)
              · show _ = _
                rw [rounds_snoc k _ _ _ ck wd Hck.out Hwd.out, ← hV.out, round_eq, ← Htt.out, ← Huu.out]
            · have hk64' : k = 64 := by omega
              subst hk64'
              have hVf : V = rounds ks (words s.data.toList) [a0, a1, a2, a3, a4, a5, a6, a7] := by
                rw [hV.out, List.take_of_length_le (by decide), List.take_of_length_le (by rw [words_length]; exact Nat.le_refl _)]
              have HV := Bx.mk hVf
              have Hvl := Lib.hid P.out.sz
              have HS := Lib.hid (show Sm w B Bv [a0, a1, a2, a3, a4, a5, a6, a7] V x y 0 wr from ⟨grown_of P.out.bel, Hb.out.other (P.out.bel.block B hBw), P.out.vs⟩)
              have hBne : B ≠ Bv := by have := HBv.out; omega
              clear hVf hV P hk hk64 Hst HkC
              go_wp2_with fail
              go_loopw [20, 176] (fun s20 i w3 => ∃ (k : Nat), k ≤ 8 ∧ i = .int .i64 k ∧ Hid (Sm w B Bv [a0, a1, a2, a3, a4, a5, a6, a7] V x y k w3)) (fun _ i _ => 8 - (intOf i).toNat)
              case atStart => exact ⟨0, Nat.zero_le _, rfl, HS⟩
              case round =>
                obtain ⟨k, hk, rfl, P⟩ := hrel
                clear HS
                by_cases hk8 : k < 8
                · as_aux_lemma =>
                  obtain ⟨a, ea⟩ : ∃ a, [a0, a1, a2, a3, a4, a5, a6, a7][k]? = some a := ⟨_, List.getElem?_eq_getElem hk8⟩
                  obtain ⟨b, eb⟩ : ∃ b, V[k]? = some b := ⟨_, List.getElem?_eq_getElem (by rw [Hvl.out]; exact hk8)⟩
                  have qa := P.out.arr.get (part_get (by rw [Hvl.out]; rfl) ea)
                  have qb := P.out.vs.get eb
                  have qf := P.out.arr.frozen k
                  have Hea := Bx.mk ea
                  have Heb := Bx.mk eb
                  have z0 : (k : Int) < 8 := by omega
                  clear ea eb
                  go_wp2_with fail
                  go_region
                  go_wp2_with fail
                  refine ⟨⟨k + 1, by omega, by simp, ?_⟩, by simp [intOf]; omega⟩
                  rw [add_mod]
                  exact P.out.next hBne (by rw [Hvl.out]; rfl) Hea.out Heb.out
                · have hk8' : k = 8 := by omega
                  subst hk8'
                  have hfin : part [a0, a1, a2, a3, a4, a5, a6, a7] V 8 = block [a0, a1, a2, a3, a4, a5, a6, a7] s.data.toList :=
                    (show part [a0, a1, a2, a3, a4, a5, a6, a7] V [a0, a1, a2, a3, a4, a5, a6, a7].length = _ from part_all (by rw [Hvl.out]; rfl)).trans (by unfold block; rw [HV.out])
                  have HA := Bx.mk (hfin ▸ P.out.arr)
                  clear hfin
                  go_wp2_with fail
                  go_end0
                  exact ⟨rfl, P.out.gro, HA.out⟩

end Go.Proofs.YtcjmhmmjfgjcnaaGreatDoor.Sh
