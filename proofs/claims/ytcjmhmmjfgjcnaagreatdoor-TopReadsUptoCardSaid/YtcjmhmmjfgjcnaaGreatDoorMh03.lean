/- Parts: LxE PgA PgB. -/
import Derived.Test.YtcjmhmmjfgjcnaaGreatDoorMh01
import Derived.Test.YtcjmhmmjfgjcnaaGreatDoorMh02
import Derived.WalkSmall
import Derived.Lib.Hide
import Derived.RegionTactic

/- What the walks ask of a world's package-level variables, and that it lasts. -/
namespace Go.Proofs.YtcjmhmmjfgjcnaaGreatDoor.Lx
open Go.RowKit

structure Env (w : World) : Prop where
  syn : ∃ ev, w.cell? ⟨5, 0, none⟩ = some ev ∧ (ev = .nilIface ∨ ∃ te pe, ev = .iface te pe)
  rng : ∃ ev, w.cell? ⟨6, 0, none⟩ = some ev ∧ (ev = .nilIface ∨ ∃ te pe, ev = .iface te pe)
  max : ∃ m, w.cell? ⟨4, 0, none⟩ = some (.int .i64 m)
  pow : Lib.TabIs Tryz.prog w "internal/strconv.uint64pow10" .u64 Lib.pow10Tab
  utf : Lib.Utf8Tabs 0 1 w
  ltS : 5 < w.heap.size
  ltR : 6 < w.heap.size
  ltM : 4 < w.heap.size
  ltP : 3 < w.heap.size
  ltF : 0 < w.heap.size
  ltA : 1 < w.heap.size

theorem gPow : Tryz.prog.globalNamed "internal/strconv.uint64pow10" = some 3 := by kernel_rfl

theorem Env.below {w w' : World} (h : Env w) (hb : Below w.heap.size w w') : Env w' where
  syn := let ⟨ev, h1, h2⟩ := h.syn; ⟨ev, (hb.cell (p := ⟨_, 0, none⟩) h.ltS).trans h1, h2⟩
  rng := let ⟨ev, h1, h2⟩ := h.rng; ⟨ev, (hb.cell (p := ⟨_, 0, none⟩) h.ltR).trans h1, h2⟩
  max := let ⟨m, h1⟩ := h.max; ⟨m, (hb.cell (p := ⟨_, 0, none⟩) h.ltM).trans h1⟩
  pow := var?_below hb gPow h.ltP h.pow
  utf := ⟨fun c hc => (hb.cell (p := ⟨_, c, none⟩) h.ltF).trans (h.utf.1 c hc), fun i hi => ⟨(hb.cell (p := ⟨_, 2 * i, none⟩) h.ltA).trans (h.utf.2 i hi).1, (hb.cell (p := ⟨_, 2 * i + 1, none⟩) h.ltA).trans (h.utf.2 i hi).2⟩⟩
  ltS := Nat.lt_of_lt_of_le h.ltS hb.size
  ltR := Nat.lt_of_lt_of_le h.ltR hb.size
  ltM := Nat.lt_of_lt_of_le h.ltM hb.size
  ltP := Nat.lt_of_lt_of_le h.ltP hb.size
  ltF := Nat.lt_of_lt_of_le h.ltF hb.size
  ltA := Nat.lt_of_lt_of_le h.ltA hb.size
theorem Env.alloc {w : World} (h : Env w) (o : Obj) : Env (w.alloc o) := h.below ((Below.refl _ _).alloc (Nat.le_refl _) o)

end Go.Proofs.YtcjmhmmjfgjcnaaGreatDoor.Lx

/- sha: the plain model: words are Nat below 2^32. -/
namespace Go.Proofs.YtcjmhmmjfgjcnaaGreatDoor.Sh

def M : Nat := 4294967296
def rotl (x n : Nat) : Nat := ((x <<< n) % M) ||| (x >>> (32 - n))
def rotr (x n : Nat) : Nat := rotl x (32 - n)
def ks : List Nat := [
  0x428a2f98, 0x71374491, 0xb5c0fbcf, 0xe9b5dba5, 0x3956c25b, 0x59f111f1, 0x923f82a4, 0xab1c5ed5,
  0xd807aa98, 0x12835b01, 0x243185be, 0x550c7dc3, 0x72be5d74, 0x80deb1fe, 0x9bdc06a7, 0xc19bf174,
  0xe49b69c1, 0xefbe4786, 0x0fc19dc6, 0x240ca1cc, 0x2de92c6f, 0x4a7484aa, 0x5cb0a9dc, 0x76f988da,
  0x983e5152, 0xa831c66d, 0xb00327c8, 0xbf597fc7, 0xc6e00bf3, 0xd5a79147, 0x06ca6351, 0x14292967,
  0x27b70a85, 0x2e1b2138, 0x4d2c6dfc, 0x53380d13, 0x650a7354, 0x766a0abb, 0x81c2c92e, 0x92722c85,
  0xa2bfe8a1, 0xa81a664b, 0xc24b8b70, 0xc76c51a3, 0xd192e819, 0xd6990624, 0xf40e3585, 0x106aa070,
  0x19a4c116, 0x1e376c08, 0x2748774c, 0x34b0bcb5, 0x391c0cb3, 0x4ed8aa4a, 0x5b9cca4f, 0x682e6ff3,
  0x748f82ee, 0x78a5636f, 0x84c87814, 0x8cc70208, 0x90befffa, 0xa4506ceb, 0xbef9a3f7, 0xc67178f2]
def h0 : List Nat := [0x6a09e667, 0xbb67ae85, 0x3c6ef372, 0xa54ff53a, 0x510e527f, 0x9b05688c, 0x1f83d9ab, 0x5be0cd19]
def word (s : List UInt8) (i : Nat) : Nat := (s.getD (4 * i) 0).toNat <<< 24 ||| (s.getD (4 * i + 1) 0).toNat <<< 16 ||| (s.getD (4 * i + 2) 0).toNat <<< 8 ||| (s.getD (4 * i + 3) 0).toNat
def nextW (l : List Nat) (i : Nat) : Nat :=
  let x := l.getD (i - 15) 0
  let y := l.getD (i - 2) 0
  (((l.getD (i - 16) 0 + (rotr x 7 ^^^ rotr x 18 ^^^ x >>> 3)) % M + l.getD (i - 7) 0) % M + (rotr y 17 ^^^ rotr y 19 ^^^ y >>> 10)) % M
def wordsFrom (l : List Nat) : Nat → List Nat
  | 0 => l
  | k + 1 => wordsFrom (l ++ [nextW l l.length]) k
def words (s : List UInt8) : List Nat := wordsFrom ((List.range 16).map (word s)) 48
def round (v : List Nat) (k w : Nat) : List Nat :=
  let a := v.getD 0 0
  let b := v.getD 1 0
  let c := v.getD 2 0
  let e := v.getD 4 0
  let f := v.getD 5 0
  let g := v.getD 6 0
  let t := ((((v.getD 7 0 + (rotr e 6 ^^^ rotr e 11 ^^^ rotr e 25)) % M + ((e &&& f) ^^^ ((4294967295 ^^^ e) &&& g))) % M + k) % M + w) % M
  let u := ((rotr a 2 ^^^ rotr a 13 ^^^ rotr a 22) + ((a &&& b) ^^^ (a &&& c) ^^^ (b &&& c))) % M
  [(t + u) % M, a, b, c, (v.getD 3 0 + t) % M, e, f, g]
def rounds : List Nat → List Nat → List Nat → List Nat
  | k :: ks, w :: ws, v => rounds ks ws (round v k w)
  | _, _, v => v
def addW (a b : List Nat) : List Nat := List.zipWith (fun x y => (x + y) % M) a b
def block (h : List Nat) (s : List UInt8) : List Nat := addW h (rounds ks (words s) h)
def blocks : Nat → List Nat → List UInt8 → List Nat × List UInt8
  | 0, h, s => (h, s)
  | n + 1, h, s => if 64 ≤ s.length then blocks n (block h s) (s.drop 64) else (h, s)
structure Sha where
  h : List Nat
  n : Nat
  rest : List UInt8
def start : Sha := ⟨h0, 0, []⟩
def more (x : Sha) (s : List UInt8) : Sha :=
  let r := blocks ((x.rest ++ s).length / 64) x.h (x.rest ++ s)
  ⟨r.1, x.n + s.length, r.2⟩
def pad (x : Sha) : List UInt8 :=
  128 :: (List.replicate ((119 - x.rest.length) % 64) (0 : UInt8) ++ (List.range 8).map fun i => UInt8.ofNat ((8 * x.n) >>> (56 - 8 * i)))
def out (h : List Nat) : List UInt8 := (List.range 32).map fun i => UInt8.ofNat (h.getD (i / 4) 0 >>> (24 - 8 * (i % 4)))
def endD (x : Sha) : List UInt8 := out (more x (pad x)).h
def sum (s : List UInt8) : List UInt8 := endD (more start s)
def hexDigit (n : Nat) : UInt8 := if n < 10 then UInt8.ofNat (48 + n) else UInt8.ofNat (87 + n)
def hex (s : List UInt8) : List UInt8 := s.flatMap fun b => [hexDigit (b.toNat / 16), hexDigit (b.toNat % 16)]

theorem wordsFrom_length : ∀ (n : Nat) (l : List Nat), (wordsFrom l n).length = l.length + n
  | 0, _ => rfl
  | n + 1, l => by unfold wordsFrom; rw [wordsFrom_length n]; simp; omega
theorem wordsFrom_head : ∀ (n : Nat) (l : List Nat) (j : Nat), j < l.length → (wordsFrom l n)[j]? = l[j]?
  | 0, _, _, _ => rfl
  | n + 1, l, j, h => by unfold wordsFrom; rw [wordsFrom_head n _ j (by simp; omega), List.getElem?_append_left h]
theorem nextW_congr {l l' : List Nat} {i : Nat} (hi : 16 ≤ i) (h : ∀ j, j < i → l[j]? = l'[j]?) : nextW l i = nextW l' i := by
  unfold nextW
  simp only [List.getD_eq_getElem?_getD]
  rw [h (i - 15) (by omega), h (i - 2) (by omega), h (i - 16) (by omega), h (i - 7) (by omega)]
theorem wordsFrom_next : ∀ (n : Nat) (l : List Nat) (j : Nat), 16 ≤ l.length → l.length ≤ j → j < l.length + n → (wordsFrom l n)[j]? = some (nextW (wordsFrom l n) j)
  | 0, _, _, _, _, _ => by omega
  | n + 1, l, j, hl, h1, h2 => by
    unfold wordsFrom
    by_cases hj : j = l.length
    · subst hj
      rw [wordsFrom_head n _ _ (by simp), List.getElem?_append_right (Nat.le_refl _)]
      simp only [Nat.sub_self, List.getElem?_cons_zero, Option.some.injEq]
      refine nextW_congr hl fun j hj => ?_
      rw [wordsFrom_head n _ _ (by simp; omega), List.getElem?_append_left hj]
    · exact wordsFrom_next n _ j (by simp; omega) (by simp; omega) (by simp; omega)
theorem words_length (s : List UInt8) : (words s).length = 64 := by unfold words; rw [wordsFrom_length]; simp
theorem words_first (s : List UInt8) {j : Nat} (h : j < 16) : (words s)[j]? = some (word s j) := by
  unfold words
  rw [wordsFrom_head _ _ _ (by simpa using h)]
  simp [h]
theorem words_next (s : List UInt8) {j : Nat} (h : 16 ≤ j) (h' : j < 64) : (words s)[j]? = some (nextW (words s) j) := by
  unfold words
  exact wordsFrom_next _ _ _ (by simp) (by simpa using h) (by simp; omega)
theorem word_lt (s : List UInt8) (j : Nat) : word s j < M := by
  unfold word M
  have h : ∀ i : Nat, (s.getD i 0).toNat < 256 := fun i => UInt8.toNat_lt _
  have a := h (4 * j)
  have b := h (4 * j + 1)
  have c := h (4 * j + 2)
  have d := h (4 * j + 3)
  refine Nat.or_lt_two_pow (n := 32) (Nat.or_lt_two_pow (n := 32) (Nat.or_lt_two_pow (n := 32) ?_ ?_) ?_) ?_ <;> (try rw [Nat.shiftLeft_eq]) <;> omega
theorem words_lt (s : List UInt8) {j x : Nat} (h : (words s)[j]? = some x) : x < M := by
  by_cases h1 : j < 16
  · rw [words_first s h1] at h
    exact Option.some.inj h ▸ word_lt s j
  · have h2 : j < 64 := by rw [← words_length s]; exact (List.getElem?_eq_some_iff.mp h).1
    rw [words_next s (by omega) h2] at h
    rw [← Option.some.inj h]
    exact Nat.mod_lt _ (by decide)

theorem sum_nil : sum [] = [0xe3, 0xb0, 0xc4, 0x42, 0x98, 0xfc, 0x1c, 0x14, 0x9a, 0xfb, 0xf4, 0xc8, 0x99, 0x6f, 0xb9, 0x24, 0x27, 0xae, 0x41, 0xe4, 0x64, 0x9b, 0x93, 0x4c, 0xa4, 0x95, 0x99, 0x1b, 0x78, 0x52, 0xb8, 0x55] := by decide +kernel
end Go.Proofs.YtcjmhmmjfgjcnaaGreatDoor.Sh

/- sha: RotateLeft32 and rotr. -/
namespace Go.Proofs.YtcjmhmmjfgjcnaaGreatDoor.Sh
open Go.RowKit Go.Proofs.YtcjmhmmjfgjcnaaGreatDoor.Lx

theorem shLt {w : World} {b : Nat} {o : Obj} (h : w.heap[b]? = some o) : b < w.heap.size := (Array.getElem?_eq_some_iff.1 h).1
theorem shNew (w : World) (o : Obj) : Below w.heap.size w (w.alloc o) := (Below.refl _ _).alloc (Nat.le_refl _) _
theorem neg31 {k : Nat} (hk : 0 < k) (hk' : k < 32) : bits .and .u64 (IntKind.u64.wrap (-(k : Int))) 31 = ((32 - k : Nat) : Int) := by
  have h : ∀ n : Fin 32, 0 < n.val → bits .and .u64 (IntKind.u64.wrap (-(n.val : Int))) 31 = ((32 - n.val : Nat) : Int) := by decide +kernel
  exact h ⟨k, hk'⟩ hk
theorem ofInt_nat {n : Nat} (x : Nat) : BitVec.ofInt n (x : Int) = BitVec.ofNat n x := by simp
theorem wrap32_mod (x : Nat) : IntKind.u32.wrap (x : Int) = ((x % M : Nat) : Int) := by
  have h : ∀ n : Int, IntKind.u32.wrap n = n % 4294967296 := fun n => by simp [IntKind.wrap, IntKind.bits, IntKind.signed]
  rw [h]
  rfl
theorem wrap32 {x : Nat} (h : x < M) : IntKind.u32.wrap (x : Int) = x := by
  rw [wrap32_mod, Nat.mod_eq_of_lt h]
theorem bits_xor {x y : Nat} (hx : x < M) (hy : y < M) : bits .xor .u32 (x : Int) y = ((x ^^^ y : Nat) : Int) := by
  have h : x ^^^ y < 2 ^ 32 := Nat.xor_lt_two_pow (by exact hx) (by exact hy)
  unfold bits
  simp only [ofInt_nat]
  show IntKind.u32.wrap (((BitVec.ofNat 32 x ^^^ BitVec.ofNat 32 y).toNat : Nat) : Int) = _
  rw [BitVec.toNat_xor, BitVec.toNat_ofNat, BitVec.toNat_ofNat, Nat.mod_eq_of_lt (by exact hx), Nat.mod_eq_of_lt (by exact hy)]
  exact wrap32 h
theorem bits_and {x y : Nat} (hx : x < M) (hy : y < M) : bits .and .u32 (x : Int) y = ((x &&& y : Nat) : Int) := by
  have h : x &&& y < 2 ^ 32 := Nat.and_lt_two_pow _ (by exact hy)
  unfold bits
  simp only [ofInt_nat]
  show IntKind.u32.wrap (((BitVec.ofNat 32 x &&& BitVec.ofNat 32 y).toNat : Nat) : Int) = _
  rw [BitVec.toNat_and, BitVec.toNat_ofNat, BitVec.toNat_ofNat, Nat.mod_eq_of_lt (by exact hx), Nat.mod_eq_of_lt (by exact hy)]
  exact wrap32 h
theorem bits_or {x y : Nat} (hx : x < M) (hy : y < M) : bits .or .u32 (x : Int) y = ((x ||| y : Nat) : Int) := by
  have h : x ||| y < 2 ^ 32 := Nat.or_lt_two_pow (by exact hx) (by exact hy)
  unfold bits
  simp only [ofInt_nat]
  show IntKind.u32.wrap (((BitVec.ofNat 32 x ||| BitVec.ofNat 32 y).toNat : Nat) : Int) = _
  rw [BitVec.toNat_or, BitVec.toNat_ofNat, BitVec.toNat_ofNat, Nat.mod_eq_of_lt (by exact hx), Nat.mod_eq_of_lt (by exact hy)]
  exact wrap32 h
theorem rot_eq {x k : Nat} (hx : x < M) (hk : 0 < k) (hk' : k < 32) : bits .or .u32 (IntKind.u32.wrap ((x : Int) * 2 ^ (32 - k))) ((x : Int) / 2 ^ k) = ((rotr x k : Nat) : Int) := by
  have h1 : (x : Int) * 2 ^ (32 - k) = ((x * 2 ^ (32 - k) : Nat) : Int) := by simp
  have h2 : (x : Int) / 2 ^ k = ((x / 2 ^ k : Nat) : Int) := by simp
  have h3 : x / 2 ^ k < M := Nat.lt_of_le_of_lt (Nat.div_le_self _ _) hx
  rw [h1, h2, wrap32_mod, bits_or (Nat.mod_lt _ (by decide)) h3]
  unfold rotr rotl
  rw [Nat.shiftLeft_eq, Nat.shiftRight_eq_div_pow, show 32 - (32 - k) = k by omega]
theorem rotr_lt {x k : Nat} (hx : x < M) : rotr x k < M :=
  Nat.or_lt_two_pow (n := 32) (Nat.mod_lt _ (by decide)) (Nat.lt_of_le_of_lt (by rw [Nat.shiftRight_eq_div_pow]; exact Nat.div_le_self _ _) hx)

theorem rotl_calls (x k : Nat) (w : World) (hx : x < M) (hk : 0 < k) (hk' : k < 32) :
    Calls Tryz.prog 171 #[.int .u32 x, .int .i64 (-(k : Int))] w fun e w' => e = .returned (.int .u32 (rotr x k)) ∧ w' = w := by
  have hr := neg31 hk hk'
  go_enter Tryz.func171, Tryz.ntmps171
  go_wp2_with fail
  rw [show (32 - (32 - k)) = k by omega, show ((x : Int) * 2 ^ (32 - k) % 4294967296) = IntKind.u32.wrap ((x : Int) * 2 ^ (32 - k)) from rfl, rot_eq hx hk hk']
  go_ret
  exact ⟨rfl, rfl⟩

theorem rotr_calls (x k : Nat) (w : World) (hx : x < M) (hk : 0 < k) (hk' : k < 32) :
    Calls Tryz.prog 147 #[.int .u32 x, .int .i64 k] w fun e w' => e = .returned (.int .u32 (rotr x k)) ∧ w' = w := by
  have H := Lib.hid (rotl_calls x k w hx hk hk')
  go_enter Tryz.func147, Tryz.ntmps147
  go_wp2_with fail
  refine H.out.mono ?_
  rintro e w1 ⟨rfl, rfl⟩
  go_wp2_with fail
  go_ret
  exact ⟨rfl, rfl⟩

theorem rotr_callsC (x : Nat) (c : Int) (w : World) (hx : x < M) (hk : 0 < c) (hk' : c < 32) :
    Calls Tryz.prog 147 #[.int .u32 x, .int .i64 c] w fun e w' => e = .returned (.int .u32 (rotr x c.toNat)) ∧ w' = w := by
  have h := rotr_calls x c.toNat w hx (by omega) (by omega)
  rwa [show ((c.toNat : Nat) : Int) = c by omega] at h

end Go.Proofs.YtcjmhmmjfgjcnaaGreatDoor.Sh
