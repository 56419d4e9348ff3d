/- Support: rows of bytes in memory, strings as lists of bytes; nothing here speaks of the program. -/
import Derived.Test.YtebmbghlhicjlaaDoorLxP
import Derived.WalkKit
import Derived.OwnWalk
import Derived.Below
import Derived.Lib.Hide
import Derived.Lib.ConvBytes
import Derived.Laws.BytesArg
import Derived.Laws.AppendOwn
import Derived.Lib.Strings
namespace Go.Proofs.YtebmbghlhicjlaaDoor.Lx
open Go.RowKit

theorem ret_bool {a b : Bool} (h : a = b) : Ending.returned (.bool a) = .returned (.bool b) := by rw [h]
theorem ret_int {k : IntKind} {a b : Int} (h : a = b) : Ending.returned (.int k a) = .returned (.int k b) := by rw [h]
theorem ret_ib {i : Int} {a b : Bool} (h : a = b) : Ending.returned (.tuple #[.int .i64 i, .bool a]) = .returned (.tuple #[.int .i64 i, .bool b]) := by rw [h]
theorem ret_str {a b : ByteArray} (h : a = b) : Ending.returned (.string a) = .returned (.string b) := by rw [h]
/-- a string's bytes -/
abbrev L (s : ByteArray) : List UInt8 := s.data.toList
theorem L_length (s : ByteArray) : (L s).length = s.size := by rw [L, Array.length_toList]; rfl
theorem L_get (s : ByteArray) (k : Nat) (h : k < s.size) : (L s)[k]'(by rw [L_length]; exact h) = s[k] := by
  rfl
theorem toList_L (s : ByteArray) : s.toList = L s := Lib.toList_data s
theorem L_mk (l : List UInt8) : L ⟨l.toArray⟩ = l := by simp [L]
theorem mk_L (s : ByteArray) : (⟨(L s).toArray⟩ : ByteArray) = s := by simp [L]
theorem size_mk (l : List UInt8) : (⟨l.toArray⟩ : ByteArray).size = l.length := by rw [← L_length, L_mk]
theorem L_extract (s : ByteArray) (a b : Nat) : L (s.extract a b) = ((L s).drop a).take (b - a) := by
  simp [L, ByteArray.data_extract, List.extract_eq_take_drop]
theorem L_drop (s : ByteArray) (a : Nat) : L (s.extract a s.size) = (L s).drop a := by
  rw [L_extract, List.take_of_length_le (by rw [List.length_drop, L_length]; omega)]
theorem L_take (s : ByteArray) (b : Nat) : L (s.extract 0 b) = (L s).take b := by
  rw [L_extract]; simp
theorem L_inj {s t : ByteArray} (h : L s = L t) : s = t := by rw [← mk_L s, ← mk_L t, h]

/-- block B of w holds, from its head on, these bytes, and none of these cells is frozen -/
def BytesAt (w : World) (B : Nat) (l : List UInt8) : Prop :=
  ∀ j (h : j < l.length), w.cell? ⟨B, j, none⟩ = some (.int .u8 (l[j].toNat)) ∧ w.frozen? ⟨B, j, none⟩ = false

theorem BytesAt.below {w w' : World} {B : Nat} {l : List UInt8} (h : BytesAt w B l) (hb : Below w.heap.size w w') (hB : B < w.heap.size) : BytesAt w' B l :=
  fun j hj => ⟨(hb.cell (p := ⟨B, j, none⟩) hB).trans (h j hj).1, (hb.frozen (p := ⟨B, j, none⟩) hB).trans (h j hj).2⟩

theorem BytesAt.set {w : World} {B : Nat} {l : List UInt8} (h : BytesAt w B l) (k : Nat) (c : UInt8) (hk : k < l.length) :
    BytesAt (w.setCell ⟨B, k, none⟩ (.int .u8 c.toNat)) B (l.set k c) := by
  intro j hj
  have hj' : j < l.length := by simpa using hj
  constructor
  · by_cases e : k = j
    · subst e
      rw [World.cell?_setCell_same _ _ _ (h k hk).1]; simp
    · have e2 : (⟨B, k, none⟩ : Addr) ≠ ⟨B, j, none⟩ := fun e' => e (congrArg Addr.off e')
      rw [World.cell?_setCell_other _ _ _ _ e2, (h j hj').1]
      simp [e]
  · rw [World.frozen?_setCell]; exact (h j hj').2


/-- what []byte(s) leaves: a new row with the string's bytes -/
theorem conv_bytes (P : Program) (src dst e : TypeId) {u : TypeDesc} (hs : P.underlying src = some u) (hd : P.underlying dst = some (.slice e)) (he : P.underlying e = some (.int .u8))
    (s : ByteArray) (W : World) : ∃ cap W1, s.size ≤ cap ∧ (convert src dst (.string s)).run P W = .ok (.slice (some ⟨W.heap.size, 0, none⟩) s.size cap) W1 ∧
      Below W.heap.size W W1 ∧ W1.heap.size = W.heap.size + 1 ∧ BytesAt W1 W.heap.size (L s) := by
  refine ⟨_, _, ?_, Lib.run_convert_string_bytes W src dst e s hs hd he, ?_, Lib.bytesWorld_size W e s, ?_⟩
  · exact grownCap_ge W s.size 0 e
  · exact ⟨rfl, rfl, rfl, by rw [Lib.bytesWorld_size]; omega, fun i hi => Lib.bytesWorld_at_old W e s i hi⟩
  · intro j hj
    have hj' : j < s.size := by rw [← L_length]; exact hj
    constructor
    · rw [Lib.bytesWorld_cell W e s j hj']
      simp [List.getD_eq_getElem?_getD, List.getElem?_eq_getElem hj]
    · have hg := grownCap_ge W s.size 0 e
      have hsz : (Lib.bytesCells W e s).size = s.data.size + (grownCap W s.size 0 e - s.size) := by simp [Lib.bytesCells]
      have hsd : s.data.size = s.size := rfl
      simp only [World.frozen?, Lib.bytesWorld_at_new]
      simp only [hsz, hsd]
      simp
      omega

/-- string(b) of such a row -/
theorem conv_string (P : Program) (src dst e : TypeId) (hs : P.underlying src = some (.slice e)) (hd : P.underlying dst = some .string) (he : P.underlying e = some (.int .u8))
    (W : World) (B n cap : Nat) (l : List UInt8) (hl : l.length = n) (h : BytesAt W B l) :
    (convert src dst (.slice (some ⟨B, 0, none⟩) n cap)).run P W = .ok (.string ⟨l.toArray⟩) W := by
  have hx := run_convert_bytes_arg (P := P) W src e hs he B 0 n cap (l.map fun c => (c.toNat : Int)) (by simpa using hl) (fun i hi => by
    have hi' : i < l.length := by omega
    rw [Nat.zero_add, (h i hi').1]
    simp [List.getD_eq_getElem?_getD, List.getElem?_eq_getElem hi']) dst hd
  rw [hx]
  have e1 : strOfNums (l.map fun c => (c.toNat : Int)) = ⟨l.toArray⟩ := by
    unfold strOfNums
    congr 1
    congr 1
    rw [List.map_map]
    conv => rhs; rw [← List.map_id l]
    exact List.map_congr_left fun c _ => by simp
  rw [e1]


end Go.Proofs.YtebmbghlhicjlaaDoor.Lx
