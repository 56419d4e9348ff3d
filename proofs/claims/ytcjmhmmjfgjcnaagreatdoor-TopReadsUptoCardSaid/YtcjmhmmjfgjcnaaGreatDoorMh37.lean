/- Parts: PcA. -/
import Derived.Test.YtcjmhmmjfgjcnaaGreatDoorMh12

/- parse: the parser ends. Plain. -/
namespace Go.Proofs.YtcjmhmmjfgjcnaaGreatDoor.Pa
open Go.Proofs.YtcjmhmmjfgjcnaaGreatDoor.Lx

/-! ### what is left never grows -/
theorem fail_left (s : St) (y a : Nat) : (s.fail y a).left.length ≤ s.left.length := by unfold St.fail; split <;> simp
theorem drop_left (s : St) : s.drop.left.length = s.left.length - 1 := by simp [St.drop]
theorem bad_left (s : St) : s.bad.left.length ≤ s.left.length := fail_left _ _ _
theorem next_left {s : St} {k : Nat} {x : List Txt} (h : s.next k x = true) : 0 < s.left.length := by
  unfold St.next at h
  cases hl : s.left with
  | nil => rw [hl] at h; cases h
  | cons t r => simp
theorem need_left (s : St) (k : Nat) (x : List Txt) : (s.need k x).left.length ≤ s.left.length := by
  unfold St.need; split
  · rw [drop_left]; omega
  · exact bad_left s
theorem after_left (s : St) (k : Nat) (x : List Txt) : (s.after k x).left.length ≤ s.left.length := by
  unfold St.after; split
  · rw [drop_left]; omega
  · exact Nat.le_refl _
theorem keys_left : ∀ (xs : List Txt) (s : St), (s.keys xs).left.length ≤ s.left.length
  | [], _s => Nat.le_refl _
  | x :: xs, s => Nat.le_trans (keys_left xs (s.need 2 [x])) (need_left _ _ _)
theorem sign_left (s : St) (x : Txt) : (s.sign x).left.length ≤ s.left.length := need_left _ _ _
theorem name_left (s : St) : s.name.left.length ≤ s.left.length := need_left _ _ _
theorem many_left (s : St) : s.many.left.length ≤ s.left.length := by
  unfold St.many; split
  · exact fail_left _ _ _
  · exact Nat.le_refl _
theorem put_left (s : St) (x : Stp) : (s.put x).left.length ≤ s.left.length := by
  unfold St.put; split
  · exact many_left s
  · exact many_left s
theorem deep_left (s : St) : s.deep.left.length ≤ s.left.length := fail_left _ _ _
theorem need_why {s : St} {k : Nat} {x : List Txt} (h : (s.need k x).why = 0) : s.why ≠ 0 ∨ s.next k x = true := by
  cases hn : s.next k x with
  | true => exact .inr rfl
  | false =>
    left
    intro h0
    unfold St.need at h
    rw [hn, if_neg (by simp)] at h
    unfold St.bad St.fail at h
    rw [if_pos h0] at h
    simp at h
theorem need_takes {s : St} {k : Nat} {x : List Txt} (h0 : s.why = 0) (h : (s.need k x).why = 0) : (s.need k x).left.length + 1 ≤ s.left.length := by
  rcases need_why h with h1 | h1
  · exact absurd h0 h1
  · unfold St.need
    rw [if_pos h1, drop_left]
    have := next_left h1
    omega

/-! ### expressions -/
def Tot (L : Nat) (f : St → Option St) : Prop := ∀ s, s.left.length < L → ∃ r, f s = some r ∧ r.left.length ≤ s.left.length
theorem rowL_tot {L : Nat} {one : St → Option St} (h : Tot L one) (k : Nat) (texts : List Txt) : ∀ (m : Nat) (s : St), s.left.length < L → s.left.length < m → ∃ r, rowL one k texts m s = some r ∧ r.left.length ≤ s.left.length
  | 0, s, _, hm => absurd hm (Nat.not_lt_zero _)
  | m + 1, s, hL, hm => by
    rw [rowL]
    split
    · rename_i hn
      have hp := next_left hn
      obtain ⟨r, hr, hl⟩ := h s.drop (by rw [drop_left]; omega)
      rw [drop_left] at hl
      have h2 := put_left r ⟨opKind s.head.text, [], 0⟩
      obtain ⟨r2, hr2, hl2⟩ := rowL_tot h k texts m (r.put ⟨opKind s.head.text, [], 0⟩) (by omega) (by omega)
      rw [hr]
      exact ⟨r2, hr2, by omega⟩
    · exact ⟨s, rfl, Nat.le_refl _⟩
theorem row_tot {L : Nat} {one : St → Option St} (h : Tot L one) (k : Nat) (texts : List Txt) {n : Nat} (hn : L ≤ n) : Tot L (row one k texts n) := by
  intro s hs
  obtain ⟨r, hr, hl⟩ := h s hs
  obtain ⟨r2, hr2, hl2⟩ := rowL_tot h k texts n r (by omega) (by omega)
  unfold row
  rw [hr]
  exact ⟨r2, hr2, by omega⟩
theorem aheadF_tot {L : Nat} {other : Nat → St → Option St} (h : ∀ d, Tot L (other d)) (k : Nat) (text : Txt) (step : Nat) :
    ∀ (m d : Nat) (s : St), s.left.length < L → s.left.length < m → ∃ r, aheadF k text step other m d s = some r ∧ r.left.length ≤ s.left.length
  | 0, _, s, _, hm => absurd hm (Nat.not_lt_zero _)
  | m + 1, d, s, hL, hm => by
    rw [aheadF]
    split
    · rename_i hn
      have hp := next_left hn
      split
      · exact ⟨_, rfl, deep_left s⟩
      · obtain ⟨r, hr, hl⟩ := aheadF_tot h k text step m (d + 1) s.drop (by rw [drop_left]; omega) (by rw [drop_left]; omega)
        rw [drop_left] at hl
        rw [hr]
        exact ⟨_, rfl, Nat.le_trans (put_left _ _) (by omega)⟩
    · exact h d s hL
theorem partN_left (x : Stp) (l : List Txt) (s : St) : (partN x l s).2.left.length ≤ s.left.length := by
  unfold partN
  split
  · refine Nat.le_trans (sign_left _ _) ?_
    split
    · exact name_left s
    · exact Nat.le_trans (fail_left _ _ _) (name_left s)
  · exact Nat.le_refl _
theorem partsL_tot {L : Nat} {or_ : St → Option St} (h : Tot L or_) (end_ : Txt) :
    ∀ (m : Nat) (x : Stp) (l : List Txt) (s : St), s.left.length < L → 0 < m → (s.why = 0 → s.left.length + 1 < m) → ∃ r, partsL or_ end_ m x l s = some r ∧ r.left.length ≤ s.left.length
  | 0, _, _, s, _, h0, _ => absurd h0 (Nat.not_lt_zero _)
  | m + 1, x, l, s, hL, _, hm => by
    rw [partsL]
    by_cases hw : s.why = 0
    · rw [if_pos hw]
      have hm := hm hw
      split
      · exact ⟨_, rfl, fail_left _ _ _⟩
      · have hp := partN_left x l s
        obtain ⟨r, hr, hl⟩ := h (partN x l s).2 (by omega)
        rw [hr, Option.bind_some]
        unfold partsB
        by_cases hw2 : r.why = 0
        · rw [if_pos hw2]
          split
          · exact ⟨_, rfl, Nat.le_trans (put_left _ _) (by rw [drop_left]; omega)⟩
          · have hs := sign_left r [44]
            obtain ⟨r2, hr2, hl2⟩ := partsL_tot h end_ m { x with num := x.num + 1 } (partN x l s).1 (r.sign [44]) (by omega) (by omega) (fun h0 => by
              have := need_takes hw2 h0
              show (r.need 5 [[44]]).left.length + 1 < m
              omega)
            exact ⟨r2, hr2, by omega⟩
        · rw [if_neg hw2]
          exact ⟨r, rfl, by omega⟩
    · rw [if_neg hw]
      exact ⟨s, rfl, Nat.le_refl _⟩
theorem parts_tot {L : Nat} {or_ : St → Option St} (h : Tot L or_) {n : Nat} (hn : L < n) (x : Stp) (end_ : Txt) : Tot L (parts or_ n x end_) := by
  intro s hs
  unfold parts
  split
  · exact ⟨_, rfl, Nat.le_trans (put_left _ _) (by rw [drop_left]; omega)⟩
  · exact partsL_tot h end_ n x [] s hs (by omega) (fun _ => by omega)
theorem pathL_tot : ∀ (m : Nat) (x : Txt) (s : St), s.left.length < m → ∃ r, pathL m x s = some r ∧ r.2.left.length ≤ s.left.length
  | 0, _, _, h => absurd h (Nat.not_lt_zero _)
  | m + 1, x, s, hm => by
    rw [pathL]
    split
    · rename_i hn
      have hp := next_left hn
      have hd := drop_left s
      split
      · obtain ⟨r, hr, hl⟩ := pathL_tot m (x ++ (46 :: Lib.itoa s.drop.head.num)) s.drop.drop (by rw [drop_left]; omega)
        rw [drop_left] at hl
        exact ⟨r, hr, by omega⟩
      · have hk := name_left s.drop
        obtain ⟨r, hr, hl⟩ := pathL_tot m (x ++ (46 :: s.drop.nameT)) s.drop.name (by omega)
        exact ⟨r, hr, by omega⟩
    · exact ⟨_, rfl, Nat.le_refl _⟩
theorem path_tot {L n : Nat} (hn : L ≤ n) : Tot L (path n) := by
  intro s hs
  have hk := name_left s
  obtain ⟨r, hr, hl⟩ := pathL_tot n s.nameT s.name (by omega)
  unfold path
  rw [hr]
  exact ⟨_, rfl, Nat.le_trans (put_left _ _) (by omega)⟩
theorem nestThen_tot {L d : Nat} {go : St → Option St} (h : Tot L go) {s : St} (hp : 0 < s.left.length) (hs : s.left.length < L + 1) : ∃ r, nestThen d s go = some r ∧ r.left.length ≤ s.left.length := by
  unfold nestThen
  split
  · exact ⟨_, rfl, deep_left s⟩
  · have hd := drop_left s
    obtain ⟨r, hr, hl⟩ := h s.drop (by omega)
    exact ⟨r, hr, by omega⟩
theorem primary_tot {L n : Nat} {or_ : Nat → St → Option St} (h : ∀ d, Tot L (or_ d)) (hn : L < n) (d : Nat) : Tot (L + 1) (primary or_ n d) := by
  intro s hs
  have hd := drop_left s
  have hput : ∀ x, (s.drop.put x).left.length ≤ s.left.length := fun x => Nat.le_trans (put_left _ _) (by omega)
  unfold primary
  split
  · exact ⟨_, rfl, hput _⟩
  split
  · exact ⟨_, rfl, hput _⟩
  split
  · exact path_tot (L := L + 1) hn s hs
  split
  · exact ⟨_, rfl, hput _⟩
  split
  · rename_i hx
    refine nestThen_tot (L := L) (fun s hs => ?_) (next_left hx) hs
    obtain ⟨r, hr, hl⟩ := h (d + 1) s hs
    rw [hr]
    exact ⟨_, rfl, Nat.le_trans (sign_left _ _) hl⟩
  split
  · rename_i hx
    exact nestThen_tot (L := L) (parts_tot (h (d + 1)) hn _ _) (next_left hx) hs
  split
  · rename_i hx
    exact nestThen_tot (L := L) (parts_tot (h (d + 1)) hn _ _) (next_left hx) hs
  · exact ⟨_, rfl, bad_left s⟩
theorem isNull_left (s : St) : (isNull s).left.length ≤ s.left.length := by
  unfold isNull
  split
  · have hd := drop_left s
    have h1 := after_left s.drop 2 [kNOT]
    have h2 := keys_left [kNULL] (s.drop.after 2 [kNOT])
    have h3 := put_left ((s.drop.after 2 [kNOT]).keys [kNULL]) ⟨11, [], 0⟩
    simp only
    split
    · exact Nat.le_trans (put_left _ _) (by omega)
    · omega
  · exact Nat.le_refl _
theorem orE_tot {L n : Nat} {or_ : Nat → St → Option St} (h : ∀ d, Tot L (or_ d)) (hn : L < n) (d : Nat) : Tot (L + 1) (orE or_ n d) := by
  have h1 : ∀ d, Tot (L + 1) (signed or_ n d) := fun d s hs => aheadF_tot (primary_tot h hn) 5 [45] 9 n d s hs (by omega)
  have h2 : ∀ d, Tot (L + 1) (product or_ n d) := fun d => row_tot (h1 d) _ _ hn
  have h3 : ∀ d, Tot (L + 1) (sum or_ n d) := fun d => row_tot (h2 d) _ _ hn
  have h4 : ∀ d, Tot (L + 1) (compared or_ n d) := fun d s hs => by
    obtain ⟨r, hr, hl⟩ := h3 d s hs
    unfold compared
    rw [hr, Option.bind_some]
    split
    · have hd := drop_left r
      obtain ⟨r2, hr2, hl2⟩ := h3 d r.drop (by omega)
      rw [hr2]
      exact ⟨_, rfl, Nat.le_trans (put_left _ _) (by omega)⟩
    · exact ⟨_, rfl, Nat.le_trans (isNull_left r) hl⟩
  have h5 : ∀ d, Tot (L + 1) (notE or_ n d) := fun d s hs => aheadF_tot h4 2 kNOT 10 n d s hs (by omega)
  have h6 : ∀ d, Tot (L + 1) (andE or_ n d) := fun d => row_tot (h5 d) _ _ hn
  exact row_tot (h6 d) _ _ hn
theorem orF_tot : ∀ (L n : Nat), L + 1 < n + 1 → ∀ m, L + n ≤ m → ∀ d, Tot L (orF m d)
  | 0, _, _, _, _, _ => fun s hs => absurd hs (Nat.not_lt_zero _)
  | L + 1, n, hn, m, hm, d => by
    obtain ⟨k, rfl⟩ : ∃ k, m = k + 1 := ⟨m - 1, by omega⟩
    exact orE_tot (orF_tot L (n - 1) (by omega) k (by omega)) (by omega) d
theorem expr_tot {L m : Nat} (h : L + L + 1 ≤ m) : Tot L (expr m) := fun s hs => orF_tot L (L + 1) (by omega) m (by omega) 0 { s with steps := [] } hs

/-! ### statements -/
theorem itemF_tot {L m : Nat} (h : L + L + 1 ≤ m) (set : Bool) (names : List Txt) (s : St) (hs : s.left.length < L) : ∃ r, itemF m set names s = some r ∧ r.2.left.length ≤ s.left.length := by
  have hn : ∀ s : St, (if (names ++ [s.nameT]).Nodup then s.name else s.name.fail 18 s.place).left.length ≤ s.left.length := fun s => by
    split
    · exact name_left s
    · exact Nat.le_trans (fail_left _ _ _) (name_left s)
  unfold itemF
  split
  · have h1 := hn s
    have h2 := sign_left (if (names ++ [s.nameT]).Nodup then s.name else s.name.fail 18 s.place) [61]
    obtain ⟨r, hr, hl⟩ := expr_tot h ((if (names ++ [s.nameT]).Nodup then s.name else s.name.fail 18 s.place).sign [61]) (by omega)
    simp only [hr]
    exact ⟨_, rfl, by simp only; omega⟩
  · obtain ⟨r, hr, hl⟩ := expr_tot h s hs
    rw [hr]
    have h1 := keys_left [kAS] r
    have h2 := hn (r.keys [kAS])
    exact ⟨_, rfl, by simp only; omega⟩
theorem itemsL_tot {L m : Nat} (h : L + L + 1 ≤ m) (set : Bool) : ∀ (n : Nat) (out : List Itm) (s : St), s.left.length < L → s.left.length < n → ∃ r, itemsL m set n out s = some r ∧ r.2.left.length ≤ s.left.length
  | 0, _, _, _, h0 => absurd h0 (Nat.not_lt_zero _)
  | n + 1, out, s, hs, hn => by
    rw [itemsL]
    split
    · split
      · exact ⟨_, rfl, fail_left _ _ _⟩
      · obtain ⟨r, hr, hl⟩ := itemF_tot h set (out.map Itm.name) s hs
        rw [hr, Option.bind_some]
        split
        · rename_i hx
          have hp := next_left hx
          have hd := drop_left r.2
          obtain ⟨r2, hr2, hl2⟩ := itemsL_tot h set n (out ++ [r.1]) r.2.drop (by omega) (by omega)
          exact ⟨r2, hr2, by omega⟩
        · exact ⟨_, rfl, hl⟩
    · exact ⟨_, rfl, Nat.le_refl _⟩
theorem items_tot {L m : Nat} (h : L + L + 1 ≤ m) (set : Bool) (s : St) (hs : s.left.length < L) : ∃ r, items m set s = some r ∧ r.2.left.length ≤ s.left.length :=
  itemsL_tot h set m [] s hs (by omega)
theorem where_tot {L m : Nat} (h : L + L + 1 ≤ m) (s : St) (hs : s.left.length < L) : ∃ r, where_ m s = some r ∧ r.2.left.length ≤ s.left.length := by
  unfold where_
  split
  · have hd := drop_left s
    obtain ⟨r, hr, hl⟩ := expr_tot h s.drop (by omega)
    rw [hr]
    exact ⟨_, rfl, by simp only; omega⟩
  · exact ⟨_, rfl, Nat.le_refl _⟩
theorem fromT_left (s : St) : (fromT s).2.2.left.length ≤ s.left.length := by
  unfold fromT
  split
  · have hd := drop_left s
    have h1 := sign_left s.drop [40]
    have h2 := name_left (s.drop.sign [40])
    have h3 := sign_left (s.drop.sign [40]).name [41]
    simp only
    omega
  · exact name_left s
theorem orderT_left (s : St) : (orderT s).2.2.left.length ≤ s.left.length := by
  unfold orderT
  split
  · have hd := drop_left s
    have h1 := keys_left [kBY] s.drop
    have h2 := name_left (s.drop.keys [kBY])
    have h3 := after_left (s.drop.keys [kBY]).name 2 [kDESC]
    simp only
    omega
  · exact Nat.le_refl _
theorem picked_tot {L m : Nat} (h : L + L + 1 ≤ m) (s : St) (hs : s.left.length < L) : ∃ r, picked m s = some r ∧ r.2.left.length ≤ s.left.length := by
  have hw : ∃ r, what m s = some r ∧ r.2.left.length ≤ s.left.length := by
    unfold what
    split
    · exact ⟨_, rfl, by simp only [drop_left]; omega⟩
    · exact items_tot h false s hs
  obtain ⟨r, hr, hl⟩ := hw
  have h1 := keys_left [kFROM] r.2
  have h2 := fromT_left (r.2.keys [kFROM])
  obtain ⟨r2, hr2, hl2⟩ := where_tot h (fromT (r.2.keys [kFROM])).2.2 (by omega)
  have h3 := orderT_left r2.2
  unfold picked
  rw [hr, Option.bind_some]
  simp only [hr2, Option.bind_some]
  exact ⟨_, rfl, by simp only; omega⟩
theorem stmt_tot {L m : Nat} (h : L + L + 1 ≤ m) (s : St) (hs : s.left.length < L) : ∃ r, stmt m s = some r ∧ r.2.left.length ≤ s.left.length := by
  have hd := drop_left s
  unfold stmt
  split
  · split
    · have h1 := drop_left s.drop
      have h2 := name_left s.drop.drop
      exact ⟨_, rfl, by simp only; omega⟩
    · have h1 := keys_left [kINDEX, kON] s.drop
      have h2 := name_left (s.drop.keys [kINDEX, kON])
      have h3 := sign_left (s.drop.keys [kINDEX, kON]).name [40]
      have h4 := name_left ((s.drop.keys [kINDEX, kON]).name.sign [40])
      have h5 := sign_left ((s.drop.keys [kINDEX, kON]).name.sign [40]).name [41]
      exact ⟨_, rfl, by simp only; omega⟩
  split
  · have h1 := keys_left [kINTO] s.drop
    have h2 := name_left (s.drop.keys [kINTO])
    obtain ⟨r, hr, hl⟩ := expr_tot h (s.drop.keys [kINTO]).name (by omega)
    simp only [hr, Option.bind_some]
    exact ⟨_, rfl, by simp only; omega⟩
  split
  · have h1 := name_left s.drop
    have h2 := keys_left [kSET] s.drop.name
    obtain ⟨r, hr, hl⟩ := items_tot h true (s.drop.name.keys [kSET]) (by omega)
    obtain ⟨r2, hr2, hl2⟩ := where_tot h r.2 (by omega)
    simp only [hr, hr2, Option.bind_some]
    exact ⟨_, rfl, by simp only; omega⟩
  split
  · have h1 := keys_left [kFROM] s.drop
    have h2 := name_left (s.drop.keys [kFROM])
    obtain ⟨r, hr, hl⟩ := where_tot h (s.drop.keys [kFROM]).name (by omega)
    simp only [hr, Option.bind_some]
    exact ⟨_, rfl, by simp only; omega⟩
  split
  · obtain ⟨r, hr, hl⟩ := picked_tot h s.drop (by omega)
    exact ⟨r, hr, by omega⟩
  · exact ⟨_, rfl, bad_left s⟩
theorem parseF_total (l : Txt) : ∃ n0, ∀ n, n0 ≤ n → ∃ r, parseF n l = some r := by
  unfold parseF
  cases lexL l with
  | err e a => exact ⟨0, fun n _ => ⟨_, rfl⟩⟩
  | ok toks =>
    refine ⟨2 * toks.length + 3, fun n hn => ?_⟩
    obtain ⟨r, hr, _⟩ := stmt_tot (L := toks.length + 1) (m := n) (by omega) (st0 toks l.length) (Nat.lt_succ_self _)
    simp only [hr, Option.bind_some]
    exact ⟨_, rfl⟩

end Go.Proofs.YtcjmhmmjfgjcnaaGreatDoor.Pa
