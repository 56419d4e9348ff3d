/- Parts: PeE. -/
import Derived.Test.YtghnkgeaocpmaaaGreatDoorMh05

/- parse: paths, lists and structs that are shown are read as they were; then any right expression. Plain. -/
namespace Go.Proofs.YtghnkgeaocpmaaaGreatDoor.Pa
open Go.Proofs.YtghnkgeaocpmaaaGreatDoor.Lx

/-! ### texts cut -/
theorem prefix_ne {c z : UInt8} (t : Txt) (h : ¬ c = z) : ([c] : Txt).isPrefixOf (z :: t) = false := by simp [List.isPrefixOf, h]
theorem index_cut {c : UInt8} {p : Txt} (r : Txt) (h : c ∉ p) : Lib.index (p ++ c :: r) [c] = p.length := by
  refine Lib.index_first (by simp) ?_ ?_
  · unfold Lib.occAt
    rw [List.drop_left' rfl]
    simp [List.isPrefixOf]
  · intro j hj
    unfold Lib.occAt
    rw [List.drop_append_of_le_length (by omega), List.drop_eq_getElem_cons hj, List.cons_append]
    exact prefix_ne _ fun e => h (e ▸ List.getElem_mem hj)
theorem index_not {c : UInt8} {p : Txt} (h : c ∉ p) : Lib.index p [c] = -1 := by
  refine Lib.index_none fun j hj => ?_
  unfold Lib.occAt
  cases hd : p.drop j with
  | nil => rfl
  | cons d r =>
    have hm : d ∈ p := List.mem_of_mem_drop (i := j) (by rw [hd]; simp)
    have hne : ¬ c = d := fun e => h (e ▸ hm)
    simp [List.isPrefixOf, hne]
theorem split_cut {c : UInt8} {p : Txt} (r : Txt) (h : c ∉ p) : Lib.split (p ++ c :: r) [c] = p :: Lib.split r [c] := by
  have hi := index_cut r h
  have hc := Lib.count_hit (sub := [c]) (by simp) hi
  have hd : (p ++ c :: r).drop (p.length + 1) = r := by rw [← List.drop_drop, List.drop_left' rfl]; rfl
  have hl : [c].length = 1 := rfl
  rw [hl, hd] at hc
  unfold Lib.split
  rw [hc, Nat.add_comm 1, Lib.splitK, hi]
  rw [if_neg (by rw [beq_iff_eq]; omega), Int.toNat_natCast, Nat.add_zero, List.take_left' rfl, hl, hd]
theorem split_end {c : UInt8} {p : Txt} (h : c ∉ p) : Lib.split p [c] = [p] := by
  unfold Lib.split
  rw [Lib.count_miss (index_not h)]
  rfl
theorem split_join (c : UInt8) : ∀ (n : Nat) (s : Txt), s.length ≤ n → Lib.split s [c] ≠ [] ∧ Lib.join (Lib.split s [c]) [c] = s
  | 0, s, h => by
    have : s = [] := List.eq_nil_of_length_eq_zero (by omega)
    subst this
    rw [split_end (by simp)]
    exact ⟨by simp, Lib.join_one _ _⟩
  | n + 1, s, h => by
    by_cases hc : c ∈ s
    · obtain ⟨p, r, rfl, hp⟩ := List.eq_append_cons_of_mem hc
      rw [split_cut r hp]
      obtain ⟨h1, h2⟩ := split_join c n r (by simp at h; omega)
      refine ⟨by simp, ?_⟩
      cases hs : Lib.split r [c] with
      | nil => exact absurd hs h1
      | cons y ys =>
        rw [hs, Lib.join_cons] at h2
        rw [Lib.join_cons, ← h2]
        simp [Lib.joinTail]
    · rw [split_end hc]
      exact ⟨by simp, Lib.join_one _ _⟩
theorem split_parts (s : Txt) (c : UInt8) : ∃ p ps, Lib.split s [c] = p :: ps ∧ s = p ++ Lib.joinTail [c] ps := by
  obtain ⟨h1, h2⟩ := split_join c s.length s (Nat.le_refl _)
  cases hs : Lib.split s [c] with
  | nil => exact absurd hs h1
  | cons p ps => exact ⟨p, ps, rfl, by rw [hs, Lib.join_cons] at h2; exact h2.symm⟩

/-! ### paths -/
def numV (p : Txt) : Int := match Lib.parseIntB 64 p with
  | .ok n => n
  | _ => 0
theorem number_num {p : Txt} (h : numberB p = true) : 0 ≤ numV p ∧ numV p ≤ 9223372036854775807 ∧ Lib.itoa (numV p) = p := by
  unfold numberB at h
  unfold numV
  cases hp : Lib.parseIntB 64 p with
  | ok n =>
    rw [hp] at h
    simp only [Bool.and_eq_true, decide_eq_true_eq] at h
    refine ⟨h.1, ?_, h.2⟩
    unfold Lib.parseIntB at hp
    cases p with
    | nil => cases hp
    | cons c r =>
      simp only at hp
      split at hp
      · cases hp
      · cases hp
      · rename_i u _
        split at hp
        · cases hp
        · split at hp
          · cases hp
          · rename_i h1 h2
            simp only [Lib.NumEnd.ok.injEq] at hp
            simp only
            rw [← hp]
            split
            · omega
            · rename_i h3
              have : ¬ 2 ^ (64 - 1) ≤ u := fun e => h1 ⟨h3, e⟩
              omega
  | _ => rw [hp] at h; cases h
def partTok (p : Txt) : Tok := if nameB p then wd p else nm (numV p)
def tailT (ps : List Txt) : List Tok := ps.flatMap fun p => [sg [46], partTok p]
theorem lex_part {p : Txt} (h : nameB p = true ∨ numberB p = true) : LexW p [partTok p] := by
  unfold partTok
  by_cases hn : nameB p = true
  · rw [if_pos hn]; exact LexW.name hn
  · rw [if_neg hn]
    have h2 : numberB p = true := by
      rcases h with h | h
      · exact absurd h hn
      · exact h
    obtain ⟨h3, h4, h5⟩ := number_num h2
    have := LexW.num h3 h4
    rw [h5] at this
    exact this
theorem lex_tail : ∀ (ps : List Txt) {x : Txt} {T : List Tok}, LexW x T → (∀ p ∈ ps, nameB p = true ∨ numberB p = true) → LexW (x ++ Lib.joinTail [46] ps) (T ++ tailT ps)
  | [], x, T, h, _ => by simpa [Lib.joinTail, tailT] using h
  | p :: ps, x, T, h, hp => by
    have h1 : LexW (x ++ 46 :: p) (T ++ [sg [46], partTok p]) := LexW.app h (LexH.app (x := [46]) (T := [sg [46]]) (LexH.sign (by decide)) (lex_part (hp p (by simp)))) (by decide)
    have h2 := lex_tail ps h1 fun q hq => hp q (by simp [hq])
    have e1 : x ++ 46 :: p ++ Lib.joinTail [46] ps = x ++ Lib.joinTail [46] (p :: ps) := by simp [Lib.joinTail]
    have e2 : T ++ [sg [46], partTok p] ++ tailT ps = T ++ tailT (p :: ps) := by simp [tailT]
    rw [e1, e2] at h2
    exact h2
theorem pathL_reads : ∀ (ps : List Txt) (x : Txt) (R : List Tok) (acc : List Stp) (m : Nat), (∀ p ∈ ps, nameB p = true ∨ numberB p = true) → (mk R acc).next 5 [[46]] = false → ps.length < m →
    pathL m x (mk (tailT ps ++ R) acc) = some (x ++ Lib.joinTail [46] ps, mk R acc)
  | [], x, R, acc, m, _, hR, hm => by
    obtain ⟨k, rfl⟩ : ∃ k, m = k + 1 := ⟨m - 1, by simp at hm; omega⟩
    rw [pathL, show mk (tailT [] ++ R) acc = mk R acc from rfl, hR]
    simp [Lib.joinTail]
  | p :: ps, x, R, acc, m, hp, hR, hm => by
    obtain ⟨k, rfl⟩ : ∃ k, m = k + 1 := ⟨m - 1, by simp at hm; omega⟩
    have e : tailT (p :: ps) ++ R = sg [46] :: partTok p :: (tailT ps ++ R) := by simp [tailT]
    have ih := fun y => pathL_reads ps y R acc k (fun q hq => hp q (by simp [hq])) hR (by simp at hm; omega)
    have e3 : ∀ y : Txt, y ++ 46 :: p ++ Lib.joinTail [46] ps = y ++ Lib.joinTail [46] (p :: ps) := fun y => by simp [Lib.joinTail]
    rw [e, pathL, if_pos (by rw [mk_next]; decide), mk_drop]
    by_cases hn : nameB p = true
    · have ep : partTok p = wd p := by unfold partTok; rw [if_pos hn]
      rw [ep, if_neg (by rw [mk_next]; simp [wd]), (mk_name _ _ _).1, (mk_name _ _ _).2, ih, e3]
    · have ep : partTok p = nm (numV p) := by unfold partTok; rw [if_neg hn]
      have h2 : numberB p = true := by
        rcases hp p (by simp) with h | h
        · exact absurd h hn
        · exact h
      rw [ep, if_pos (by rw [mk_next]; rfl), mk_drop, mk_head, show (nm (numV p)).num = numV p from rfl, (number_num h2).2.2, ih, e3]
theorem pathParts_all : ∀ (ps : List Txt) (i : Nat), pathParts i ps = true → ∀ p ∈ ps, nameB p = true ∨ numberB p = true
  | [], _, _ => by simp
  | q :: ps, i, h => by
    rw [pathParts, Bool.and_eq_true, Bool.or_eq_true, Bool.and_eq_true] at h
    intro p hp
    rcases List.mem_cons.1 hp with rfl | hp
    · rcases h.1 with h1 | h1
      · exact .inl h1
      · exact .inr h1.2
    · exact pathParts_all ps _ h.2 p hp
theorem good_path {s : Txt} (h : pathB s = true) : Good [⟨6, s, 0⟩] s := by
  unfold pathB at h
  rw [Bool.and_eq_true] at h
  obtain ⟨p, ps, hs, he⟩ := split_parts s 46
  rw [hs] at h
  have hall := pathParts_all ps 1 (by have := h.1; rw [pathParts, Bool.and_eq_true] at this; exact this.2)
  have hp : nameB p = true := by
    have := h.1
    rw [pathParts, Bool.and_eq_true, Bool.or_eq_true, Bool.and_eq_true] at this
    rcases this.1 with h1 | h1
    · exact h1
    · have := h1.1; simp at this
  refine ⟨wd p :: tailT ps, 0, ?_, ?_, ⟨_, _, rfl, rfl⟩, by simp⟩
  · have := lex_tail ps (LexW.name hp) hall
    rw [← he] at this
    exact this
  · intro d R acc hd ha hR
    refine ⟨ps.length + 1, fun n hn => ?_⟩
    refine ⟨_, ?_, Comes.ok (by omega) rfl⟩
    show primary (orF n) n d (mk (wd p :: (tailT ps ++ R)) acc) = _
    unfold primary
    rw [if_neg (by rw [mk_next]; simp [wd]), if_neg (by rw [mk_next]; simp [wd]), if_pos (by rw [mk_next]; rfl)]
    unfold path
    rw [(mk_name _ _ _).1, (mk_name _ _ _).2, pathL_reads ps p R acc n hall hR (by omega), Option.map_some, mk_put (by simp at ha; omega), ← he]

/-! ### lists and structs -/
structure Kid where
  name : Txt
  l : List Stp
  x : Txt
  T : List Tok
  h : Nat
def kidT (kind : Nat) (q : Kid) : List Tok := if kind = 8 then wd q.name :: sg [58] :: q.T else q.T
def kidX (kind : Nat) (q : Kid) : Txt := if kind = 8 then q.name ++ [58, 32] ++ q.x else q.x
def tailK (kind : Nat) (ks : List Kid) : List Tok := ks.flatMap fun q => sg [44] :: kidT kind q
def namesA (kind : Nat) (l : List Txt) (ks : List Kid) : List Txt := if kind = 8 then l ++ ks.map Kid.name else l
def hmax (ks : List Kid) : Nat := ks.foldr (fun q m => max q.h m) 0
def flat (ks : List Kid) : List Stp := ks.flatMap Kid.l
structure KidOk (kind : Nat) (q : Kid) : Prop where
  good : GoodT q.l q.x q.T q.h
  name : kind = 8 → nameB q.name = true

theorem partN_reads {kind : Nat} {q : Kid} (l : List Txt) (i : Int) (Z : List Tok) (acc : List Stp) (hn : kind = 8 → (l ++ [q.name]).Nodup) :
    partN ⟨kind, [], i⟩ l (mk (kidT kind q ++ Z) acc) = (namesA kind l [q], mk (q.T ++ Z) acc) := by
  unfold partN namesA kidT
  by_cases hk : kind = 8
  · simp only [hk, if_true]
    have e : wd q.name :: sg [58] :: q.T ++ Z = wd q.name :: sg [58] :: (q.T ++ Z) := rfl
    rw [e, (mk_name _ _ _).1, (mk_name _ _ _).2, if_pos (hn hk), mk_sign]
    rfl
  · simp only [hk, if_false]
theorem stop_sign {x : Txt} (h : x = [44] ∨ x = [93] ∨ x = [125] ∨ x = [41]) (R : List Tok) (acc : List Stp) : Stop (mk (sg x :: R) acc) ∧ (mk (sg x :: R) acc).next 5 [[46]] = false := by
  have e : ∀ (k : Nat) (t : List Txt), (mk (sg x :: R) acc).next k t = ((sg x).kind == k && (t.isEmpty || t.contains (sg x).text)) := fun k t => mk_next _ _ _ _ _
  refine ⟨⟨?_, ?_, ?_, ?_, ?_, ?_⟩, ?_⟩ <;> (try unfold mulB) <;> (try unfold addB) <;> (try unfold relB) <;> (try unfold isB) <;> (try unfold andB) <;> (try unfold orB) <;> rw [e] <;> (rcases h with rfl | rfl | rfl | rfl <;> decide)
theorem stop_tail {kind : Nat} {end_ : Txt} (he : end_ = [93] ∨ end_ = [125]) (ks : List Kid) (R : List Tok) (acc : List Stp) : Stop (mk (tailK kind ks ++ sg end_ :: R) acc) ∧ (mk (tailK kind ks ++ sg end_ :: R) acc).next 5 [[46]] = false := by
  cases ks with
  | nil => exact stop_sign (by rcases he with h | h <;> simp [h]) R acc
  | cons q ks =>
    have e : tailK kind (q :: ks) ++ sg end_ :: R = sg [44] :: (kidT kind q ++ tailK kind ks ++ sg end_ :: R) := by simp [tailK]
    rw [e]
    exact stop_sign (x := [44]) (.inl rfl) _ acc

theorem partsL_reads {kind d : Nat} {end_ : Txt} (he : end_ = [93] ∨ end_ = [125]) (hd : d ≤ 16) : ∀ (ks : List Kid) (q : Kid) (i : Int) (l : List Txt) (acc : List Stp) (R : List Tok),
    (∀ k ∈ q :: ks, KidOk kind k) → 0 ≤ i → i + ks.length + 1 ≤ 64 → (kind = 8 → (l ++ (q :: ks).map Kid.name).Nodup) → acc.length + (flat (q :: ks)).length + 1 ≤ 128 →
    ∃ n0, ∀ n, n0 ≤ n → ∀ m, ks.length < m → ∃ s, partsL (orF n d) end_ m ⟨kind, [], i⟩ l (mk (kidT kind q ++ (tailK kind ks ++ sg end_ :: R)) acc) = some s ∧
      Comes (d + hmax (q :: ks) ≤ 16) (mk R (acc ++ flat (q :: ks) ++ [⟨kind, commas (namesA kind l (q :: ks)), i + ks.length + 1⟩])) s
  | [], q, i, l, acc, R, hg, hi, h64, hnd, ha => by
    have hq := (hg q (by simp)).good
    simp only [flat, List.flatMap_cons, List.flatMap_nil, List.append_nil] at ha
    obtain ⟨hst, hdot⟩ := stop_tail (kind := kind) he [] R (acc ++ q.l)
    have hr := or_orF (prim_or (hq.reads d (sg end_ :: R) acc hd (by omega) (stop_tail (kind := kind) he [] R acc).2) (hq.starts.plain _ _) hst)
    obtain ⟨n0, hr⟩ := hr
    refine ⟨n0, fun n hn m hm => ?_⟩
    obtain ⟨k, rfl⟩ : ∃ k, m = k + 1 := ⟨m - 1, by simp at hm; omega⟩
    obtain ⟨r, hr1, hc⟩ := hr n hn
    rw [partsL, if_pos (show (mk _ acc).why = 0 from rfl), if_neg (by simp only; simp at h64; omega), partN_reads l i _ acc (by simpa using hnd)]
    simp only
    rw [show tailK kind [] ++ sg end_ :: R = sg end_ :: R from rfl, show orF n d (mk (q.T ++ sg end_ :: R) acc) = some r from hr1, Option.bind_some]
    unfold partsB
    have hm1 : d + hmax [q] ≤ 16 ↔ d + q.h ≤ 16 := by simp [hmax]
    by_cases hb : d + q.h ≤ 16
    · rw [hc.1 hb, if_pos (show (mk _ _).why = 0 from rfl), if_pos (by rw [mk_next]; simp [sg]), mk_drop, mk_put (by simp; omega)]
      refine ⟨_, rfl, Comes.ok (hm1.2 hb) ?_⟩
      simp [flat]
    · have hs := hc.2 hb
      rw [if_neg (by have := hs.why; omega)]
      exact ⟨_, rfl, Comes.bad (fun h => hb (hm1.1 h)) hs⟩
  | p :: ks, q, i, l, acc, R, hg, hi, h64, hnd, ha => by
    have hq := (hg q (by simp)).good
    have ha' : acc.length + (q.l.length + (flat (p :: ks)).length) + 1 ≤ 128 := by
      have e : flat (q :: p :: ks) = q.l ++ flat (p :: ks) := by simp [flat]
      rw [e, List.length_append] at ha; exact ha
    obtain ⟨hst, hdot⟩ := stop_tail (kind := kind) he (p :: ks) R (acc ++ q.l)
    have hr := or_orF (prim_or (hq.reads d (tailK kind (p :: ks) ++ sg end_ :: R) acc hd (by omega) (stop_tail (kind := kind) he (p :: ks) R acc).2) (hq.starts.plain _ _) hst)
    obtain ⟨n0, hr⟩ := hr
    obtain ⟨n1, ih⟩ := partsL_reads he hd ks p (i + 1) (namesA kind l [q]) (acc ++ q.l) R (fun k hk => hg k (by simp [List.mem_cons.1 hk])) (by omega) (by simp at h64; omega)
      (fun hk => by have := hnd hk; unfold namesA; rw [if_pos hk]; simpa using this) (by simp; omega)
    refine ⟨n0 + n1, fun n hn m hm => ?_⟩
    obtain ⟨k, rfl⟩ : ∃ k, m = k + 1 := ⟨m - 1, by simp at hm; omega⟩
    obtain ⟨r, hr1, hc⟩ := hr n (by omega)
    rw [partsL, if_pos (show (mk _ acc).why = 0 from rfl), if_neg (by simp only; simp at h64; omega), partN_reads l i _ acc (fun hk => by have := hnd hk; rw [show l ++ (q :: p :: ks).map Kid.name = (l ++ [q.name]) ++ (p :: ks).map Kid.name by simp] at this; exact (List.nodup_append.1 this).1)]
    simp only
    rw [show orF n d (mk (q.T ++ (tailK kind (p :: ks) ++ sg end_ :: R)) acc) = some r from hr1, Option.bind_some]
    unfold partsB
    have hm1 : d + hmax (q :: p :: ks) ≤ 16 ↔ d + q.h ≤ 16 ∧ d + hmax (p :: ks) ≤ 16 := by
      have e : hmax (q :: p :: ks) = max q.h (hmax (p :: ks)) := rfl
      rw [e]; omega
    by_cases hb : d + q.h ≤ 16
    · have e : tailK kind (p :: ks) ++ sg end_ :: R = sg [44] :: (kidT kind p ++ (tailK kind ks ++ sg end_ :: R)) := by simp [tailK]
      rw [hc.1 hb, if_pos (show (mk _ _).why = 0 from rfl), e, if_neg (by rw [mk_next]; rcases he with h | h <;> rw [h] <;> decide), mk_sign]
      obtain ⟨s, hs1, hs2⟩ := ih n (by omega) k (by simp at hm; omega)
      refine ⟨s, hs1, ⟨fun h => ?_, fun h => hs2.2 (fun h3 => h (hm1.2 ⟨hb, h3⟩))⟩⟩
      rw [hs2.1 (hm1.1 h).2]
      have e1 : namesA kind (namesA kind l [q]) (p :: ks) = namesA kind l (q :: p :: ks) := by
        unfold namesA
        split <;> simp
      have e2 : i + 1 + (ks.length : Int) + 1 = i + ((p :: ks).length : Nat) + 1 := by simp; omega
      have e3 : acc ++ q.l ++ flat (p :: ks) = acc ++ flat (q :: p :: ks) := by simp [flat]
      rw [e1, e2, e3]
    · have hs := hc.2 hb
      rw [if_neg (by have := hs.why; omega)]
      exact ⟨_, rfl, Comes.bad (fun h => hb (hm1.1 h).1) hs⟩

def bodyT (kind : Nat) : List Kid → List Tok
  | [] => []
  | q :: ks => kidT kind q ++ tailK kind ks
theorem lex_kid {kind : Nat} {q : Kid} (h : KidOk kind q) : LexW (kidX kind q) (kidT kind q) := by
  unfold kidX kidT
  by_cases hk : kind = 8
  · simp only [hk, if_true]
    have e : q.name ++ [58, 32] ++ q.x = q.name ++ 58 :: (32 :: q.x) := by simp
    rw [e]
    exact LexW.app (LexW.name (h.name hk)) (LexH.app (x := [58]) (T := [sg [58]]) (LexH.sign (by decide)) (LexH.app (x := [32]) (T := []) LexH.one h.good.lex)) (by decide)
  · simp only [hk, if_false]
    exact h.good.lex
theorem lex_kids {kind : Nat} : ∀ (ks : List Kid) {x : Txt} {T : List Tok}, LexW x T → (∀ q ∈ ks, KidOk kind q) → LexW (x ++ Lib.joinTail [44, 32] (ks.map (kidX kind))) (T ++ tailK kind ks)
  | [], x, T, h, _ => by simpa [Lib.joinTail, tailK] using h
  | p :: ks, x, T, h, hp => by
    have h1 : LexW (x ++ 44 :: (32 :: kidX kind p)) (T ++ sg [44] :: kidT kind p) :=
      LexW.app h (LexH.app (x := [44]) (T := [sg [44]]) (LexH.sign (by decide)) (LexH.app (x := [32]) (T := []) LexH.one (lex_kid (hp p (by simp))))) (by decide)
    have h2 := lex_kids ks h1 fun q hq => hp q (by simp [hq])
    have e1 : x ++ 44 :: (32 :: kidX kind p) ++ Lib.joinTail [44, 32] (ks.map (kidX kind)) = x ++ Lib.joinTail [44, 32] ((p :: ks).map (kidX kind)) := by simp [Lib.joinTail]
    have e2 : T ++ sg [44] :: kidT kind p ++ tailK kind ks = T ++ tailK kind (p :: ks) := by simp [tailK]
    rw [e1, e2] at h2
    exact h2
theorem lex_body {kind : Nat} (ks : List Kid) (h : ∀ q ∈ ks, KidOk kind q) : LexW (Lib.join (ks.map (kidX kind)) [44, 32]) (bodyT kind ks) := by
  cases ks with
  | nil => exact LexP.nil _
  | cons q ks =>
    rw [List.map_cons, Lib.join_cons]
    exact lex_kids ks (lex_kid (h q (by simp))) fun k hk => h k (by simp [hk])
theorem hmax_le : ∀ ks : List Kid, (∀ q ∈ ks, q.h + 1 ≤ 2 * q.l.length) → hmax ks ≤ 2 * (flat ks).length
  | [], _ => by simp [hmax]
  | q :: ks, h => by
    have h1 := h q (by simp)
    have h2 := hmax_le ks fun k hk => h k (by simp [hk])
    have e : hmax (q :: ks) = max q.h (hmax ks) := rfl
    have e2 : flat (q :: ks) = q.l ++ flat ks := by simp [flat]
    rw [e, e2, List.length_append]
    omega
/-- '[..]', '{..}' -/
theorem good_parts {kind : Nat} {o c : Txt} (hk : kind = 7 ∧ o = [91] ∧ c = [93] ∨ kind = 8 ∧ o = [123] ∧ c = [125]) (ks : List Kid) (hg : ∀ q ∈ ks, KidOk kind q) (h64 : ks.length ≤ 64) (hnd : kind = 8 → (ks.map Kid.name).Nodup) :
    Good (flat ks ++ [⟨kind, commas (namesA kind [] ks), (ks.length : Nat)⟩]) (o ++ Lib.join (ks.map (kidX kind)) [44, 32] ++ c) := by
  have he : c = [93] ∨ c = [125] := by rcases hk with ⟨_, _, h⟩ | ⟨_, _, h⟩ <;> simp [h]
  refine ⟨sg o :: (bodyT kind ks ++ [sg c]), 1 + hmax ks, ?_, ?_, ⟨_, _, rfl, by rcases hk with ⟨_, rfl, _⟩ | ⟨_, rfl, _⟩ <;> decide⟩, ?_⟩
  · rw [List.append_assoc]
    have hb := lex_body ks hg
    rcases hk with ⟨rfl, rfl, rfl⟩ | ⟨rfl, rfl, rfl⟩
    · exact LexH.app (LexH.sign (by decide)) (LexW.app hb (LexH.any (LexH.sign (by decide))) (by decide))
    · exact LexH.app (LexH.sign (by decide)) (LexW.app hb (LexH.any (LexH.sign (by decide))) (by decide))
  · intro d R acc hd ha hR
    simp only [List.length_append, List.length_cons, List.length_nil] at ha
    have e : sg o :: (bodyT kind ks ++ [sg c]) ++ R = sg o :: (bodyT kind ks ++ sg c :: R) := by simp
    rw [e]
    have hp : ∀ n, primary (orF n) n d (mk (sg o :: (bodyT kind ks ++ sg c :: R)) acc) = nestThen d (mk (sg o :: (bodyT kind ks ++ sg c :: R)) acc) fun s => parts (orF n (d + 1)) n ⟨kind, [], 0⟩ c s := fun n => by
      unfold primary
      rcases hk with ⟨rfl, rfl, rfl⟩ | ⟨rfl, rfl, rfl⟩
      · rw [if_neg (by rw [mk_next]; simp [sg]), if_neg (by rw [mk_next]; simp [sg]), if_neg (by rw [mk_next]; simp [sg]), if_neg (by rw [mk_next]; simp [sg]), if_neg (by rw [mk_next]; decide), if_pos (by rw [mk_next]; decide)]
      · rw [if_neg (by rw [mk_next]; simp [sg]), if_neg (by rw [mk_next]; simp [sg]), if_neg (by rw [mk_next]; simp [sg]), if_neg (by rw [mk_next]; simp [sg]), if_neg (by rw [mk_next]; decide), if_neg (by rw [mk_next]; decide), if_pos (by rw [mk_next]; decide)]
    by_cases hd2 : 16 ≤ d
    · refine ⟨0, fun n _ => ?_⟩
      show ∃ x, primary (orF n) n d (mk (sg o :: (bodyT kind ks ++ sg c :: R)) acc) = some x ∧ _
      rw [hp]
      unfold nestThen
      rw [if_pos hd2]
      exact ⟨_, rfl, Comes.bad (fun h => by omega) (deep_stuck _ _)⟩
    · cases ks with
      | nil =>
        refine ⟨0, fun n _ => ?_⟩
        show ∃ x, primary (orF n) n d (mk (sg o :: (bodyT kind [] ++ sg c :: R)) acc) = some x ∧ _
        rw [hp]
        unfold nestThen parts
        rw [if_neg hd2, mk_drop]
        simp only
        rw [show bodyT kind [] ++ sg c :: R = sg c :: R from rfl, if_pos (by rw [mk_next]; simp [sg]), mk_drop, mk_put (by simp [flat] at ha; omega)]
        refine ⟨_, rfl, Comes.ok (by simp [hmax]; omega) ?_⟩
        unfold namesA
        simp [flat, commas]
      | cons q ks =>
        obtain ⟨n0, hr⟩ := partsL_reads he (show d + 1 ≤ 16 by omega) ks q 0 [] acc R hg (by omega) (by simp at h64; omega) (by simpa using hnd) (by omega)
        refine ⟨n0 + ks.length + 1, fun n hn => ?_⟩
        show ∃ x, primary (orF n) n d (mk (sg o :: (bodyT kind (q :: ks) ++ sg c :: R)) acc) = some x ∧ _
        rw [hp]
        unfold nestThen parts
        rw [if_neg hd2, mk_drop]
        simp only
        have e2 : bodyT kind (q :: ks) ++ sg c :: R = kidT kind q ++ (tailK kind ks ++ sg c :: R) := by simp [bodyT]
        have hc0 : (mk (kidT kind q ++ (tailK kind ks ++ sg c :: R)) acc).next 5 [c] = false := by
          unfold kidT
          split
          · rw [List.cons_append, mk_next]; rfl
          · exact (hg q (by simp)).good.starts.next _ _ (.inr ⟨rfl, by rcases he with h | h <;> rw [h] <;> decide⟩)
        rw [e2, hc0]
        obtain ⟨s, hs, hcm⟩ := hr n (by omega) n (by omega)
        refine ⟨s, hs, ?_⟩
        have e3 : (0 : Int) + (ks.length : Int) + 1 = (((q :: ks).length : Nat) : Int) := by simp
        rw [e3] at hcm
        refine ⟨fun h => (hcm.1 (by omega)).trans (by rw [List.append_assoc]), fun h => hcm.2 (by omega)⟩
  · have := hmax_le ks fun q hq => (hg q hq).good.deep
    simp
    omega
theorem commas_join : ∀ l : List Txt, commas l = Lib.join l [44]
  | [] => rfl
  | [x] => (Lib.join_one _ _).symm
  | x :: y :: r => by
    rw [commas, commas_join (y :: r), Lib.join_cons, Lib.join_cons]
    · simp [Lib.joinTail]
    · simp
theorem kids_of : ∀ (ps : List (List Stp × Txt)) (names : List Txt), names.length = ps.length → (∀ p ∈ ps, Good p.1 p.2) → ∃ ks : List Kid, ks.map Kid.name = names ∧ flat ks = (ps.map Prod.fst).flatten ∧ ks.map Kid.x = ps.map Prod.snd ∧
    ∀ q ∈ ks, GoodT q.l q.x q.T q.h
  | [], names, hl, _ => ⟨[], by
      have : names = [] := List.eq_nil_of_length_eq_zero hl
      rw [this]; rfl, rfl, rfl, by simp⟩
  | p :: ps, [], hl, _ => by simp at hl
  | p :: ps, m :: names, hl, h => by
    obtain ⟨ks, h1, h2, h3, h4⟩ := kids_of ps names (by simpa using hl) fun q hq => h q (by simp [hq])
    obtain ⟨T, i, hg⟩ := h p (by simp)
    refine ⟨⟨m, p.1, p.2, T, i⟩ :: ks, by simp [h1], ?_, by simp [h3], fun q hq => ?_⟩
    · rw [List.map_cons, List.flatten_cons, ← h2]; simp [flat]
    · rcases List.mem_cons.1 hq with rfl | hq
      · exact hg
      · exact h4 q hq
theorem fields_map : ∀ ks : List Kid, fieldsT (ks.map Kid.x) (ks.map Kid.name) = ks.map (kidX 8)
  | [] => rfl
  | q :: ks => by
    rw [List.map_cons, List.map_cons, List.map_cons, fieldsT, fields_map ks]
    rfl
theorem fields_nil (r : List Txt) : fieldsT [] r = [] := by cases r <;> rfl

/-- a step of what is shown -/
theorem shown_good {y : Stp} {k : Nat} (h : takes y = some k) (hn : y.num ≤ 9223372036854775807) (ps : List (List Stp × Txt)) (hl : ps.length = k) (hg : ∀ p ∈ ps, Good p.1 p.2) :
    Good ((ps.map Prod.fst).flatten ++ [y]) (shown y (ps.map Prod.snd)) := by
  obtain ⟨kind, text, num⟩ := y
  unfold takes at h
  simp only at h hn
  unfold shown
  simp only
  by_cases h1 : kind = 1 ∨ kind = 2 ∨ kind = 3
  · rw [if_pos h1] at h
    split at h
    · rename_i ht
      obtain ⟨rfl, rfl⟩ := ht
      simp only [Option.some.injEq] at h
      have hp : ps = [] := List.eq_nil_of_length_eq_zero (by omega)
      subst hp
      rcases h1 with rfl | rfl | rfl
      · exact ⟨_, _, good_key (x := kNULL) (by simp) rfl⟩
      · exact ⟨_, _, good_key (x := kTRUE) (by simp) rfl⟩
      · exact ⟨_, _, good_key (x := kFALSE) (by simp) rfl⟩
    · cases h
  · rw [if_neg h1] at h
    rw [if_neg (by omega), if_neg (by omega), if_neg (by omega)]
    by_cases h4 : kind = 4
    · rw [if_pos h4] at h ⊢
      split at h
      · rename_i ht
        obtain ⟨rfl, ht⟩ := ht
        simp only [Option.some.injEq] at h
        have hp : ps = [] := List.eq_nil_of_length_eq_zero (by omega)
        subst hp h4
        exact ⟨_, _, good_int ht hn⟩
      · cases h
    · rw [if_neg h4] at h ⊢
      by_cases h5 : kind = 5
      · rw [if_pos h5] at h ⊢
        split at h
        · rename_i ht
          obtain ⟨rfl, ht1, ht2⟩ := ht
          simp only [Option.some.injEq] at h
          have hp : ps = [] := List.eq_nil_of_length_eq_zero (by omega)
          subst hp h5
          exact ⟨_, _, good_text ht1 ht2⟩
        · cases h
      · rw [if_neg h5] at h ⊢
        by_cases h6 : kind = 6
        · rw [if_pos h6] at h ⊢
          split at h
          · rename_i ht
            obtain ⟨rfl, ht⟩ := ht
            simp only [Option.some.injEq] at h
            have hp : ps = [] := List.eq_nil_of_length_eq_zero (by omega)
            subst hp h6
            exact good_path ht
          · cases h
        · rw [if_neg h6] at h ⊢
          by_cases h7 : kind = 7
          · rw [if_pos h7] at h
            rw [if_pos (.inl h7)]
            split at h
            · rename_i ht
              obtain ⟨rfl, ht1, ht2⟩ := ht
              simp only [Option.some.injEq] at h
              subst h7
              obtain ⟨ks, k1, k2, k3, k4⟩ := kids_of ps (List.replicate ps.length []) (by simp) hg
              have hlen : ks.length = ps.length := by have := congrArg List.length k3; simpa using this
              have := good_parts (kind := 7) (.inl ⟨rfl, rfl, rfl⟩) ks (fun q hq => ⟨k4 q hq, by simp⟩) (by omega) (by simp)
              unfold joined
              simp only [if_true]
              have e1 : ks.map (kidX 7) = ps.map Prod.snd := by rw [← k3]; exact List.map_congr_left fun q _ => rfl
              have e2 : ((ks.length : Nat) : Int) = num := by omega
              rw [e1, e2, k2] at this
              exact this
            · cases h
          · rw [if_neg h7] at h
            by_cases h8 : kind = 8
            · rw [if_pos h8] at h
              rw [if_pos (.inr h8)]
              split at h
              · rename_i ht
                obtain ⟨ht1, ht2, ht3⟩ := ht
                simp only [Option.some.injEq] at h
                subst h8
                unfold joined
                simp only [show ¬ (8 : Nat) = 7 by omega, if_false]
                unfold namesB at ht3
                by_cases h0 : num = 0
                · rw [if_pos h0] at ht3
                  have ht := of_decide_eq_true ht3
                  have hp : ps = [] := List.eq_nil_of_length_eq_zero (by omega)
                  subst ht hp h0
                  have := good_parts (kind := 8) (.inr ⟨rfl, rfl, rfl⟩) [] (by simp) (by simp) (by simp)
                  simp only [List.map_nil, fields_nil] at this ⊢
                  exact this
                · rw [if_neg h0, Bool.and_eq_true, Bool.and_eq_true] at ht3
                  obtain ⟨hs1, hs2, hs3⟩ := ht3
                  have hs1 := of_decide_eq_true hs1
                  unfold apartB at hs2
                  have hs2 := of_decide_eq_true hs2
                  rw [List.all_eq_true] at hs3
                  obtain ⟨ks, k1, k2, k3, k4⟩ := kids_of ps (Lib.split text [44]) (by omega) hg
                  have hlen : ks.length = ps.length := by have := congrArg List.length k3; simpa using this
                  have := good_parts (kind := 8) (.inr ⟨rfl, rfl, rfl⟩) ks (fun q hq => ⟨k4 q hq, fun _ => hs3 _ (by rw [← k1]; exact List.mem_map_of_mem hq)⟩) (by omega) (fun _ => by rw [k1]; exact hs2)
                  have e0 : commas (namesA 8 [] ks) = text := by
                    unfold namesA
                    rw [if_pos rfl, List.nil_append, k1, commas_join]
                    exact (split_join 44 text.length text (Nat.le_refl _)).2
                  have e2 : ((ks.length : Nat) : Int) = num := by omega
                  rw [e0, e2, k2] at this
                  rw [← k1, ← k3, fields_map]
                  exact this
              · cases h
            · rw [if_neg h8] at h
              rw [if_neg (by omega)]
              by_cases h9 : kind = 9 ∨ kind = 10 ∨ kind = 11
              · rw [if_pos h9] at h
                split at h
                · rename_i ht
                  obtain ⟨rfl, rfl⟩ := ht
                  simp only [Option.some.injEq] at h
                  obtain ⟨p, rfl⟩ : ∃ p, ps = [p] := List.length_eq_one_iff.1 (by omega)
                  obtain ⟨T, i, g⟩ := hg p (by simp)
                  simp only [List.map_cons, List.map_nil, List.flatten_cons, List.flatten_nil, List.append_nil, List.getD_cons_zero]
                  rcases h9 with rfl | rfl | rfl
                  · exact ⟨_, _, good_neg g⟩
                  · exact ⟨_, _, good_not g⟩
                  · exact ⟨_, _, good_is g⟩
                · cases h
              · rw [if_neg h9] at h
                rw [if_neg (by omega), if_neg (by omega), if_neg (by omega)]
                by_cases h12 : 12 ≤ kind ∧ kind < 23
                · rw [if_pos h12] at h
                  split at h
                  · rename_i ht
                    obtain ⟨rfl, rfl⟩ := ht
                    simp only [Option.some.injEq] at h
                    obtain ⟨p, q, rfl⟩ : ∃ p q, ps = [p, q] := by
                      match ps, hl with
                      | [p, q], _ => exact ⟨p, q, rfl⟩
                      | [], h0 => simp at h0; omega
                      | [_], h0 => simp at h0; omega
                      | _ :: _ :: _ :: _, h0 => simp at h0; omega
                    obtain ⟨T, i, g⟩ := hg p (by simp)
                    obtain ⟨U, j, g2⟩ := hg q (by simp)
                    simp only [List.map_cons, List.map_nil, List.flatten_cons, List.flatten_nil, List.append_nil, List.getD_cons_zero, List.getD_cons_succ]
                    exact good_op g g2 h12.1 h12.2
                  · cases h
                · rw [if_neg h12] at h; cases h

/-- the stack of what is shown -/
theorem showG_good : ∀ (l : List Stp) (ps : List (List Stp × Txt)) {m : Nat}, (∀ p ∈ ps, Good p.1 p.2) → rightL l ps.length = some m → (∀ y ∈ l, y.num ≤ 9223372036854775807) →
    ∃ qs : List (List Stp × Txt), showG l (ps.map Prod.snd) = qs.map Prod.snd ∧ (∀ q ∈ qs, Good q.1 q.2) ∧ qs.length = m ∧ (qs.map Prod.fst).flatten = (ps.map Prod.fst).flatten ++ l
  | [], ps, m, hg, hr, _ => ⟨ps, rfl, hg, by simp only [rightL, Option.some.injEq] at hr; exact hr, by simp⟩
  | y :: r, ps, m, hg, hr, hn => by
    rw [rightL] at hr
    cases ht : takes y with
    | none => rw [ht] at hr; cases hr
    | some k =>
      rw [ht] at hr
      simp only at hr
      split at hr
      · cases hr
      · rename_i hk
        have hkn : takesN y = k := by unfold takesN; rw [ht]; rfl
        have hd : (ps.drop (ps.length - k)).length = k := by rw [List.length_drop]; omega
        have hg2 := shown_good ht (hn y (by simp)) (ps.drop (ps.length - k)) hd fun p hp => hg p (List.mem_of_mem_drop hp)
        obtain ⟨qs, q1, q2, q3, q4⟩ := showG_good r (ps.take (ps.length - k) ++ [(((ps.drop (ps.length - k)).map Prod.fst).flatten ++ [y], shown y ((ps.drop (ps.length - k)).map Prod.snd))]) (m := m)
          (fun p hp => by
            rcases List.mem_append.1 hp with hp | hp
            · exact hg p (List.mem_of_mem_take hp)
            · simp only [List.mem_cons, List.mem_nil_iff, or_false] at hp
              rw [hp]; exact hg2)
          (by rw [List.length_append, List.length_take]; simp only [List.length_cons, List.length_nil]; rw [← hr]; congr 1; omega) fun z hz => hn z (by simp [hz])
        refine ⟨qs, ?_, q2, q3, ?_⟩
        · rw [← q1, showG, hkn]
          simp [List.map_take, List.map_drop]
        · rw [q4]
          have e : (ps.map Prod.fst).flatten = ((ps.take (ps.length - k)).map Prod.fst).flatten ++ ((ps.drop (ps.length - k)).map Prod.fst).flatten := by
            rw [← List.flatten_append, ← List.map_append, List.take_append_drop]
          rw [e]
          simp
/-- A RIGHT EXPRESSION's TEXT IS READ AS THE EXPRESSION -/
theorem showE_good {l : List Stp} (h : rightB l = true) (hn : ∀ y ∈ l, y.num ≤ 9223372036854775807) : Good l (showE l) ∧ l.length ≤ 128 := by
  have hr := h
  unfold rightB at hr
  rw [Bool.and_eq_true, decide_eq_true_eq, decide_eq_true_eq] at hr
  obtain ⟨qs, q1, q2, q3, q4⟩ := showG_good l [] (by simp) hr.1 hn
  obtain ⟨q, rfl⟩ := List.length_eq_one_iff.1 q3
  refine ⟨?_, hr.2⟩
  unfold showE
  rw [if_pos h, show showG l [] = [q].map Prod.snd from q1]
  have hq := q2 q (by simp)
  simp only [List.map_cons, List.map_nil, List.flatten_cons, List.flatten_nil, List.append_nil, List.nil_append] at q4
  rw [q4] at hq
  exact hq

end Go.Proofs.YtghnkgeaocpmaaaGreatDoor.Pa
