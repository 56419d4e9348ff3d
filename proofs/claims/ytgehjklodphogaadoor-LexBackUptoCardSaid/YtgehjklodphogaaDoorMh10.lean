/- Parts: LyB. -/
import Derived.Test.YtgehjklodphogaaDoorMh09
import Derived.Laws.AppendOwnNone
import Derived.Deep.AppendLies
import Derived.Maps.AppendAt
import Derived.Deep.DeepMust
import Derived.Lib.ItoaLen

/- LexBack: the walk. -/
namespace Go.Proofs.YtgehjklodphogaaDoor.Lx
open Go.RowKit

structure BackMem (w wr : World) (out : Value) (tx : ByteArray) (toks : List Tok) : Prop where
  bel : Below w.heap.size w wr
  own : wr.ownsRow w.heap.size 26 4 out toks.length (toksC toks)
  trail : Trail (L tx) toks
  len : tx.size ≤ 16384
  cnt : toks.length ≤ tx.size
theorem BackMem.step {w wr w' : World} {out : Value} {tx : ByteArray} {toks : List Tok} (h : BackMem w wr out tx toks) (hb : Below wr.heap.size wr w') : BackMem w w' out tx toks :=
  ⟨h.bel.trans (hb.mono h.bel.size), own_same h.own (fun g _ hg => hb.block g hg), h.trail, h.len, h.cnt⟩
theorem BackMem.start {w wr : World} (hb : Below w.heap.size w wr) : BackMem w wr (.slice none 0 0) ⟨#[]⟩ [] :=
  ⟨hb, ⟨by simp [toksC], .inl ⟨rfl, rfl⟩⟩, Trail.nil, Nat.zero_le _, Nat.le_refl _⟩
/-- another block is stored -/
theorem BackMem.other {w wr : World} {out : Value} {tx : ByteArray} {toks : List Tok} (h : BackMem w wr out tx toks) {B : Nat} (hB : w.heap.size ≤ B) (hne : out.ownBlock ≠ some B) {i : Nat} (v : Value) : BackMem w (wr.setCell ⟨B, i, none⟩ v) out tx toks :=
  ⟨h.bel.setCell hB _, own_same h.own (fun g hg _ => Below.heap_setCell _ _ _ _ (fun e => hne (by rw [hg, e]))), h.trail, h.len, h.cnt⟩
/-- the token behind, and its text -/
theorem BackMem.more {w wr w' : World} {out out' : Value} {tx s b : ByteArray} {toks : List Tok} {t : Tok} (h : BackMem w wr out tx toks)
    (hown : w'.ownsRow w.heap.size 26 4 out' (toks.length + 1) (toksC toks ++ Tok.cells { t with pos := tx.size })) (hg : wr.grownBy w' out.ownBlock)
    (ht : showOk t = true) (hs : L s = showS t) (hb : ∀ c ∈ L b, blankB c = true) (hl : tx.size + s.size + b.size < 16384) :
    BackMem w w' out' (tx ++ (s ++ ⟨#[32]⟩ ++ b)) (toks ++ [{ t with pos := tx.size }]) := by
  have e : L (tx ++ (s ++ ⟨#[32]⟩ ++ b)) = L tx ++ (showS t ++ (32 :: L b)) := by
    rw [← hs, ← join_bytes]
    simp [L, ByteArray.data_append]
  have hsz : (tx ++ (s ++ ⟨#[32]⟩ ++ b)).size = tx.size + (s.size + 1 + b.size) := by rw [ByteArray.size_append, join_size]
  refine ⟨h.bel.grown hg h.bel.size fun k hk => (World.ownsRow.lt h.own k hk).1, ?_, ?_, by omega, ?_⟩
  · rw [toksC_append, List.length_append]
    have e2 : toksC [{ t with pos := tx.size }] = Tok.cells { t with pos := tx.size } := by simp [toksC]
    rw [e2]
    exact hown
  · rw [e]
    have := h.trail.more ht hb
    rw [L_length] at this
    exact this
  · have := h.cnt
    rw [hsz, List.length_append]
    simp only [List.length_cons, List.length_nil]
    omega

theorem blank_take {b : ByteArray} {k : Nat} (hk : k < b.size) (h : ∀ x ∈ (L b).take k, blankB x = true) (hb : blankB b[k] = true) : ∀ x ∈ (L b).take (k + 1), blankB x = true := by
  have hk2 : k < (L b).length := by rw [L_length]; exact hk
  rw [List.take_succ_eq_append_getElem hk2]
  intro x hx
  rcases List.mem_append.1 hx with hx | hx
  · exact h x hx
  · simp only [List.mem_cons, List.mem_nil_iff, or_false] at hx
    rw [hx]; exact hb
theorem byte_ne {x : UInt8} {n : Nat} (hn : n < 256) (h : x ≠ UInt8.ofNat n) : ((x.toNat : Int) != n) = true := by
  rw [bne_iff_ne]
  intro e
  apply h
  rw [← UInt8.toNat_inj, UInt8.toNat_ofNat']
  omega

set_option maxHeartbeats 4000000 in
set_option maxRecDepth 100000 in
theorem LexBack_calls (a : Option Addr) (n c : Nat) (b : ByteArray) (w : World) (hn : n ≤ c) (hc : c ≤ maxLen) (hb : b.size ≤ 1048576) (ha : ArgToks w a n) (he : Env w) :
    Calls Tryd.prog 3 #[.slice a n c, .string b] w fun e w' => e = .returned (.bool true) ∧ Below w.heap.size w w' := by
  have He := Lib.hid he
  have Ha := Lib.hid ha
  have hn2 : n ≤ 9223372036854775807 := by unfold maxLen at hc; omega
  clear he ha hc
  go_enter Tryd.func3, Tryd.ntmps3
  go_wp2_with fail
  refine (lives_calls w He.out).mono ?_
  rintro e w0 ⟨rfl, hb0⟩
  have Hb0 := Lib.hid hb0
  clear hb0
  go_wp2_with fail
  go_loopw [5] (fun i wr => ∃ k : Nat, k ≤ b.size ∧ i = .int .i64 k ∧ Hid (Below w.heap.size w wr) ∧ Hid (∀ x ∈ (L b).take k, blankB x = true)) (fun i _ => b.size - (intOf i).toNat)
  case atStart => exact ⟨0, Nat.zero_le _, rfl, Hb0.out, by show ∀ x ∈ (L b).take 0, _; simp⟩
  case round =>
    obtain ⟨k, hk, rfl, Hb, Hbl⟩ := hrel
    by_cases hlt : k < b.size
    · by_cases h0 : b[k] = 32
      · have q0 : ((b[k].toNat : Int) != 32) = false := by rw [h0]; rfl
        have Hn := Lib.hid (blank_take hlt Hbl.out (by rw [h0]; rfl))
        clear h0
        go_wp2_with fail
        go_roundw
        case rel => exact ⟨k + 1, by omega, by go_num, Hb.out, Hn.out⟩
        case measure => simp [intOf]; omega
      have q0 : ((b[k].toNat : Int) != 32) = true := byte_ne (by decide) h0
      clear h0
      by_cases h1 : b[k] = 9
      · have q1 : ((b[k].toNat : Int) != 9) = false := by rw [h1]; rfl
        have Hn := Lib.hid (blank_take hlt Hbl.out (by rw [h1]; rfl))
        clear h1
        go_wp2_with fail
        go_roundw
        case rel => exact ⟨k + 1, by omega, by go_num, Hb.out, Hn.out⟩
        case measure => simp [intOf]; omega
      have q1 : ((b[k].toNat : Int) != 9) = true := byte_ne (by decide) h1
      clear h1
      by_cases h2 : b[k] = 10
      · have q2 : ((b[k].toNat : Int) != 10) = false := by rw [h2]; rfl
        have Hn := Lib.hid (blank_take hlt Hbl.out (by rw [h2]; rfl))
        clear h2
        go_wp2_with fail
        go_roundw
        case rel => exact ⟨k + 1, by omega, by go_num, Hb.out, Hn.out⟩
        case measure => simp [intOf]; omega
      have q2 : ((b[k].toNat : Int) != 10) = true := byte_ne (by decide) h2
      clear h2
      by_cases h3 : b[k] = 13
      · have q3 : ((b[k].toNat : Int) != 13) = false := by rw [h3]; rfl
        have Hn := Lib.hid (blank_take hlt Hbl.out (by rw [h3]; rfl))
        clear h3
        go_wp2_with fail
        go_roundw
        case rel => exact ⟨k + 1, by omega, by go_num, Hb.out, Hn.out⟩
        case measure => simp [intOf]; omega
      have q3 : ((b[k].toNat : Int) != 13) = true := byte_ne (by decide) h3
      clear h3
      go_wp2_with fail
      go_ret
      exact ⟨rfl, Hb.out⟩
    · have Hbb := Lib.hid (show ∀ x ∈ L b, blankB x = true from fun x hx => Hbl.out x (by rw [List.take_of_length_le (by rw [L_length]; omega)]; exact hx))
      clear Hbl
      go_wp2_with fail
      go_loopw [6, 7, 47] (fun s6 s7 i wz => ∃ (tx : ByteArray) (toks : List Tok) (j : Nat), j ≤ n ∧ s6 = .string tx ∧ i = .int .i64 j ∧ Hid (BackMem w wz s7 tx toks)) (fun _ _ i _ => n - (intOf i).toNat)
      case atStart => exact ⟨_, [], 0, Nat.zero_le _, rfl, rfl, BackMem.start Hb.out⟩
      case round =>
        obtain ⟨tx, toks, j, hj, rfl, rfl, Hm⟩ := hrel
        have htl := Hm.out.len
        have htc := Hm.out.cnt
        by_cases hlt : j < n
        · obtain ⟨g, o, t, p, rfl, Hfit0, hcl⟩ := Ha.out j hlt
          have Hfit := Lib.hid Hfit0
          clear Hfit0
          obtain ⟨q0, q1, q2, q3⟩ := hcl.below Hm.out.bel
          clear hcl
          have hsl : (showS t).length ≤ 2097154 := by
            have h1 := Hfit.out.txt
            unfold showS
            split
            · have := Lib.itoa_length_le t.num Hfit.out.lo Hfit.out.hi; omega
            · split
              · have := dbl_length t.text
                rw [replaceAll_dbl]
                simp only [List.length_cons, List.length_append, List.length_nil]
                omega
              · omega
          have Hst0 := Lib.hid (ShowSt.start wr t p)
          have Hshow := Lib.hid (Show_calls t p (wr.alloc (.cells #[.int .u8 t.kind, .string ⟨t.text.toArray⟩, .int .i64 t.num, .int .i64 p] 26)) (by have := Hfit.out.txt; omega) Hfit.out.lo Hfit.out.hi (by omega) (He.out.below (Hm.out.bel.trans ((alloc_below wr _).mono Hm.out.bel.size))))
          by_cases hok : showOk t = true
          · have hsv : showV t = .tuple #[.string ⟨(showS t).toArray⟩, .int .i64 0] := by unfold showV; rw [if_pos hok]
            have hsl2 : (showS t).length ≤ 16384 := shown_length hok
            rw [hsv] at Hshow
            have Hok := Lib.hid hok
            obtain ⟨sb, hsb⟩ : ∃ sb : ByteArray, sb = ⟨(showS t).toArray⟩ := ⟨_, rfl⟩
            have hss : sb.size = (showS t).length := by rw [hsb, size_mk]
            have Hsb := Lib.hid (show L sb = showS t by rw [hsb, L_mk])
            rw [← hsb] at Hshow
            rw [← hss] at hsl2
            clear hok hsv hsb hss hsl
            by_cases hbig : 16384 ≤ tx.size + sb.size + b.size
            · have Hend := Lib.hid (fun (w2 : World) (hb2 : Below (wr.alloc (.cells #[.int .u8 t.kind, .string ⟨t.text.toArray⟩, .int .i64 t.num, .int .i64 p] 26)).heap.size (wr.alloc (.cells #[.int .u8 t.kind, .string ⟨t.text.toArray⟩, .int .i64 t.num, .int .i64 p] 26)) w2) => (Hm.out.step (alloc_below wr _)).step hb2)
              go_wp2_with fail
              refine Hshow.out.mono ?_
              rintro e w2 ⟨rfl, hb2⟩
              have Hm2 := Lib.hid (Hend.out w2 hb2)
              clear hb2
              go_wp2_with fail
              go_roundw
              case rel => exact ⟨tx, toks, j + 1, by omega, rfl, by go_num, Hm2.out⟩
              case measure => simp [intOf]; omega
            · go_wp2_with fail
              refine Hshow.out.mono ?_
              rintro e w2 ⟨rfl, hb2⟩
              have hst2 := Hst0.out.step hb2
              obtain ⟨⟨k0, k1, k2, k3⟩, g0, g1, g2, g3⟩ := four hst2.blk
              have hX : wr.heap.size < w2.heap.size := lt_of_heap hst2.blk
              have Hm2 := Lib.hid ((Hm.out.step (alloc_below wr _)).step hb2)
              have Hm7 := Lib.hid (show BackMem w ((w2.setCell ⟨wr.heap.size, 3, none⟩ (.int .i64 tx.size)).alloc (.cells #[.int .u8 t.kind, .string ⟨t.text.toArray⟩, .int .i64 t.num, .int .i64 tx.size] 26)) u7 tx toks from (Hm2.out.other (Nat.le_trans Hm.out.bel.size (Nat.le_refl _)) (fun e => by have := (World.ownsRow.lt Hm.out.own _ e).2; omega) _).step (alloc_below _ _))
              obtain ⟨i0, hi0, hz0, hz1, hz2⟩ := info_parts tokInfo
              have Hi0 := Lib.hid hi0
              have Hz0 := Lib.hid hz0
              have Hz1 := Lib.hid hz1
              have Hz2 := Lib.hid hz2
              have Hnews := Lib.hid (news_four w2 wr.heap.size tx.size t)
              have hcat1 : sb.size + 1 ≤ 9223372036854775807 := by omega
              have hcat2 : sb.size + 1 + b.size ≤ 9223372036854775807 := by omega
              have hcat3 : tx.size + (sb.size + 1 + b.size) ≤ 9223372036854775807 := by omega
              clear hi0 hz0 hz1 hz2 hst2 hb2
              go_wp2_with (at_builtin; go_must (refine wpList_append_own_at _ rfl _ _ 22 rfl w.heap.size 26 i0 _ 4 40 Tryd.underlying22 Hi0.out Hz0.out Hz1.out Hz2.out rfl (by decide) u7 toks.length (toksC toks) rfl Hm7.out.own ⟨w2.heap.size, 0, none⟩ 1 1 (Tok.cells { t with pos := tx.size }) rfl rfl ?c1 ?c2 ?c3 ?c4 ?c5 ?_))
              case c1 => exact Hnews.out
              case c2 => simp [Tok.cells, Value.oneCell']
              case c3 => unfold maxLen; omega
              case c4 => omega
              case c5 => exact Hm7.out.bel.size
              intro v' w4 hown4 hgrow4 _ hat4
              have Hm8 := Lib.hid (Hm7.out.more hown4 hgrow4 Hok.out Hsb.out Hbb.out (by omega))
              clear hown4 hgrow4 hat4
              go_wp2_with fail
              go_roundw
              case rel => exact ⟨_, _, j + 1, by omega, rfl, by go_num, Hm8.out⟩
              case measure => simp [intOf]; omega
          · have hsv : showV t = .tuple #[.string ⟨#[]⟩, .int .i64 13] := by unfold showV; rw [if_neg hok]
            rw [hsv] at Hshow
            clear hsv hok hsl
            go_wp2_with fail
            refine Hshow.out.mono ?_
            rintro e w2 ⟨rfl, hb2⟩
            have Hm2 := Lib.hid ((Hm.out.step (alloc_below wr _)).step hb2)
            clear hb2
            go_wp2_with fail
            go_roundw
            case rel => exact ⟨tx, toks, j + 1, by omega, rfl, by go_num, Hm2.out⟩
            case measure => simp [intOf]; omega
        · have hln : toks.length ≤ 16384 := by omega
          have Hlex := Lib.hid (show lexL (L tx) = .ok toks from Hm.out.trail.lex (by rw [L_length]; exact Hm.out.len))
          obtain ⟨a7, c7, rfl⟩ := own_slice Hm.out.own
          have HLs := Lib.hid (show tx.size ≤ maxLen by unfold maxLen; omega)
          have Hez := Lib.hid (He.out.below Hm.out.bel)
          go_wp2_with fail
          refine (Lex_ok tx wr HLs.out Hez.out Hlex.out).mono ?_
          rintro e w3 ⟨ak, ck, rfl, htk, hb3⟩
          have Hm3 := Lib.hid (Hm.out.step hb3)
          have Hk := Lib.hid (ownsRow_toks htk rfl)
          have Hk7 := Lib.hid (ownsRow_toks Hm3.out.own rfl)
          generalize hnn : toks.length = m at *
          have Hnn := Lib.hid hnn
          clear htk hb3 hnn
          go_wp2_with fail
          refine (same_n ak a7 toks toks m m ck c7 w3 Hk.out Hk7.out (by unfold maxLen; omega) (by unfold maxLen; omega) Hnn.out Hnn.out).mono ?_
          rintro e w5 ⟨rfl, hb5⟩
          have Hb5 := Lib.hid (Hm3.out.bel.trans (hb5.mono Hm3.out.bel.size))
          clear hb5
          go_wp2_with fail
          go_ret
          exact ⟨ret_bool (by simp), Hb5.out⟩

end Go.Proofs.YtgehjklodphogaaDoor.Lx
