/- Parts: PaJ. -/
import Derived.Test.YtcjmhmmjfgjcnaaGreatDoorMh23

/- The parser: stmt. -/
namespace Go.Proofs.YtcjmhmmjfgjcnaaGreatDoor.Pa
open Go.RowKit Go.Proofs.YtcjmhmmjfgjcnaaGreatDoor.Lx
variable {x : Px}

set_option maxHeartbeats 2000000 in
set_option maxRecDepth 100000 in
theorem stmt_table {w : World} {lv sv : Value} {s : St} (h : PS x w lv sv s) (t1 : s.next 2 [kCREATE] = true) (t2 : s.drop.next 2 [kTABLE] = true) :
    Calls Tryz.prog 41 #[.pointer (some ⟨x.B, 0, none⟩)] w (GaveSm x w sv s { stm0 with kind := 1, table := s.drop.drop.nameT } s.drop.drop.name) := by
  have M0 := Lib.hid (SmM.start h stm0 rfl rfl)
  have T1 := Lib.hid t1
  have T1b := Lib.hid (next_take t1).1
  have T2 := Lib.hid t2
  have T2b := Lib.hid (next_take t2).1
  clear h t1 t2
  go_enter Tryz.func41, Tryz.ntmps41
  go_wp2_with fail
  refine (key_callsC M0.out.now.ps kCREATE).mono ?_
  rw [T1.out, T1b.out]
  rintro e w1 ⟨rfl, lv1, h1⟩
  have M1 := Lib.hid (M0.out.cur h1 rfl)
  clear h1
  obtain ⟨⟨k0, k1, k2, k3, k4, k5, k6⟩, g0, g1, g2, g3, g4, g5, g6⟩ := seven M1.out.blk
  have hX := M1.out.safe.1
  go_wp2_with fail
  refine (key_callsC M1.out.now.ps kTABLE).mono ?_
  rw [T2.out, T2b.out]
  rintro e w2 ⟨rfl, lv2, h2⟩
  have M2 := Lib.hid (M1.out.cur h2 rfl)
  clear h2
  clear k0 k1 k2 k3 k4 k5 k6 g0 g1 g2 g3 g4 g5 g6 hX
  obtain ⟨⟨k0, k1, k2, k3, k4, k5, k6⟩, g0, g1, g2, g3, g4, g5, g6⟩ := seven M2.out.blk
  have hX := M2.out.safe.1
  go_wp2_with fail
  refine (name_callsC M2.out.now.ps).mono ?_
  rintro e w3 ⟨rfl, lv3, h3⟩
  have M3 := Lib.hid (M2.out.cur h3 (name_steps _))
  clear h3
  clear k0 k1 k2 k3 k4 k5 k6 g0 g1 g2 g3 g4 g5 g6 hX
  obtain ⟨⟨k0, k1, k2, k3, k4, k5, k6⟩, g0, g1, g2, g3, g4, g5, g6⟩ := seven M3.out.blk
  have hX := M3.out.safe.1
  go_wp2_with fail
  exact bodyPost_ret (v := smV { stm0 with kind := 1, table := s.drop.drop.nameT } (.slice none 0 0) (.slice none 0 0)) (by simp [smV, smC, results, Tryz.results41, go_sem, stm0, k0, k1, k2, k3, k4, k5, k6]) rfl ⟨_, _, _, _, _, _, rfl, M3.out.all { stm0 with kind := 1, table := s.drop.drop.nameT } _ _ [] (ItH.nil _ _ _ _ _) (HeldRow.nil _ _ _ _) (by simp [Value.ownBlock]) (by simp [Value.ownBlock])⟩

set_option maxHeartbeats 2000000 in
set_option maxRecDepth 100000 in
theorem stmt_index {w : World} {lv sv : Value} {s : St} (h : PS x w lv sv s) (t1 : s.next 2 [kCREATE] = true) (t2 : s.drop.next 2 [kTABLE] = false) :
    Calls Tryz.prog 41 #[.pointer (some ⟨x.B, 0, none⟩)] w (GaveSm x w sv s { stm0 with kind := 2, table := (s.drop.keys [kINDEX, kON]).nameT, field := ((s.drop.keys [kINDEX, kON]).name.sign [40]).nameT } (((s.drop.keys [kINDEX, kON]).name.sign [40]).name.sign [41])) := by
  have M0 := Lib.hid (SmM.start h stm0 rfl rfl)
  have T1 := Lib.hid t1
  have T1b := Lib.hid (next_take t1).1
  have T2 := Lib.hid t2
  have T2b := Lib.hid (need_no t2).2
  generalize hs1 : s.drop.keys [kINDEX, kON] = s1 at *
  have Hs1 := Lib.hid hs1
  clear hs1
  generalize hs2 : s1.name.sign [40] = s2 at *
  have Hs2 := Lib.hid hs2
  clear hs2
  clear h t1 t2
  go_enter Tryz.func41, Tryz.ntmps41
  go_wp2_with fail
  refine (key_callsC M0.out.now.ps kCREATE).mono ?_
  rw [T1.out, T1b.out]
  rintro e w1 ⟨rfl, lv1, h1⟩
  have M1 := Lib.hid (M0.out.cur h1 rfl)
  clear h1
  obtain ⟨⟨k0, k1, k2, k3, k4, k5, k6⟩, g0, g1, g2, g3, g4, g5, g6⟩ := seven M1.out.blk
  have hX := M1.out.safe.1
  go_wp2_with fail
  refine (key_callsC M1.out.now.ps kTABLE).mono ?_
  rw [T2.out, T2b.out]
  rintro e w2 ⟨rfl, lv2, h2⟩
  have M2 := Lib.hid (M1.out.cur h2 rfl)
  clear h2
  clear k0 k1 k2 k3 k4 k5 k6 g0 g1 g2 g3 g4 g5 g6 hX
  obtain ⟨⟨k0, k1, k2, k3, k4, k5, k6⟩, g0, g1, g2, g3, g4, g5, g6⟩ := seven M2.out.blk
  have hX := M2.out.safe.1
  go_wp2_with fail
  have A3 := Lib.hid (M2.out.alloc (.cells (strsC [kINDEX, kON]).toArray 9))
  have X3 := Lib.hid (texts_new M2.out.now.ps)
  have T3 := Lib.hid (fun (W : World) (B0 : Nat) (hB : W.heap.size = B0) => TextsAt.new' W [kINDEX, kON] 2 B0 _ 9 (0, 0) rfl rfl hB)
  refine (keys_callsC A3.out.now.ps _ 2 [kINDEX, kON] rfl (by omega) (T3.out _ _ (by simp)).2 (by have := X3.out.1; simpa using this) (by have := X3.out.2; simpa using this)).mono ?_
  rw [Hs1.out]
  rintro e w3 ⟨rfl, lv3, h3⟩
  have M3 := Lib.hid (A3.out.cur h3 (by rw [← Hs1.out]; exact keys_steps _ _))
  clear h3
  clear k0 k1 k2 k3 k4 k5 k6 g0 g1 g2 g3 g4 g5 g6 hX
  obtain ⟨⟨k0, k1, k2, k3, k4, k5, k6⟩, g0, g1, g2, g3, g4, g5, g6⟩ := seven M3.out.blk
  have hX := M3.out.safe.1
  go_wp2_with fail
  refine (name_callsC M3.out.now.ps).mono ?_
  rintro e w4 ⟨rfl, lv4, h4⟩
  have M4 := Lib.hid (M3.out.cur h4 (name_steps _))
  clear h4
  clear k0 k1 k2 k3 k4 k5 k6 g0 g1 g2 g3 g4 g5 g6 hX
  obtain ⟨⟨k0, k1, k2, k3, k4, k5, k6⟩, g0, g1, g2, g3, g4, g5, g6⟩ := seven M4.out.blk
  have hX := M4.out.safe.1
  have M5 := Lib.hid (M4.out.put 0 (.int .u8 2) ({ stm0 with kind := 2 }) rfl rfl rfl)
  have M6 := Lib.hid (M5.out.put 1 (.string ⟨s1.nameT.toArray⟩) ({ stm0 with kind := 2, table := s1.nameT }) rfl rfl rfl)
  go_wp2_with fail
  refine (sign_callsC M6.out.now.ps [40]).mono ?_
  rw [Hs2.out]
  rintro e w7 ⟨rfl, lv7, h7⟩
  have M7 := Lib.hid (M6.out.cur h7 (by rw [← Hs2.out]; exact sign_steps _ _))
  clear h7
  clear k0 k1 k2 k3 k4 k5 k6 g0 g1 g2 g3 g4 g5 g6 hX
  obtain ⟨⟨k0, k1, k2, k3, k4, k5, k6⟩, g0, g1, g2, g3, g4, g5, g6⟩ := seven M7.out.blk
  have hX := M7.out.safe.1
  go_wp2_with fail
  refine (name_callsC M7.out.now.ps).mono ?_
  rintro e w8 ⟨rfl, lv8, h8⟩
  have M8 := Lib.hid (M7.out.cur h8 (name_steps _))
  clear h8
  clear k0 k1 k2 k3 k4 k5 k6 g0 g1 g2 g3 g4 g5 g6 hX
  obtain ⟨⟨k0, k1, k2, k3, k4, k5, k6⟩, g0, g1, g2, g3, g4, g5, g6⟩ := seven M8.out.blk
  have hX := M8.out.safe.1
  have M9 := Lib.hid (M8.out.put 2 (.string ⟨s2.nameT.toArray⟩) ({ stm0 with kind := 2, table := s1.nameT, field := s2.nameT }) rfl rfl rfl)
  go_wp2_with fail
  refine (sign_callsC M9.out.now.ps [41]).mono ?_
  rintro e w10 ⟨rfl, lv10, h10⟩
  have M10 := Lib.hid (M9.out.cur h10 (sign_steps _ _))
  clear h10
  clear k0 k1 k2 k3 k4 k5 k6 g0 g1 g2 g3 g4 g5 g6 hX
  obtain ⟨⟨k0, k1, k2, k3, k4, k5, k6⟩, g0, g1, g2, g3, g4, g5, g6⟩ := seven M10.out.blk
  have hX := M10.out.safe.1
  go_wp2_with fail
  exact bodyPost_ret (v := smV { stm0 with kind := 2, table := s1.nameT, field := s2.nameT } (.slice none 0 0) (.slice none 0 0)) (by simp [smV, smC, results, Tryz.results41, go_sem, stm0, k0, k1, k2, k3, k4, k5, k6]) rfl ⟨_, _, _, _, _, _, rfl, M10.out.again⟩

set_option maxHeartbeats 2000000 in
set_option maxRecDepth 100000 in
theorem stmt_insert (n : Nat) {w : World} {lv sv : Value} {s s2 : St} (h : PS x w lv sv s) (t1 : s.next 2 [kCREATE] = false) (t2 : s.next 2 [kINSERT] = true) (he : expr n (s.drop.keys [kINTO]).name = some s2) :
    Calls Tryz.prog 41 #[.pointer (some ⟨x.B, 0, none⟩)] w (GaveSm x w sv s { stm0 with kind := 3, table := (s.drop.keys [kINTO]).nameT, expr := s2.steps } s2) := by
  have M0 := Lib.hid (SmM.start h stm0 rfl rfl)
  have T1 := Lib.hid t1
  have T1b := Lib.hid (need_no t1).2
  have T2 := Lib.hid t2
  have T2b := Lib.hid (next_take t2).1
  have He := Lib.hid he
  generalize hs1 : s.drop.keys [kINTO] = s1 at *
  have Hs1 := Lib.hid hs1
  clear hs1
  clear h t1 t2 he
  go_enter Tryz.func41, Tryz.ntmps41
  go_wp2_with fail
  refine (key_callsC M0.out.now.ps kCREATE).mono ?_
  rw [T1.out, T1b.out]
  rintro e w1 ⟨rfl, lv1, h1⟩
  have M1 := Lib.hid (M0.out.cur h1 rfl)
  clear h1
  obtain ⟨⟨k0, k1, k2, k3, k4, k5, k6⟩, g0, g1, g2, g3, g4, g5, g6⟩ := seven M1.out.blk
  have hX := M1.out.safe.1
  go_wp2_with fail
  refine (key_callsC M1.out.now.ps kINSERT).mono ?_
  rw [T2.out, T2b.out]
  rintro e w2 ⟨rfl, lv2, h2⟩
  have M2 := Lib.hid (M1.out.cur h2 rfl)
  clear h2
  clear k0 k1 k2 k3 k4 k5 k6 g0 g1 g2 g3 g4 g5 g6 hX
  obtain ⟨⟨k0, k1, k2, k3, k4, k5, k6⟩, g0, g1, g2, g3, g4, g5, g6⟩ := seven M2.out.blk
  have hX := M2.out.safe.1
  go_wp2_with fail
  have A3 := Lib.hid (M2.out.alloc (.cells (strsC [kINTO]).toArray 9))
  have X3 := Lib.hid (texts_new M2.out.now.ps)
  have T3 := Lib.hid (fun (W : World) (B0 : Nat) (hB : W.heap.size = B0) => TextsAt.new' W [kINTO] 1 B0 _ 9 (0, 0) rfl rfl hB)
  refine (keys_callsC A3.out.now.ps _ 1 [kINTO] rfl (by omega) (T3.out _ _ (by simp)).2 (by have := X3.out.1; simpa using this) (by have := X3.out.2; simpa using this)).mono ?_
  rw [Hs1.out]
  rintro e w3 ⟨rfl, lv3, h3⟩
  have M3 := Lib.hid (A3.out.cur h3 (by rw [← Hs1.out]; exact keys_steps _ _))
  clear h3
  clear k0 k1 k2 k3 k4 k5 k6 g0 g1 g2 g3 g4 g5 g6 hX
  obtain ⟨⟨k0, k1, k2, k3, k4, k5, k6⟩, g0, g1, g2, g3, g4, g5, g6⟩ := seven M3.out.blk
  have hX := M3.out.safe.1
  go_wp2_with fail
  refine (name_callsC M3.out.now.ps).mono ?_
  rintro e w4 ⟨rfl, lv4, h4⟩
  have M4 := Lib.hid (M3.out.cur h4 (name_steps _))
  clear h4
  clear k0 k1 k2 k3 k4 k5 k6 g0 g1 g2 g3 g4 g5 g6 hX
  obtain ⟨⟨k0, k1, k2, k3, k4, k5, k6⟩, g0, g1, g2, g3, g4, g5, g6⟩ := seven M4.out.blk
  have hX := M4.out.safe.1
  have M5 := Lib.hid (M4.out.put 0 (.int .u8 3) ({ stm0 with kind := 3 }) rfl rfl rfl)
  have M6 := Lib.hid (M5.out.put 1 (.string ⟨s1.nameT.toArray⟩) ({ stm0 with kind := 3, table := s1.nameT }) rfl rfl rfl)
  go_wp2_with fail
  refine (expr_calls n M6.out.now.ps He.out).mono ?_
  rintro e w7 ⟨lv7, sv7, rfl, h7⟩
  obtain ⟨ae, ce, rfl⟩ := own_form h7.ps.own
  have m7 := M6.out.anew h7
  have Q7 := Lib.hid m7
  have M7 := Lib.hid (M6.out.expr h7 (fun v hv b hb => M6.out.fr v (by simp only [List.mem_cons] at hv ⊢; rcases hv with hv | hv; exact .inl hv; exact .inr (.inr hv)) b hb))
  clear h7 m7
  clear k0 k1 k2 k3 k4 k5 k6 g0 g1 g2 g3 g4 g5 g6 hX
  obtain ⟨⟨k0, k1, k2, k3, k4, k5, k6⟩, g0, g1, g2, g3, g4, g5, g6⟩ := seven Q7.out.blk
  have hX := Q7.out.safe.1
  go_wp2_with fail
  exact bodyPost_ret (v := smV { stm0 with kind := 3, table := s1.nameT, expr := s2.steps } (.slice none 0 0) (.slice ae s2.steps.length ce)) (by simp [smV, smC, results, Tryz.results41, go_sem, stm0, k0, k1, k2, k3, k4, k5, k6]) rfl ⟨_, _, _, _, _, _, rfl, M7.out.again⟩

set_option maxHeartbeats 2000000 in
set_option maxRecDepth 100000 in
theorem stmt_update (n : Nat) {w : World} {lv sv : Value} {s : St} (h : PS x w lv sv s) (t1 : s.next 2 [kCREATE] = false) (t2 : s.next 2 [kINSERT] = false) (t3 : s.next 2 [kUPDATE] = true) {r : List Itm × St} {q : List Stp × St} (hi : items n true (s.drop.name.keys [kSET]) = some r) (hw : where_ n r.2 = some q) :
    Calls Tryz.prog 41 #[.pointer (some ⟨x.B, 0, none⟩)] w (GaveSm x w sv s { stm0 with kind := 4, table := s.drop.nameT, items := r.1, expr := q.1 } q.2) := by
  have M0 := Lib.hid (SmM.start h stm0 rfl rfl)
  have T1 := Lib.hid t1
  have T1b := Lib.hid (need_no t1).2
  have T2 := Lib.hid t2
  have T2b := Lib.hid (need_no t2).2
  have T3 := Lib.hid t3
  have T3b := Lib.hid (next_take t3).1
  have Hi := Lib.hid hi
  have Hw := Lib.hid hw
  clear h t1 t2 t3 hi hw
  go_enter Tryz.func41, Tryz.ntmps41
  go_wp2_with fail
  refine (key_callsC M0.out.now.ps kCREATE).mono ?_
  rw [T1.out, T1b.out]
  rintro e w1 ⟨rfl, lv1, h1⟩
  have M1 := Lib.hid (M0.out.cur h1 rfl)
  clear h1
  obtain ⟨⟨k0, k1, k2, k3, k4, k5, k6⟩, g0, g1, g2, g3, g4, g5, g6⟩ := seven M1.out.blk
  have hX := M1.out.safe.1
  go_wp2_with fail
  refine (key_callsC M1.out.now.ps kINSERT).mono ?_
  rw [T2.out, T2b.out]
  rintro e w2 ⟨rfl, lv2, h2⟩
  have M2 := Lib.hid (M1.out.cur h2 rfl)
  clear h2
  clear k0 k1 k2 k3 k4 k5 k6 g0 g1 g2 g3 g4 g5 g6 hX
  obtain ⟨⟨k0, k1, k2, k3, k4, k5, k6⟩, g0, g1, g2, g3, g4, g5, g6⟩ := seven M2.out.blk
  have hX := M2.out.safe.1
  go_wp2_with fail
  refine (key_callsC M2.out.now.ps kUPDATE).mono ?_
  rw [T3.out, T3b.out]
  rintro e w3 ⟨rfl, lv3, h3⟩
  have M3 := Lib.hid (M2.out.cur h3 rfl)
  clear h3
  clear k0 k1 k2 k3 k4 k5 k6 g0 g1 g2 g3 g4 g5 g6 hX
  obtain ⟨⟨k0, k1, k2, k3, k4, k5, k6⟩, g0, g1, g2, g3, g4, g5, g6⟩ := seven M3.out.blk
  have hX := M3.out.safe.1
  go_wp2_with fail
  refine (name_callsC M3.out.now.ps).mono ?_
  rintro e w4 ⟨rfl, lv4, h4⟩
  have M4 := Lib.hid (M3.out.cur h4 (name_steps _))
  clear h4
  clear k0 k1 k2 k3 k4 k5 k6 g0 g1 g2 g3 g4 g5 g6 hX
  obtain ⟨⟨k0, k1, k2, k3, k4, k5, k6⟩, g0, g1, g2, g3, g4, g5, g6⟩ := seven M4.out.blk
  have hX := M4.out.safe.1
  have M5 := Lib.hid (M4.out.put 0 (.int .u8 4) ({ stm0 with kind := 4 }) rfl rfl rfl)
  have M6 := Lib.hid (M5.out.put 1 (.string ⟨s.drop.nameT.toArray⟩) ({ stm0 with kind := 4, table := s.drop.nameT }) rfl rfl rfl)
  go_wp2_with fail
  have A7 := Lib.hid (M6.out.alloc (.cells (strsC [kSET]).toArray 9))
  have X7 := Lib.hid (texts_new M6.out.now.ps)
  have T7 := Lib.hid (fun (W : World) (B0 : Nat) (hB : W.heap.size = B0) => TextsAt.new' W [kSET] 1 B0 _ 9 (0, 0) rfl rfl hB)
  refine (keys_callsC A7.out.now.ps _ 1 [kSET] rfl (by omega) (T7.out _ _ (by simp)).2 (by have := X7.out.1; simpa using this) (by have := X7.out.2; simpa using this)).mono ?_
  rintro e w7 ⟨rfl, lv7, h7⟩
  have M7 := Lib.hid (A7.out.cur h7 (keys_steps _ _))
  clear h7
  clear k0 k1 k2 k3 k4 k5 k6 g0 g1 g2 g3 g4 g5 g6 hX
  obtain ⟨⟨k0, k1, k2, k3, k4, k5, k6⟩, g0, g1, g2, g3, g4, g5, g6⟩ := seven M7.out.blk
  have hX := M7.out.safe.1
  go_wp2_with fail
  refine (items_calls n true M7.out.now.ps Hi.out).mono ?_
  rintro e w8 ⟨lv8, sv8, vo8, vn8, ev8, nm8, rfl, h8⟩
  obtain ⟨ai8, ci8, rfl⟩ := own_form h8.out
  have Q8 := Lib.hid (M7.out.gave h8.now h8.held)
  have M8 := Lib.hid (M7.out.items h8)
  clear h8
  clear k0 k1 k2 k3 k4 k5 k6 g0 g1 g2 g3 g4 g5 g6 hX
  obtain ⟨⟨k0, k1, k2, k3, k4, k5, k6⟩, g0, g1, g2, g3, g4, g5, g6⟩ := seven Q8.out.blk
  have hX := Q8.out.safe.1
  go_wp2_with fail
  refine (where_calls n M8.out.now.ps Hw.out).mono ?_
  rintro e w9 ⟨lv9, sv9, v9, rfl, h9, hv9, hf9, hh9⟩
  obtain ⟨ae9, ce9, rfl⟩ := own_form hv9.row
  have Q9 := Lib.hid (M8.out.gave h9 hh9)
  have M9 := Lib.hid (M8.out.row h9 hv9 hf9 hh9)
  clear h9 hv9 hf9 hh9
  clear k0 k1 k2 k3 k4 k5 k6 g0 g1 g2 g3 g4 g5 g6 hX
  obtain ⟨⟨k0, k1, k2, k3, k4, k5, k6⟩, g0, g1, g2, g3, g4, g5, g6⟩ := seven Q9.out.blk
  have hX := Q9.out.safe.1
  go_wp2_with fail
  exact bodyPost_ret (v := smV { stm0 with kind := 4, table := s.drop.nameT, items := r.1, expr := q.1 } (.slice ai8 r.1.length ci8) (.slice ae9 q.1.length ce9)) (by simp [smV, smC, results, Tryz.results41, go_sem, stm0, k0, k1, k2, k3, k4, k5, k6]) rfl ⟨_, _, _, _, _, _, rfl, M9.out.again⟩

set_option maxHeartbeats 2000000 in
set_option maxRecDepth 100000 in
theorem stmt_delete (n : Nat) {w : World} {lv sv : Value} {s : St} (h : PS x w lv sv s) (t1 : s.next 2 [kCREATE] = false) (t2 : s.next 2 [kINSERT] = false) (t3 : s.next 2 [kUPDATE] = false) (t4 : s.next 2 [kDELETE] = true) {q : List Stp × St} (hw : where_ n (s.drop.keys [kFROM]).name = some q) :
    Calls Tryz.prog 41 #[.pointer (some ⟨x.B, 0, none⟩)] w (GaveSm x w sv s { stm0 with kind := 5, table := (s.drop.keys [kFROM]).nameT, expr := q.1 } q.2) := by
  have M0 := Lib.hid (SmM.start h stm0 rfl rfl)
  have T1 := Lib.hid t1
  have T1b := Lib.hid (need_no t1).2
  have T2 := Lib.hid t2
  have T2b := Lib.hid (need_no t2).2
  have T3 := Lib.hid t3
  have T3b := Lib.hid (need_no t3).2
  have T4 := Lib.hid t4
  have T4b := Lib.hid (next_take t4).1
  have Hw := Lib.hid hw
  generalize hs1 : s.drop.keys [kFROM] = s1 at *
  have Hs1 := Lib.hid hs1
  clear hs1
  clear h t1 t2 t3 t4 hw
  go_enter Tryz.func41, Tryz.ntmps41
  go_wp2_with fail
  refine (key_callsC M0.out.now.ps kCREATE).mono ?_
  rw [T1.out, T1b.out]
  rintro e w1 ⟨rfl, lv1, h1⟩
  have M1 := Lib.hid (M0.out.cur h1 rfl)
  clear h1
  obtain ⟨⟨k0, k1, k2, k3, k4, k5, k6⟩, g0, g1, g2, g3, g4, g5, g6⟩ := seven M1.out.blk
  have hX := M1.out.safe.1
  go_wp2_with fail
  refine (key_callsC M1.out.now.ps kINSERT).mono ?_
  rw [T2.out, T2b.out]
  rintro e w2 ⟨rfl, lv2, h2⟩
  have M2 := Lib.hid (M1.out.cur h2 rfl)
  clear h2
  clear k0 k1 k2 k3 k4 k5 k6 g0 g1 g2 g3 g4 g5 g6 hX
  obtain ⟨⟨k0, k1, k2, k3, k4, k5, k6⟩, g0, g1, g2, g3, g4, g5, g6⟩ := seven M2.out.blk
  have hX := M2.out.safe.1
  go_wp2_with fail
  refine (key_callsC M2.out.now.ps kUPDATE).mono ?_
  rw [T3.out, T3b.out]
  rintro e w3 ⟨rfl, lv3, h3⟩
  have M3 := Lib.hid (M2.out.cur h3 rfl)
  clear h3
  clear k0 k1 k2 k3 k4 k5 k6 g0 g1 g2 g3 g4 g5 g6 hX
  obtain ⟨⟨k0, k1, k2, k3, k4, k5, k6⟩, g0, g1, g2, g3, g4, g5, g6⟩ := seven M3.out.blk
  have hX := M3.out.safe.1
  go_wp2_with fail
  refine (key_callsC M3.out.now.ps kDELETE).mono ?_
  rw [T4.out, T4b.out]
  rintro e w4 ⟨rfl, lv4, h4⟩
  have M4 := Lib.hid (M3.out.cur h4 rfl)
  clear h4
  clear k0 k1 k2 k3 k4 k5 k6 g0 g1 g2 g3 g4 g5 g6 hX
  obtain ⟨⟨k0, k1, k2, k3, k4, k5, k6⟩, g0, g1, g2, g3, g4, g5, g6⟩ := seven M4.out.blk
  have hX := M4.out.safe.1
  go_wp2_with fail
  have A5 := Lib.hid (M4.out.alloc (.cells (strsC [kFROM]).toArray 9))
  have X5 := Lib.hid (texts_new M4.out.now.ps)
  have T5 := Lib.hid (fun (W : World) (B0 : Nat) (hB : W.heap.size = B0) => TextsAt.new' W [kFROM] 1 B0 _ 9 (0, 0) rfl rfl hB)
  refine (keys_callsC A5.out.now.ps _ 1 [kFROM] rfl (by omega) (T5.out _ _ (by simp)).2 (by have := X5.out.1; simpa using this) (by have := X5.out.2; simpa using this)).mono ?_
  rw [Hs1.out]
  rintro e w5 ⟨rfl, lv5, h5⟩
  have M5 := Lib.hid (A5.out.cur h5 (by rw [← Hs1.out]; exact keys_steps _ _))
  clear h5
  clear k0 k1 k2 k3 k4 k5 k6 g0 g1 g2 g3 g4 g5 g6 hX
  obtain ⟨⟨k0, k1, k2, k3, k4, k5, k6⟩, g0, g1, g2, g3, g4, g5, g6⟩ := seven M5.out.blk
  have hX := M5.out.safe.1
  go_wp2_with fail
  refine (name_callsC M5.out.now.ps).mono ?_
  rintro e w6 ⟨rfl, lv6, h6⟩
  have M6 := Lib.hid (M5.out.cur h6 (name_steps _))
  clear h6
  clear k0 k1 k2 k3 k4 k5 k6 g0 g1 g2 g3 g4 g5 g6 hX
  obtain ⟨⟨k0, k1, k2, k3, k4, k5, k6⟩, g0, g1, g2, g3, g4, g5, g6⟩ := seven M6.out.blk
  have hX := M6.out.safe.1
  have M7 := Lib.hid (M6.out.put 0 (.int .u8 5) ({ stm0 with kind := 5 }) rfl rfl rfl)
  have M8 := Lib.hid (M7.out.put 1 (.string ⟨s1.nameT.toArray⟩) ({ stm0 with kind := 5, table := s1.nameT }) rfl rfl rfl)
  go_wp2_with fail
  refine (where_calls n M8.out.now.ps Hw.out).mono ?_
  rintro e w9 ⟨lv9, sv9, v9, rfl, h9, hv9, hf9, hh9⟩
  obtain ⟨ae9, ce9, rfl⟩ := own_form hv9.row
  have Q9 := Lib.hid (M8.out.gave h9 hh9)
  have M9 := Lib.hid (M8.out.row h9 hv9 hf9 hh9)
  clear h9 hv9 hf9 hh9
  clear k0 k1 k2 k3 k4 k5 k6 g0 g1 g2 g3 g4 g5 g6 hX
  obtain ⟨⟨k0, k1, k2, k3, k4, k5, k6⟩, g0, g1, g2, g3, g4, g5, g6⟩ := seven Q9.out.blk
  have hX := Q9.out.safe.1
  go_wp2_with fail
  exact bodyPost_ret (v := smV { stm0 with kind := 5, table := s1.nameT, expr := q.1 } (.slice none 0 0) (.slice ae9 q.1.length ce9)) (by simp [smV, smC, results, Tryz.results41, go_sem, stm0, k0, k1, k2, k3, k4, k5, k6]) rfl ⟨_, _, _, _, _, _, rfl, M9.out.again⟩

set_option maxHeartbeats 2000000 in
set_option maxRecDepth 100000 in
theorem stmt_bad {w : World} {lv sv : Value} {s : St} (h : PS x w lv sv s) (t1 : s.next 2 [kCREATE] = false) (t2 : s.next 2 [kINSERT] = false) (t3 : s.next 2 [kUPDATE] = false) (t4 : s.next 2 [kDELETE] = false) (t5 : s.next 2 [kSELECT] = false) :
    Calls Tryz.prog 41 #[.pointer (some ⟨x.B, 0, none⟩)] w (GaveSm x w sv s stm0 s.bad) := by
  have M0 := Lib.hid (SmM.start h stm0 rfl rfl)
  have T1 := Lib.hid t1
  have T1b := Lib.hid (need_no t1).2
  have T2 := Lib.hid t2
  have T2b := Lib.hid (need_no t2).2
  have T3 := Lib.hid t3
  have T3b := Lib.hid (need_no t3).2
  have T4 := Lib.hid t4
  have T4b := Lib.hid (need_no t4).2
  have T5 := Lib.hid t5
  have T5b := Lib.hid (need_no t5).2
  clear h t1 t2 t3 t4 t5
  go_enter Tryz.func41, Tryz.ntmps41
  go_wp2_with fail
  refine (key_callsC M0.out.now.ps kCREATE).mono ?_
  rw [T1.out, T1b.out]
  rintro e w1 ⟨rfl, lv1, h1⟩
  have M1 := Lib.hid (M0.out.cur h1 rfl)
  clear h1
  obtain ⟨⟨k0, k1, k2, k3, k4, k5, k6⟩, g0, g1, g2, g3, g4, g5, g6⟩ := seven M1.out.blk
  have hX := M1.out.safe.1
  go_wp2_with fail
  refine (key_callsC M1.out.now.ps kINSERT).mono ?_
  rw [T2.out, T2b.out]
  rintro e w2 ⟨rfl, lv2, h2⟩
  have M2 := Lib.hid (M1.out.cur h2 rfl)
  clear h2
  clear k0 k1 k2 k3 k4 k5 k6 g0 g1 g2 g3 g4 g5 g6 hX
  obtain ⟨⟨k0, k1, k2, k3, k4, k5, k6⟩, g0, g1, g2, g3, g4, g5, g6⟩ := seven M2.out.blk
  have hX := M2.out.safe.1
  go_wp2_with fail
  refine (key_callsC M2.out.now.ps kUPDATE).mono ?_
  rw [T3.out, T3b.out]
  rintro e w3 ⟨rfl, lv3, h3⟩
  have M3 := Lib.hid (M2.out.cur h3 rfl)
  clear h3
  clear k0 k1 k2 k3 k4 k5 k6 g0 g1 g2 g3 g4 g5 g6 hX
  obtain ⟨⟨k0, k1, k2, k3, k4, k5, k6⟩, g0, g1, g2, g3, g4, g5, g6⟩ := seven M3.out.blk
  have hX := M3.out.safe.1
  go_wp2_with fail
  refine (key_callsC M3.out.now.ps kDELETE).mono ?_
  rw [T4.out, T4b.out]
  rintro e w4 ⟨rfl, lv4, h4⟩
  have M4 := Lib.hid (M3.out.cur h4 rfl)
  clear h4
  clear k0 k1 k2 k3 k4 k5 k6 g0 g1 g2 g3 g4 g5 g6 hX
  obtain ⟨⟨k0, k1, k2, k3, k4, k5, k6⟩, g0, g1, g2, g3, g4, g5, g6⟩ := seven M4.out.blk
  have hX := M4.out.safe.1
  go_wp2_with fail
  refine (key_callsC M4.out.now.ps kSELECT).mono ?_
  rw [T5.out, T5b.out]
  rintro e w5 ⟨rfl, lv5, h5⟩
  have M5 := Lib.hid (M4.out.cur h5 rfl)
  clear h5
  clear k0 k1 k2 k3 k4 k5 k6 g0 g1 g2 g3 g4 g5 g6 hX
  obtain ⟨⟨k0, k1, k2, k3, k4, k5, k6⟩, g0, g1, g2, g3, g4, g5, g6⟩ := seven M5.out.blk
  have hX := M5.out.safe.1
  go_wp2_with fail
  have Hd := Lib.hid (M5.out.below (Below.refl w5.heap.size w5).drew)
  go_region_with ((first | (go_at_call 43; refine (place_calls Hd.out.now.ps).mono ?_; rintro e w' ⟨rfl, rfl⟩) | (go_at_call 42; refine (fail_callsC Hd.out.now.ps 13 s.place).mono ?_; rintro e w6 ⟨rfl, lv6, h6⟩)))
  all_goals
    have M6 := Lib.hid (Hd.out.cur h6 (fail_steps _ _ _))
    clear h6 k0 k1 k2 k3 k4 k5 k6 g0 g1 g2 g3 g4 g5 g6 hX
    obtain ⟨⟨k0, k1, k2, k3, k4, k5, k6⟩, g0, g1, g2, g3, g4, g5, g6⟩ := seven M6.out.blk
    have hX := M6.out.safe.1
    go_wp2_with fail
    exact bodyPost_ret (v := smV stm0 (.slice none 0 0) (.slice none 0 0)) (by simp [smV, smC, results, Tryz.results41, go_sem, stm0, k0, k1, k2, k3, k4, k5, k6]) rfl ⟨_, _, _, _, _, _, rfl, M6.out.again⟩

end Go.Proofs.YtcjmhmmjfgjcnaaGreatDoor.Pa
