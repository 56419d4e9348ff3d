/- ParseWrites: for every input of bulk at most 1048576 the law returns true and the input reads as it did; the listed variables are tied to the program's text. -/
import Derived.Test.YtcjmhmmjfgjcnaaGreatDoorMe51
import Derived.Test.YtcjmhmmjfgjcnaaGreatDoorMe52
namespace Go.Proofs.YtcjmhmmjfgjcnaaGreatDoor.ParseWritesCard
open Go.RowKit Go.ChangeShapes Go.WideShapes Go.ChangeAt Lx
open Go.ChangeMaps (open_string shut_string)

set_option maxRecDepth 100000 in
theorem contract (H : Type) (enc : TypeId × Value → H) (W : World) (base : Nat) (args : Array Value) (ds gs : List (DataW H)) (before : List MemPlace)
    (hval : ∀ (j : Nat) t v, Tryz.f5.params[j]? = some t → args[j]? = some v → Value.okWide Tryz.prog W .any base t v)
    (hW : DataW.Whole enc Tryz.prog Tryz.f5.params.toList Rows.parseWritesSpec.vars false W args.toList ds gs before)
    (hk : Rows.uptoSmall H (ds ++ gs) = true) (hL : laidMetH Tryz.prog Rows.parseWritesUptoRow.laid W) (hS : W.ShapedOpen Tryz.prog) :
    Calls Tryz.prog 5 args W fun e W' => ∃ v, e = .returned v ∧ Rows.parseWritesSpec.post enc Tryz.prog Tryz.f5 false true false false W args v W' := by
  have hW' := hW
  obtain ⟨p, q, hA0, hV, rfl, hfz, hnd⟩ := hW
  have hA : DataW.TrodAll enc Tryz.prog W 0 (fun _ => true) true Tryz.f5.params.toList args.toList ds p := hA0
  rw [Tryz.params5] at hA hval
  obtain ⟨v0, v1, v2, d0, d1, d2, p0, p1, p2, rfl, rfl, rfl, h0, h1, h2⟩ := trodAll_three hA
  obtain ⟨rfl, rfl⟩ := trodVars_none hV
  obtain ⟨st, vi, ve, rfl, hi, hv, hst, -⟩ := Pa.open_stmt (hval 0 33 v0 rfl rfl) h0
  obtain ⟨l, hl, hll, hlt⟩ := Pa.open_steps (hval 1 22 v1 rfl rfl) h1
  obtain ⟨y, rfl, hyt, -⟩ := Rf.open_step (hval 2 48 v2 rfl rfl) h2
  have hbk := bulk_le hk
  simp only [List.append_nil, Rows.uptoBulkAll] at hbk
  exact law_calls laidOut (by kernel_rfl) (by rfl) Tryz.underlying4 rfl hW' rfl (Rf.ParseWrites_calls st l y W vi ve v1 (hst.args (by omega) hi hv (env_of hL hS)) hl (by omega) (fun y hy => by have := (hlt y hy).1; omega) (fun y hy => (hlt y hy).2) (by omega))

theorem reads (os : Os) {H : Type} (enc : TypeId × Value → H) : ∃ places, DataW.whole enc Tryz.prog ((World.laidAll Tryz.prog os laidL).forCall (fun _ _ => 0) ⟨#[], #[.agg #[.int .u8 0, .string ⟨#[]⟩, .string ⟨#[]⟩, .slice none 0 0, .slice none 0 0, .bool false, .bool false], .slice none 0 0, .agg #[.int .u8 0, .string ⟨#[]⟩, .int .i64 0]], []⟩).memory Tryz.f5.params.toList Rows.parseWritesSpec.vars false (#[.agg #[.int .u8 0, .string ⟨#[]⟩, .string ⟨#[]⟩, .slice none 0 0, .slice none 0 0, .bool false, .bool false], .slice none 0 0, .agg #[.int .u8 0, .string ⟨#[]⟩, .int .i64 0]] : Array Value).toList 8 = some ([.agg [.lit (.int .u8 0), .lit (.string []), .lit (.string []), .nil, .nil, .lit (.bool false), .lit (.bool false)], .nil, .agg [.lit (.int .u8 0), .lit (.string []), .lit (.int .i64 0)]], [], places) := by
  have hw : (DataW.whole enc Tryz.prog ((World.laidAll Tryz.prog os laidL).forCall (fun _ _ => 0) ⟨#[], #[.agg #[.int .u8 0, .string ⟨#[]⟩, .string ⟨#[]⟩, .slice none 0 0, .slice none 0 0, .bool false, .bool false], .slice none 0 0, .agg #[.int .u8 0, .string ⟨#[]⟩, .int .i64 0]], []⟩).memory Tryz.f5.params.toList Rows.parseWritesSpec.vars false (#[.agg #[.int .u8 0, .string ⟨#[]⟩, .string ⟨#[]⟩, .slice none 0 0, .slice none 0 0, .bool false, .bool false], .slice none 0 0, .agg #[.int .u8 0, .string ⟨#[]⟩, .int .i64 0]] : Array Value).toList 8).map (fun x => (x.1, x.2.1)) =
      some ([.agg [.lit (.int .u8 0), .lit (.string []), .lit (.string []), .nil, .nil, .lit (.bool false), .lit (.bool false)], .nil, .agg [.lit (.int .u8 0), .lit (.string []), .lit (.int .i64 0)]], []) := by kernel_rfl
  obtain ⟨⟨x1, x2, x3⟩, hx, hx1⟩ := Option.map_eq_some_iff.1 hw
  simp only [Prod.mk.injEq] at hx1
  obtain ⟨rfl, rfl⟩ := hx1
  exact ⟨_, hx⟩

set_option maxRecDepth 100000 in
theorem lifted (os : Os) (started : os.Started) (H : Type) (enc : TypeId × Value → H) (F : Stop.Interp) :
    ReturnsInHanded {} Tryz.checked os 5 .any ((Rows.OpenSpec.upto Rows.parseWritesSpec).preRow enc Tryz.prog Tryz.f5 Rows.parseWritesUptoRow.domain false Rows.parseWritesUptoRow.laid) (((Rows.OpenSpec.upto Rows.parseWritesSpec).at F).post enc Tryz.prog Tryz.f5 false true false false) := by
  obtain ⟨places, hx⟩ := reads os enc
  refine returnsInHanded_of_row (C := Tryz.checked) (s := Rows.OpenSpec.upto Rows.parseWritesSpec) own started (by kernel_rfl) Tryz.func5
    (witness_row_atRef (enc := enc) (C := Tryz.checked) false (World.laidAll Tryz.prog os laidL) #[.agg #[.int .u8 0, .string ⟨#[]⟩, .string ⟨#[]⟩, .slice none 0 0, .slice none 0 0, .bool false, .bool false], .slice none 0 0, .agg #[.int .u8 0, .string ⟨#[]⟩, .int .i64 0]] (World.laidAll_os _ _ _) (by kernel_rfl) (by kernel_rfl) (by kernel_rfl)
      (OpenSpec.preRow_of_cond 8 hx (by kernel_rfl) (fun k hk => by cases hk; kernel_rfl) (by kernel_rfl) (laid_met os _))) ?_
  intro W base args ds gs before hval hW _ hcond _ hL hS _
  exact contract H enc W base args ds gs before hval hW (hcond _ rfl) hL hS

theorem saidUpto : Rows.ParseWritesUptoSaid :=
  OpenClaim.holds_of_cond 5 Tryz.f5 rfl rfl rfl rfl rfl rfl rfl ⟨rfl, rfl, rfl, rfl, rfl⟩ rfl rfl rfl rfl rfl (by kernel_rfl) Tryz.func5 (by kernel_rfl)
    (of_decide_eq_true (by kernel_rfl)) (by unfold Func.isWrapper; first | (rw [if_pos (by decide +kernel)]; kernel_rfl) | (rw [if_neg (by decide +kernel)]; exact ⟨rfl, rfl⟩))
    (fun os started H enc _ F => by rw [OpenClaim.pre_eq_preRow]; exact lifted os started H enc F)

theorem plain (f : FuncId) (fn : Func) (hf : Tryz.pinned.checked.prog.funcNamed "codicil/codicillaw10.ParseWrites" = some f) (hfn : Tryz.pinned.checked.prog.funcs[f]? = some fn) :
    true = Tryz.pinned.checked.prog.looks [] ∧ ∀ (j : Nat) t, fn.params[j]? = some t → Tryz.pinned.checked.prog.wantsStandIn t = false := by
  obtain rfl : f = 5 := Option.some.inj ((show Tryz.prog.funcNamed "codicil/codicillaw10.ParseWrites" = some 5 by kernel_rfl).symm.trans hf) |>.symm
  obtain rfl : fn = Tryz.f5 := (Option.some.inj (Tryz.func5.symm.trans hfn)).symm
  refine ⟨by kernel_rfl, fun j t ht => ?_⟩
  rw [Tryz.params5] at ht
  have hm : t ∈ [33, 22, 48] := by simpa using Array.mem_of_getElem? ht
  have hall : ([33, 22, 48].all fun u => !Tryz.prog.wantsStandIn u) = true := by kernel_rfl
  exact (show Tryz.prog.wantsStandIn t = false by simpa using List.all_eq_true.1 hall t hm)

end Go.Proofs.YtcjmhmmjfgjcnaaGreatDoor.ParseWritesCard
namespace Go.Proofs.YtcjmhmmjfgjcnaaGreatDoor
/-- ParseWrites: the second form's card. -/
theorem parseWrites_card : Rows.ParseWritesUptoCardSaid :=
  Claim7.holds_tied_plain_at .later [] _ _ _ _ ParseWritesCard.saidUpto (fun _ h => by cases h) (by kernel_rfl) (fun _ h => by cases h) parseWritesUpto_row_tie rfl ⟨rfl, rfl⟩ (by kernel_rfl) rfl ParseWritesCard.plain (by kernel_rfl)
end Go.Proofs.YtcjmhmmjfgjcnaaGreatDoor
