/- The law FnExactParseAct: for every line the program's ParseAct returns what the reference's returns, so that the law answers true and leaves its argument as it was.
   Conditions: none on the argument; the listed tables of the library hold what the text lays (the card ties them). -/
import Derived.Test.YtgpicngmadkdoaaDoorParseD
import Derived.Test.YtgpicngmadkdoaaDoorRRead
import Derived.Test.YtgpicngmadkdoaaDoorCards
import Derived.Test.YtgpicngmadkdoaaDoorTie
import Derived.Lib.SmallJoins
set_option linter.unusedVariables false
set_option linter.unusedSimpArgs false
namespace Go.Proofs.YtgpicngmadkdoaaDoor
open Go Go.R Go.Proofs Go.RowKit Go.ChangeShapes Go.WideShapes Go.ChangeAt
theorem ownK : ownKnob Tryd.prog.godebug = none := by kernel_rfl
theorem laidOut : laidOutB Tryd.prog = true := by kernel_rfl
theorem gPow : Tryd.prog.globalNamed "internal/strconv.uint64pow10" = none := by kernel_rfl
theorem stand_of0 {W : World} (_ : laidMetH Tryd.prog Rows.fnExactParseActRow.laid W) (hs : W.ShapedOpen Tryd.prog) : Stand Tryd.prog W := by
  refine ⟨fun g hg => (by rw [gPow] at hg; cases hg), fun g hg => ?_⟩
  obtain rfl := Option.some.inj (gMaxLen.symm.trans hg)
  exact Tryd.laysM219.s1_3 W hs
theorem bulkEq (H : Type) : BulkEq (H := H) Rows.uptoBulk Rows.uptoBulkAll := by
  refine ⟨fun d => ?_, fun bs => ?_, fun e s => ?_, fun p => ?_, ?_, fun d l => ?_⟩
  · cases d with
    | lit l => cases l <;> simp [Rows.uptoBulk]
    | _ => simp [Rows.uptoBulk]
  all_goals simp [Rows.uptoBulk, Rows.uptoBulkAll]
def layObj (k : IntKind) (zs : List Nat) : Go.Obj → Go.Obj
  | .cells _ t frozen => .cells (zs.map fun z => Value.int k (Int.ofNat z)).toArray t frozen
  | o => o
noncomputable def laidWorld (os : Os) : World :=
  { World.holding Tryd.prog os ⟨#[], #[], []⟩ with heap := ((World.holding Tryd.prog os ⟨#[], #[], []⟩).heap.modify 1 (layObj .u8 Go.Pinned.utf8FirstZ)).modify 2 (layObj .u8 [128, 191, 160, 191, 128, 159, 144, 191, 128, 143, 0, 0, 0, 0, 0, 0, 0, 0, 0, 0, 0, 0, 0, 0, 0, 0, 0, 0, 0, 0, 0, 0]) }
theorem rd_line {H : Type} (enc : TypeId × Value → H) (W : World) : RdE enc Tryd.prog W Rows.uptoBulk 9 strE (fun s => s.length + 1) (fun s => s.length ≤ maxLen) := rd_str (bulkEq H) Tryd.underlying9
set_option maxRecDepth 100000 in
theorem contract_fnExactParseAct (H : Type) (enc : TypeId × Value → H) (W : World) (base : Nat) (args : Array Value) (ds gs : List (DataW H)) (before : List MemPlace)
    (hval : ∀ (j : Nat) t v, Tryd.f3.params[j]? = some t → args[j]? = some v → Value.okWide Tryd.prog W .any base t v)
    (hW : DataW.Whole enc Tryd.prog Tryd.f3.params.toList Rows.fnExactParseActSpec.vars false W args.toList ds gs before) (hst : Stand Tryd.prog W) :
    Calls Tryd.prog 3 args W fun e W' => ∃ v, e = .returned v ∧ Rows.fnExactParseActSpec.post enc Tryd.prog Tryd.f3 false true false false W args v W' := by
  have hW' := hW
  obtain ⟨p, q, hA0, hV, rfl, hfz, hnd⟩ := hW
  have hA : DataW.TrodAll enc Tryd.prog W 0 (fun _ => true) true Tryd.f3.params.toList args.toList ds p := hA0
  rw [Tryd.params3] at hA hval
  obtain ⟨v0, vs0, d0, ds0, p0, q0, hargs0, rfl, rfl, h0, r0⟩ := trodAll_cons hA
  obtain ⟨hvs, rfl, rfl⟩ := trodAll_nil r0
  obtain rfl : args = #[v0] := by cases args; simp_all
  obtain ⟨rfl, rfl⟩ := trodVars_none hV
  obtain ⟨l, ha0, _, hg⟩ := arg_str Tryd.underlying9 (rd_line enc W) (hval 0 9 v0 rfl rfl) h0
  refine (law_calls (law_parseAct l (by unfold maxLen at hg; omega)) hst (.cons ha0 .nil)).mono fun e W' ⟨he, hb⟩ => ?_
  subst he
  exact ⟨_, rfl, law_post laidOut hW' hb rfl rfl Tryd.underlying4 (by intro t ht; rw [Tryd.params3] at ht; simp at ht; subst ht; exact ⟨by kernel_rfl, of_decide_eq_true (by kernel_rfl)⟩) rfl rfl rfl⟩
theorem laid_fnExactParseAct (os : Os) : laidMet Tryd.prog Rows.fnExactParseActRow.laid ((laidWorld os).forCall (fun _ _ => 0) ⟨#[], #[.string ⟨#[]⟩], []⟩).memory :=
  laidMet_of_run' 8 (by kernel_rfl) (by kernel_rfl)
theorem reads_fnExactParseAct (os : Os) {H : Type} (enc : TypeId × Value → H) : ∃ places, DataW.whole enc Tryd.prog ((laidWorld os).forCall (fun _ _ => 0) ⟨#[], #[.string ⟨#[]⟩], []⟩).memory Tryd.f3.params.toList Rows.fnExactParseActSpec.vars false #[.string ⟨#[]⟩].toList 8 = some ([.lit (.string [])], [], places) :=
  ⟨[], by kernel_rfl⟩
set_option maxRecDepth 100000 in
theorem lifted_fnExactParseAct (os : Os) (started : os.Started) (H : Type) (enc : TypeId × Value → H) (F : Stop.Interp) :
    ReturnsInHanded {} Tryd.checked os 3 .any ((OpenSpec.ofChange Rows.fnExactParseActSpec).preRow enc Tryd.prog Tryd.f3 Rows.fnExactParseActRow.domain false Rows.fnExactParseActRow.laid) (((OpenSpec.ofChange Rows.fnExactParseActSpec).at F).post enc Tryd.prog Tryd.f3 false true false false) := by
  obtain ⟨places, hx⟩ := reads_fnExactParseAct os enc
  refine returnsInHanded_of_row (C := Tryd.checked) (s := OpenSpec.ofChange Rows.fnExactParseActSpec) ownK started (by kernel_rfl) Tryd.func3
    (witness_row_at (enc := enc) (C := Tryd.checked) false (laidWorld os) #[.string ⟨#[]⟩] rfl (by kernel_rfl) (by kernel_rfl) (by kernel_rfl)
      (OpenSpec.preRow_of_cond 8 hx (by kernel_rfl) (fun k hk => by cases hk) (by kernel_rfl) (laid_fnExactParseAct os))) ?_
  intro W base args ds gs before hval hW _ hcond _ hL hS _
  exact contract_fnExactParseAct H enc W base args ds gs before hval hW (stand_of0 hL hS)
theorem said_fnExactParseAct : Rows.FnExactParseActSaid :=
  OpenClaim.holds_of_cond 3 Tryd.f3 rfl rfl rfl rfl rfl rfl rfl ⟨rfl, rfl, rfl, rfl, rfl⟩ rfl rfl rfl rfl rfl (by kernel_rfl) Tryd.func3 (by kernel_rfl)
    (of_decide_eq_true (by kernel_rfl)) (by unfold Func.isWrapper; first | (rw [if_pos (by decide +kernel)]; kernel_rfl) | (rw [if_neg (by decide +kernel)]; exact ⟨rfl, rfl⟩))
    (fun os started H enc _ F => by rw [OpenClaim.pre_eq_preRow]; exact lifted_fnExactParseAct os started H enc F)
theorem plain_fnExactParseAct (f : FuncId) (fn : Func) (hf : Tryd.pinned.checked.prog.funcNamed "loop.example/g00216/laws.FnExactParseAct" = some f) (hfn : Tryd.pinned.checked.prog.funcs[f]? = some fn) :
    false = Tryd.pinned.checked.prog.looks [] ∧ ∀ (j : Nat) t, fn.params[j]? = some t → Tryd.pinned.checked.prog.wantsStandIn t = false := by
  obtain rfl : f = 3 := Option.some.inj ((show Tryd.prog.funcNamed "loop.example/g00216/laws.FnExactParseAct" = some 3 by kernel_rfl).symm.trans hf) |>.symm
  obtain rfl : fn = Tryd.f3 := (Option.some.inj (Tryd.func3.symm.trans hfn)).symm
  refine ⟨by kernel_rfl, fun j t ht => ?_⟩
  rw [Tryd.params3] at ht
  have hm := Array.mem_of_getElem? ht
  simp at hm
  subst hm
  all_goals (show Tryd.prog.wantsStandIn _ = false; kernel_rfl)
theorem fnExactParseAct_holds : Rows.FnExactParseActCardSaid :=
  Claim7.holds_tied_plain_at .later [] _ _ _ _ said_fnExactParseAct (fun _ h => by cases h) (by kernel_rfl) (fun _ h => by cases h) fnExactParseAct_row_tie rfl ⟨rfl, rfl⟩ (by kernel_rfl) rfl plain_fnExactParseAct (by kernel_rfl)

end Go.Proofs.YtgpicngmadkdoaaDoor
