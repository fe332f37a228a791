/- The law FnExactReplyText: for every reply the program's ReplyText returns what the reference's returns, and leaves its argument as it was, so that the law answers true.
   Conditions: none on the argument; the listed tables of the library hold what the text lays (the card ties them). -/
import Derived.Test.YtjlgchgjgjcagaaDoorReplyB
import Derived.Test.YtjlgchgjgjcagaaDoorRowBase
set_option linter.unusedVariables false
set_option linter.unusedSimpArgs false
namespace Go.Proofs.YtjlgchgjgjcagaaDoor
open Go Go.R Go.Proofs Go.RowKit Go.ChangeShapes Go.WideShapes Go.ChangeAt
set_option maxRecDepth 100000
attribute [local go_sem ↓] v_skip v_reg v_draw v_alt v_seq v_block v_exit v_ret v_loop o_nil o_g q_mv o_mv q_nil_ o_nil_ q_pick o_pick q_alloc o_alloc q_box o_box q_build o_build q_mkSl o_mkSl q_load o_load q_bin o_bin q_shift o_shift q_un o_un q_conv o_conv q_make o_make q_slice o_slice q_substr o_substr q_fieldAddr o_fieldAddr q_field o_field q_indexAddr o_indexAddr q_strIdx o_strIdx q_extract o_extract q_len o_len q_minmax o_minmax q_nilCheck o_nilCheck q_mkFn o_mkFn q_call o_call q_callF o_callF l_mkSl o_mkSlM l_store o_store l_append o_append l_copy o_copy l_callR o_callR v_cond callQ_eq
attribute [local go_sem] condv_t condv_f g_tt g_ff g_tf g_ft Norm_eq Opd.get putT List.length_cons List.length_nil List.length_append List.replicate List.cons_append List.nil_append List.append_assoc List.set List.set_cons_zero List.set_cons_succ List.getD_cons_zero List.getD_cons_succ List.getD_nil List.map_cons List.map_nil List.zipIdx_cons List.zipIdx_nil List.any_cons List.any_nil List.all_cons List.all_nil List.flatMap_cons List.flatMap_nil List.foldl_cons List.foldl_nil List.take_succ_cons List.take_zero List.take_nil List.drop_succ_cons List.drop_zero List.drop_nil List.flatten_cons List.flatten_nil List.length_map roL owL arrL List.range_succ List.range_zero List.append_nil binInt true_and and_true false_and and_false Bool.not_true Bool.not_false Bool.and_self Bool.true_and Bool.and_true Bool.false_and Bool.and_false Bool.or_false Bool.or_true Bool.false_or Bool.true_or Bool.false_eq_true false_implies true_implies implies_true forall_const if_true if_false beq_self_eq_true BEq.rfl decide_true decide_false decide_eq_true_eq eq_self Option.getD_none Option.getD_some Option.map_some Option.map_none Option.isNone_none Option.isNone_some Nat.le_refl Int.le_refl Nat.zero_add Nat.add_zero Nat.zero_le Nat.sub_zero Nat.zero_mul Nat.one_mul Nat.lt_one_iff Nat.zero_lt_one Int.toNat_natCast Int.toNat_zero Int.toNat_one Int.natCast_zero retPost inPost rets T.known T.cells T.one takeAll take_ regroup retD retH final nodeR nodeIn pathOk pathIn Obj.rows loadCell setList Heap.put Obj.put setIn splitLast Heap.drop_ arrAt Heap.kill Obj.kill T.kill D.kill D.thru thruPath params T.param D.param paramCells cellP cellsP capsP rps D.ro T.back T.back1 D.back T.closed D.closed T.clean D.clean D.still view optInt optOk chunk isEq eqDs eqD source capIds D.flat bytesOfAt D.isByte D.byte rowsD_cons_zero subAt_rows shiftAt_rows  drop_mapE take_mapE List.take_length app_rows ro_ints ro_strs ro_bytes big rowsD_cons_succ S_add S_size strEq_S Int.natCast_add Int.cast_ofNat_Int List.mem_cons List.not_mem_nil false_or or_false true_or or_true forall_eq_or_imp forall_eq T.d.injEq T.agg.injEq T.tup.injEq D.int.injEq D.bool.injEq D.str.injEq List.cons.injEq Prod.mk.injEq Option.some.injEq
attribute [local go_sem low] condv_b g_b

-- laws.FnExactReplyText
def c4 : MC := (.seq (.reg [⟨(some 1), none, .box (.t 0)⟩,
    ⟨(some 2), none, .mv (.c (.d (.bool false)))⟩]) (.seq (.reg [⟨(some 3), none, .mv (.c (.d (.int .i64 (1048576))))⟩]) (.seq (.reg [⟨(some 7), none, .load (some 3) (.t 1)⟩,
    ⟨(some 8), none, .mv (.t 3)⟩,
    ⟨(some 9), none, .call 10 [(.t 7), (.t 8)]⟩,
    ⟨(some 3), none, .mv (.t 9)⟩]) (.seq (.seq (.reg [⟨(some 10), none, .mv (.t 3)⟩,
    ⟨(some 11), none, .bin .lss (.int .i64) (.t 10) (.c (.d (.int .i64 (0))))⟩]) (.cond (.t 11) (.seq (.reg [⟨(some 2), none, .mv (.c (.d (.bool true)))⟩]) .ret) .skip)) (.seq (.reg [⟨(some 12), none, .load (some 3) (.t 1)⟩,
    ⟨(some 13), none, .call 12 [(.t 12)]⟩,
    ⟨(some 14), none, .call 11 [(.t 13)]⟩,
    ⟨(some 4), none, .alloc [(.int .i64 (0)), (.str (S []))]⟩,
    ⟨none, none, .store 2 (.t 4) (.t 14)⟩]) (.seq (.reg [⟨(some 15), none, .load (some 3) (.t 1)⟩,
    ⟨(some 16), none, .call 12 [(.t 15)]⟩,
    ⟨(some 5), none, .alloc [(.int .i64 (0)), (.int .i64 (0)), (.sl true 2 0 fun _ _ => .dead)]⟩,
    ⟨none, none, .store 3 (.t 5) (.t 16)⟩]) (.seq (.reg [⟨(some 17), none, .load (some 3) (.t 5)⟩,
    ⟨(some 18), none, .call 13 [(.t 17)]⟩,
    ⟨(some 6), none, .alloc [(.int .i64 (0)), (.str (S []))]⟩,
    ⟨none, none, .store 2 (.t 6) (.t 18)⟩]) (.seq (.seq (.reg [⟨(some 19), none, .load (some 2) (.t 6)⟩,
    ⟨(some 20), none, .load (some 2) (.t 4)⟩,
    ⟨(some 21), none, .call 9 [(.t 19), (.t 20)]⟩,
    ⟨(some 22), none, .un .not .bool (.t 21)⟩]) (.cond (.t 22) (.seq (.reg [⟨(some 2), none, .mv (.c (.d (.bool false)))⟩]) .ret) .skip)) (.seq (.seq (.reg [⟨(some 23), none, .load (some 3) (.t 5)⟩,
    ⟨(some 24), none, .load (some 3) (.t 1)⟩,
    ⟨(some 25), none, .call 12 [(.t 24)]⟩,
    ⟨(some 26), none, .call 14 [(.t 23), (.t 25)]⟩,
    ⟨(some 27), none, .un .not .bool (.t 26)⟩]) (.cond (.t 27) (.seq (.reg [⟨(some 2), none, .mv (.c (.d (.bool false)))⟩]) .ret) .skip)) (.seq (.reg [⟨(some 2), none, .mv (.c (.d (.bool true)))⟩]) .ret))))))))))
def c4r : List RV := [.tmp 2]
theorem c4_tr : (Tryd.f4.body.bind (trCode Tryd.prog byref)) = some c4 := by kernel_rfl
theorem c4_rv : trRV Tryd.prog Tryd.f4.results.toList = some c4r := by kernel_rfl

theorem replyR_txt (r : Reply) : ∃ c s, replyR r = txt c s := by
  unfold replyR
  split
  · exact ⟨_, _, rfl⟩
  · split
    · exact ⟨_, _, rfl⟩
    · exact ⟨_, _, rfl⟩
theorem law_replyText (r : Reply) (hg : r.good) (hl : r.cells.length ≤ 9223372036854775807) : FnSem Tryd.prog 4 [.agg (replyE r)] fun t N => t = .d (.bool true) ∧ N = [] := by
  refine fn_of mixed (by kernel_rfl) Tryd.func4 Tryd.ntmps4 c4_tr c4_rv (by simp) fun Fn In Sh hFn hIn hSh => ?_
  subst hFn hIn hSh
  unfold c4 c4r
  unfold replyE
  simp -dsimp only [go_sem, make_rows, ro_rows, Nat.reduceSub, Nat.reduceAdd, Nat.reduceLT, Nat.reduceLeDiff, Nat.reduceMul, Nat.reduceEqDiff, reduceCtorEq, reduceIte, Int.reduceToNat, Int.reduceLE, Int.reduceLT, Int.reduceNe]
  refine step1 (szReply_ok r 1048576 (by omega) (by omega) hl) ?_
  simp -dsimp only [go_sem, make_rows, ro_rows, Nat.reduceSub, Nat.reduceAdd, Nat.reduceLT, Nat.reduceLeDiff, Nat.reduceMul, Nat.reduceEqDiff, reduceCtorEq, reduceIte, Int.reduceToNat, Int.reduceLE, Int.reduceLT, Int.reduceNe]
  intro hs
  have hl2 : r.cells.length ≤ 1048576 := by
    rw [ilt_eq, decide_eq_false_iff_not] at hs
    by_cases h : (1048576 : Int) < r.cells.length
    · rw [if_pos h] at hs; omega
    · omega
  clear hs
  have h1 := specReply_ok r hg hl2
  have h2 := implReply_ok r hg hl2
  obtain ⟨c, s, hr⟩ := replyR_txt r
  rw [hr] at h1 h2
  unfold replyE txt at h1 h2
  have h3 := toReply_ok r (by omega)
  have h4 := eqReply_ok r r (by omega)
  unfold replyE at h3 h4
  refine step1 h3 ?_
  simp -dsimp only [go_sem, make_rows, ro_rows, Nat.reduceSub, Nat.reduceAdd, Nat.reduceLT, Nat.reduceLeDiff, Nat.reduceMul, Nat.reduceEqDiff, reduceCtorEq, reduceIte, Int.reduceToNat, Int.reduceLE, Int.reduceLT, Int.reduceNe, ro_cells]
  refine step1 h1 ?_
  simp -dsimp only [go_sem, make_rows, ro_rows, Nat.reduceSub, Nat.reduceAdd, Nat.reduceLT, Nat.reduceLeDiff, Nat.reduceMul, Nat.reduceEqDiff, reduceCtorEq, reduceIte, Int.reduceToNat, Int.reduceLE, Int.reduceLT, Int.reduceNe, ro_cells]
  refine step1 h3 ?_
  simp -dsimp only [go_sem, make_rows, ro_rows, Nat.reduceSub, Nat.reduceAdd, Nat.reduceLT, Nat.reduceLeDiff, Nat.reduceMul, Nat.reduceEqDiff, reduceCtorEq, reduceIte, Int.reduceToNat, Int.reduceLE, Int.reduceLT, Int.reduceNe, ro_cells]
  refine step1 h2 ?_
  simp -dsimp only [go_sem, make_rows, ro_rows, Nat.reduceSub, Nat.reduceAdd, Nat.reduceLT, Nat.reduceLeDiff, Nat.reduceMul, Nat.reduceEqDiff, reduceCtorEq, reduceIte, Int.reduceToNat, Int.reduceLE, Int.reduceLT, Int.reduceNe, ro_cells]
  refine step1 (eqText_ok _ _ _ _) ?_
  simp -dsimp only [go_sem, make_rows, ro_rows, Nat.reduceSub, Nat.reduceAdd, Nat.reduceLT, Nat.reduceLeDiff, Nat.reduceMul, Nat.reduceEqDiff, reduceCtorEq, reduceIte, Int.reduceToNat, Int.reduceLE, Int.reduceLT, Int.reduceNe, ro_cells]
  refine step1 h3 ?_
  simp -dsimp only [go_sem, make_rows, ro_rows, Nat.reduceSub, Nat.reduceAdd, Nat.reduceLT, Nat.reduceLeDiff, Nat.reduceMul, Nat.reduceEqDiff, reduceCtorEq, reduceIte, Int.reduceToNat, Int.reduceLE, Int.reduceLT, Int.reduceNe, ro_cells]
  refine step1 h4 ?_
  simp -dsimp only [go_sem, make_rows, ro_rows, Nat.reduceSub, Nat.reduceAdd, Nat.reduceLT, Nat.reduceLeDiff, Nat.reduceMul, Nat.reduceEqDiff, reduceCtorEq, reduceIte, Int.reduceToNat, Int.reduceLE, Int.reduceLT, Int.reduceNe, ro_cells]
theorem rd_cell {H : Type} (enc : TypeId × Value → H) (W : World) : RdE enc Tryd.prog W Rows.uptoBulk 74 cellE (fun _ => 3) (fun c => I64 c.key ∧ I64 c.value) := by
  have hi := rd_int (encH := enc) (P := Tryd.prog) (w := W) (bulkEq H) (t := 2) Tryd.underlying2
  refine (rd_struct (bulkEq H) Tryd.underlying74 (by kernel_rfl) (.cons hi (.cons hi .nil))).imp ?_
  rintro ds m ⟨m', ⟨_, _, _, _, ⟨k, rfl, rfl, hk⟩, ⟨_, _, _, _, ⟨t, rfl, rfl, ht⟩, ⟨rfl, rfl⟩, rfl, rfl⟩, rfl, rfl⟩, rfl⟩
  exact ⟨⟨k, t⟩, rfl, rfl, i64_wf hk, i64_wf ht⟩
theorem rd_reply {H : Type} (enc : TypeId × Value → H) (W : World) : RdE enc Tryd.prog W Rows.uptoBulk 33 replyE (fun _ => 0) (fun r => r.good ∧ r.cells.length ≤ maxLen) := by
  have hi := rd_int (encH := enc) (P := Tryd.prog) (w := W) (bulkEq H) (t := 2) Tryd.underlying2
  have hc := rd_slice (bulkEq H) (sz := 2) Tryd.underlying31 (by kernel_rfl) (by omega) (rd_cell enc W)
  intro fuel cs x h
  obtain ⟨ds, m, h1, ⟨m', ⟨_, _, _, _, ⟨k, rfl, rfl, hk⟩, ⟨_, _, _, _, ⟨t, rfl, rfl, ht⟩, ⟨_, _, _, _, ⟨l, rfl, rfl, hl, hg⟩, ⟨rfl, rfl⟩, rfl, rfl⟩, rfl, rfl⟩, rfl, rfl⟩, rfl⟩, h3⟩ := rd_struct (bulkEq H) Tryd.underlying33 (by kernel_rfl) (.cons hi (.cons hi (.cons hc .nil))) fuel cs x h
  exact ⟨_, 0, h1, ⟨⟨k, t, l⟩, rfl, rfl, ⟨i64_wf hk, i64_wf ht, hg⟩, hl⟩, Nat.zero_le _⟩
set_option maxRecDepth 100000 in
theorem contract_fnExactReplyText (H : Type) (enc : TypeId × Value → H) (W : World) (base : Nat) (args : Array Value) (ds gs : List (DataW H)) (before : List MemPlace)
    (hval : ∀ (j : Nat) t v, Tryd.f4.params[j]? = some t → args[j]? = some v → Value.okWide Tryd.prog W .any base t v)
    (hW : DataW.Whole enc Tryd.prog Tryd.f4.params.toList Rows.fnExactReplyTextSpec.vars false W args.toList ds gs before) (hst : Stand Tryd.prog W) :
    Calls Tryd.prog 4 args W fun e W' => ∃ v, e = .returned v ∧ Rows.fnExactReplyTextSpec.post enc Tryd.prog Tryd.f4 false true false false W args v W' := by
  have hW' := hW
  obtain ⟨p, q, hA0, hV, rfl, hfz, hnd⟩ := hW
  have hA : DataW.TrodAll enc Tryd.prog W 0 (fun _ => true) true Tryd.f4.params.toList args.toList ds p := hA0
  rw [Tryd.params4] at hA hval
  obtain ⟨v0, vs0, d0, ds0, p0, q0, hargs0, rfl, rfl, h0, r0⟩ := trodAll_cons hA
  obtain ⟨hvs, rfl, rfl⟩ := trodAll_nil r0
  obtain rfl : args = #[v0] := by cases args; simp_all
  obtain ⟨rfl, rfl⟩ := trodVars_none hV
  obtain ⟨r, ha0, _, hg⟩ := arg_struct Tryd.underlying33 (rd_reply enc W) (hval 0 33 v0 rfl rfl) h0
  refine (law_calls (law_replyText r hg.1 (by have := hg.2; unfold maxLen at this; omega)) hst (.cons ha0 .nil)).mono fun e W' ⟨he, hb⟩ => ?_
  subst he
  exact ⟨_, rfl, law_post laidOut hW' hb rfl rfl Tryd.underlying4 (by intro t ht; rw [Tryd.params4] at ht; simp at ht; subst ht; exact ⟨by kernel_rfl, of_decide_eq_true (by kernel_rfl)⟩) rfl rfl rfl⟩
theorem laid_fnExactReplyText (os : Os) : laidMet Tryd.prog Rows.fnExactReplyTextRow.laid ((laidWorld os).forCall (fun _ _ => 0) ⟨#[], #[.agg #[.int .i64 0, .int .i64 0, .slice none 0 0]], []⟩).memory :=
  laidMet_of_run' 8 (by kernel_rfl) (by kernel_rfl)
theorem reads_fnExactReplyText (os : Os) {H : Type} (enc : TypeId × Value → H) : ∃ places, DataW.whole enc Tryd.prog ((laidWorld os).forCall (fun _ _ => 0) ⟨#[], #[.agg #[.int .i64 0, .int .i64 0, .slice none 0 0]], []⟩).memory Tryd.f4.params.toList Rows.fnExactReplyTextSpec.vars false #[.agg #[.int .i64 0, .int .i64 0, .slice none 0 0]].toList 8 = some ([.agg [.lit (.int .i64 0), .lit (.int .i64 0), .nil]], [], places) :=
  ⟨[], by kernel_rfl⟩
set_option maxRecDepth 100000 in
theorem lifted_fnExactReplyText (os : Os) (started : os.Started) (H : Type) (enc : TypeId × Value → H) (F : Stop.Interp) :
    ReturnsInHanded {} Tryd.checked os 4 .any ((OpenSpec.ofChange Rows.fnExactReplyTextSpec).preRow enc Tryd.prog Tryd.f4 Rows.fnExactReplyTextRow.domain false Rows.fnExactReplyTextRow.laid) (((OpenSpec.ofChange Rows.fnExactReplyTextSpec).at F).post enc Tryd.prog Tryd.f4 false true false false) := by
  obtain ⟨places, hx⟩ := reads_fnExactReplyText os enc
  refine returnsInHanded_of_row (C := Tryd.checked) (s := OpenSpec.ofChange Rows.fnExactReplyTextSpec) ownK started (by kernel_rfl) Tryd.func4
    (witness_row_at (enc := enc) (C := Tryd.checked) false (laidWorld os) #[.agg #[.int .i64 0, .int .i64 0, .slice none 0 0]] rfl (by kernel_rfl) (by kernel_rfl) (by kernel_rfl)
      (OpenSpec.preRow_of_cond 8 hx (by kernel_rfl) (fun k hk => by cases hk) (by kernel_rfl) (laid_fnExactReplyText os))) ?_
  intro W base args ds gs before hval hW _ hcond _ hL hS _
  exact contract_fnExactReplyText H enc W base args ds gs before hval hW (stand_of (pow_of_laid hL) hS)
theorem said_fnExactReplyText : Rows.FnExactReplyTextSaid :=
  OpenClaim.holds_of_cond 4 Tryd.f4 rfl rfl rfl rfl rfl rfl rfl ⟨rfl, rfl, rfl, rfl, rfl⟩ rfl rfl rfl rfl rfl (by kernel_rfl) Tryd.func4 (by kernel_rfl)
    (of_decide_eq_true (by kernel_rfl)) (by unfold Func.isWrapper; first | (rw [if_pos (by decide +kernel)]; kernel_rfl) | (rw [if_neg (by decide +kernel)]; exact ⟨rfl, rfl⟩))
    (fun os started H enc _ F => by rw [OpenClaim.pre_eq_preRow]; exact lifted_fnExactReplyText os started H enc F)
theorem plain_fnExactReplyText (f : FuncId) (fn : Func) (hf : Tryd.pinned.checked.prog.funcNamed "loop.example/g00216/laws.FnExactReplyText" = some f) (hfn : Tryd.pinned.checked.prog.funcs[f]? = some fn) :
    false = Tryd.pinned.checked.prog.looks [] ∧ ∀ (j : Nat) t, fn.params[j]? = some t → Tryd.pinned.checked.prog.wantsStandIn t = false := by
  obtain rfl : f = 4 := Option.some.inj ((show Tryd.prog.funcNamed "loop.example/g00216/laws.FnExactReplyText" = some 4 by kernel_rfl).symm.trans hf) |>.symm
  obtain rfl : fn = Tryd.f4 := (Option.some.inj (Tryd.func4.symm.trans hfn)).symm
  refine ⟨by kernel_rfl, fun j t ht => ?_⟩
  rw [Tryd.params4] at ht
  have hm := Array.mem_of_getElem? ht
  simp at hm
  subst hm
  all_goals (show Tryd.prog.wantsStandIn _ = false; kernel_rfl)
theorem fnExactReplyText_holds : Rows.FnExactReplyTextCardSaid :=
  Claim7.holds_tied_plain_at .later [] _ _ _ _ said_fnExactReplyText (fun _ h => by cases h) (by kernel_rfl) (fun _ h => by cases h) fnExactReplyText_row_tie rfl ⟨rfl, rfl⟩ (by kernel_rfl) rfl plain_fnExactReplyText (by kernel_rfl)

end Go.Proofs.YtjlgchgjgjcagaaDoor
