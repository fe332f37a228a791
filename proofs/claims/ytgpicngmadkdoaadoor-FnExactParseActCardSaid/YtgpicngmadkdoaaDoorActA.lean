/- Acts: small functions that several laws use. -/
import Derived.Test.YtgpicngmadkdoaaDoorBase
set_option linter.unusedVariables false
set_option linter.unusedSimpArgs false
namespace Go.Proofs.YtgpicngmadkdoaaDoor
open Go Go.R Go.Proofs Go.RowKit
set_option maxRecDepth 100000
attribute [local go_sem ↓] v_skip v_reg v_draw v_alt v_seq v_block v_exit v_ret v_loop o_nil o_g q_mv o_mv q_nil_ o_nil_ q_pick o_pick q_alloc o_alloc q_box o_box q_build o_build q_mkSl o_mkSl q_load o_load q_bin o_bin q_shift o_shift q_un o_un q_conv o_conv q_make o_make q_slice o_slice q_substr o_substr q_fieldAddr o_fieldAddr q_field o_field q_indexAddr o_indexAddr q_strIdx o_strIdx q_extract o_extract q_len o_len q_minmax o_minmax q_nilCheck o_nilCheck q_mkFn o_mkFn q_call o_call q_callF o_callF l_mkSl o_mkSlM l_store o_store l_append o_append l_copy o_copy l_clear o_clear l_callR o_callR v_cond callQ_eq
attribute [local go_sem] condv_t condv_f g_tt g_ff g_tf g_ft Norm_eq Opd.get putT List.length_cons List.length_nil List.length_append List.replicate List.cons_append List.nil_append List.append_assoc List.set List.set_cons_zero List.set_cons_succ List.getD_cons_zero List.getD_cons_succ List.getD_nil List.map_cons List.map_nil List.zipIdx_cons List.zipIdx_nil List.any_cons List.any_nil List.all_cons List.all_nil List.flatMap_cons List.flatMap_nil List.foldl_cons List.foldl_nil List.take_succ_cons List.take_zero List.take_nil List.drop_succ_cons List.drop_zero List.drop_nil List.flatten_cons List.flatten_nil List.length_map roL owL arrL List.range_succ List.range_zero List.append_nil binInt true_and and_true false_and and_false Bool.not_true Bool.not_false Bool.and_self Bool.true_and Bool.and_true Bool.false_and Bool.and_false Bool.or_false Bool.or_true Bool.false_or Bool.true_or Bool.false_eq_true false_implies true_implies implies_true forall_const if_true if_false beq_self_eq_true BEq.rfl decide_true decide_false decide_eq_true_eq eq_self Option.getD_none Option.getD_some Option.map_some Option.map_none Option.isNone_none Option.isNone_some Nat.le_refl Int.le_refl Nat.zero_add Nat.add_zero Nat.zero_le Nat.sub_zero Nat.zero_mul Nat.one_mul Nat.lt_one_iff Nat.zero_lt_one Int.toNat_natCast Int.toNat_zero Int.toNat_one Int.natCast_zero retPost inPost rets T.known T.cells T.one takeAll take_ regroup retD retH final nodeR nodeIn pathOk pathIn Obj.rows loadCell setList Heap.put Obj.put Heap.setNode Obj.setNode nodeSet setIn splitLast Heap.drop_ arrAt Heap.kill Obj.kill T.kill D.kill D.thru thruPath params T.param D.param paramCells cellP cellsP capsP rps D.ro T.back T.back1 D.back T.closed D.closed T.clean D.clean D.still view optInt optOk chunk isEq eqDs eqD source capIds D.flat bytesOfAt D.isByte D.byte rowsD_cons_zero subAt_rows shiftAt_rows  drop_mapE take_mapE List.take_length app_rows ro_ints ro_strs ro_bytes big rowsD_cons_succ S_add S_size strEq_S Int.natCast_add Int.cast_ofNat_Int List.mem_cons List.not_mem_nil false_or or_false true_or or_true forall_eq_or_imp forall_eq T.d.injEq T.agg.injEq T.tup.injEq D.int.injEq D.bool.injEq D.str.injEq List.cons.injEq Prod.mk.injEq Option.some.injEq
attribute [local go_sem low] condv_b g_b

-- spec.l15Numbers
def c15 : MC := (.seq (.reg [⟨(some 1), none, .box (.t 0)⟩,
    ⟨(some 2), none, .nil_ 1⟩]) (.seq (.seq (.reg [⟨(some 3), none, .fieldAddr 0 (.t 1)⟩,
    ⟨(some 4), none, .load none (.t 3)⟩]) (.block 0 (.seq (.reg [⟨(some 6), none, .bin .eql (.int .i64) (.t 4) (.c (.d (.int .i64 (1))))⟩,
    ⟨(some 5), none, .mv (.t 6)⟩]) (.cond (.t 5) (.seq (.reg [⟨(some 2), none, .nil_ 1⟩]) .ret) (.seq (.seq (.reg [⟨(some 8), none, .bin .eql (.int .i64) (.t 4) (.c (.d (.int .i64 (2))))⟩,
    ⟨(some 7), none, .mv (.t 8)⟩]) (.cond (.t 7) .skip (.reg [⟨(some 9), none, .bin .eql (.int .i64) (.t 4) (.c (.d (.int .i64 (5))))⟩,
    ⟨(some 7), none, .mv (.t 9)⟩]))) (.cond (.t 7) (.seq (.reg [⟨(some 10), none, .fieldAddr 1 (.t 1)⟩,
    ⟨(some 11), none, .load none (.t 10)⟩,
    ⟨(some 12), none, .fieldAddr 2 (.t 1)⟩,
    ⟨(some 13), none, .load none (.t 12)⟩,
    ⟨(some 14), none, .mkSl false 1 [(.int .i64 (0))] 2 [(0, (.t 11)), (1, (.t 13))]⟩,
    ⟨(some 2), none, .mv (.t 14)⟩]) .ret) (.seq (.reg [⟨(some 16), none, .bin .eql (.int .i64) (.t 4) (.c (.d (.int .i64 (4))))⟩,
    ⟨(some 15), none, .mv (.t 16)⟩]) (.cond (.t 15) (.seq (.reg [⟨(some 17), none, .fieldAddr 1 (.t 1)⟩,
    ⟨(some 18), none, .load none (.t 17)⟩,
    ⟨(some 19), none, .fieldAddr 2 (.t 1)⟩,
    ⟨(some 20), none, .load none (.t 19)⟩,
    ⟨(some 21), none, .fieldAddr 3 (.t 1)⟩,
    ⟨(some 22), none, .load none (.t 21)⟩,
    ⟨(some 23), none, .mkSl false 1 [(.int .i64 (0))] 3 [(0, (.t 18)), (1, (.t 20)), (2, (.t 22))]⟩,
    ⟨(some 2), none, .mv (.t 23)⟩]) .ret) .skip)))))))) (.seq (.reg [⟨(some 24), none, .fieldAddr 1 (.t 1)⟩,
    ⟨(some 25), none, .load none (.t 24)⟩,
    ⟨(some 26), none, .mkSl false 1 [(.int .i64 (0))] 1 [(0, (.t 25))]⟩,
    ⟨(some 2), none, .mv (.t 26)⟩]) .ret)))
def c15r : List RV := [.tmp 2]
theorem c15_tr : (Tryd.f15.body.bind (trCode Tryd.prog byref)) = some c15 := by kernel_rfl
theorem c15_rv : trRV Tryd.prog Tryd.f15.results.toList = some c15r := by kernel_rfl

-- spec.l15Names
def c14 : MC := (.seq (.reg [⟨(some 0), none, .nil_ 1⟩]) (.seq (.reg [⟨(some 1), none, .mkSl false 1 [(.str (S []))] 8 [(0, (.c (.d (.str (S []))))), (1, (.c (.d (.str (S [98, 101, 103, 105, 110]))))), (2, (.c (.d (.str (S [103, 101, 116]))))), (3, (.c (.d (.str (S [115, 99, 97, 110]))))), (4, (.c (.d (.str (S [112, 117, 116]))))), (5, (.c (.d (.str (S [100, 114, 111, 112]))))), (6, (.c (.d (.str (S [99, 111, 109, 109, 105, 116]))))), (7, (.c (.d (.str (S [97, 98, 111, 114, 116])))))]⟩,
    ⟨(some 0), none, .mv (.t 1)⟩]) .ret))
def c14r : List RV := [.tmp 0]
theorem c14_tr : (Tryd.f14.body.bind (trCode Tryd.prog byref)) = some c14 := by kernel_rfl
theorem c14_rv : trRV Tryd.prog Tryd.f14.results.toList = some c14r := by kernel_rfl

-- impl.forms
def c10 : MC := (.seq (.reg [⟨(some 2), none, .mv (.c (.d (.str (S []))))⟩,
    ⟨(some 3), none, .mv (.c (.d (.int .i64 (0))))⟩]) (.seq (.draw (.seq (.reg [⟨(some 5), none, .mv (.t 0)⟩]) (.seq (.reg [⟨(some 9), none, .mv (.t 0)⟩]) (.alt (.seq (.reg [⟨(some 4), none, .mkSl false 1 [(.str (S []))] 8 [(0, (.c (.d (.str (S []))))), (1, (.c (.d (.str (S [98, 101, 103, 105, 110]))))), (2, (.c (.d (.str (S [103, 101, 116]))))), (3, (.c (.d (.str (S [115, 99, 97, 110]))))), (4, (.c (.d (.str (S [112, 117, 116]))))), (5, (.c (.d (.str (S [100, 114, 111, 112]))))), (6, (.c (.d (.str (S [99, 111, 109, 109, 105, 116]))))), (7, (.c (.d (.str (S [97, 98, 111, 114, 116])))))]⟩]) (.seq (.reg [⟨(some 6), none, .indexAddr 1 (.t 4) (.t 5)⟩]) (.seq (.reg [⟨(some 7), none, .load none (.t 6)⟩]) (.seq (.reg [⟨(some 2), none, .mv (.t 7)⟩]) (.seq (.reg [⟨(some 8), none, .mkSl false 1 [(.int .i64 (0))] 8 [(0, (.c (.d (.int .i64 (0))))), (1, (.c (.d (.int .i64 (0))))), (2, (.c (.d (.int .i64 (2))))), (3, (.c (.d (.int .i64 (1))))), (4, (.c (.d (.int .i64 (3))))), (5, (.c (.d (.int .i64 (2))))), (6, (.c (.d (.int .i64 (1))))), (7, (.c (.d (.int .i64 (1)))))]⟩]) (.seq (.reg [⟨(some 10), none, .indexAddr 1 (.t 8) (.t 9)⟩]) (.seq (.reg [⟨(some 11), none, .load none (.t 10)⟩]) (.seq (.reg [⟨(some 3), none, .mv (.t 11)⟩]) .skip)))))))) (.seq (.reg [⟨(some 8), none, .mkSl false 1 [(.int .i64 (0))] 8 [(0, (.c (.d (.int .i64 (0))))), (1, (.c (.d (.int .i64 (0))))), (2, (.c (.d (.int .i64 (2))))), (3, (.c (.d (.int .i64 (1))))), (4, (.c (.d (.int .i64 (3))))), (5, (.c (.d (.int .i64 (2))))), (6, (.c (.d (.int .i64 (1))))), (7, (.c (.d (.int .i64 (1)))))]⟩]) (.seq (.reg [⟨(some 10), none, .indexAddr 1 (.t 8) (.t 9)⟩]) (.seq (.reg [⟨(some 11), none, .load none (.t 10)⟩]) (.seq (.reg [⟨(some 4), none, .mkSl false 1 [(.str (S []))] 8 [(0, (.c (.d (.str (S []))))), (1, (.c (.d (.str (S [98, 101, 103, 105, 110]))))), (2, (.c (.d (.str (S [103, 101, 116]))))), (3, (.c (.d (.str (S [115, 99, 97, 110]))))), (4, (.c (.d (.str (S [112, 117, 116]))))), (5, (.c (.d (.str (S [100, 114, 111, 112]))))), (6, (.c (.d (.str (S [99, 111, 109, 109, 105, 116]))))), (7, (.c (.d (.str (S [97, 98, 111, 114, 116])))))]⟩]) (.seq (.reg [⟨(some 6), none, .indexAddr 1 (.t 4) (.t 5)⟩]) (.seq (.reg [⟨(some 7), none, .load none (.t 6)⟩]) (.seq (.reg [⟨(some 2), none, .mv (.t 7)⟩]) (.seq (.reg [⟨(some 3), none, .mv (.t 11)⟩]) .skip)))))))))))) .ret))
def c10r : List RV := [.tmp 2, .tmp 3]
theorem c10_tr : (Tryd.f10.body.bind (trCode Tryd.prog byref)) = some c10 := by kernel_rfl
theorem c10_rv : trRV Tryd.prog Tryd.f10.results.toList = some c10r := by kernel_rfl

structure Act where
  kind : Int
  txn : Int
  key : Int
  value : Int
def Act.t (a : Act) : T := .agg [.int .i64 a.kind, .int .i64 a.txn, .int .i64 a.key, .int .i64 a.value]
def numsOf (a : Act) : List Int := if a.kind = 1 then [] else if a.kind = 2 ∨ a.kind = 5 then [a.txn, a.key] else if a.kind = 4 then [a.txn, a.key, a.value] else [a.txn]
theorem numbers_ok (a : Act) : FnSem Tryd.prog 15 [a.t] (newL intE 1 (numsOf a)) := by
  refine fn_of mixed (by kernel_rfl) Tryd.func15 Tryd.ntmps15 c15_tr c15_rv (by simp) fun Fn In Sh hFn hIn hSh => ?_
  subst hFn hIn hSh
  unfold c15 c15r
  unfold Act.t
  simp -dsimp only [go_sem, make_rows, ro_rows, Nat.reduceSub, Nat.reduceAdd, Nat.reduceLT, Nat.reduceLeDiff, Nat.reduceMul, Nat.reduceEqDiff, reduceCtorEq, reduceIte, Int.reduceToNat, Int.reduceLE, Int.reduceLT, Int.reduceNe, newL]
  simp only [ilt_eq, ile_eq, ieq_eq, decide_eq_true_eq, decide_eq_false_iff_not, beq_iff_eq, beq_eq_false_iff_ne, Bool.not_eq_true', Bool.not_eq_false', Bool.or_eq_true, Bool.and_eq_true, Bool.or_eq_false_iff, Bool.and_eq_false_iff, ne_eq, Int.not_lt, Int.not_le]
  unfold numsOf
  by_cases h1 : a.kind = 1
  · simp [h1, rowsD_nil, subAt_dead]
  by_cases h2 : a.kind = 2
  · simp [h2, intE]
  by_cases h5 : a.kind = 5
  · simp [h5, intE]
  by_cases h4 : a.kind = 4
  · simp [h4, intE]
  · simp [h1, h2, h4, h5, intE]
def namesL : List (List UInt8) := [[], [98, 101, 103, 105, 110], [103, 101, 116], [115, 99, 97, 110], [112, 117, 116], [100, 114, 111, 112], [99, 111, 109, 109, 105, 116], [97, 98, 111, 114, 116]]
theorem names_ok : FnSem Tryd.prog 14 [] (newL strE 1 namesL) := by
  refine fn_of mixed (by kernel_rfl) Tryd.func14 Tryd.ntmps14 c14_tr c14_rv (by simp) fun Fn In Sh hFn hIn hSh => ?_
  subst hFn hIn hSh
  unfold c14 c14r
  simp -dsimp only [go_sem, make_rows, ro_rows, Nat.reduceSub, Nat.reduceAdd, Nat.reduceLT, Nat.reduceLeDiff, Nat.reduceMul, Nat.reduceEqDiff, reduceCtorEq, reduceIte, Int.reduceToNat, Int.reduceLE, Int.reduceLT, Int.reduceNe, newL, namesL, strE]
def word (k : Int) : List UInt8 := namesL.getD k.toNat []
def cnt (k : Int) : Int := [0, 0, 2, 1, 3, 2, 1, 1].getD k.toNat 0
theorem forms_ok (k : Int) (h1 : 1 ≤ k) (h7 : k ≤ 7) : FnSem Tryd.prog 10 [.d (.int .i64 k)] fun t N => t = .tup [.d (.str (S (word k))), .d (.int .i64 (cnt k))] ∧ N = [] := by
  have hk : k = 1 ∨ k = 2 ∨ k = 3 ∨ k = 4 ∨ k = 5 ∨ k = 6 ∨ k = 7 := by omega
  refine fn_of mixed (by kernel_rfl) Tryd.func10 Tryd.ntmps10 c10_tr c10_rv (by simp) fun Fn In Sh hFn hIn hSh => ?_
  subst hFn hIn hSh
  unfold c10 c10r
  rcases hk with rfl | rfl | rfl | rfl | rfl | rfl | rfl <;> (simp -dsimp only [go_sem, make_rows, ro_rows, Nat.reduceSub, Nat.reduceAdd, Nat.reduceLT, Nat.reduceLeDiff, Nat.reduceMul, Nat.reduceEqDiff, reduceCtorEq, reduceIte, Int.reduceToNat, Int.reduceLE, Int.reduceLT, Int.reduceNe, word, cnt, namesL])
theorem numsOf_get (a : Act) (h1 : 1 ≤ a.kind) (h7 : a.kind ≤ 7) : (numsOf a).length = (cnt a.kind).toNat ∧ 0 ≤ cnt a.kind ∧ ∀ i, i < (numsOf a).length → [a.txn, a.key, a.value].getD i 0 = (numsOf a).getD i 0 := by
  have hk : a.kind = 1 ∨ a.kind = 2 ∨ a.kind = 3 ∨ a.kind = 4 ∨ a.kind = 5 ∨ a.kind = 6 ∨ a.kind = 7 := by omega
  rcases hk with h | h | h | h | h | h | h <;> simp [numsOf, cnt, h] <;> intro i hi <;> (try omega) <;> (have : i = 0 ∨ i = 1 ∨ i = 2 := by omega) <;> rcases this with rfl | rfl | rfl <;> first | rfl | omega
end Go.Proofs.YtgpicngmadkdoaaDoor
