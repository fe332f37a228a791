/- ReplyText, on both sides. -/
import Derived.Test.YtjlgchgjgjcagaaDoorCells
import Derived.Test.YtjlgchgjgjcagaaDoorFormB
set_option linter.unusedVariables false
set_option linter.unusedSimpArgs false
namespace Go.Proofs.YtjlgchgjgjcagaaDoor
open Go Go.R Go.Proofs Go.RowKit
set_option maxRecDepth 100000
attribute [local go_sem ↓] v_skip v_reg v_draw v_alt v_seq v_block v_exit v_ret v_loop o_nil o_g q_mv o_mv q_nil_ o_nil_ q_pick o_pick q_alloc o_alloc q_box o_box q_build o_build q_mkSl o_mkSl q_load o_load q_bin o_bin q_shift o_shift q_un o_un q_conv o_conv q_make o_make q_slice o_slice q_substr o_substr q_fieldAddr o_fieldAddr q_field o_field q_indexAddr o_indexAddr q_strIdx o_strIdx q_extract o_extract q_len o_len q_minmax o_minmax q_nilCheck o_nilCheck q_mkFn o_mkFn q_call o_call q_callF o_callF l_mkSl o_mkSlM l_store o_store l_append o_append l_copy o_copy l_callR o_callR v_cond callQ_eq
attribute [local go_sem] condv_t condv_f g_tt g_ff g_tf g_ft Norm_eq Opd.get putT List.length_cons List.length_nil List.length_append List.replicate List.cons_append List.nil_append List.append_assoc List.set List.set_cons_zero List.set_cons_succ List.getD_cons_zero List.getD_cons_succ List.getD_nil List.map_cons List.map_nil List.zipIdx_cons List.zipIdx_nil List.any_cons List.any_nil List.all_cons List.all_nil List.flatMap_cons List.flatMap_nil List.foldl_cons List.foldl_nil List.take_succ_cons List.take_zero List.take_nil List.drop_succ_cons List.drop_zero List.drop_nil List.flatten_cons List.flatten_nil List.length_map roL owL arrL List.range_succ List.range_zero List.append_nil binInt true_and and_true false_and and_false Bool.not_true Bool.not_false Bool.and_self Bool.true_and Bool.and_true Bool.false_and Bool.and_false Bool.or_false Bool.or_true Bool.false_or Bool.true_or Bool.false_eq_true false_implies true_implies implies_true forall_const if_true if_false beq_self_eq_true BEq.rfl decide_true decide_false decide_eq_true_eq eq_self Option.getD_none Option.getD_some Option.map_some Option.map_none Option.isNone_none Option.isNone_some Nat.le_refl Int.le_refl Nat.zero_add Nat.add_zero Nat.zero_le Nat.sub_zero Nat.zero_mul Nat.one_mul Nat.lt_one_iff Nat.zero_lt_one Int.toNat_natCast Int.toNat_zero Int.toNat_one Int.natCast_zero retPost inPost rets T.known T.cells T.one takeAll take_ regroup retD retH final nodeR nodeIn pathOk pathIn Obj.rows loadCell setList Heap.put Obj.put setIn splitLast Heap.drop_ arrAt Heap.kill Obj.kill T.kill D.kill D.thru thruPath params T.param D.param paramCells cellP cellsP capsP rps D.ro T.back T.back1 D.back T.closed D.closed T.clean D.clean D.still view optInt optOk chunk isEq eqDs eqD source capIds D.flat bytesOfAt D.isByte D.byte rowsD_cons_zero subAt_rows shiftAt_rows  drop_mapE take_mapE List.take_length app_rows ro_ints ro_strs ro_bytes big rowsD_cons_succ S_add S_size strEq_S Int.natCast_add Int.cast_ofNat_Int List.mem_cons List.not_mem_nil false_or or_false true_or or_true forall_eq_or_imp forall_eq T.d.injEq T.agg.injEq T.tup.injEq D.int.injEq D.bool.injEq D.str.injEq List.cons.injEq Prod.mk.injEq Option.some.injEq
attribute [local go_sem low] condv_b g_b

structure Reply where
  code : Int
  value : Int
  cells : List Cell
deriving DecidableEq, Inhabited
def replyE (r : Reply) : List D := [.int .i64 r.code, .int .i64 r.value, roL cellE 2 r.cells]
-- laws.szReply
def c10 : MC := (.seq (.reg [⟨(some 2), none, .box (.t 0)⟩,
    ⟨(some 4), none, .mv (.c (.d (.int .i64 (0))))⟩]) (.seq (.reg [⟨(some 5), none, .fieldAddr 2 (.t 2)⟩,
    ⟨(some 6), none, .load none (.t 5)⟩,
    ⟨(some 7), none, .mv (.t 1)⟩,
    ⟨(some 8), none, .call 26 [(.t 6), (.t 7)]⟩,
    ⟨(some 1), none, .mv (.t 8)⟩]) (.seq (.seq (.reg [⟨(some 9), none, .mv (.t 1)⟩,
    ⟨(some 10), none, .bin .lss (.int .i64) (.t 9) (.c (.d (.int .i64 (0))))⟩]) (.cond (.t 10) (.seq (.reg [⟨(some 4), none, .mv (.c (.d (.int .i64 (-1))))⟩]) .ret) .skip)) (.seq (.reg [⟨(some 11), none, .mv (.t 1)⟩,
    ⟨(some 4), none, .mv (.t 11)⟩]) .ret))))
def c10r : List RV := [.tmp 4]
theorem c10_tr : (Tryd.f10.body.bind (trCode Tryd.prog byref)) = some c10 := by kernel_rfl
theorem c10_rv : trRV Tryd.prog Tryd.f10.results.toList = some c10r := by kernel_rfl

-- laws.toReply
def c12 : MC := (.seq (.reg [⟨(some 1), none, .box (.t 0)⟩,
    ⟨(some 2), none, .alloc [(.int .i64 (0)), (.int .i64 (0)), (.sl true 2 0 fun _ _ => .dead)]⟩]) (.seq (.reg [⟨(some 3), none, .alloc [(.int .i64 (0)), (.int .i64 (0)), (.sl true 2 0 fun _ _ => .dead)]⟩]) (.seq (.reg [⟨(some 4), none, .fieldAddr 0 (.t 1)⟩,
    ⟨(some 5), none, .load none (.t 4)⟩,
    ⟨(some 6), none, .fieldAddr 0 (.t 3)⟩,
    ⟨none, none, .store 1 (.t 6) (.t 5)⟩]) (.seq (.reg [⟨(some 7), none, .fieldAddr 1 (.t 1)⟩,
    ⟨(some 8), none, .load none (.t 7)⟩,
    ⟨(some 9), none, .fieldAddr 1 (.t 3)⟩,
    ⟨none, none, .store 1 (.t 9) (.t 8)⟩]) (.seq (.reg [⟨(some 10), none, .fieldAddr 2 (.t 1)⟩,
    ⟨(some 11), none, .load none (.t 10)⟩,
    ⟨(some 12), none, .call 27 [(.t 11)]⟩,
    ⟨(some 13), none, .fieldAddr 2 (.t 3)⟩,
    ⟨none, none, .store 1 (.t 13) (.t 12)⟩]) (.seq (.reg [⟨(some 14), none, .load (some 3) (.t 3)⟩,
    ⟨none, none, .store 3 (.t 2) (.t 14)⟩]) .ret))))))
def c12r : List RV := [.cell 2 (some 3)]
theorem c12_tr : (Tryd.f12.body.bind (trCode Tryd.prog byref)) = some c12 := by kernel_rfl
theorem c12_rv : trRV Tryd.prog Tryd.f12.results.toList = some c12r := by kernel_rfl

-- laws.eqReply
def c14 : MC := (.seq (.reg [⟨(some 2), none, .box (.t 0)⟩,
    ⟨(some 3), none, .box (.t 1)⟩,
    ⟨(some 4), none, .mv (.c (.d (.bool false)))⟩]) (.seq (.seq (.reg [⟨(some 5), none, .fieldAddr 0 (.t 2)⟩,
    ⟨(some 6), none, .load none (.t 5)⟩,
    ⟨(some 7), none, .fieldAddr 0 (.t 3)⟩,
    ⟨(some 8), none, .load none (.t 7)⟩,
    ⟨(some 9), none, .bin .neq (.int .i64) (.t 6) (.t 8)⟩]) (.cond (.t 9) (.seq (.reg [⟨(some 4), none, .mv (.c (.d (.bool false)))⟩]) .ret) .skip)) (.seq (.seq (.reg [⟨(some 10), none, .fieldAddr 1 (.t 2)⟩,
    ⟨(some 11), none, .load none (.t 10)⟩,
    ⟨(some 12), none, .fieldAddr 1 (.t 3)⟩,
    ⟨(some 13), none, .load none (.t 12)⟩,
    ⟨(some 14), none, .bin .neq (.int .i64) (.t 11) (.t 13)⟩]) (.cond (.t 14) (.seq (.reg [⟨(some 4), none, .mv (.c (.d (.bool false)))⟩]) .ret) .skip)) (.seq (.seq (.reg [⟨(some 15), none, .fieldAddr 2 (.t 2)⟩,
    ⟨(some 16), none, .load none (.t 15)⟩,
    ⟨(some 17), none, .fieldAddr 2 (.t 3)⟩,
    ⟨(some 18), none, .load none (.t 17)⟩,
    ⟨(some 19), none, .call 30 [(.t 16), (.t 18)]⟩,
    ⟨(some 20), none, .un .not .bool (.t 19)⟩]) (.cond (.t 20) (.seq (.reg [⟨(some 4), none, .mv (.c (.d (.bool false)))⟩]) .ret) .skip)) (.seq (.reg [⟨(some 4), none, .mv (.c (.d (.bool true)))⟩]) .ret)))))
def c14r : List RV := [.tmp 4]
theorem c14_tr : (Tryd.f14.body.bind (trCode Tryd.prog byref)) = some c14 := by kernel_rfl
theorem c14_rv : trRV Tryd.prog Tryd.f14.results.toList = some c14r := by kernel_rfl

-- impl.ReplyText$1
def c29 : MC := (.seq (.reg [⟨(some 1), none, .box (.t 0)⟩,
    ⟨(some 2), none, .mv (.c (.d (.bool false)))⟩]) (.seq (.reg [⟨(some 3), none, .fieldAddr 0 (.t 1)⟩,
    ⟨(some 4), none, .load none (.t 3)⟩,
    ⟨(some 5), none, .bin .lss (.int .i64) (.t 4) (.c (.d (.int .i64 (0))))⟩,
    ⟨(some 6), none, .mv (.t 5)⟩,
    ⟨(some 7), (some (6, false)), .fieldAddr 1 (.t 1)⟩,
    ⟨(some 8), (some (6, false)), .load none (.t 7)⟩,
    ⟨(some 9), (some (6, false)), .bin .lss (.int .i64) (.t 8) (.c (.d (.int .i64 (0))))⟩,
    ⟨(some 10), none, .pick (.t 6) (.c (.d (.bool true))) (.t 9)⟩,
    ⟨(some 2), none, .mv (.t 10)⟩]) .ret))
def c29r : List RV := [.tmp 2]
theorem c29_tr : (Tryd.f29.body.bind (trCode Tryd.prog byref)) = some c29 := by kernel_rfl
theorem c29_rv : trRV Tryd.prog Tryd.f29.results.toList = some c29r := by kernel_rfl

-- impl.ReplyText
def c13L0 : MC := (.seq (.reg [⟨(some 36), none, .bin .lss (.int .i64) (.t 35) (.t 34)⟩]) (.seq (.cond (.t 36) .skip (.exit 0)) (.seq (.block 1 (.seq (.reg [⟨(some 37), none, .indexAddr 2 (.t 33) (.t 35)⟩,
    ⟨(some 38), none, .load (some 2) (.t 37)⟩,
    ⟨(some 5), none, .alloc [(.int .i64 (0)), (.int .i64 (0))]⟩,
    ⟨none, none, .store 2 (.t 5) (.t 38)⟩]) (.reg [⟨(some 39), none, .mv (.t 3)⟩,
    ⟨(some 40), none, .fieldAddr 0 (.t 5)⟩,
    ⟨(some 41), none, .load none (.t 40)⟩,
    ⟨(some 44), none, .fieldAddr 1 (.t 5)⟩,
    ⟨(some 45), none, .load none (.t 44)⟩,
    ⟨(some 42), none, .call 24 [(.t 41)]⟩,
    ⟨(some 43), none, .bin .add .str (.t 42) (.c (.d (.str (S [61]))))⟩,
    ⟨(some 46), none, .call 24 [(.t 45)]⟩,
    ⟨(some 47), none, .bin .add .str (.t 43) (.t 46)⟩,
    ⟨(some 48), none, .mkSl false 1 [(.str (S []))] 1 [(0, (.t 47))]⟩,
    ⟨(some 49), none, .append 1 16 true (.t 39) (.t 48)⟩,
    ⟨(some 3), none, .mv (.t 49)⟩]))) (.reg [⟨(some 50), none, .bin .add (.int .i64) (.t 35) (.c (.d (.int .i64 (1))))⟩,
    ⟨(some 35), none, .mv (.t 50)⟩]))))
def c13R0 : MC := (.seq (.reg [⟨(some 51), none, .mv (.t 3)⟩,
    ⟨(some 52), none, .call 25 [(.t 51)]⟩,
    ⟨(some 53), none, .build [(.int .i64 (0)), (.str (S []))] [(1, 1, (.t 52))]⟩,
    ⟨none, none, .store 2 (.t 2) (.t 53)⟩]) .ret)
def c13 : MC := (.seq (.reg [⟨(some 1), none, .box (.t 0)⟩,
    ⟨(some 2), none, .alloc [(.int .i64 (0)), (.str (S []))]⟩]) (.seq (.seq (.reg [⟨(some 6), none, .fieldAddr 0 (.t 1)⟩,
    ⟨(some 7), none, .load none (.t 6)⟩,
    ⟨(some 8), none, .bin .lss (.int .i64) (.t 7) (.c (.d (.int .i64 (0))))⟩,
    ⟨(some 9), none, .mv (.t 8)⟩,
    ⟨(some 10), (some (9, false)), .fieldAddr 1 (.t 1)⟩,
    ⟨(some 11), (some (9, false)), .load none (.t 10)⟩,
    ⟨(some 12), (some (9, false)), .bin .lss (.int .i64) (.t 11) (.c (.d (.int .i64 (0))))⟩,
    ⟨(some 13), none, .pick (.t 9) (.c (.d (.bool true))) (.t 12)⟩,
    ⟨(some 14), none, .mv (.t 13)⟩,
    ⟨(some 15), (some (14, false)), .fieldAddr 2 (.t 1)⟩,
    ⟨(some 16), (some (14, false)), .load none (.t 15)⟩,
    ⟨(some 17), (some (14, false)), .call 28 [(.t 16), (.c (.d (.fn 29 [])))]⟩,
    ⟨(some 18), none, .pick (.t 14) (.c (.d (.bool true))) (.t 17)⟩]) (.cond (.t 18) (.seq (.reg [⟨(some 19), none, .build [(.int .i64 (0)), (.str (S []))] [(0, 1, (.c (.d (.int .i64 (3)))))]⟩,
    ⟨none, none, .store 2 (.t 2) (.t 19)⟩]) .ret) .skip)) (.seq (.seq (.reg [⟨(some 20), none, .fieldAddr 0 (.t 1)⟩,
    ⟨(some 21), none, .load none (.t 20)⟩,
    ⟨(some 22), none, .bin .neq (.int .i64) (.t 21) (.c (.d (.int .i64 (0))))⟩]) (.cond (.t 22) (.seq (.reg [⟨(some 23), none, .fieldAddr 0 (.t 1)⟩,
    ⟨(some 24), none, .load none (.t 23)⟩,
    ⟨(some 25), none, .call 24 [(.t 24)]⟩,
    ⟨(some 26), none, .bin .add .str (.c (.d (.str (S [33, 32])))) (.t 25)⟩,
    ⟨(some 27), none, .build [(.int .i64 (0)), (.str (S []))] [(1, 1, (.t 26))]⟩,
    ⟨none, none, .store 2 (.t 2) (.t 27)⟩]) .ret) .skip)) (.seq (.reg [⟨(some 28), none, .fieldAddr 1 (.t 1)⟩,
    ⟨(some 29), none, .load none (.t 28)⟩,
    ⟨(some 30), none, .call 24 [(.t 29)]⟩,
    ⟨(some 31), none, .mkSl false 1 [(.str (S []))] 2 [(0, (.c (.d (.str (S [111, 107]))))), (1, (.t 30))]⟩,
    ⟨(some 3), none, .mv (.t 31)⟩]) (.seq (.seq (.reg [⟨(some 32), none, .fieldAddr 2 (.t 1)⟩,
    ⟨(some 33), none, .load none (.t 32)⟩,
    ⟨(some 34), none, .len false (.t 33)⟩,
    ⟨(some 35), none, .mv (.c (.d (.int .i64 (0))))⟩]) (.block 0 (.loop c13L0))) c13R0)))))
def c13r : List RV := [.cell 2 (some 2)]
theorem c13_tr : (Tryd.f13.body.bind (trCode Tryd.prog byref)) = some c13 := by kernel_rfl
theorem c13_rv : trRV Tryd.prog Tryd.f13.results.toList = some c13r := by kernel_rfl

theorem has_conC : Prg Tryd.prog 28 9 (conFC 39) [.tmp 4] := ⟨mixed, by kernel_rfl, byref, _, Tryd.func28, by kernel_rfl, by kernel_rfl, by kernel_rfl⟩
theorem has_idxC : Prg Tryd.prog 39 19 (idxFC 2 (some 2)) [.tmp 4] := ⟨mixed, by kernel_rfl, byref, _, Tryd.func39, by kernel_rfl, by kernel_rfl, by kernel_rfl⟩
theorem szReply_ok (r : Reply) (n : Int) (h1 : 0 ≤ n) (h2 : n ≤ 1048576) (hl : r.cells.length ≤ 9223372036854775807) : FnSem Tryd.prog 10 [.agg (replyE r), .d (.int .i64 n)] fun t N => t = .d (.int .i64 (if n < r.cells.length then -1 else n - r.cells.length)) ∧ N = [] := by
  refine fn_of mixed (by kernel_rfl) Tryd.func10 Tryd.ntmps10 c10_tr c10_rv (by simp) fun Fn In Sh hFn hIn hSh => ?_
  subst hFn hIn hSh
  unfold c10 c10r
  unfold replyE
  simp -dsimp only [go_sem, make_rows, ro_rows, Nat.reduceSub, Nat.reduceAdd, Nat.reduceLT, Nat.reduceLeDiff, Nat.reduceMul, Nat.reduceEqDiff, reduceCtorEq, reduceIte, Int.reduceToNat, Int.reduceLE, Int.reduceLT, Int.reduceNe]
  refine step1 (szCellS_ok r.cells n h1 h2 hl) ?_
  simp -dsimp only [go_sem, make_rows, ro_rows, Nat.reduceSub, Nat.reduceAdd, Nat.reduceLT, Nat.reduceLeDiff, Nat.reduceMul, Nat.reduceEqDiff, reduceCtorEq, reduceIte, Int.reduceToNat, Int.reduceLE, Int.reduceLT, Int.reduceNe]
  simp only [ilt_eq, ile_eq, ieq_eq, decide_eq_true_eq, decide_eq_false_iff_not, beq_iff_eq, beq_eq_false_iff_ne, Bool.not_eq_true', Bool.not_eq_false', Bool.or_eq_true, Bool.and_eq_true, Bool.or_eq_false_iff, Bool.and_eq_false_iff, ne_eq, Int.not_lt, Int.not_le]
  intro h
  by_cases h3 : n < r.cells.length
  · rw [if_pos h3]
  · rw [if_neg h3] at h; omega
def badC (c : Cell) : Bool := decide (c.key < 0) || decide (c.value < 0)
theorem badC_ok (c : Cell) : FnSem Tryd.prog 29 [.agg (cellE c)] fun t N => t = .d (.bool (badC c)) ∧ N = [] := by
  refine fn_of mixed (by kernel_rfl) Tryd.func29 Tryd.ntmps29 c29_tr c29_rv (by simp) fun Fn In Sh hFn hIn hSh => ?_
  subst hFn hIn hSh
  unfold c29 c29r
  unfold cellE
  simp -dsimp only [go_sem, make_rows, ro_rows, Nat.reduceSub, Nat.reduceAdd, Nat.reduceLT, Nat.reduceLeDiff, Nat.reduceMul, Nat.reduceEqDiff, reduceCtorEq, reduceIte, Int.reduceToNat, Int.reduceLE, Int.reduceLT, Int.reduceNe]
  simp only [ilt_eq, badC]
  refine ⟨fun h => ?_, fun h => ?_⟩ <;> simp [h]
theorem toReply_ok (r : Reply) (hl : r.cells.length ≤ 1000000000000) : FnSem Tryd.prog 12 [.agg (replyE r)] fun t N => t = .agg [.int .i64 r.code, .int .i64 r.value, .own 0 [] r.cells.length 0 r.cells.length] ∧ N = [some (arrL cellE 2 r.cells)] := by
  refine fn_of mixed (by kernel_rfl) Tryd.func12 Tryd.ntmps12 c12_tr c12_rv (by simp) fun Fn In Sh hFn hIn hSh => ?_
  subst hFn hIn hSh
  unfold c12 c12r
  unfold replyE
  simp -dsimp only [go_sem, make_rows, ro_rows, Nat.reduceSub, Nat.reduceAdd, Nat.reduceLT, Nat.reduceLeDiff, Nat.reduceMul, Nat.reduceEqDiff, reduceCtorEq, reduceIte, Int.reduceToNat, Int.reduceLE, Int.reduceLT, Int.reduceNe]
  refine step1 (toCellS_ok r.cells hl) ?_
  simp -dsimp only [go_sem, make_rows, ro_rows, Nat.reduceSub, Nat.reduceAdd, Nat.reduceLT, Nat.reduceLeDiff, Nat.reduceMul, Nat.reduceEqDiff, reduceCtorEq, reduceIte, Int.reduceToNat, Int.reduceLE, Int.reduceLT, Int.reduceNe]
theorem eqReply_ok (r s : Reply) (hl : r.cells.length < 9223372036854775807) : FnSem Tryd.prog 14 [.agg (replyE r), .agg (replyE s)] fun t N => t = .d (.bool (decide (r = s))) ∧ N = [] := by
  refine fn_of mixed (by kernel_rfl) Tryd.func14 Tryd.ntmps14 c14_tr c14_rv (by simp) fun Fn In Sh hFn hIn hSh => ?_
  subst hFn hIn hSh
  unfold c14 c14r
  unfold replyE
  obtain ⟨c1, v1, l1⟩ := r
  obtain ⟨c2, v2, l2⟩ := s
  simp only at hl ⊢
  simp -dsimp only [go_sem, make_rows, ro_rows, Nat.reduceSub, Nat.reduceAdd, Nat.reduceLT, Nat.reduceLeDiff, Nat.reduceMul, Nat.reduceEqDiff, reduceCtorEq, reduceIte, Int.reduceToNat, Int.reduceLE, Int.reduceLT, Int.reduceNe]
  simp only [Bool.not_eq_true', Bool.not_eq_false', ieq_eq, beq_iff_eq, beq_eq_false_iff_ne, Reply.mk.injEq, ne_eq]
  refine ⟨fun h => by simp [h], fun h => ⟨fun h2 => by simp [h2], fun h2 => ?_⟩⟩
  refine step1 (eqCellS_ok l1 l2 hl) ?_
  simp -dsimp only [go_sem, make_rows, ro_rows, Nat.reduceSub, Nat.reduceAdd, Nat.reduceLT, Nat.reduceLeDiff, Nat.reduceMul, Nat.reduceEqDiff, reduceCtorEq, reduceIte, Int.reduceToNat, Int.reduceLE, Int.reduceLT, Int.reduceNe]
  by_cases h3 : l1 = l2 <;> simp [h, h2, h3]
def cellTxt (c : Cell) : List UInt8 := Lib.itoa c.key ++ 61 :: Lib.itoa c.value
def replyR (r : Reply) : T := if decide (r.code < 0) || decide (r.value < 0) || r.cells.any badC then txt 3 [] else if r.code ≠ 0 then txt 0 (33 :: 32 :: Lib.itoa r.code) else txt 0 (Lib.join ([111, 107] :: Lib.itoa r.value :: r.cells.map cellTxt) [32])
def Reply.good (r : Reply) : Prop := I64 r.code ∧ I64 r.value ∧ ∀ c ∈ r.cells, I64 c.key ∧ I64 c.value
theorem itoa_len (x : Int) (h : I64 x) : (Lib.itoa x).length ≤ 21 := Lib.itoa_length_le x h.1 h.2
theorem has_con (l : List Cell) (hl : l.length < 9223372036854775807) (szs : Nat → Nat) (rows : Nat → Nat → D) : FnSem Tryd.prog 28 [.d (roL cellE 2 l), .d (.rfn 29 0 szs rows)] fun t N => t = .d (.bool (l.any badC)) ∧ N = [] :=
  conF_ok has_conC has_idxC (.inr rfl) (fun _ => rfl) (fun _ => rfl) l badC (fun a _ => badC_ok a) hl
theorem implReply_ok (r : Reply) (hg : r.good) (hl : r.cells.length ≤ 1048576) : FnSem Tryd.prog 13 [.agg (replyE r)] fun t N => t = replyR r ∧ N = [] := by
  obtain ⟨hg1, hg2, hg3⟩ := hg
  have main : r.code < 0 ∨ r.value < 0 → replyR r = txt 3 [] := by
    intro h
    unfold replyR
    rw [if_pos]
    rcases h with h | h <;> simp [h]
  have hda : ∀ c, c ∈ r.cells → (cellTxt c).length ≤ 43 := by
    intro c hc
    have h1 := itoa_len c.key (hg3 c hc).1
    have h2 := itoa_len c.value (hg3 c hc).2
    simp [cellTxt]; omega
  have hl1 := itoa_len r.code hg1
  have hl2 := itoa_len r.value hg2
  refine fn_of mixed (by kernel_rfl) Tryd.func13 Tryd.ntmps13 c13_tr c13_rv (by simp) fun Fn In Sh hFn hIn hSh => ?_
  subst hFn hIn hSh
  unfold c13 c13r
  unfold replyE
  simp -dsimp only [go_sem, make_rows, ro_rows, Nat.reduceSub, Nat.reduceAdd, Nat.reduceLT, Nat.reduceLeDiff, Nat.reduceMul, Nat.reduceEqDiff, reduceCtorEq, reduceIte, Int.reduceToNat, Int.reduceLE, Int.reduceLT, Int.reduceNe]
  simp only [ilt_eq, decide_eq_false_iff_not, decide_eq_true_eq]
  refine ⟨fun h1 => ⟨fun h2 => ?_, fun h2 => ?_⟩, fun h1 => ?_⟩
  · refine step1 (has_con r.cells (by omega) _ _) ?_
    simp -dsimp only [go_sem, make_rows, ro_rows, Nat.reduceSub, Nat.reduceAdd, Nat.reduceLT, Nat.reduceLeDiff, Nat.reduceMul, Nat.reduceEqDiff, reduceCtorEq, reduceIte, Int.reduceToNat, Int.reduceLE, Int.reduceLT, Int.reduceNe]
    refine ⟨fun hb => ?_, fun hb => ?_⟩
    · unfold replyR; rw [if_pos (by simp [hb])]; rfl
    simp only [Bool.not_eq_true', Bool.not_eq_false']
    refine ⟨fun h3 => ?_, fun h3 => ?_⟩
    · refine step1 (dec_ok r.code hg1) ?_
      simp -dsimp only [go_sem, make_rows, ro_rows, Nat.reduceSub, Nat.reduceAdd, Nat.reduceLT, Nat.reduceLeDiff, Nat.reduceMul, Nat.reduceEqDiff, reduceCtorEq, reduceIte, Int.reduceToNat, Int.reduceLE, Int.reduceLT, Int.reduceNe]
      rw [ieq_eq, beq_eq_false_iff_ne] at h3
      unfold replyR
      rw [if_neg (by simp [h1, h2, hb]), if_pos h3]
      exact ⟨by omega, rfl⟩
    rw [ieq_eq, beq_iff_eq] at h3
    refine step1 (dec_ok r.value hg2) ?_
    simp -dsimp only [go_sem, make_rows, ro_rows, Nat.reduceSub, Nat.reduceAdd, Nat.reduceLT, Nat.reduceLeDiff, Nat.reduceMul, Nat.reduceEqDiff, reduceCtorEq, reduceIte, Int.reduceToNat, Int.reduceLE, Int.reduceLT, Int.reduceNe]
    have hfin : replyR r = txt 0 (Lib.join ([111, 107] :: Lib.itoa r.value :: r.cells.map cellTxt) [32]) := by
      unfold replyR
      rw [if_neg (by simp [h1, h2, hb]), if_neg (by simp [h3])]
    refine loopI (fun k s => ∃ i ws, i ≤ r.cells.length ∧ k = r.cells.length - i ∧ ws = [111, 107] :: Lib.itoa r.value :: (r.cells.take i).map cellTxt ∧ (Lib.join ws [32]).length ≤ 30 + 44 * i ∧
      s = ⟨(.d .dead :: .d .dead :: .d (.ptr 1 [] 1 0 0) :: .d (.own 2 [] ws.length 0 ws.length) :: .d .dead :: .d .dead :: .d .dead :: .d .dead :: .d .dead :: .d .dead :: .d .dead :: .d .dead :: .d .dead :: .d .dead :: .d .dead :: .d .dead :: .d .dead :: .d .dead :: .d .dead :: .d .dead :: .d .dead :: .d .dead :: .d .dead :: .d .dead :: .d .dead :: .d .dead :: .d .dead :: .d .dead :: .d .dead :: .d .dead :: .d .dead :: .d .dead :: .d .dead :: .d (roL cellE 2 r.cells) :: .d (.int .i64 (r.cells.length : Int)) :: .d (.int .i64 (i : Int)) :: .d .dead :: .d .dead :: .d .dead :: .d .dead :: .d .dead :: .d .dead :: .d .dead :: .d .dead :: .d .dead :: .d .dead :: .d .dead :: .d .dead :: .d .dead :: .d .dead :: .d .dead :: .d .dead :: .d .dead :: .d .dead :: []), [none, some (.box [.int .i64 0, .str (S [])]), some (arrL strE 1 ws)], []⟩) r.cells.length _ (Shift.keep0 [0, 1, 2] (by decide) ?_ ?_) ⟨0, _, Nat.zero_le _, rfl, rfl, ?_, rfl⟩ ?_
    · simp only [KeepH, KeepO, KeepDs, KeepD, KeepTs, KeepT, KeepU, D.ren, D.inR, List.getD_cons_zero, List.getD_cons_succ, List.getD_nil, and_true, true_and, true_or, or_true, eq_self, reduceCtorEq, false_or, or_false, and_self, List.length_cons, List.length_nil, Nat.reduceAdd, Nat.reduceLT, Nat.zero_lt_succ, arrL]
      simp [strE]
    · simp only [KeepH, KeepO, KeepDs, KeepD, KeepTs, KeepT, KeepU, D.ren, D.inR, List.getD_cons_zero, List.getD_cons_succ, List.getD_nil, and_true, true_and, true_or, or_true, eq_self, reduceCtorEq, false_or, or_false, and_self, List.length_cons, List.length_nil, Nat.reduceAdd, Nat.reduceLT, Nat.zero_lt_succ, roL]
      simp
    · simp [Lib.join, List.intercalate]; omega
    rintro k s ⟨i, ws, hi, rfl, hws, hwl, rfl⟩
    unfold c13L0
    by_cases hlt : i < r.cells.length
    · have hc : ilt (i : Int) (r.cells.length : Int) = true := ilt_t (by omega)
      have hi1 := inc64 (show i < 9223372036854775807 by omega)
      have hra := row_at (enc := cellE) hlt
      have hmem : r.cells.getD i default ∈ r.cells := by simp [List.getD_eq_getElem?_getD, hlt]
      have hgx := hg3 _ hmem
      have htk := take_snoc r.cells default hlt
      generalize r.cells.getD i default = x at hra hgx htk
      have hx1 := itoa_len x.key hgx.1
      have hx2 := itoa_len x.value hgx.2
      have hw2 : ws.length ≤ i + 2 := by rw [hws]; simp; omega
      have hw0 : ws ≠ [] := by rw [hws]; simp
      have hj := join_snoc ws (cellTxt x) [32] hw0
      simp -dsimp only [go_sem, make_rows, ro_rows, Nat.reduceSub, Nat.reduceAdd, Nat.reduceLT, Nat.reduceLeDiff, Nat.reduceMul, Nat.reduceEqDiff, reduceCtorEq, reduceIte, Int.reduceToNat, Int.reduceLE, Int.reduceLT, Int.reduceNe, hc, hi1, hra, cellE]
      repeat (refine ⟨by omega, ?_⟩)
      refine step1 (dec_ok x.key hgx.1) ?_
      simp -dsimp only [go_sem, make_rows, ro_rows, Nat.reduceSub, Nat.reduceAdd, Nat.reduceLT, Nat.reduceLeDiff, Nat.reduceMul, Nat.reduceEqDiff, reduceCtorEq, reduceIte, Int.reduceToNat, Int.reduceLE, Int.reduceLT, Int.reduceNe, hc, hi1, hra, cellE]
      repeat (refine ⟨by omega, ?_⟩)
      refine step1 (dec_ok x.value hgx.2) ?_
      simp -dsimp only [go_sem, make_rows, ro_rows, Nat.reduceSub, Nat.reduceAdd, Nat.reduceLT, Nat.reduceLeDiff, Nat.reduceMul, Nat.reduceEqDiff, reduceCtorEq, reduceIte, Int.reduceToNat, Int.reduceLE, Int.reduceLT, Int.reduceNe, hc, hi1, hra, cellE]
      repeat (refine ⟨by omega, ?_⟩)
      refine next (r.cells.length - (i + 1)) _ (by omega) (Shift.keep0 [0, 1, 5] (by decide) ?_ ?_) ⟨i + 1, ws ++ [cellTxt x], by omega, rfl, ?_, ?_, rfl⟩
      · simp only [KeepH, KeepO, KeepDs, KeepD, KeepTs, KeepT, KeepU, D.ren, D.inR, List.getD_cons_zero, List.getD_cons_succ, List.getD_nil, and_true, true_and, true_or, or_true, eq_self, reduceCtorEq, false_or, or_false, and_self, List.length_cons, List.length_nil, Nat.reduceAdd, Nat.reduceLT, Nat.zero_lt_succ, arrL]
        simp [strE, cellTxt]
      · simp only [KeepH, KeepO, KeepDs, KeepD, KeepTs, KeepT, KeepU, D.ren, D.inR, List.getD_cons_zero, List.getD_cons_succ, List.getD_nil, and_true, true_and, true_or, or_true, eq_self, reduceCtorEq, false_or, or_false, and_self, List.length_cons, List.length_nil, Nat.reduceAdd, Nat.reduceLT, Nat.zero_lt_succ, roL]
        simp
      · rw [hws, htk]; simp
      · rw [hj]; simp [cellTxt]; omega
    · have hc : ilt (i : Int) (r.cells.length : Int) = false := ilt_f (by omega)
      have hi2 : i = r.cells.length := by omega
      unfold c13R0
      have hw2 : ws.length ≤ i + 2 := by rw [hws]; simp; omega
      simp -dsimp only [go_sem, make_rows, ro_rows, Nat.reduceSub, Nat.reduceAdd, Nat.reduceLT, Nat.reduceLeDiff, Nat.reduceMul, Nat.reduceEqDiff, reduceCtorEq, reduceIte, Int.reduceToNat, Int.reduceLE, Int.reduceLT, Int.reduceNe, hc]
      refine step1 (joined_ok ws (by omega) (by omega)) ?_
      simp -dsimp only [go_sem, make_rows, ro_rows, Nat.reduceSub, Nat.reduceAdd, Nat.reduceLT, Nat.reduceLeDiff, Nat.reduceMul, Nat.reduceEqDiff, reduceCtorEq, reduceIte, Int.reduceToNat, Int.reduceLE, Int.reduceLT, Int.reduceNe, hc]
      rw [hfin, hws, hi2, List.take_length]; rfl
  · rw [main (.inr h2)]; rfl
  · rw [main (.inl h1)]; rfl
end Go.Proofs.YtjlgchgjgjcagaaDoor
