/- ParseAct: numbers, acts. -/
import Derived.Test.YtgpicngmadkdoaaDoorParseA
set_option linter.unusedVariables false
set_option linter.unusedSimpArgs false
namespace Go.Proofs.YtgpicngmadkdoaaDoor
open Go Go.R Go.Proofs Go.RowKit
set_option maxRecDepth 100000
attribute [local go_sem ↓] v_skip v_reg v_draw v_alt v_seq v_block v_exit v_ret v_loop o_nil o_g q_mv o_mv q_nil_ o_nil_ q_pick o_pick q_alloc o_alloc q_box o_box q_build o_build q_mkSl o_mkSl q_load o_load q_bin o_bin q_shift o_shift q_un o_un q_conv o_conv q_make o_make q_slice o_slice q_substr o_substr q_fieldAddr o_fieldAddr q_field o_field q_indexAddr o_indexAddr q_strIdx o_strIdx q_extract o_extract q_len o_len q_minmax o_minmax q_nilCheck o_nilCheck q_mkFn o_mkFn q_call o_call q_callF o_callF l_mkSl o_mkSlM l_store o_store l_append o_append l_copy o_copy l_clear o_clear l_callR o_callR v_cond callQ_eq
attribute [local go_sem] condv_t condv_f g_tt g_ff g_tf g_ft Norm_eq Opd.get putT List.length_cons List.length_nil List.length_append List.replicate List.cons_append List.nil_append List.append_assoc List.set List.set_cons_zero List.set_cons_succ List.getD_cons_zero List.getD_cons_succ List.getD_nil List.map_cons List.map_nil List.zipIdx_cons List.zipIdx_nil List.any_cons List.any_nil List.all_cons List.all_nil List.flatMap_cons List.flatMap_nil List.foldl_cons List.foldl_nil List.take_succ_cons List.take_zero List.take_nil List.drop_succ_cons List.drop_zero List.drop_nil List.flatten_cons List.flatten_nil List.length_map roL owL arrL List.range_succ List.range_zero List.append_nil binInt true_and and_true false_and and_false Bool.not_true Bool.not_false Bool.and_self Bool.true_and Bool.and_true Bool.false_and Bool.and_false Bool.or_false Bool.or_true Bool.false_or Bool.true_or Bool.false_eq_true false_implies true_implies implies_true forall_const if_true if_false beq_self_eq_true BEq.rfl decide_true decide_false decide_eq_true_eq eq_self Option.getD_none Option.getD_some Option.map_some Option.map_none Option.isNone_none Option.isNone_some Nat.le_refl Int.le_refl Nat.zero_add Nat.add_zero Nat.zero_le Nat.sub_zero Nat.zero_mul Nat.one_mul Nat.lt_one_iff Nat.zero_lt_one Int.toNat_natCast Int.toNat_zero Int.toNat_one Int.natCast_zero retPost inPost rets T.known T.cells T.one takeAll take_ regroup retD retH final nodeR nodeIn pathOk pathIn Obj.rows loadCell setList Heap.put Obj.put Heap.setNode Obj.setNode nodeSet setIn splitLast Heap.drop_ arrAt Heap.kill Obj.kill T.kill D.kill D.thru thruPath params T.param D.param paramCells cellP cellsP capsP rps D.ro T.back T.back1 D.back T.closed D.closed T.clean D.clean D.still view optInt optOk chunk isEq eqDs eqD source capIds D.flat bytesOfAt D.isByte D.byte rowsD_cons_zero subAt_rows shiftAt_rows  drop_mapE take_mapE List.take_length app_rows ro_ints ro_strs ro_bytes big rowsD_cons_succ S_add S_size strEq_S Int.natCast_add Int.cast_ofNat_Int List.mem_cons List.not_mem_nil false_or or_false true_or or_true forall_eq_or_imp forall_eq T.d.injEq T.agg.injEq T.tup.injEq D.int.injEq D.bool.injEq D.str.injEq List.cons.injEq Prod.mk.injEq Option.some.injEq
attribute [local go_sem low] condv_b g_b

-- spec.l15Act
def c7L0 : MC := (.seq (.seq (.reg [⟨(some 14), none, .mv (.t 5)⟩,
    ⟨(some 15), none, .mv (.t 0)⟩,
    ⟨(some 16), none, .len true (.t 15)⟩,
    ⟨(some 17), none, .bin .lss (.int .i64) (.t 14) (.t 16)⟩]) (.cond (.t 17) .skip (.exit 0))) (.seq (.block 1 (.seq (.reg [⟨(some 20), none, .mv (.t 0)⟩,
    ⟨(some 21), none, .mv (.t 5)⟩,
    ⟨(some 22), none, .strIdx (.t 20) (.t 21)⟩,
    ⟨(some 23), none, .bin .eql (.int .u8) (.t 22) (.c (.d (.int .u8 (10))))⟩]) (.cond (.t 23) (.seq (.reg [⟨(some 24), none, .load (some 4) (.t 4)⟩,
    ⟨none, none, .store 4 (.t 2) (.t 24)⟩,
    ⟨(some 3), none, .mv (.c (.d (.bool false)))⟩]) .ret) .skip))) (.reg [⟨(some 18), none, .mv (.t 5)⟩,
    ⟨(some 19), none, .bin .add (.int .i64) (.t 18) (.c (.d (.int .i64 (1))))⟩,
    ⟨(some 5), none, .mv (.t 19)⟩])))
def c7L1 : MC := (.seq (.seq (.reg [⟨(some 28), none, .mv (.t 8)⟩,
    ⟨(some 29), none, .mv (.t 7)⟩,
    ⟨(some 30), none, .len false (.t 29)⟩,
    ⟨(some 31), none, .bin .lss (.int .i64) (.t 28) (.t 30)⟩,
    ⟨(some 32), none, .mv (.t 31)⟩,
    ⟨(some 33), (some (32, true)), .mv (.t 6)⟩,
    ⟨(some 34), (some (32, true)), .len false (.t 33)⟩,
    ⟨(some 35), (some (32, true)), .bin .gtr (.int .i64) (.t 34) (.c (.d (.int .i64 (0))))⟩,
    ⟨(some 36), none, .pick (.t 32) (.t 35) (.c (.d (.bool false)))⟩]) (.cond (.t 36) .skip (.exit 2))) (.seq (.block 3 (.seq (.reg [⟨(some 39), none, .mv (.t 7)⟩,
    ⟨(some 40), none, .mv (.t 8)⟩,
    ⟨(some 41), none, .indexAddr 1 (.t 39) (.t 40)⟩,
    ⟨(some 42), none, .load none (.t 41)⟩,
    ⟨(some 43), none, .mv (.t 6)⟩,
    ⟨(some 44), none, .indexAddr 1 (.t 43) (.c (.d (.int .i64 (0))))⟩,
    ⟨(some 45), none, .load none (.t 44)⟩,
    ⟨(some 46), none, .bin .eql .str (.t 42) (.t 45)⟩]) (.cond (.t 46) (.reg [⟨(some 47), none, .mv (.t 8)⟩,
    ⟨(some 48), none, .fieldAddr 0 (.t 4)⟩,
    ⟨none, none, .store 1 (.t 48) (.t 47)⟩]) .skip))) (.reg [⟨(some 37), none, .mv (.t 8)⟩,
    ⟨(some 38), none, .bin .add (.int .i64) (.t 37) (.c (.d (.int .i64 (1))))⟩,
    ⟨(some 8), none, .mv (.t 38)⟩])))
def c7L2 : MC := (.seq (.seq (.reg [⟨(some 63), none, .mv (.t 10)⟩,
    ⟨(some 64), none, .mv (.t 6)⟩,
    ⟨(some 65), none, .len false (.t 64)⟩,
    ⟨(some 66), none, .bin .lss (.int .i64) (.t 63) (.t 65)⟩]) (.cond (.t 66) .skip (.exit 4))) (.seq (.block 5 (.seq (.reg [⟨(some 70), none, .mv (.t 6)⟩,
    ⟨(some 71), none, .mv (.t 10)⟩,
    ⟨(some 72), none, .indexAddr 1 (.t 70) (.t 71)⟩,
    ⟨(some 73), none, .load none (.t 72)⟩,
    ⟨(some 74), none, .call 16 [(.t 73)]⟩,
    ⟨(some 69), none, .mv (.t 74)⟩,
    ⟨(some 75), none, .extract 0 (.t 69)⟩,
    ⟨(some 76), none, .extract 1 (.t 69)⟩,
    ⟨(some 11), none, .mv (.t 75)⟩,
    ⟨(some 12), none, .mv (.t 76)⟩]) (.seq (.seq (.reg [⟨(some 77), none, .mv (.t 12)⟩,
    ⟨(some 78), none, .un .not .bool (.t 77)⟩]) (.cond (.t 78) (.seq (.reg [⟨(some 79), none, .build [(.int .i64 (0)), (.int .i64 (0)), (.int .i64 (0)), (.int .i64 (0))] []⟩,
    ⟨none, none, .store 4 (.t 2) (.t 79)⟩,
    ⟨(some 3), none, .mv (.c (.d (.bool false)))⟩]) .ret) .skip)) (.reg [⟨(some 80), none, .mv (.t 9)⟩,
    ⟨(some 81), none, .mv (.t 10)⟩,
    ⟨(some 82), none, .bin .sub (.int .i64) (.t 81) (.c (.d (.int .i64 (1))))⟩,
    ⟨(some 83), none, .mv (.t 11)⟩,
    ⟨(some 84), none, .indexAddr 1 (.t 80) (.t 82)⟩,
    ⟨none, none, .store 1 (.t 84) (.t 83)⟩])))) (.reg [⟨(some 67), none, .mv (.t 10)⟩,
    ⟨(some 68), none, .bin .add (.int .i64) (.t 67) (.c (.d (.int .i64 (1))))⟩,
    ⟨(some 10), none, .mv (.t 68)⟩])))
def c7R0 : MC := (.seq (.reg [⟨(some 85), none, .mv (.t 9)⟩,
    ⟨(some 86), none, .indexAddr 1 (.t 85) (.c (.d (.int .i64 (0))))⟩,
    ⟨(some 87), none, .load none (.t 86)⟩,
    ⟨(some 88), none, .fieldAddr 1 (.t 4)⟩,
    ⟨none, none, .store 1 (.t 88) (.t 87)⟩]) (.seq (.reg [⟨(some 89), none, .mv (.t 9)⟩,
    ⟨(some 90), none, .indexAddr 1 (.t 89) (.c (.d (.int .i64 (1))))⟩,
    ⟨(some 91), none, .load none (.t 90)⟩,
    ⟨(some 92), none, .fieldAddr 2 (.t 4)⟩,
    ⟨none, none, .store 1 (.t 92) (.t 91)⟩]) (.seq (.reg [⟨(some 93), none, .mv (.t 9)⟩,
    ⟨(some 94), none, .indexAddr 1 (.t 93) (.c (.d (.int .i64 (2))))⟩,
    ⟨(some 95), none, .load none (.t 94)⟩,
    ⟨(some 96), none, .fieldAddr 3 (.t 4)⟩,
    ⟨none, none, .store 1 (.t 96) (.t 95)⟩]) (.seq (.reg [⟨(some 97), none, .load (some 4) (.t 4)⟩,
    ⟨none, none, .store 4 (.t 2) (.t 97)⟩,
    ⟨(some 3), none, .mv (.c (.d (.bool true)))⟩]) .ret))))
def c7R1 : MC := (.seq (.seq (.reg [⟨(some 49), none, .fieldAddr 0 (.t 4)⟩,
    ⟨(some 50), none, .load none (.t 49)⟩,
    ⟨(some 51), none, .bin .eql (.int .i64) (.t 50) (.c (.d (.int .i64 (0))))⟩,
    ⟨(some 52), none, .mv (.t 51)⟩,
    ⟨(some 53), (some (52, false)), .mv (.t 6)⟩,
    ⟨(some 54), (some (52, false)), .len false (.t 53)⟩,
    ⟨(some 55), (some (52, false)), .load (some 4) (.t 4)⟩,
    ⟨(some 56), (some (52, false)), .call 15 [(.t 55)]⟩,
    ⟨(some 57), (some (52, false)), .len false (.t 56)⟩,
    ⟨(some 58), (some (52, false)), .bin .add (.int .i64) (.t 57) (.c (.d (.int .i64 (1))))⟩,
    ⟨(some 59), (some (52, false)), .bin .neq (.int .i64) (.t 54) (.t 58)⟩,
    ⟨(some 60), none, .pick (.t 52) (.c (.d (.bool true))) (.t 59)⟩]) (.cond (.t 60) (.seq (.reg [⟨(some 61), none, .build [(.int .i64 (0)), (.int .i64 (0)), (.int .i64 (0)), (.int .i64 (0))] []⟩,
    ⟨none, none, .store 4 (.t 2) (.t 61)⟩,
    ⟨(some 3), none, .mv (.c (.d (.bool false)))⟩]) .ret) .skip)) (.seq (.reg [⟨(some 62), none, .mkSl false 1 [(.int .i64 (0))] 3 [(0, (.c (.d (.int .i64 (0))))), (1, (.c (.d (.int .i64 (0))))), (2, (.c (.d (.int .i64 (0)))))]⟩,
    ⟨(some 9), none, .mv (.t 62)⟩]) (.seq (.seq (.reg [⟨(some 10), none, .mv (.c (.d (.int .i64 (1))))⟩]) (.block 4 (.loop c7L2))) c7R0)))
def c7R2 : MC := (.seq (.reg [⟨(some 25), none, .mv (.t 0)⟩,
    ⟨(some 26), none, .call 13 [(.t 25)]⟩,
    ⟨(some 6), none, .mv (.t 26)⟩]) (.seq (.reg [⟨(some 27), none, .call 14 []⟩,
    ⟨(some 7), none, .mv (.t 27)⟩]) (.seq (.seq (.reg [⟨(some 8), none, .mv (.c (.d (.int .i64 (1))))⟩]) (.block 2 (.loop c7L1))) c7R1)))
def c7 : MC := (.seq (.reg [⟨(some 2), none, .alloc [(.int .i64 (0)), (.int .i64 (0)), (.int .i64 (0)), (.int .i64 (0))]⟩,
    ⟨(some 3), none, .mv (.c (.d (.bool false)))⟩]) (.seq (.reg [⟨(some 13), none, .build [(.int .i64 (0)), (.int .i64 (0)), (.int .i64 (0)), (.int .i64 (0))] []⟩,
    ⟨(some 4), none, .alloc [(.int .i64 (0)), (.int .i64 (0)), (.int .i64 (0)), (.int .i64 (0))]⟩,
    ⟨none, none, .store 4 (.t 4) (.t 13)⟩]) (.seq (.seq (.reg [⟨(some 5), none, .mv (.c (.d (.int .i64 (0))))⟩]) (.block 0 (.loop c7L0))) c7R2)))
def c7r : List RV := [.cell 2 (some 4), .tmp 3]
theorem c7_tr : (Tryd.f7.body.bind (trCode Tryd.prog byref)) = some c7 := by kernel_rfl
theorem c7_rv : trRV Tryd.prog Tryd.f7.results.toList = some c7r := by kernel_rfl

-- spec.ParseAct
def c4 : MC := (.seq (.reg [⟨(some 2), none, .alloc [(.int .i64 (0)), (.int .i64 (0)), (.int .i64 (0)), (.int .i64 (0)), (.int .i64 (0))]⟩]) (.seq (.reg [⟨(some 6), none, .mv (.t 0)⟩,
    ⟨(some 7), none, .call 7 [(.t 6)]⟩,
    ⟨(some 5), none, .mv (.t 7)⟩,
    ⟨(some 8), none, .extract 0 (.t 5)⟩,
    ⟨(some 9), none, .extract 1 (.t 5)⟩,
    ⟨(some 3), none, .alloc [(.int .i64 (0)), (.int .i64 (0)), (.int .i64 (0)), (.int .i64 (0))]⟩,
    ⟨none, none, .store 4 (.t 3) (.t 8)⟩,
    ⟨(some 4), none, .mv (.t 9)⟩]) (.seq (.seq (.reg [⟨(some 10), none, .mv (.t 4)⟩,
    ⟨(some 11), none, .un .not .bool (.t 10)⟩]) (.cond (.t 11) (.seq (.reg [⟨(some 12), none, .build [(.int .i64 (0)), (.int .i64 (0)), (.int .i64 (0)), (.int .i64 (0)), (.int .i64 (0))] [(0, 1, (.c (.d (.int .i64 (5)))))]⟩,
    ⟨none, none, .store 5 (.t 2) (.t 12)⟩]) .ret) .skip)) (.seq (.reg [⟨(some 13), none, .load (some 4) (.t 3)⟩,
    ⟨(some 14), none, .build [(.int .i64 (0)), (.int .i64 (0)), (.int .i64 (0)), (.int .i64 (0)), (.int .i64 (0))] [(1, 4, (.t 13))]⟩,
    ⟨none, none, .store 5 (.t 2) (.t 14)⟩]) .ret))))
def c4r : List RV := [.cell 2 (some 5)]
theorem c4_tr : (Tryd.f4.body.bind (trCode Tryd.prog byref)) = some c4 := by kernel_rfl
theorem c4_rv : trRV Tryd.prog Tryd.f4.results.toList = some c4r := by kernel_rfl

-- impl.ParseAct
def c5L1 : MC := (.seq (.reg [⟨(some 46), none, .bin .lss (.int .i64) (.t 45) (.t 44)⟩]) (.seq (.cond (.t 46) .skip (.exit 2)) (.seq (.block 3 (.seq (.reg [⟨(some 47), none, .mv (.t 45)⟩,
    ⟨(some 48), none, .indexAddr 1 (.t 43) (.t 45)⟩,
    ⟨(some 49), none, .load none (.t 48)⟩,
    ⟨(some 8), none, .mv (.t 47)⟩,
    ⟨(some 9), none, .mv (.t 49)⟩]) (.seq (.reg [⟨(some 50), none, .mv (.t 7)⟩,
    ⟨(some 51), none, .mv (.t 8)⟩,
    ⟨(some 52), none, .mv (.t 9)⟩,
    ⟨(some 53), none, .call 11 [(.t 52)]⟩,
    ⟨(some 54), none, .indexAddr 1 (.t 50) (.t 51)⟩,
    ⟨none, none, .store 1 (.t 54) (.t 53)⟩]) (.seq (.reg [⟨(some 55), none, .mv (.t 7)⟩,
    ⟨(some 56), none, .mv (.t 8)⟩,
    ⟨(some 57), none, .indexAddr 1 (.t 55) (.t 56)⟩,
    ⟨(some 58), none, .load none (.t 57)⟩,
    ⟨(some 59), none, .bin .lss (.int .i64) (.t 58) (.c (.d (.int .i64 (0))))⟩]) (.cond (.t 59) (.seq (.reg [⟨(some 60), none, .build [(.int .i64 (0)), (.int .i64 (0)), (.int .i64 (0)), (.int .i64 (0)), (.int .i64 (0))] [(0, 1, (.c (.d (.int .i64 (5)))))]⟩,
    ⟨none, none, .store 5 (.t 2) (.t 60)⟩]) .ret) .skip))))) (.reg [⟨(some 61), none, .bin .add (.int .i64) (.t 45) (.c (.d (.int .i64 (1))))⟩,
    ⟨(some 45), none, .mv (.t 61)⟩]))))
def c5R0 : MC := (.seq (.reg [⟨(some 62), none, .mv (.t 4)⟩,
    ⟨(some 63), none, .mv (.t 7)⟩,
    ⟨(some 64), none, .indexAddr 1 (.t 63) (.c (.d (.int .i64 (0))))⟩,
    ⟨(some 65), none, .load none (.t 64)⟩,
    ⟨(some 66), none, .mv (.t 7)⟩,
    ⟨(some 67), none, .indexAddr 1 (.t 66) (.c (.d (.int .i64 (1))))⟩,
    ⟨(some 68), none, .load none (.t 67)⟩,
    ⟨(some 69), none, .mv (.t 7)⟩,
    ⟨(some 70), none, .indexAddr 1 (.t 69) (.c (.d (.int .i64 (2))))⟩,
    ⟨(some 71), none, .load none (.t 70)⟩,
    ⟨(some 72), none, .build [(.int .i64 (0)), (.int .i64 (0)), (.int .i64 (0)), (.int .i64 (0))] [(0, 1, (.t 62)), (1, 1, (.t 65)), (2, 1, (.t 68)), (3, 1, (.t 71))]⟩,
    ⟨(some 73), none, .build [(.int .i64 (0)), (.int .i64 (0)), (.int .i64 (0)), (.int .i64 (0)), (.int .i64 (0))] [(1, 4, (.t 72))]⟩,
    ⟨none, none, .store 5 (.t 2) (.t 73)⟩]) .ret)
def c5R1 : MC := (.reg [⟨(some 22), none, .mv (.t 4)⟩,
    ⟨(some 23), none, .bin .add (.int .i64) (.t 22) (.c (.d (.int .i64 (1))))⟩,
    ⟨(some 4), none, .mv (.t 23)⟩])
def c5L0 : MC := (.seq (.seq (.reg [⟨(some 20), none, .mv (.t 4)⟩,
    ⟨(some 21), none, .bin .leq (.int .i64) (.t 20) (.c (.d (.int .i64 (7))))⟩]) (.cond (.t 21) .skip (.exit 0))) (.seq (.block 1 (.seq (.reg [⟨(some 25), none, .mv (.t 4)⟩,
    ⟨(some 26), none, .call 10 [(.t 25)]⟩,
    ⟨(some 24), none, .mv (.t 26)⟩,
    ⟨(some 27), none, .extract 0 (.t 24)⟩,
    ⟨(some 28), none, .extract 1 (.t 24)⟩,
    ⟨(some 5), none, .mv (.t 27)⟩,
    ⟨(some 6), none, .mv (.t 28)⟩]) (.seq (.seq (.reg [⟨(some 29), none, .mv (.t 3)⟩,
    ⟨(some 30), none, .indexAddr 1 (.t 29) (.c (.d (.int .i64 (0))))⟩,
    ⟨(some 31), none, .load none (.t 30)⟩,
    ⟨(some 32), none, .mv (.t 5)⟩,
    ⟨(some 33), none, .bin .neq .str (.t 31) (.t 32)⟩,
    ⟨(some 34), none, .mv (.t 33)⟩,
    ⟨(some 35), (some (34, false)), .mv (.t 3)⟩,
    ⟨(some 36), (some (34, false)), .len false (.t 35)⟩,
    ⟨(some 37), (some (34, false)), .mv (.t 6)⟩,
    ⟨(some 38), (some (34, false)), .bin .add (.int .i64) (.t 37) (.c (.d (.int .i64 (1))))⟩,
    ⟨(some 39), (some (34, false)), .bin .neq (.int .i64) (.t 36) (.t 38)⟩,
    ⟨(some 40), none, .pick (.t 34) (.c (.d (.bool true))) (.t 39)⟩]) (.cond (.t 40) (.exit 1) .skip)) (.seq (.reg [⟨(some 41), none, .mkSl false 1 [(.int .i64 (0))] 3 [(0, (.c (.d (.int .i64 (0))))), (1, (.c (.d (.int .i64 (0))))), (2, (.c (.d (.int .i64 (0)))))]⟩,
    ⟨(some 7), none, .mv (.t 41)⟩]) (.seq (.seq (.reg [⟨(some 42), none, .mv (.t 3)⟩,
    ⟨(some 43), none, .slice 1 (.t 42) (some (.c (.d (.int .i64 (1))))) none none⟩,
    ⟨(some 44), none, .len false (.t 43)⟩,
    ⟨(some 45), none, .mv (.c (.d (.int .i64 (0))))⟩]) (.block 2 (.loop c5L1))) c5R0))))) c5R1))
def c5R2 : MC := (.seq (.reg [⟨(some 74), none, .build [(.int .i64 (0)), (.int .i64 (0)), (.int .i64 (0)), (.int .i64 (0)), (.int .i64 (0))] [(0, 1, (.c (.d (.int .i64 (5)))))]⟩,
    ⟨none, none, .store 5 (.t 2) (.t 74)⟩]) .ret)
def c5 : MC := (.seq (.reg [⟨(some 2), none, .alloc [(.int .i64 (0)), (.int .i64 (0)), (.int .i64 (0)), (.int .i64 (0)), (.int .i64 (0))]⟩]) (.seq (.reg [⟨(some 10), none, .mv (.t 0)⟩,
    ⟨(some 11), none, .call 8 [(.t 10)]⟩,
    ⟨(some 3), none, .mv (.t 11)⟩]) (.seq (.seq (.reg [⟨(some 12), none, .mv (.t 0)⟩,
    ⟨(some 13), none, .call 9 [(.t 12), (.c (.d (.str (S [10]))))]⟩,
    ⟨(some 14), none, .mv (.t 13)⟩,
    ⟨(some 15), (some (14, false)), .mv (.t 3)⟩,
    ⟨(some 16), (some (14, false)), .len false (.t 15)⟩,
    ⟨(some 17), (some (14, false)), .bin .eql (.int .i64) (.t 16) (.c (.d (.int .i64 (0))))⟩,
    ⟨(some 18), none, .pick (.t 14) (.c (.d (.bool true))) (.t 17)⟩]) (.cond (.t 18) (.seq (.reg [⟨(some 19), none, .build [(.int .i64 (0)), (.int .i64 (0)), (.int .i64 (0)), (.int .i64 (0)), (.int .i64 (0))] [(0, 1, (.c (.d (.int .i64 (5)))))]⟩,
    ⟨none, none, .store 5 (.t 2) (.t 19)⟩]) .ret) .skip)) (.seq (.seq (.reg [⟨(some 4), none, .mv (.c (.d (.int .i64 (1))))⟩]) (.block 0 (.loop c5L0))) c5R2))))
def c5r : List RV := [.cell 2 (some 5)]
theorem c5_tr : (Tryd.f5.body.bind (trCode Tryd.prog byref)) = some c5 := by kernel_rfl
theorem c5_rv : trRV Tryd.prog Tryd.f5.results.toList = some c5r := by kernel_rfl

-- laws.FnExactParseAct
def c3 : MC := (.seq (.reg [⟨(some 2), none, .mv (.c (.d (.bool false)))⟩]) (.seq (.seq (.reg [⟨(some 5), none, .mv (.t 0)⟩,
    ⟨(some 6), none, .len true (.t 5)⟩,
    ⟨(some 7), none, .bin .gtr (.int .i64) (.t 6) (.c (.d (.int .i64 (1048576))))⟩]) (.cond (.t 7) (.seq (.reg [⟨(some 2), none, .mv (.c (.d (.bool true)))⟩]) .ret) .skip)) (.seq (.reg [⟨(some 8), none, .mv (.t 0)⟩,
    ⟨(some 9), none, .call 4 [(.t 8)]⟩,
    ⟨(some 3), none, .alloc [(.int .i64 (0)), (.int .i64 (0)), (.int .i64 (0)), (.int .i64 (0)), (.int .i64 (0))]⟩,
    ⟨none, none, .store 5 (.t 3) (.t 9)⟩]) (.seq (.reg [⟨(some 10), none, .mv (.t 0)⟩,
    ⟨(some 11), none, .call 5 [(.t 10)]⟩,
    ⟨(some 4), none, .alloc [(.int .i64 (0)), (.int .i64 (0)), (.int .i64 (0)), (.int .i64 (0)), (.int .i64 (0))]⟩,
    ⟨none, none, .store 5 (.t 4) (.t 11)⟩]) (.seq (.seq (.reg [⟨(some 12), none, .load (some 5) (.t 4)⟩,
    ⟨(some 13), none, .load (some 5) (.t 3)⟩,
    ⟨(some 14), none, .call 6 [(.t 12), (.t 13)]⟩,
    ⟨(some 15), none, .un .not .bool (.t 14)⟩]) (.cond (.t 15) (.seq (.reg [⟨(some 2), none, .mv (.c (.d (.bool false)))⟩]) .ret) .skip)) (.seq (.reg [⟨(some 2), none, .mv (.c (.d (.bool true)))⟩]) .ret))))))
def c3r : List RV := [.tmp 2]
theorem c3_tr : (Tryd.f3.body.bind (trCode Tryd.prog byref)) = some c3 := by kernel_rfl
theorem c3_rv : trRV Tryd.prog Tryd.f3.results.toList = some c3r := by kernel_rfl

def isDig (x : UInt8) : Bool := decide (48 ≤ x.toNat) && decide (x.toNat ≤ 57)
def valN (l : List UInt8) : Nat := l.foldl (fun n x => 10 * n + (x.toNat - 48)) 0
def numOf (w : List UInt8) : Option Nat := if (1 ≤ w.length ∧ w.length ≤ 9) ∧ w.all isDig = true then some (valN w) else none
theorem valN_snoc (l : List UInt8) (x : UInt8) : valN (l ++ [x]) = 10 * valN l + (x.toNat - 48) := by simp [valN]
theorem valN_lt : ∀ (n : Nat) (l : List UInt8), l.length = n → l.all isDig = true → valN l < 10 ^ n := by
  intro n
  induction n with
  | zero => intro l hl _; rw [List.eq_nil_of_length_eq_zero hl]; simp [valN]
  | succ n ih =>
    intro l hl ha
    obtain ⟨l', x, rfl⟩ : ∃ l' x, l = l' ++ [x] := by
      rcases List.eq_nil_or_concat l with h | ⟨l', x, h⟩
      · subst h; cases hl
      · exact ⟨l', x, by rw [h, List.concat_eq_append]⟩
    simp only [List.all_append, List.all_cons, List.all_nil, Bool.and_true, Bool.and_eq_true] at ha
    have h1 := ih l' (by simpa using hl) ha.1
    have h2 : x.toNat ≤ 57 := by have := ha.2; unfold isDig at this; simp at this; exact this.2
    rw [valN_snoc, Nat.pow_succ]
    omega
theorem numOf_lt {w : List UInt8} {n : Nat} (h : numOf w = some n) : n < 1000000000 := by
  unfold numOf at h
  split at h
  · rename_i hc
    injection h with h
    subst h
    have := valN_lt w.length w rfl hc.2
    have h2 : 10 ^ w.length ≤ 10 ^ 9 := Nat.pow_le_pow_right (by omega) hc.1.2
    omega
  · cases h
/-- What a byte's comparisons with the digits give. -/
theorem digit_cases (x : UInt8) : (isDig x = false ∧ (ilt (x.toNat : Int) 48 = true ∨ (ilt (x.toNat : Int) 48 = false ∧ ilt 57 (x.toNat : Int) = true))) ∨
    (isDig x = true ∧ ilt (x.toNat : Int) 48 = false ∧ ilt 57 (x.toNat : Int) = false ∧ isub IntKind.u8 (x.toNat : Int) 48 = ((x.toNat - 48 : Nat) : Int) ∧ IntKind.i64.wrap ((x.toNat - 48 : Nat) : Int) = ((x.toNat - 48 : Nat) : Int)) := by
  have hx : x.toNat < 256 := x.toNat_lt
  by_cases h1 : x.toNat < 48
  · exact .inl ⟨by unfold isDig; simp; omega, .inl (ilt_t (by omega))⟩
  · by_cases h2 : 57 < x.toNat
    · exact .inl ⟨by unfold isDig; simp; omega, .inr ⟨ilt_f (by omega), ilt_t (by omega)⟩⟩
    · refine .inr ⟨by unfold isDig; simp; omega, ilt_f (by omega), ilt_f (by omega), ?_, wrap64 (by omega) (by omega)⟩
      rw [isub_eq, wrap8 (by omega) (by omega)]; omega
theorem not_dig {w : List UInt8} {i : Nat} {x : UInt8} (hi : i < w.length) (hx : w.getD i 0 = x) (h : isDig x = false) : w.all isDig = false := by
  rw [List.all_eq_false]
  refine ⟨x, ?_, by simp [h]⟩
  rw [← hx, List.getD_eq_getElem?_getD, List.getElem?_eq_getElem hi]
  exact List.getElem_mem hi
theorem impNumber_ok (w : List UInt8) (hw : w.length ≤ 1048576) : FnSem Tryd.prog 11 [.d (.str (S w))] fun t N => t = .d (.int .i64 (match numOf w with | some n => (n : Int) | none => -1)) ∧ N = [] := by
  refine fn_of mixed (by kernel_rfl) Tryd.func11 Tryd.ntmps11 c11_tr c11_rv (by simp) fun Fn In Sh hFn hIn hSh => ?_
  subst hFn hIn hSh
  unfold c11 c11r
  simp -dsimp only [go_sem, make_rows, ro_rows, Nat.reduceSub, Nat.reduceAdd, Nat.reduceLT, Nat.reduceLeDiff, Nat.reduceMul, Nat.reduceEqDiff, reduceCtorEq, reduceIte, Int.reduceToNat, Int.reduceLE, Int.reduceLT, Int.reduceNe]
  refine loopI (fun k s => ∃ i, i ≤ w.length ∧ i ≤ 9 ∧ k = w.length - i ∧ (w.take i).all isDig = true ∧
    s = ⟨(.d (.str (S w)) :: .d .dead :: .d .dead :: .d (.int .i64 (valN (w.take i) : Int)) :: .d .dead :: .d .dead :: .d (.int .i64 (w.length : Int)) :: .d (.int .i64 (i : Int)) :: .d .dead :: .d .dead :: .d .dead :: .d .dead :: .d .dead :: .d .dead :: .d .dead :: .d .dead :: .d .dead :: .d .dead :: .d .dead :: .d .dead :: .d .dead :: .d .dead :: .d .dead :: .d .dead :: .d .dead :: .d .dead :: .d .dead :: .d .dead :: .d .dead :: .d .dead :: .d .dead :: .d .dead :: .d .dead :: .d .dead :: []), [], []⟩) w.length _ (Shift.forget ?_) ⟨0, by omega, by omega, rfl, by simp, rfl⟩ ?_
  · simp [Fgt, valN]
  rintro k s ⟨i, hi, hi9, rfl, hall, rfl⟩
  unfold c11L0
  by_cases hlt : i < w.length
  · have hc : ilt (i : Int) (w.length : Int) = true := ilt_t (by omega)
    have hi1 := inc64 (show i < 9223372036854775807 by omega)
    have hsn := take_snoc w 0 hlt
    obtain ⟨x, hx⟩ : ∃ x, w.getD i 0 = x := ⟨_, rfl⟩
    have hg : (S w).data.getD i 0 = x := by rw [S_get, hx]
    rw [hx] at hsn
    rcases digit_cases x with ⟨hnd, hb | ⟨hb1, hb2⟩⟩ | ⟨hd, hb1, hb2, hb3, hb4⟩
    · have hno : numOf w = none := by unfold numOf; rw [if_neg]; rintro ⟨_, h⟩; rw [not_dig hlt hx hnd] at h; cases h
      simp -dsimp only [go_sem, make_rows, ro_rows, Nat.reduceSub, Nat.reduceAdd, Nat.reduceLT, Nat.reduceLeDiff, Nat.reduceMul, Nat.reduceEqDiff, reduceCtorEq, reduceIte, Int.reduceToNat, Int.reduceLE, Int.reduceLT, Int.reduceNe, hc, hi1, hg, hb, hno]
      omega
    · have hno : numOf w = none := by unfold numOf; rw [if_neg]; rintro ⟨_, h⟩; rw [not_dig hlt hx hnd] at h; cases h
      simp -dsimp only [go_sem, make_rows, ro_rows, Nat.reduceSub, Nat.reduceAdd, Nat.reduceLT, Nat.reduceLeDiff, Nat.reduceMul, Nat.reduceEqDiff, reduceCtorEq, reduceIte, Int.reduceToNat, Int.reduceLE, Int.reduceLT, Int.reduceNe, hc, hi1, hg, hb1, hb2, hno]
      omega
    · have hv := valN_lt i (w.take i) (by simp; omega) hall
      have hp : 10 ^ i ≤ 10 ^ 9 := Nat.pow_le_pow_right (by omega) hi9
      have hm : imul IntKind.i64 10 (valN (w.take i) : Int) = ((10 * valN (w.take i) : Nat) : Int) := by rw [imul64 (by omega) (by omega)]; omega
      have hx57 : x.toNat ≤ 57 := by unfold isDig at hd; simp at hd; exact hd.2
      have ha : iadd IntKind.i64 ((10 * valN (w.take i) : Nat) : Int) ((x.toNat - 48 : Nat) : Int) = (valN (w.take (i + 1)) : Int) := by
        rw [iadd64 (by omega) (by omega), hsn, valN_snoc]; omega
      simp -dsimp only [go_sem, make_rows, ro_rows, Nat.reduceSub, Nat.reduceAdd, Nat.reduceLT, Nat.reduceLeDiff, Nat.reduceMul, Nat.reduceEqDiff, reduceCtorEq, reduceIte, Int.reduceToNat, Int.reduceLE, Int.reduceLT, Int.reduceNe, hc, hi1, hg, hb1, hb2, hb3, hb4, hm, ha]
      repeat (refine And.intro (by omega) ?_)
      refine ⟨fun h8 => ?_, fun h8 => ?_⟩
      · rw [ilt_eq, decide_eq_true_eq] at h8
        unfold numOf
        rw [if_neg (by omega)]
      · rw [ilt_eq, decide_eq_false_iff_not] at h8
        refine next (w.length - (i + 1)) _ (by omega) (Shift.forget ?_) ⟨i + 1, by omega, by omega, rfl, by rw [hsn, List.all_append, hall]; simp [hd], rfl⟩
        simp [Fgt]
  · have hc : ilt (i : Int) (w.length : Int) = false := ilt_f (by omega)
    have hall2 : w.take i = w := List.take_of_length_le (by omega)
    rw [hall2] at hall
    unfold c11R0
    simp -dsimp only [go_sem, make_rows, ro_rows, Nat.reduceSub, Nat.reduceAdd, Nat.reduceLT, Nat.reduceLeDiff, Nat.reduceMul, Nat.reduceEqDiff, reduceCtorEq, reduceIte, Int.reduceToNat, Int.reduceLE, Int.reduceLT, Int.reduceNe, hc, hall2]
    refine ⟨fun h0 => ?_, fun h0 => ?_⟩
    · subst h0; rfl
    · have h1 : w ≠ [] := of_decide_eq_false h0
      have h2 : 0 < w.length := List.length_pos_iff.2 h1
      unfold numOf
      rw [if_pos ⟨⟨by omega, by omega⟩, hall⟩]
theorem specNumber_ok (w : List UInt8) (hw : w.length ≤ 1048576) : FnSem Tryd.prog 16 [.d (.str (S w))] fun t N => t = (match numOf w with | some n => T.tup [.d (.int .i64 (n : Int)), .d (.bool true)] | none => .tup [.d (.int .i64 0), .d (.bool false)]) ∧ N = [] := by
  refine fn_of mixed (by kernel_rfl) Tryd.func16 Tryd.ntmps16 c16_tr c16_rv (by simp) fun Fn In Sh hFn hIn hSh => ?_
  subst hFn hIn hSh
  unfold c16 c16r
  by_cases h1 : w.length < 1
  · have hno : numOf w = none := by unfold numOf; rw [if_neg (by omega)]
    simp -dsimp only [go_sem, make_rows, ro_rows, Nat.reduceSub, Nat.reduceAdd, Nat.reduceLT, Nat.reduceLeDiff, Nat.reduceMul, Nat.reduceEqDiff, reduceCtorEq, reduceIte, Int.reduceToNat, Int.reduceLE, Int.reduceLT, Int.reduceNe, ilt_t (show (w.length : Int) < 1 by omega), hno]
  have hb1 : ilt (w.length : Int) 1 = false := ilt_f (by omega)
  by_cases h9 : 9 < w.length
  · have hno : numOf w = none := by unfold numOf; rw [if_neg (by omega)]
    simp -dsimp only [go_sem, make_rows, ro_rows, Nat.reduceSub, Nat.reduceAdd, Nat.reduceLT, Nat.reduceLeDiff, Nat.reduceMul, Nat.reduceEqDiff, reduceCtorEq, reduceIte, Int.reduceToNat, Int.reduceLE, Int.reduceLT, Int.reduceNe, hb1, ilt_t (show (9 : Int) < (w.length : Int) by omega), hno]
  have hb9 : ilt 9 (w.length : Int) = false := ilt_f (by omega)
  simp -dsimp only [go_sem, make_rows, ro_rows, Nat.reduceSub, Nat.reduceAdd, Nat.reduceLT, Nat.reduceLeDiff, Nat.reduceMul, Nat.reduceEqDiff, reduceCtorEq, reduceIte, Int.reduceToNat, Int.reduceLE, Int.reduceLT, Int.reduceNe, hb1, hb9]
  refine loopI (fun k s => ∃ i, i ≤ w.length ∧ k = w.length - i ∧ (w.take i).all isDig = true ∧
    s = ⟨(.d (.str (S w)) :: .d .dead :: .d .dead :: .d .dead :: .d (.int .i64 (valN (w.take i) : Int)) :: .d (.int .i64 (i : Int)) :: .d .dead :: .d .dead :: .d .dead :: .d .dead :: .d .dead :: .d .dead :: .d .dead :: .d .dead :: .d .dead :: .d .dead :: .d .dead :: .d .dead :: .d .dead :: .d .dead :: .d .dead :: .d .dead :: .d .dead :: .d .dead :: .d .dead :: .d .dead :: .d .dead :: .d .dead :: .d .dead :: .d .dead :: .d .dead :: .d .dead :: .d .dead :: .d .dead :: .d .dead :: .d .dead :: .d .dead :: .d .dead :: .d .dead :: []), [], []⟩) w.length _ (Shift.forget ?_) ⟨0, by omega, rfl, by simp, rfl⟩ ?_
  · simp [Fgt, valN]
  rintro k s ⟨i, hi, rfl, hall, rfl⟩
  unfold c16L0
  by_cases hlt : i < w.length
  · have hc : ilt (i : Int) (w.length : Int) = true := ilt_t (by omega)
    have hi1 := inc64 (show i < 9223372036854775807 by omega)
    have hsn := take_snoc w 0 hlt
    obtain ⟨x, hx⟩ : ∃ x, w.getD i 0 = x := ⟨_, rfl⟩
    have hg : (S w).data.getD i 0 = x := by rw [S_get, hx]
    rw [hx] at hsn
    rcases digit_cases x with ⟨hnd, hb | ⟨hb1, hb2⟩⟩ | ⟨hd, hb1, hb2, hb3, hb4⟩
    · have hno : numOf w = none := by unfold numOf; rw [if_neg]; rintro ⟨_, h⟩; rw [not_dig hlt hx hnd] at h; cases h
      simp -dsimp only [go_sem, make_rows, ro_rows, Nat.reduceSub, Nat.reduceAdd, Nat.reduceLT, Nat.reduceLeDiff, Nat.reduceMul, Nat.reduceEqDiff, reduceCtorEq, reduceIte, Int.reduceToNat, Int.reduceLE, Int.reduceLT, Int.reduceNe, hc, hi1, hg, hb, hno]
      omega
    · have hno : numOf w = none := by unfold numOf; rw [if_neg]; rintro ⟨_, h⟩; rw [not_dig hlt hx hnd] at h; cases h
      simp -dsimp only [go_sem, make_rows, ro_rows, Nat.reduceSub, Nat.reduceAdd, Nat.reduceLT, Nat.reduceLeDiff, Nat.reduceMul, Nat.reduceEqDiff, reduceCtorEq, reduceIte, Int.reduceToNat, Int.reduceLE, Int.reduceLT, Int.reduceNe, hc, hi1, hg, hb1, hb2, hno]
      omega
    · have hv := valN_lt i (w.take i) (by simp; omega) hall
      have hp : 10 ^ i ≤ 10 ^ 9 := Nat.pow_le_pow_right (by omega) (by omega)
      have hm : imul IntKind.i64 (valN (w.take i) : Int) 10 = ((10 * valN (w.take i) : Nat) : Int) := by rw [imul64 (by omega) (by omega)]; omega
      have hx57 : x.toNat ≤ 57 := by unfold isDig at hd; simp at hd; exact hd.2
      have ha : iadd IntKind.i64 ((10 * valN (w.take i) : Nat) : Int) ((x.toNat - 48 : Nat) : Int) = (valN (w.take (i + 1)) : Int) := by
        rw [iadd64 (by omega) (by omega), hsn, valN_snoc]; omega
      simp -dsimp only [go_sem, make_rows, ro_rows, Nat.reduceSub, Nat.reduceAdd, Nat.reduceLT, Nat.reduceLeDiff, Nat.reduceMul, Nat.reduceEqDiff, reduceCtorEq, reduceIte, Int.reduceToNat, Int.reduceLE, Int.reduceLT, Int.reduceNe, hc, hi1, hg, hb1, hb2, hb3, hb4, hm, ha]
      repeat (refine And.intro (by omega) ?_)
      refine next (w.length - (i + 1)) _ (by omega) (Shift.forget ?_) ⟨i + 1, by omega, rfl, by rw [hsn, List.all_append, hall]; simp [hd], rfl⟩
      simp [Fgt]
  · have hc : ilt (i : Int) (w.length : Int) = false := ilt_f (by omega)
    have hall2 : w.take i = w := List.take_of_length_le (by omega)
    rw [hall2] at hall
    have hso : numOf w = some (valN w) := by
      unfold numOf
      rw [if_pos ⟨⟨by omega, by omega⟩, hall⟩]
    unfold c16R0
    simp -dsimp only [go_sem, make_rows, ro_rows, Nat.reduceSub, Nat.reduceAdd, Nat.reduceLT, Nat.reduceLeDiff, Nat.reduceMul, Nat.reduceEqDiff, reduceCtorEq, reduceIte, Int.reduceToNat, Int.reduceLE, Int.reduceLT, Int.reduceNe, hc, hall2, hso]
def actT (a b c d : Int) : T := .agg [.int .i64 a, .int .i64 b, .int .i64 c, .int .i64 d]
def actR (e a b c d : Int) : T := .agg [.int .i64 e, .int .i64 a, .int .i64 b, .int .i64 c, .int .i64 d]
theorem eqAct_ok (a b c d : Int) : FnSem Tryd.prog 12 [actT a b c d, actT a b c d] fun t N => t = .d (.bool true) ∧ N = [] := by
  have he : ∀ x : Int, ieq x x = true := fun x => ieq_t rfl
  refine fn_of mixed (by kernel_rfl) Tryd.func12 Tryd.ntmps12 c12_tr c12_rv (by simp) fun Fn In Sh hFn hIn hSh => ?_
  subst hFn hIn hSh
  unfold c12 c12r
  unfold actT
  simp -dsimp only [go_sem, make_rows, ro_rows, Nat.reduceSub, Nat.reduceAdd, Nat.reduceLT, Nat.reduceLeDiff, Nat.reduceMul, Nat.reduceEqDiff, reduceCtorEq, reduceIte, Int.reduceToNat, Int.reduceLE, Int.reduceLT, Int.reduceNe, he]
theorem eqActR_ok (e a b c d : Int) : FnSem Tryd.prog 6 [actR e a b c d, actR e a b c d] fun t N => t = .d (.bool true) ∧ N = [] := by
  have he : ∀ x : Int, ieq x x = true := fun x => ieq_t rfl
  have h := eqAct_ok a b c d
  unfold actT at h
  refine fn_of mixed (by kernel_rfl) Tryd.func6 Tryd.ntmps6 c6_tr c6_rv (by simp) fun Fn In Sh hFn hIn hSh => ?_
  subst hFn hIn hSh
  unfold c6 c6r
  unfold actR
  simp -dsimp only [go_sem, make_rows, ro_rows, Nat.reduceSub, Nat.reduceAdd, Nat.reduceLT, Nat.reduceLeDiff, Nat.reduceMul, Nat.reduceEqDiff, reduceCtorEq, reduceIte, Int.reduceToNat, Int.reduceLE, Int.reduceLT, Int.reduceNe, he]
  refine step1 h ?_
  simp -dsimp only [go_sem, make_rows, ro_rows, Nat.reduceSub, Nat.reduceAdd, Nat.reduceLT, Nat.reduceLeDiff, Nat.reduceMul, Nat.reduceEqDiff, reduceCtorEq, reduceIte, Int.reduceToNat, Int.reduceLE, Int.reduceLT, Int.reduceNe]
/-! ### the act of a line -/
def numsGo : List (List UInt8) → Option (List Int)
  | [] => some []
  | w :: ws => match numOf w, numsGo ws with
    | some n, some xs => some ((n : Int) :: xs)
    | _, _ => none
def kindUp (w : List UInt8) : Nat → Nat
  | 0 => 0
  | k + 1 => if 1 ≤ k ∧ word k = w then k else kindUp w k
def parseW : List (List UInt8) → Option (Int × List Int)
  | [] => none
  | w :: ws => if kindUp w 8 = 0 ∨ (ws.length : Int) ≠ cnt (kindUp w 8) then none else match numsGo ws with
    | none => none
    | some xs => some (kindUp w 8, xs)
def parseR (l : List UInt8) : T := match if l.contains 10 then none else parseW (wordsL l) with
  | none => actR 5 0 0 0 0
  | some (k, xs) => actR 0 k (xs.getD 0 0) (xs.getD 1 0) (xs.getD 2 0)
theorem kindUp_le (w : List UInt8) : ∀ k, kindUp w (k + 1) ≤ k
  | 0 => by unfold kindUp; rw [if_neg (fun h => absurd h.1 (by decide))]; exact Nat.le_refl 0
  | k + 1 => by
    have := kindUp_le w k
    unfold kindUp
    split
    · exact Nat.le_refl _
    · omega
theorem kindUp_word (w : List UInt8) : ∀ k, kindUp w k ≠ 0 → word (kindUp w k) = w
  | 0, h => absurd rfl h
  | k + 1, h => by
    unfold kindUp at h ⊢
    split
    · rename_i hc; exact hc.2
    · rename_i hc; rw [if_neg hc] at h; exact kindUp_word w k h
theorem kindUp_eq {w : List UInt8} {k : Nat} (h1 : 1 ≤ k) (h7 : k ≤ 7) (h : word k = w) : kindUp w 8 = k := by
  subst h
  have hk : k = 1 ∨ k = 2 ∨ k = 3 ∨ k = 4 ∨ k = 5 ∨ k = 6 ∨ k = 7 := by omega
  rcases hk with rfl | rfl | rfl | rfl | rfl | rfl | rfl <;> decide
theorem cnt_le (k : Int) : 0 ≤ cnt k ∧ cnt k ≤ 3 := by
  unfold cnt
  generalize k.toNat = n
  have h : n = 0 ∨ n = 1 ∨ n = 2 ∨ n = 3 ∨ n = 4 ∨ n = 5 ∨ n = 6 ∨ n = 7 ∨ 8 ≤ n := by omega
  rcases h with rfl | rfl | rfl | rfl | rfl | rfl | rfl | rfl | h <;> first | decide | skip
  rw [List.getD_eq_getElem?_getD, List.getElem?_eq_none (by simpa using h)]
  decide
end Go.Proofs.YtgpicngmadkdoaaDoor
