/- ParseAct: the small functions. -/
import Derived.Test.YtgpicngmadkdoaaDoorActA
import Derived.Test.YtgpicngmadkdoaaDoorRDel
import Derived.Test.YtgpicngmadkdoaaDoorShelf
set_option linter.unusedVariables false
set_option linter.unusedSimpArgs false
namespace Go.Proofs.YtgpicngmadkdoaaDoor
open Go Go.R Go.Proofs Go.RowKit
set_option maxRecDepth 100000
attribute [local go_sem ↓] v_skip v_reg v_draw v_alt v_seq v_block v_exit v_ret v_loop o_nil o_g q_mv o_mv q_nil_ o_nil_ q_pick o_pick q_alloc o_alloc q_box o_box q_build o_build q_mkSl o_mkSl q_load o_load q_bin o_bin q_shift o_shift q_un o_un q_conv o_conv q_make o_make q_slice o_slice q_substr o_substr q_fieldAddr o_fieldAddr q_field o_field q_indexAddr o_indexAddr q_strIdx o_strIdx q_extract o_extract q_len o_len q_minmax o_minmax q_nilCheck o_nilCheck q_mkFn o_mkFn q_call o_call q_callF o_callF l_mkSl o_mkSlM l_store o_store l_append o_append l_copy o_copy l_clear o_clear l_callR o_callR v_cond callQ_eq
attribute [local go_sem] condv_t condv_f g_tt g_ff g_tf g_ft Norm_eq Opd.get putT List.length_cons List.length_nil List.length_append List.replicate List.cons_append List.nil_append List.append_assoc List.set List.set_cons_zero List.set_cons_succ List.getD_cons_zero List.getD_cons_succ List.getD_nil List.map_cons List.map_nil List.zipIdx_cons List.zipIdx_nil List.any_cons List.any_nil List.all_cons List.all_nil List.flatMap_cons List.flatMap_nil List.foldl_cons List.foldl_nil List.take_succ_cons List.take_zero List.take_nil List.drop_succ_cons List.drop_zero List.drop_nil List.flatten_cons List.flatten_nil List.length_map roL owL arrL List.range_succ List.range_zero List.append_nil binInt true_and and_true false_and and_false Bool.not_true Bool.not_false Bool.and_self Bool.true_and Bool.and_true Bool.false_and Bool.and_false Bool.or_false Bool.or_true Bool.false_or Bool.true_or Bool.false_eq_true false_implies true_implies implies_true forall_const if_true if_false beq_self_eq_true BEq.rfl decide_true decide_false decide_eq_true_eq eq_self Option.getD_none Option.getD_some Option.map_some Option.map_none Option.isNone_none Option.isNone_some Nat.le_refl Int.le_refl Nat.zero_add Nat.add_zero Nat.zero_le Nat.sub_zero Nat.zero_mul Nat.one_mul Nat.lt_one_iff Nat.zero_lt_one Int.toNat_natCast Int.toNat_zero Int.toNat_one Int.natCast_zero retPost inPost rets T.known T.cells T.one takeAll take_ regroup retD retH final nodeR nodeIn pathOk pathIn Obj.rows loadCell setList Heap.put Obj.put Heap.setNode Obj.setNode nodeSet setIn splitLast Heap.drop_ arrAt Heap.kill Obj.kill T.kill D.kill D.thru thruPath params T.param D.param paramCells cellP cellsP capsP rps D.ro T.back T.back1 D.back T.closed D.closed T.clean D.clean D.still view optInt optOk chunk isEq eqDs eqD source capIds D.flat bytesOfAt D.isByte D.byte rowsD_cons_zero subAt_rows shiftAt_rows  drop_mapE take_mapE List.take_length app_rows ro_ints ro_strs ro_bytes big rowsD_cons_succ S_add S_size strEq_S Int.natCast_add Int.cast_ofNat_Int List.mem_cons List.not_mem_nil false_or or_false true_or or_true forall_eq_or_imp forall_eq T.d.injEq T.agg.injEq T.tup.injEq D.int.injEq D.bool.injEq D.str.injEq List.cons.injEq Prod.mk.injEq Option.some.injEq
attribute [local go_sem low] condv_b g_b

-- spec.l15Cut
def c21L0 : MC := (.seq (.seq (.reg [⟨(some 9), none, .mv (.t 7)⟩,
    ⟨(some 10), none, .mv (.t 0)⟩,
    ⟨(some 11), none, .len true (.t 10)⟩,
    ⟨(some 12), none, .bin .leq (.int .i64) (.t 9) (.t 11)⟩]) (.cond (.t 12) .skip (.exit 0))) (.seq (.block 1 (.seq (.reg [⟨(some 15), none, .mv (.t 7)⟩,
    ⟨(some 16), none, .mv (.t 0)⟩,
    ⟨(some 17), none, .len true (.t 16)⟩,
    ⟨(some 18), none, .bin .eql (.int .i64) (.t 15) (.t 17)⟩,
    ⟨(some 19), none, .mv (.t 18)⟩,
    ⟨(some 20), (some (19, false)), .mv (.t 0)⟩,
    ⟨(some 21), (some (19, false)), .mv (.t 7)⟩,
    ⟨(some 22), (some (19, false)), .strIdx (.t 20) (.t 21)⟩,
    ⟨(some 23), (some (19, false)), .mv (.t 1)⟩,
    ⟨(some 24), (some (19, false)), .bin .eql (.int .u8) (.t 22) (.t 23)⟩,
    ⟨(some 25), none, .pick (.t 19) (.c (.d (.bool true))) (.t 24)⟩]) (.cond (.t 25) (.seq (.reg [⟨(some 26), none, .mv (.t 5)⟩,
    ⟨(some 27), none, .mv (.t 0)⟩,
    ⟨(some 28), none, .mv (.t 6)⟩,
    ⟨(some 29), none, .mv (.t 7)⟩,
    ⟨(some 30), none, .substr (.t 27) (some (.t 28)) (some (.t 29))⟩,
    ⟨(some 31), none, .mkSl false 1 [(.str (S []))] 1 [(0, (.t 30))]⟩,
    ⟨(some 32), none, .append 1 16 true (.t 26) (.t 31)⟩,
    ⟨(some 5), none, .mv (.t 32)⟩]) (.reg [⟨(some 33), none, .mv (.t 7)⟩,
    ⟨(some 34), none, .bin .add (.int .i64) (.t 33) (.c (.d (.int .i64 (1))))⟩,
    ⟨(some 6), none, .mv (.t 34)⟩])) .skip))) (.reg [⟨(some 13), none, .mv (.t 7)⟩,
    ⟨(some 14), none, .bin .add (.int .i64) (.t 13) (.c (.d (.int .i64 (1))))⟩,
    ⟨(some 7), none, .mv (.t 14)⟩])))
def c21R0 : MC := (.seq (.reg [⟨(some 35), none, .mv (.t 5)⟩,
    ⟨(some 4), none, .mv (.t 35)⟩]) .ret)
def c21 : MC := (.seq (.reg [⟨(some 4), none, .nil_ 1⟩]) (.seq (.reg [⟨(some 8), none, .mkSl false 1 [(.str (S []))] 0 []⟩,
    ⟨(some 5), none, .mv (.t 8)⟩]) (.seq (.reg [⟨(some 6), none, .mv (.c (.d (.int .i64 (0))))⟩]) (.seq (.seq (.reg [⟨(some 7), none, .mv (.c (.d (.int .i64 (0))))⟩]) (.block 0 (.loop c21L0))) c21R0))))
def c21r : List RV := [.tmp 4]
theorem c21_tr : (Tryd.f21.body.bind (trCode Tryd.prog byref)) = some c21 := by kernel_rfl
theorem c21_rv : trRV Tryd.prog Tryd.f21.results.toList = some c21r := by kernel_rfl

-- spec.l15Words
def c13L0 : MC := (.seq (.seq (.reg [⟨(some 9), none, .mv (.t 5)⟩,
    ⟨(some 10), none, .mv (.t 4)⟩,
    ⟨(some 11), none, .len false (.t 10)⟩,
    ⟨(some 12), none, .bin .lss (.int .i64) (.t 9) (.t 11)⟩]) (.cond (.t 12) .skip (.exit 0))) (.seq (.block 1 (.seq (.reg [⟨(some 15), none, .mv (.t 4)⟩,
    ⟨(some 16), none, .mv (.t 5)⟩,
    ⟨(some 17), none, .indexAddr 1 (.t 15) (.t 16)⟩,
    ⟨(some 18), none, .load none (.t 17)⟩,
    ⟨(some 19), none, .bin .neq .str (.t 18) (.c (.d (.str (S []))))⟩]) (.cond (.t 19) (.reg [⟨(some 20), none, .mv (.t 3)⟩,
    ⟨(some 21), none, .mv (.t 4)⟩,
    ⟨(some 22), none, .mv (.t 5)⟩,
    ⟨(some 23), none, .indexAddr 1 (.t 21) (.t 22)⟩,
    ⟨(some 24), none, .load none (.t 23)⟩,
    ⟨(some 25), none, .mkSl false 1 [(.str (S []))] 1 [(0, (.t 24))]⟩,
    ⟨(some 26), none, .append 1 16 true (.t 20) (.t 25)⟩,
    ⟨(some 3), none, .mv (.t 26)⟩]) .skip))) (.reg [⟨(some 13), none, .mv (.t 5)⟩,
    ⟨(some 14), none, .bin .add (.int .i64) (.t 13) (.c (.d (.int .i64 (1))))⟩,
    ⟨(some 5), none, .mv (.t 14)⟩])))
def c13R0 : MC := (.seq (.reg [⟨(some 27), none, .mv (.t 3)⟩,
    ⟨(some 2), none, .mv (.t 27)⟩]) .ret)
def c13 : MC := (.seq (.reg [⟨(some 2), none, .nil_ 1⟩]) (.seq (.reg [⟨(some 6), none, .mkSl false 1 [(.str (S []))] 0 []⟩,
    ⟨(some 3), none, .mv (.t 6)⟩]) (.seq (.reg [⟨(some 7), none, .mv (.t 0)⟩,
    ⟨(some 8), none, .call 21 [(.t 7), (.c (.d (.int .u8 (32))))]⟩,
    ⟨(some 4), none, .mv (.t 8)⟩]) (.seq (.seq (.reg [⟨(some 5), none, .mv (.c (.d (.int .i64 (0))))⟩]) (.block 0 (.loop c13L0))) c13R0))))
def c13r : List RV := [.tmp 2]
theorem c13_tr : (Tryd.f13.body.bind (trCode Tryd.prog byref)) = some c13 := by kernel_rfl
theorem c13_rv : trRV Tryd.prog Tryd.f13.results.toList = some c13r := by kernel_rfl

-- spec.l15Number
def c16L0 : MC := (.seq (.seq (.reg [⟨(some 14), none, .mv (.t 5)⟩,
    ⟨(some 15), none, .mv (.t 0)⟩,
    ⟨(some 16), none, .len true (.t 15)⟩,
    ⟨(some 17), none, .bin .lss (.int .i64) (.t 14) (.t 16)⟩]) (.cond (.t 17) .skip (.exit 0))) (.seq (.block 1 (.seq (.seq (.reg [⟨(some 20), none, .mv (.t 0)⟩,
    ⟨(some 21), none, .mv (.t 5)⟩,
    ⟨(some 22), none, .strIdx (.t 20) (.t 21)⟩,
    ⟨(some 23), none, .bin .lss (.int .u8) (.t 22) (.c (.d (.int .u8 (48))))⟩,
    ⟨(some 24), none, .mv (.t 23)⟩,
    ⟨(some 25), (some (24, false)), .mv (.t 0)⟩,
    ⟨(some 26), (some (24, false)), .mv (.t 5)⟩,
    ⟨(some 27), (some (24, false)), .strIdx (.t 25) (.t 26)⟩,
    ⟨(some 28), (some (24, false)), .bin .gtr (.int .u8) (.t 27) (.c (.d (.int .u8 (57))))⟩,
    ⟨(some 29), none, .pick (.t 24) (.c (.d (.bool true))) (.t 28)⟩]) (.cond (.t 29) (.seq (.reg [⟨(some 2), none, .mv (.c (.d (.int .i64 (0))))⟩,
    ⟨(some 3), none, .mv (.c (.d (.bool false)))⟩]) .ret) .skip)) (.reg [⟨(some 30), none, .mv (.t 4)⟩,
    ⟨(some 31), none, .bin .mul (.int .i64) (.t 30) (.c (.d (.int .i64 (10))))⟩,
    ⟨(some 32), none, .mv (.t 0)⟩,
    ⟨(some 33), none, .mv (.t 5)⟩,
    ⟨(some 34), none, .strIdx (.t 32) (.t 33)⟩,
    ⟨(some 35), none, .bin .sub (.int .u8) (.t 34) (.c (.d (.int .u8 (48))))⟩,
    ⟨(some 36), none, .conv (.int .i64) (.t 35)⟩,
    ⟨(some 37), none, .bin .add (.int .i64) (.t 31) (.t 36)⟩,
    ⟨(some 4), none, .mv (.t 37)⟩]))) (.reg [⟨(some 18), none, .mv (.t 5)⟩,
    ⟨(some 19), none, .bin .add (.int .i64) (.t 18) (.c (.d (.int .i64 (1))))⟩,
    ⟨(some 5), none, .mv (.t 19)⟩])))
def c16R0 : MC := (.seq (.reg [⟨(some 38), none, .mv (.t 4)⟩,
    ⟨(some 2), none, .mv (.t 38)⟩,
    ⟨(some 3), none, .mv (.c (.d (.bool true)))⟩]) .ret)
def c16 : MC := (.seq (.reg [⟨(some 2), none, .mv (.c (.d (.int .i64 (0))))⟩,
    ⟨(some 3), none, .mv (.c (.d (.bool false)))⟩]) (.seq (.seq (.reg [⟨(some 6), none, .mv (.t 0)⟩,
    ⟨(some 7), none, .len true (.t 6)⟩,
    ⟨(some 8), none, .bin .lss (.int .i64) (.t 7) (.c (.d (.int .i64 (1))))⟩,
    ⟨(some 9), none, .mv (.t 8)⟩,
    ⟨(some 10), (some (9, false)), .mv (.t 0)⟩,
    ⟨(some 11), (some (9, false)), .len true (.t 10)⟩,
    ⟨(some 12), (some (9, false)), .bin .gtr (.int .i64) (.t 11) (.c (.d (.int .i64 (9))))⟩,
    ⟨(some 13), none, .pick (.t 9) (.c (.d (.bool true))) (.t 12)⟩]) (.cond (.t 13) (.seq (.reg [⟨(some 2), none, .mv (.c (.d (.int .i64 (0))))⟩,
    ⟨(some 3), none, .mv (.c (.d (.bool false)))⟩]) .ret) .skip)) (.seq (.reg [⟨(some 4), none, .mv (.c (.d (.int .i64 (0))))⟩]) (.seq (.seq (.reg [⟨(some 5), none, .mv (.c (.d (.int .i64 (0))))⟩]) (.block 0 (.loop c16L0))) c16R0))))
def c16r : List RV := [.tmp 2, .tmp 3]
theorem c16_tr : (Tryd.f16.body.bind (trCode Tryd.prog byref)) = some c16 := by kernel_rfl
theorem c16_rv : trRV Tryd.prog Tryd.f16.results.toList = some c16r := by kernel_rfl

-- impl.numberOf
def c11L0 : MC := (.seq (.reg [⟨(some 8), none, .bin .lss (.int .i64) (.t 7) (.t 6)⟩]) (.seq (.cond (.t 8) .skip (.exit 0)) (.seq (.block 1 (.seq (.reg [⟨(some 9), none, .mv (.t 7)⟩,
    ⟨(some 4), none, .mv (.t 9)⟩]) (.seq (.seq (.reg [⟨(some 10), none, .mv (.t 0)⟩,
    ⟨(some 11), none, .mv (.t 4)⟩,
    ⟨(some 12), none, .strIdx (.t 10) (.t 11)⟩,
    ⟨(some 13), none, .bin .lss (.int .u8) (.t 12) (.c (.d (.int .u8 (48))))⟩,
    ⟨(some 14), none, .mv (.t 13)⟩,
    ⟨(some 15), (some (14, false)), .mv (.t 0)⟩,
    ⟨(some 16), (some (14, false)), .mv (.t 4)⟩,
    ⟨(some 17), (some (14, false)), .strIdx (.t 15) (.t 16)⟩,
    ⟨(some 18), (some (14, false)), .bin .gtr (.int .u8) (.t 17) (.c (.d (.int .u8 (57))))⟩,
    ⟨(some 19), none, .pick (.t 14) (.c (.d (.bool true))) (.t 18)⟩]) (.cond (.t 19) (.seq (.reg [⟨(some 2), none, .mv (.c (.d (.int .i64 (-1))))⟩]) .ret) .skip)) (.seq (.reg [⟨(some 20), none, .mv (.t 3)⟩,
    ⟨(some 21), none, .bin .mul (.int .i64) (.c (.d (.int .i64 (10)))) (.t 20)⟩,
    ⟨(some 22), none, .mv (.t 0)⟩,
    ⟨(some 23), none, .mv (.t 4)⟩,
    ⟨(some 24), none, .strIdx (.t 22) (.t 23)⟩,
    ⟨(some 25), none, .bin .sub (.int .u8) (.t 24) (.c (.d (.int .u8 (48))))⟩,
    ⟨(some 26), none, .conv (.int .i64) (.t 25)⟩,
    ⟨(some 27), none, .bin .add (.int .i64) (.t 21) (.t 26)⟩,
    ⟨(some 3), none, .mv (.t 27)⟩]) (.seq (.reg [⟨(some 28), none, .mv (.t 4)⟩,
    ⟨(some 29), none, .bin .gtr (.int .i64) (.t 28) (.c (.d (.int .i64 (8))))⟩]) (.cond (.t 29) (.seq (.reg [⟨(some 2), none, .mv (.c (.d (.int .i64 (-1))))⟩]) .ret) .skip)))))) (.reg [⟨(some 30), none, .bin .add (.int .i64) (.t 7) (.c (.d (.int .i64 (1))))⟩,
    ⟨(some 7), none, .mv (.t 30)⟩]))))
def c11R0 : MC := (.seq (.seq (.reg [⟨(some 31), none, .mv (.t 0)⟩,
    ⟨(some 32), none, .bin .eql .str (.t 31) (.c (.d (.str (S []))))⟩]) (.cond (.t 32) (.seq (.reg [⟨(some 2), none, .mv (.c (.d (.int .i64 (-1))))⟩]) .ret) .skip)) (.seq (.reg [⟨(some 33), none, .mv (.t 3)⟩,
    ⟨(some 2), none, .mv (.t 33)⟩]) .ret))
def c11 : MC := (.seq (.reg [⟨(some 2), none, .mv (.c (.d (.int .i64 (0))))⟩]) (.seq (.reg [⟨(some 3), none, .mv (.c (.d (.int .i64 (0))))⟩]) (.seq (.seq (.reg [⟨(some 5), none, .mv (.t 0)⟩,
    ⟨(some 6), none, .len true (.t 5)⟩,
    ⟨(some 7), none, .mv (.c (.d (.int .i64 (0))))⟩]) (.block 0 (.loop c11L0))) c11R0)))
def c11r : List RV := [.tmp 2]
theorem c11_tr : (Tryd.f11.body.bind (trCode Tryd.prog byref)) = some c11 := by kernel_rfl
theorem c11_rv : trRV Tryd.prog Tryd.f11.results.toList = some c11r := by kernel_rfl

-- impl.words
def c8 : MC := (.seq (.reg [⟨(some 2), none, .nil_ 1⟩]) (.seq (.reg [⟨(some 3), none, .mv (.t 0)⟩,
    ⟨(some 4), none, .call 18 [(.t 3), (.c (.d (.str (S [32]))))]⟩,
    ⟨(some 5), none, .callR (.c (.d (.fn 17 []))) [(.t 4), (.c (.d (.fn 19 [])))]⟩,
    ⟨(some 2), none, .mv (.t 5)⟩]) .ret))
def c8r : List RV := [.tmp 2]
theorem c8_tr : (Tryd.f8.body.bind (trCode Tryd.prog byref)) = some c8 := by kernel_rfl
theorem c8_rv : trRV Tryd.prog Tryd.f8.results.toList = some c8r := by kernel_rfl

-- impl.words$1
def c19 : MC := (.seq (.reg [⟨(some 2), none, .mv (.c (.d (.bool false)))⟩]) (.seq (.reg [⟨(some 3), none, .mv (.t 0)⟩,
    ⟨(some 4), none, .bin .eql .str (.t 3) (.c (.d (.str (S []))))⟩,
    ⟨(some 2), none, .mv (.t 4)⟩]) .ret))
def c19r : List RV := [.tmp 2]
theorem c19_tr : (Tryd.f19.body.bind (trCode Tryd.prog byref)) = some c19 := by kernel_rfl
theorem c19_rv : trRV Tryd.prog Tryd.f19.results.toList = some c19r := by kernel_rfl

-- slices.IndexFunc[[]string,string]
def c22L0 : MC := (.seq (.reg [⟨(some 9), none, .bin .lss (.int .i64) (.t 8) (.t 7)⟩]) (.seq (.cond (.t 9) .skip (.exit 0)) (.seq (.block 1 (.seq (.reg [⟨(some 10), none, .mv (.t 8)⟩,
    ⟨(some 5), none, .mv (.t 10)⟩]) (.seq (.reg [⟨(some 11), none, .mv (.t 1)⟩,
    ⟨(some 12), none, .mv (.t 0)⟩,
    ⟨(some 13), none, .mv (.t 5)⟩,
    ⟨(some 14), none, .indexAddr 1 (.t 12) (.t 13)⟩,
    ⟨(some 15), none, .load none (.t 14)⟩,
    ⟨(some 16), none, .callF (.t 11) [(.t 15)]⟩]) (.cond (.t 16) (.seq (.reg [⟨(some 17), none, .mv (.t 5)⟩,
    ⟨(some 4), none, .mv (.t 17)⟩]) .ret) .skip)))) (.reg [⟨(some 18), none, .bin .add (.int .i64) (.t 8) (.c (.d (.int .i64 (1))))⟩,
    ⟨(some 8), none, .mv (.t 18)⟩]))))
def c22R0 : MC := (.seq (.reg [⟨(some 4), none, .mv (.c (.d (.int .i64 (-1))))⟩]) .ret)
def c22 : MC := (.seq (.reg [⟨(some 4), none, .mv (.c (.d (.int .i64 (0))))⟩]) (.seq (.seq (.reg [⟨(some 6), none, .mv (.t 0)⟩,
    ⟨(some 7), none, .len false (.t 6)⟩,
    ⟨(some 8), none, .mv (.c (.d (.int .i64 (0))))⟩]) (.block 0 (.loop c22L0))) c22R0))
def c22r : List RV := [.tmp 4]
theorem c22_tr : (Tryd.f22.body.bind (trCode Tryd.prog byref)) = some c22 := by kernel_rfl
theorem c22_rv : trRV Tryd.prog Tryd.f22.results.toList = some c22r := by kernel_rfl

-- slices.DeleteFunc[[]string,string]
def c17L0 : MC := (.seq (.seq (.reg [⟨(some 16), none, .mv (.t 6)⟩,
    ⟨(some 17), none, .mv (.t 0)⟩,
    ⟨(some 18), none, .len false (.t 17)⟩,
    ⟨(some 19), none, .bin .lss (.int .i64) (.t 16) (.t 18)⟩]) (.cond (.t 19) .skip (.exit 0))) (.seq (.block 1 (.seq (.reg [⟨(some 22), none, .mv (.t 0)⟩,
    ⟨(some 23), none, .mv (.t 6)⟩,
    ⟨(some 24), none, .indexAddr 1 (.t 22) (.t 23)⟩,
    ⟨(some 25), none, .load none (.t 24)⟩,
    ⟨(some 7), none, .mv (.t 25)⟩]) (.seq (.reg [⟨(some 26), none, .mv (.t 1)⟩,
    ⟨(some 27), none, .mv (.t 7)⟩,
    ⟨(some 28), none, .callF (.t 26) [(.t 27)]⟩,
    ⟨(some 29), none, .un .not .bool (.t 28)⟩]) (.cond (.t 29) (.seq (.reg [⟨(some 30), none, .mv (.t 0)⟩,
    ⟨(some 31), none, .mv (.t 5)⟩,
    ⟨(some 32), none, .mv (.t 7)⟩,
    ⟨(some 33), none, .indexAddr 1 (.t 30) (.t 31)⟩,
    ⟨none, none, .store 1 (.t 33) (.t 32)⟩]) (.reg [⟨(some 34), none, .mv (.t 5)⟩,
    ⟨(some 35), none, .bin .add (.int .i64) (.t 34) (.c (.d (.int .i64 (1))))⟩,
    ⟨(some 5), none, .mv (.t 35)⟩])) .skip)))) (.reg [⟨(some 20), none, .mv (.t 6)⟩,
    ⟨(some 21), none, .bin .add (.int .i64) (.t 20) (.c (.d (.int .i64 (1))))⟩,
    ⟨(some 6), none, .mv (.t 21)⟩])))
def c17R0 : MC := (.seq (.reg [⟨(some 36), none, .mv (.t 0)⟩,
    ⟨(some 37), none, .mv (.t 5)⟩,
    ⟨(some 38), none, .slice 1 (.t 36) (some (.t 37)) none none⟩,
    ⟨none, none, .clear 1 [(.str (S []))] (.t 38)⟩]) (.seq (.reg [⟨(some 39), none, .mv (.t 0)⟩,
    ⟨(some 40), none, .mv (.t 5)⟩,
    ⟨(some 41), none, .slice 1 (.t 39) none (some (.t 40)) none⟩,
    ⟨(some 4), none, .mv (.t 41)⟩]) .ret))
def c17 : MC := (.seq (.reg [⟨(some 4), none, .nil_ 1⟩]) (.seq (.reg [⟨(some 8), none, .mv (.t 0)⟩,
    ⟨(some 9), none, .mv (.t 1)⟩,
    ⟨(some 10), none, .call 22 [(.t 8), (.t 9)]⟩,
    ⟨(some 5), none, .mv (.t 10)⟩]) (.seq (.seq (.reg [⟨(some 11), none, .mv (.t 5)⟩,
    ⟨(some 12), none, .bin .eql (.int .i64) (.t 11) (.c (.d (.int .i64 (-1))))⟩]) (.cond (.t 12) (.seq (.reg [⟨(some 13), none, .mv (.t 0)⟩,
    ⟨(some 4), none, .mv (.t 13)⟩]) .ret) .skip)) (.seq (.seq (.reg [⟨(some 14), none, .mv (.t 5)⟩,
    ⟨(some 15), none, .bin .add (.int .i64) (.t 14) (.c (.d (.int .i64 (1))))⟩,
    ⟨(some 6), none, .mv (.t 15)⟩]) (.block 0 (.loop c17L0))) c17R0))))
def c17r : List RV := [.tmp 4]
theorem c17_tr : (Tryd.f17.body.bind (trCode Tryd.prog byref)) = some c17 := by kernel_rfl
theorem c17_rv : trRV Tryd.prog Tryd.f17.results.toList = some c17r := by kernel_rfl

-- laws.eqAct
def c12 : MC := (.seq (.reg [⟨(some 2), none, .box (.t 0)⟩,
    ⟨(some 3), none, .box (.t 1)⟩,
    ⟨(some 4), none, .mv (.c (.d (.bool false)))⟩]) (.seq (.seq (.reg [⟨(some 5), none, .fieldAddr 0 (.t 2)⟩,
    ⟨(some 6), none, .load none (.t 5)⟩,
    ⟨(some 7), none, .fieldAddr 0 (.t 3)⟩,
    ⟨(some 8), none, .load none (.t 7)⟩,
    ⟨(some 9), none, .bin .neq (.int .i64) (.t 6) (.t 8)⟩]) (.cond (.t 9) (.seq (.reg [⟨(some 4), none, .mv (.c (.d (.bool false)))⟩]) .ret) .skip)) (.seq (.seq (.reg [⟨(some 10), none, .fieldAddr 1 (.t 2)⟩,
    ⟨(some 11), none, .load none (.t 10)⟩,
    ⟨(some 12), none, .fieldAddr 1 (.t 3)⟩,
    ⟨(some 13), none, .load none (.t 12)⟩,
    ⟨(some 14), none, .bin .neq (.int .i64) (.t 11) (.t 13)⟩]) (.cond (.t 14) (.seq (.reg [⟨(some 4), none, .mv (.c (.d (.bool false)))⟩]) .ret) .skip)) (.seq (.seq (.reg [⟨(some 15), none, .fieldAddr 2 (.t 2)⟩,
    ⟨(some 16), none, .load none (.t 15)⟩,
    ⟨(some 17), none, .fieldAddr 2 (.t 3)⟩,
    ⟨(some 18), none, .load none (.t 17)⟩,
    ⟨(some 19), none, .bin .neq (.int .i64) (.t 16) (.t 18)⟩]) (.cond (.t 19) (.seq (.reg [⟨(some 4), none, .mv (.c (.d (.bool false)))⟩]) .ret) .skip)) (.seq (.seq (.reg [⟨(some 20), none, .fieldAddr 3 (.t 2)⟩,
    ⟨(some 21), none, .load none (.t 20)⟩,
    ⟨(some 22), none, .fieldAddr 3 (.t 3)⟩,
    ⟨(some 23), none, .load none (.t 22)⟩,
    ⟨(some 24), none, .bin .neq (.int .i64) (.t 21) (.t 23)⟩]) (.cond (.t 24) (.seq (.reg [⟨(some 4), none, .mv (.c (.d (.bool false)))⟩]) .ret) .skip)) (.seq (.reg [⟨(some 4), none, .mv (.c (.d (.bool true)))⟩]) .ret))))))
def c12r : List RV := [.tmp 4]
theorem c12_tr : (Tryd.f12.body.bind (trCode Tryd.prog byref)) = some c12 := by kernel_rfl
theorem c12_rv : trRV Tryd.prog Tryd.f12.results.toList = some c12r := by kernel_rfl

-- laws.eqActResult
def c6 : MC := (.seq (.reg [⟨(some 2), none, .box (.t 0)⟩,
    ⟨(some 3), none, .box (.t 1)⟩,
    ⟨(some 4), none, .mv (.c (.d (.bool false)))⟩]) (.seq (.seq (.reg [⟨(some 5), none, .fieldAddr 0 (.t 2)⟩,
    ⟨(some 6), none, .load none (.t 5)⟩,
    ⟨(some 7), none, .fieldAddr 0 (.t 3)⟩,
    ⟨(some 8), none, .load none (.t 7)⟩,
    ⟨(some 9), none, .bin .neq (.int .i64) (.t 6) (.t 8)⟩]) (.cond (.t 9) (.seq (.reg [⟨(some 4), none, .mv (.c (.d (.bool false)))⟩]) .ret) .skip)) (.seq (.seq (.reg [⟨(some 10), none, .fieldAddr 1 (.t 2)⟩,
    ⟨(some 11), none, .load (some 4) (.t 10)⟩,
    ⟨(some 12), none, .fieldAddr 1 (.t 3)⟩,
    ⟨(some 13), none, .load (some 4) (.t 12)⟩,
    ⟨(some 14), none, .call 12 [(.t 11), (.t 13)]⟩,
    ⟨(some 15), none, .un .not .bool (.t 14)⟩]) (.cond (.t 15) (.seq (.reg [⟨(some 4), none, .mv (.c (.d (.bool false)))⟩]) .ret) .skip)) (.seq (.reg [⟨(some 4), none, .mv (.c (.d (.bool true)))⟩]) .ret))))
def c6r : List RV := [.tmp 4]
theorem c6_tr : (Tryd.f6.body.bind (trCode Tryd.prog byref)) = some c6 := by kernel_rfl
theorem c6_rv : trRV Tryd.prog Tryd.f6.results.toList = some c6r := by kernel_rfl

/-- A line, cut at the byte c; acc: what is before it in the first piece. -/
def cutL (c : UInt8) : List UInt8 → List UInt8 → List (List UInt8)
  | [], acc => [acc]
  | x :: l, acc => if x = c then acc :: cutL c l [] else cutL c l (acc ++ [x])
def wordsL (l : List UInt8) : List (List UInt8) := (cutL 32 l []).filter fun w => !decide (w = [])
theorem cutL_cons (c x : UInt8) (l acc : List UInt8) : cutL c (x :: l) acc = if x = c then acc :: cutL c l [] else cutL c l (acc ++ [x]) := rfl
theorem cutL_len (c : UInt8) : ∀ (l acc : List UInt8), (cutL c l acc).length ≤ l.length + 1
  | [], _ => by simp [cutL]
  | x :: l, acc => by
    unfold cutL
    split
    · have := cutL_len c l []; simp; omega
    · have := cutL_len c l (acc ++ [x]); simp; omega
theorem splitK_cut (c : UInt8) : ∀ (l acc : List UInt8), (match Lib.splitK [c] 0 (Lib.count l [c]) l with | [] => [] | w :: ws => (acc ++ w) :: ws) = cutL c l acc
  | [], acc => by
    rw [Lib.count_miss (by simp [Lib.index])]
    simp [Lib.splitK, cutL]
  | x :: l, acc => by
    unfold cutL
    by_cases h : x = c
    · subst h
      have hix : Lib.index (x :: l) [x] = ((0 : Nat) : Int) := by rw [Lib.index]; simp [List.isPrefixOf]
      rw [if_pos rfl, Lib.count_cons_eq, Nat.add_comm, Lib.splitK, if_neg (by rw [hix]; simp), hix]
      have ih := splitK_cut x l []
      simp only [List.nil_append] at ih
      simp only [Int.toNat_natCast, Nat.add_zero, List.take_zero, List.append_nil, List.length_cons, List.length_nil, Nat.zero_add, List.drop_succ_cons, List.drop_zero]
      congr 1
      rw [← ih]
      cases Lib.splitK [x] 0 (Lib.count l [x]) l <;> rfl
    · rw [if_neg h, Lib.count_cons_ne x c l h, ← splitK_cut c l (acc ++ [x])]
      have hp : ([c] : List UInt8).isPrefixOf (x :: l) = false := by simp [List.isPrefixOf, Ne.symm h]
      have hix : Lib.index (x :: l) [c] = if Lib.index l [c] == -1 then -1 else Lib.index l [c] + 1 := by rw [Lib.index, hp]; simp
      cases hn : Lib.count l [c] with
      | zero => simp [Lib.splitK]
      | succ n =>
        have hne : Lib.index l [c] ≠ -1 := fun e => by rw [Lib.count_miss e] at hn; cases hn
        have hge := Lib.index_ge l [c]
        obtain ⟨j, hj⟩ : ∃ j : Nat, Lib.index l [c] = j := ⟨(Lib.index l [c]).toNat, by omega⟩
        have hix' : Lib.index (x :: l) [c] = ((j + 1 : Nat) : Int) := by rw [hix, if_neg (fun e => hne (beq_iff_eq.1 e)), hj]; omega
        rw [Lib.splitK, Lib.splitK, if_neg (by rw [hix', beq_iff_eq]; omega), if_neg (by rw [hj, beq_iff_eq]; omega), hix', hj]
        simp
theorem split_cut (c : UInt8) (l : List UInt8) : Lib.splitK [c] 0 (Lib.count l [c]) l = cutL c l [] := by
  rw [← splitK_cut c l []]
  cases Lib.splitK [c] 0 (Lib.count l [c]) l <;> rfl
theorem gMaxLen : Tryd.prog.globalNamed "internal/bytealg.MaxLen" = some 0 := by kernel_rfl
theorem split_ok (l : List UInt8) (c : UInt8) (hl : l.length < 4294967281) : FnSem Tryd.prog 18 [.d (.str (S l)), .d (.str (S [c]))] (newL strE 1 (cutL c l [])) := by
  refine fnSem_newStrs (ty := 9) (by kernel_rfl) fun ok w vs hst hok hv => ?_
  cases hv with
  | cons h1 h2 => cases h2 with
    | cons h3 h4 =>
      cases h4
      obtain ⟨_, rfl⟩ := h1
      obtain ⟨_, rfl⟩ := h3
      obtain ⟨m, hm⟩ := hst.2 0 gMaxLen
      have hd := Lib.splitB_data (S [c]) 0 (Lib.countB (S l) (S [c])) (S l)
      have e1 : (S [c]).data.toList = [c] := by simp [S]
      have e2 : (S l).data.toList = l := by simp [S]
      rw [e1, e2] at hd
      have hc : Lib.countB (S l) (S [c]) = Lib.count l [c] := by show Lib.count _ _ = _; rw [e1, e2]
      rw [hc, split_cut] at hd
      have hlen := Lib.splitB_all (S [c]) (by rw [S_size]; simp) 0 _ (S l) rfl
      have hS : Lib.splitB (S [c]) 0 (Lib.count l [c]) (S l) = (cutL c l []).map S := by
        rw [← hd, List.map_map]
        conv => lhs; rw [← List.map_id (Lib.splitB (S [c]) 0 (Lib.count l [c]) (S l))]
        apply List.map_congr_left
        intro b _
        exact S_eq b
      have hcl : Lib.countB (S l) (S [c]) + 1 = (cutL c l []).length := by
        rw [← hlen, hc, hS, List.length_map]
      refine (Tryd.strings_Split (S l) (S [c]) m w (by rw [S_size]; exact hl) hm (by rw [S_size]; simp)).mono fun e w' ⟨he, hw⟩ => ⟨?_, ?_⟩
      · rw [he, hcl]
      · rw [hw, hc, hS]
theorem indexByte_mem (c : UInt8) : ∀ l : List UInt8, decide (0 ≤ Lib.indexByte l c) = l.contains c
  | [] => by simp [Lib.indexByte]
  | b :: l => by
    have ih := indexByte_mem c l
    have hge := Lib.indexByte_ge l c
    unfold Lib.indexByte
    by_cases h : b = c
    · simp [h]
    · have h2 : ¬ (b == c) = true := by simpa using h
      rw [if_neg h2, List.contains_cons, show (c == b) = false by simpa using fun e => h e.symm, Bool.false_or, ← ih]
      split
      · rename_i h3
        rw [beq_iff_eq.1 h3]
      · rename_i h3
        have : Lib.indexByte l c ≠ -1 := fun e => h3 (beq_iff_eq.2 e)
        rw [decide_eq_true (by omega), decide_eq_true (by omega)]
theorem contains_ok (l : List UInt8) (c : UInt8) : FnSem Tryd.prog 9 [.d (.str (S l)), .d (.str (S [c]))] fun t N => t = .d (.bool (l.contains c)) ∧ N = [] := by
  refine fnSem_scalar rfl (by kernel_rfl) fun ok w vs hst hok hv => ?_
  cases hv with
  | cons h1 h2 => cases h2 with
    | cons h3 h4 =>
      cases h4
      obtain ⟨_, rfl⟩ := h1
      obtain ⟨_, rfl⟩ := h3
      have e := indexByte_mem c l
      refine (Tryd.strings_Contains_one (S l) c w).mono fun e' w' ⟨he, hw⟩ => ⟨?_, by rw [hw]; exact Below.refl _ _⟩
      have e3 : (S l).data.toList = l := by simp [S]
      rw [he, e3, ← e]
theorem byte_eq (x c : UInt8) : ieq (x.toNat : Int) (c.toNat : Int) = decide (x = c) := by
  rw [ieq_eq]
  by_cases h : x = c
  · simp [h]
  · rw [decide_eq_false h, beq_eq_false_iff_ne]
    intro e
    exact h (UInt8.toNat_inj.1 (by omega))
theorem cut_ok (l : List UInt8) (c : UInt8) (hl : l.length ≤ 1048576) : FnSem Tryd.prog 21 [.d (.str (S l)), .d (.int .u8 c.toNat)] (newL strE 1 (cutL c l [])) := by
  refine fn_of mixed (by kernel_rfl) Tryd.func21 Tryd.ntmps21 c21_tr c21_rv (by simp) fun Fn In Sh hFn hIn hSh => ?_
  subst hFn hIn hSh
  unfold c21 c21r
  simp -dsimp only [go_sem, make_rows, ro_rows, Nat.reduceSub, Nat.reduceAdd, Nat.reduceLT, Nat.reduceLeDiff, Nat.reduceMul, Nat.reduceEqDiff, reduceCtorEq, reduceIte, Int.reduceToNat, Int.reduceLE, Int.reduceLT, Int.reduceNe, newL]
  refine loopI (fun k s => ∃ i f out, f ≤ i ∧ i ≤ l.length + 1 ∧ k = l.length + 1 - i ∧ out.length ≤ i ∧ out ++ (if i ≤ l.length then cutL c (l.drop i) ((l.take i).drop f) else []) = cutL c l [] ∧
    s = ⟨(.d (.str (S l)) :: .d (.int .u8 c.toNat) :: .d .dead :: .d .dead :: .d .dead :: .d (.own 0 [] out.length 0 out.length) :: .d (.int .i64 (f : Int)) :: .d (.int .i64 (i : Int)) :: .d .dead :: .d .dead :: .d .dead :: .d .dead :: .d .dead :: .d .dead :: .d .dead :: .d .dead :: .d .dead :: .d .dead :: .d .dead :: .d .dead :: .d .dead :: .d .dead :: .d .dead :: .d .dead :: .d .dead :: .d .dead :: .d .dead :: .d .dead :: .d .dead :: .d .dead :: .d .dead :: .d .dead :: .d .dead :: .d .dead :: .d .dead :: .d .dead :: []), [some (arrL strE 1 out)], []⟩) (l.length + 1) _ (Shift.keep0 [1] (by decide) ?_ ?_) ⟨0, 0, [], by omega, by omega, rfl, by simp, by simp, rfl⟩ ?_
  · simp [KeepH, KeepO, KeepDs, KeepD, KeepTs, KeepT, KeepU, D.ren, D.inR, strE, arrL]
  · simp [KeepH, KeepO, KeepDs, KeepD, KeepTs, KeepT, KeepU, D.ren, D.inR]
  rintro k s ⟨i, f, out, hfi, hi, rfl, ho, hcut, rfl⟩
  unfold c21L0
  have hif : ∀ x : Nat, x < 9223372036854775807 → iadd IntKind.i64 (x : Int) 1 = ((x + 1 : Nat) : Int) := fun x h => inc64 h
  by_cases hle : i ≤ l.length
  · have hc : ile (i : Int) (l.length : Int) = true := ile_t (by omega)
    have hi1 := inc64 (show i < 9223372036854775807 by omega)
    rw [if_pos hle] at hcut
    by_cases heq : i = l.length
    · have he : ieq (i : Int) (l.length : Int) = true := ieq_t (by omega)
      simp -dsimp only [go_sem, make_rows, ro_rows, Nat.reduceSub, Nat.reduceAdd, Nat.reduceLT, Nat.reduceLeDiff, Nat.reduceMul, Nat.reduceEqDiff, reduceCtorEq, reduceIte, Int.reduceToNat, Int.reduceLE, Int.reduceLT, Int.reduceNe, hc, hi1, he, S_extract]
      repeat (refine And.intro (by omega) ?_)
      refine next (l.length + 1 - (i + 1)) _ (by omega) (Shift.keep0 [2] (by decide) ?_ ?_) ⟨i + 1, i + 1, out ++ [(l.take i).drop f], by omega, by omega, rfl, by simp; omega, ?_, rfl⟩
      · simp [KeepH, KeepO, KeepDs, KeepD, KeepTs, KeepT, KeepU, D.ren, D.inR, strE, arrL]
      · simp [KeepH, KeepO, KeepDs, KeepD, KeepTs, KeepT, KeepU, D.ren, D.inR]
      · rw [if_neg (by omega), ← hcut, heq, List.drop_length]
        simp [cutL]
    · have hlt : i < l.length := by omega
      have he : ieq (i : Int) (l.length : Int) = false := ieq_f (by omega)
      have hd := drop_getD l 0 hlt
      have hsn := take_snoc l 0 hlt
      have hb := byte_eq (l.getD i 0) c
      rw [hd, cutL_cons] at hcut
      obtain ⟨x, hx⟩ : ∃ x, l.getD i 0 = x := ⟨_, rfl⟩
      have hg : (S l).data.getD i 0 = x := by rw [S_get, hx]
      rw [hx] at hcut hsn hb
      have hacc : (l.take (i + 1)).drop f = (l.take i).drop f ++ [x] := by
        rw [hsn, List.drop_append_of_le_length (by simp; omega)]
      have hself : (l.take (i + 1)).drop (i + 1) = [] := List.drop_eq_nil_of_le (by simp; omega)
      by_cases hxc : x = c
      · have hb1 : ieq (x.toNat : Int) (c.toNat : Int) = true := by rw [hb]; exact decide_eq_true hxc
        rw [if_pos hxc] at hcut
        simp -dsimp only [go_sem, make_rows, ro_rows, Nat.reduceSub, Nat.reduceAdd, Nat.reduceLT, Nat.reduceLeDiff, Nat.reduceMul, Nat.reduceEqDiff, reduceCtorEq, reduceIte, Int.reduceToNat, Int.reduceLE, Int.reduceLT, Int.reduceNe, hc, hi1, he, hg, hb1, S_extract]
        repeat (refine And.intro (by omega) ?_)
        refine next (l.length + 1 - (i + 1)) _ (by omega) (Shift.keep0 [2] (by decide) ?_ ?_) ⟨i + 1, i + 1, out ++ [(l.take i).drop f], by omega, by omega, rfl, by simp; omega, ?_, rfl⟩
        · simp [KeepH, KeepO, KeepDs, KeepD, KeepTs, KeepT, KeepU, D.ren, D.inR, strE, arrL]
        · simp [KeepH, KeepO, KeepDs, KeepD, KeepTs, KeepT, KeepU, D.ren, D.inR]
        · rw [if_pos (by omega), hself, ← hcut]
          simp
      · have hb0 : ieq (x.toNat : Int) (c.toNat : Int) = false := by rw [hb]; exact decide_eq_false hxc
        rw [if_neg hxc] at hcut
        simp -dsimp only [go_sem, make_rows, ro_rows, Nat.reduceSub, Nat.reduceAdd, Nat.reduceLT, Nat.reduceLeDiff, Nat.reduceMul, Nat.reduceEqDiff, reduceCtorEq, reduceIte, Int.reduceToNat, Int.reduceLE, Int.reduceLT, Int.reduceNe, hc, hi1, he, hg, hb0, S_extract]
        repeat (refine And.intro (by omega) ?_)
        refine next (l.length + 1 - (i + 1)) _ (by omega) (Shift.forget ?_) ⟨i + 1, f, out, by omega, by omega, rfl, by omega, ?_, rfl⟩
        · simp [Fgt]
        · rw [if_pos (by omega), hacc, ← hcut]
  · have hc : ile (i : Int) (l.length : Int) = false := ile_f (by omega)
    rw [if_neg hle, List.append_nil] at hcut
    unfold c21R0
    simp -dsimp only [go_sem, make_rows, ro_rows, Nat.reduceSub, Nat.reduceAdd, Nat.reduceLT, Nat.reduceLeDiff, Nat.reduceMul, Nat.reduceEqDiff, reduceCtorEq, reduceIte, Int.reduceToNat, Int.reduceLE, Int.reduceLT, Int.reduceNe, hc]
    rw [← hcut]
    exact ⟨rfl, rfl⟩
theorem words_ok (l : List UInt8) (hl : l.length ≤ 1048576) : FnSem Tryd.prog 13 [.d (.str (S l))] (newL strE 1 (wordsL l)) := by
  have hcl := cutL_len 32 l []
  refine fn_of mixed (by kernel_rfl) Tryd.func13 Tryd.ntmps13 c13_tr c13_rv (by simp) fun Fn In Sh hFn hIn hSh => ?_
  subst hFn hIn hSh
  unfold c13 c13r
  simp -dsimp only [go_sem, make_rows, ro_rows, Nat.reduceSub, Nat.reduceAdd, Nat.reduceLT, Nat.reduceLeDiff, Nat.reduceMul, Nat.reduceEqDiff, reduceCtorEq, reduceIte, Int.reduceToNat, Int.reduceLE, Int.reduceLT, Int.reduceNe, newL]
  refine step1 (cut_ok l 32 hl) ?_
  unfold wordsL
  generalize cutL 32 l [] = ws at hcl
  simp -dsimp only [go_sem, make_rows, ro_rows, Nat.reduceSub, Nat.reduceAdd, Nat.reduceLT, Nat.reduceLeDiff, Nat.reduceMul, Nat.reduceEqDiff, reduceCtorEq, reduceIte, Int.reduceToNat, Int.reduceLE, Int.reduceLT, Int.reduceNe]
  refine loopI (fun k s => ∃ i, i ≤ ws.length ∧ k = ws.length - i ∧
    s = ⟨(.d .dead :: .d .dead :: .d .dead :: .d (.own 0 [] ((ws.take i).filter fun w => !decide (w = [])).length 0 ((ws.take i).filter fun w => !decide (w = [])).length) :: .d (.own 1 [] ws.length 0 ws.length) :: .d (.int .i64 (i : Int)) :: .d .dead :: .d .dead :: .d .dead :: .d .dead :: .d .dead :: .d .dead :: .d .dead :: .d .dead :: .d .dead :: .d .dead :: .d .dead :: .d .dead :: .d .dead :: .d .dead :: .d .dead :: .d .dead :: .d .dead :: .d .dead :: .d .dead :: .d .dead :: .d .dead :: .d .dead :: []), [some (arrL strE 1 ((ws.take i).filter fun w => !decide (w = []))), some (arrL strE 1 ws)], []⟩) ws.length _ (Shift.keep0 [1, 2] (by decide) ?_ ?_) ⟨0, by omega, rfl, rfl⟩ ?_
  · simp [KeepH, KeepO, KeepDs, KeepD, KeepTs, KeepT, KeepU, D.ren, D.inR, strE, arrL]
  · simp [KeepH, KeepO, KeepDs, KeepD, KeepTs, KeepT, KeepU, D.ren, D.inR]
  rintro k s ⟨i, hi, rfl, rfl⟩
  unfold c13L0
  by_cases hlt : i < ws.length
  · have hc : ilt (i : Int) (ws.length : Int) = true := ilt_t (by omega)
    have hi1 := inc64 (show i < 9223372036854775807 by omega)
    have hr0 : rowsD (ws.map strE) i 0 = .str (S (ws.getD i [])) := row_get hlt
    have hsn := take_snoc ws [] hlt
    have hfl := List.length_filter_le (fun w : List UInt8 => !decide (w = [])) (ws.take i)
    rw [List.length_take] at hfl
    obtain ⟨x, hx⟩ : ∃ x, ws.getD i [] = x := ⟨_, rfl⟩
    rw [hx] at hsn hr0
    by_cases h0 : x = []
    · have hs : (ws.take (i + 1)).filter (fun w => !decide (w = [])) = (ws.take i).filter (fun w => !decide (w = [])) := by
        rw [hsn, List.filter_append]; simp [h0]
      simp -dsimp only [go_sem, make_rows, ro_rows, Nat.reduceSub, Nat.reduceAdd, Nat.reduceLT, Nat.reduceLeDiff, Nat.reduceMul, Nat.reduceEqDiff, reduceCtorEq, reduceIte, Int.reduceToNat, Int.reduceLE, Int.reduceLT, Int.reduceNe, hc, hi1, hr0, h0]
      repeat (refine And.intro (by omega) ?_)
      refine next (ws.length - (i + 1)) _ (by omega) (Shift.forget ?_) ⟨i + 1, by omega, rfl, by rw [hs]⟩
      simp [Fgt]
    · have hs : (ws.take (i + 1)).filter (fun w => !decide (w = [])) = (ws.take i).filter (fun w => !decide (w = [])) ++ [x] := by
        rw [hsn, List.filter_append]; simp [h0]
      have hd0 : decide (x = []) = false := decide_eq_false h0
      rw [show (i + 1) = i + 1 from rfl] at hs
      generalize hO : (ws.take i).filter (fun w => !decide (w = [])) = out at hs hfl
      simp -dsimp only [go_sem, make_rows, ro_rows, Nat.reduceSub, Nat.reduceAdd, Nat.reduceLT, Nat.reduceLeDiff, Nat.reduceMul, Nat.reduceEqDiff, reduceCtorEq, reduceIte, Int.reduceToNat, Int.reduceLE, Int.reduceLT, Int.reduceNe, hc, hi1, hr0, hd0, hO]
      repeat (refine And.intro (by omega) ?_)
      refine next (ws.length - (i + 1)) _ (by omega) (Shift.keep0 [3, 1] (by decide) ?_ ?_) ⟨i + 1, by omega, rfl, by rw [hs]⟩
      · simp [KeepH, KeepO, KeepDs, KeepD, KeepTs, KeepT, KeepU, D.ren, D.inR, strE, arrL]
      · simp [KeepH, KeepO, KeepDs, KeepD, KeepTs, KeepT, KeepU, D.ren, D.inR]
  · have hc : ilt (i : Int) (ws.length : Int) = false := ilt_f (by omega)
    unfold c13R0
    have hall : ws.take i = ws := List.take_of_length_le (by omega)
    simp -dsimp only [go_sem, make_rows, ro_rows, Nat.reduceSub, Nat.reduceAdd, Nat.reduceLT, Nat.reduceLeDiff, Nat.reduceMul, Nat.reduceEqDiff, reduceCtorEq, reduceIte, Int.reduceToNat, Int.reduceLE, Int.reduceLT, Int.reduceNe, hc, hall]
    exact ⟨rfl, rfl⟩
theorem words1_ok (w : List UInt8) : FnSem Tryd.prog 19 [.d (.str (S w))] fun t N => t = .d (.bool (decide (w = []))) ∧ N = [] := by
  refine fn_of mixed (by kernel_rfl) Tryd.func19 Tryd.ntmps19 c19_tr c19_rv (by simp) fun Fn In Sh hFn hIn hSh => ?_
  subst hFn hIn hSh
  unfold c19 c19r
  simp -dsimp only [go_sem, make_rows, ro_rows, Nat.reduceSub, Nat.reduceAdd, Nat.reduceLT, Nat.reduceLeDiff, Nat.reduceMul, Nat.reduceEqDiff, reduceCtorEq, reduceIte, Int.reduceToNat, Int.reduceLE, Int.reduceLT, Int.reduceNe]
theorem idxS_prg : Prg Tryd.prog 22 19 (idxFC 1 none) [.tmp 4] := ⟨mixed, by kernel_rfl, byref, Tryd.f22, Tryd.func22, Tryd.ntmps22, c22_tr, c22_rv⟩
theorem delS_prg : Prg Tryd.prog 17 42 (delFC 22 (.str (S []))) [.tmp 4] := ⟨mixed, by kernel_rfl, byref, Tryd.f17, Tryd.func17, Tryd.ntmps17, c17_tr, c17_rv⟩
theorem implWords_ok (l : List UInt8) (hl : l.length ≤ 1048576) : FnSem Tryd.prog 8 [.d (.str (S l))] (newL strE 1 (wordsL l)) := by
  have hcl := cutL_len 32 l []
  refine fn_of mixed (by kernel_rfl) Tryd.func8 Tryd.ntmps8 c8_tr c8_rv (by simp) fun Fn In Sh hFn hIn hSh => ?_
  subst hFn hIn hSh
  unfold c8 c8r
  simp -dsimp only [go_sem, make_rows, ro_rows, Nat.reduceSub, Nat.reduceAdd, Nat.reduceLT, Nat.reduceLeDiff, Nat.reduceMul, Nat.reduceEqDiff, reduceCtorEq, reduceIte, Int.reduceToNat, Int.reduceLE, Int.reduceLT, Int.reduceNe, newL]
  refine step1 (split_ok l 32 (by omega)) ?_
  unfold wordsL
  generalize cutL 32 l [] = ws at hcl
  simp -dsimp only [go_sem, make_rows, ro_rows, Nat.reduceSub, Nat.reduceAdd, Nat.reduceLT, Nat.reduceLeDiff, Nat.reduceMul, Nat.reduceEqDiff, reduceCtorEq, reduceIte, Int.reduceToNat, Int.reduceLE, Int.reduceLT, Int.reduceNe]
  refine stepR (delF_ok delS_prg idxS_prg (c := fun w => .str (S w)) (fun _ => rfl) ws (fun w => decide (w = [])) (fun w _ => words1_ok w) (by omega) (id := 1) (by simp) rfl) ?_
  rintro t H' ts' up' ⟨a, rfl, hup, rfl, ha⟩
  injection hup with h1 h2
  subst h1; subst h2
  simp -dsimp only [go_sem, make_rows, ro_rows, Nat.reduceSub, Nat.reduceAdd, Nat.reduceLT, Nat.reduceLeDiff, Nat.reduceMul, Nat.reduceEqDiff, reduceCtorEq, reduceIte, Int.reduceToNat, Int.reduceLE, Int.reduceLT, Int.reduceNe]
  refine ⟨List.length_filter_le _ _, rfl, ?_⟩
  have ha2 : subAt 0 (ws.filter fun w => !decide (w = [])).length a = rowsD ((ws.filter fun w => !decide (w = [])).map strE) := ha
  rw [ha2]
  rfl
end Go.Proofs.YtgpicngmadkdoaaDoor
