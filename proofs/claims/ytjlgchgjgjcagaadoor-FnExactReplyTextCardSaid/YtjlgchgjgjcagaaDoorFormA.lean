/- Small functions: what they compute. -/
import Derived.Test.YtjlgchgjgjcagaaDoorBase
import Derived.Test.YtjlgchgjgjcagaaDoorShelf
import Derived.Lib.ItoaLen
import Derived.Lib.ItoaMem
import Derived.Lib.AppendIntMem
set_option linter.unusedVariables false
set_option linter.unusedSimpArgs false
namespace Go.Proofs.YtjlgchgjgjcagaaDoor
open Go Go.R Go.Proofs Go.RowKit
set_option maxRecDepth 100000
attribute [local go_sem ↓] v_skip v_reg v_draw v_alt v_seq v_block v_exit v_ret v_loop o_nil o_g q_mv o_mv q_nil_ o_nil_ q_pick o_pick q_alloc o_alloc q_box o_box q_build o_build q_mkSl o_mkSl q_load o_load q_bin o_bin q_shift o_shift q_un o_un q_conv o_conv q_make o_make q_slice o_slice q_substr o_substr q_fieldAddr o_fieldAddr q_field o_field q_indexAddr o_indexAddr q_strIdx o_strIdx q_extract o_extract q_len o_len q_minmax o_minmax q_nilCheck o_nilCheck q_mkFn o_mkFn q_call o_call q_callF o_callF l_mkSl o_mkSlM l_store o_store l_append o_append l_copy o_copy l_callR o_callR v_cond callQ_eq
attribute [local go_sem] condv_t condv_f g_tt g_ff g_tf g_ft Norm_eq Opd.get putT List.length_cons List.length_nil List.length_append List.replicate List.cons_append List.nil_append List.append_assoc List.set List.set_cons_zero List.set_cons_succ List.getD_cons_zero List.getD_cons_succ List.getD_nil List.map_cons List.map_nil List.zipIdx_cons List.zipIdx_nil List.any_cons List.any_nil List.all_cons List.all_nil List.flatMap_cons List.flatMap_nil List.foldl_cons List.foldl_nil List.take_succ_cons List.take_zero List.take_nil List.drop_succ_cons List.drop_zero List.drop_nil List.flatten_cons List.flatten_nil List.length_map roL owL arrL List.range_succ List.range_zero List.append_nil binInt true_and and_true false_and and_false Bool.not_true Bool.not_false Bool.and_self Bool.true_and Bool.and_true Bool.false_and Bool.and_false Bool.or_false Bool.or_true Bool.false_or Bool.true_or Bool.false_eq_true false_implies true_implies implies_true forall_const if_true if_false beq_self_eq_true BEq.rfl decide_true decide_false decide_eq_true_eq eq_self Option.getD_none Option.getD_some Option.map_some Option.map_none Option.isNone_none Option.isNone_some Nat.le_refl Int.le_refl Nat.zero_add Nat.add_zero Nat.zero_le Nat.sub_zero Nat.zero_mul Nat.one_mul Nat.lt_one_iff Nat.zero_lt_one Int.toNat_natCast Int.toNat_zero Int.toNat_one Int.natCast_zero retPost inPost rets T.known T.cells T.one takeAll take_ regroup retD retH final nodeR nodeIn pathOk pathIn Obj.rows loadCell setList Heap.put Obj.put setIn splitLast Heap.drop_ arrAt Heap.kill Obj.kill T.kill D.kill D.thru thruPath params T.param D.param paramCells cellP cellsP capsP rps D.ro T.back T.back1 D.back T.closed D.closed T.clean D.clean D.still view optInt optOk chunk isEq eqDs eqD source capIds D.flat bytesOfAt D.isByte D.byte rowsD_cons_zero subAt_rows shiftAt_rows  drop_mapE take_mapE List.take_length app_rows ro_ints ro_strs ro_bytes big rowsD_cons_succ S_add S_size strEq_S Int.natCast_add Int.cast_ofNat_Int List.mem_cons List.not_mem_nil false_or or_false true_or or_true forall_eq_or_imp forall_eq T.d.injEq T.agg.injEq T.tup.injEq D.int.injEq D.bool.injEq D.str.injEq List.cons.injEq Prod.mk.injEq Option.some.injEq
attribute [local go_sem low] condv_b g_b

-- spec.l1In
def c18 : MC := (.seq (.reg [⟨(some 6), none, .mv (.c (.d (.bool false)))⟩]) (.seq (.reg [⟨(some 7), none, .mv (.t 0)⟩,
    ⟨(some 8), none, .mv (.t 1)⟩,
    ⟨(some 9), none, .bin .geq (.int .i64) (.t 7) (.t 8)⟩,
    ⟨(some 10), none, .mv (.t 9)⟩,
    ⟨(some 11), (some (10, true)), .mv (.t 0)⟩,
    ⟨(some 12), (some (10, true)), .mv (.t 2)⟩,
    ⟨(some 13), (some (10, true)), .bin .leq (.int .i64) (.t 11) (.t 12)⟩,
    ⟨(some 14), none, .pick (.t 10) (.t 13) (.c (.d (.bool false)))⟩,
    ⟨(some 6), none, .mv (.t 14)⟩]) .ret))
def c18r : List RV := [.tmp 6]
theorem c18_tr : (Tryd.f18.body.bind (trCode Tryd.prog byref)) = some c18 := by kernel_rfl
theorem c18_rv : trRV Tryd.prog Tryd.f18.results.toList = some c18r := by kernel_rfl

-- impl.within
def c22 : MC := (.seq (.reg [⟨(some 6), none, .mv (.c (.d (.bool false)))⟩]) (.seq (.reg [⟨(some 7), none, .mv (.t 1)⟩,
    ⟨(some 8), none, .mv (.t 0)⟩,
    ⟨(some 9), none, .bin .leq (.int .i64) (.t 7) (.t 8)⟩,
    ⟨(some 10), none, .mv (.t 9)⟩,
    ⟨(some 11), (some (10, true)), .mv (.t 0)⟩,
    ⟨(some 12), (some (10, true)), .mv (.t 2)⟩,
    ⟨(some 13), (some (10, true)), .bin .leq (.int .i64) (.t 11) (.t 12)⟩,
    ⟨(some 14), none, .pick (.t 10) (.t 13) (.c (.d (.bool false)))⟩,
    ⟨(some 6), none, .mv (.t 14)⟩]) .ret))
def c22r : List RV := [.tmp 6]
theorem c22_tr : (Tryd.f22.body.bind (trCode Tryd.prog byref)) = some c22 := by kernel_rfl
theorem c22_rv : trRV Tryd.prog Tryd.f22.results.toList = some c22r := by kernel_rfl

-- laws.toAct
def c7 : MC := (.seq (.reg [⟨(some 1), none, .box (.t 0)⟩,
    ⟨(some 2), none, .alloc [(.int .i64 (0)), (.int .i64 (0)), (.int .i64 (0)), (.int .i64 (0))]⟩]) (.seq (.reg [⟨(some 3), none, .alloc [(.int .i64 (0)), (.int .i64 (0)), (.int .i64 (0)), (.int .i64 (0))]⟩]) (.seq (.reg [⟨(some 4), none, .fieldAddr 0 (.t 1)⟩,
    ⟨(some 5), none, .load none (.t 4)⟩,
    ⟨(some 6), none, .fieldAddr 0 (.t 3)⟩,
    ⟨none, none, .store 1 (.t 6) (.t 5)⟩]) (.seq (.reg [⟨(some 7), none, .fieldAddr 1 (.t 1)⟩,
    ⟨(some 8), none, .load none (.t 7)⟩,
    ⟨(some 9), none, .fieldAddr 1 (.t 3)⟩,
    ⟨none, none, .store 1 (.t 9) (.t 8)⟩]) (.seq (.reg [⟨(some 10), none, .fieldAddr 2 (.t 1)⟩,
    ⟨(some 11), none, .load none (.t 10)⟩,
    ⟨(some 12), none, .fieldAddr 2 (.t 3)⟩,
    ⟨none, none, .store 1 (.t 12) (.t 11)⟩]) (.seq (.reg [⟨(some 13), none, .fieldAddr 3 (.t 1)⟩,
    ⟨(some 14), none, .load none (.t 13)⟩,
    ⟨(some 15), none, .fieldAddr 3 (.t 3)⟩,
    ⟨none, none, .store 1 (.t 15) (.t 14)⟩]) (.seq (.reg [⟨(some 16), none, .load (some 4) (.t 3)⟩,
    ⟨none, none, .store 4 (.t 2) (.t 16)⟩]) .ret)))))))
def c7r : List RV := [.cell 2 (some 4)]
theorem c7_tr : (Tryd.f7.body.bind (trCode Tryd.prog byref)) = some c7 := by kernel_rfl
theorem c7_rv : trRV Tryd.prog Tryd.f7.results.toList = some c7r := by kernel_rfl

-- laws.eqTextResult
def c9 : MC := (.seq (.reg [⟨(some 2), none, .box (.t 0)⟩,
    ⟨(some 3), none, .box (.t 1)⟩,
    ⟨(some 4), none, .mv (.c (.d (.bool false)))⟩]) (.seq (.seq (.reg [⟨(some 5), none, .fieldAddr 0 (.t 2)⟩,
    ⟨(some 6), none, .load none (.t 5)⟩,
    ⟨(some 7), none, .fieldAddr 0 (.t 3)⟩,
    ⟨(some 8), none, .load none (.t 7)⟩,
    ⟨(some 9), none, .bin .neq (.int .i64) (.t 6) (.t 8)⟩]) (.cond (.t 9) (.seq (.reg [⟨(some 4), none, .mv (.c (.d (.bool false)))⟩]) .ret) .skip)) (.seq (.seq (.reg [⟨(some 10), none, .fieldAddr 1 (.t 2)⟩,
    ⟨(some 11), none, .load none (.t 10)⟩,
    ⟨(some 12), none, .fieldAddr 1 (.t 3)⟩,
    ⟨(some 13), none, .load none (.t 12)⟩,
    ⟨(some 14), none, .bin .neq .str (.t 11) (.t 13)⟩]) (.cond (.t 14) (.seq (.reg [⟨(some 4), none, .mv (.c (.d (.bool false)))⟩]) .ret) .skip)) (.seq (.reg [⟨(some 4), none, .mv (.c (.d (.bool true)))⟩]) .ret))))
def c9r : List RV := [.tmp 4]
theorem c9_tr : (Tryd.f9.body.bind (trCode Tryd.prog byref)) = some c9 := by kernel_rfl
theorem c9_rv : trRV Tryd.prog Tryd.f9.results.toList = some c9r := by kernel_rfl

-- spec.l15Numbers
def c19 : MC := (.seq (.reg [⟨(some 1), none, .box (.t 0)⟩,
    ⟨(some 2), none, .nil_ 1⟩]) (.seq (.seq (.reg [⟨(some 3), none, .fieldAddr 0 (.t 1)⟩,
    ⟨(some 4), none, .load none (.t 3)⟩]) (.block 0 (.seq (.reg [⟨(some 6), none, .bin .eql (.int .i64) (.t 4) (.c (.d (.int .i64 (1))))⟩,
    ⟨(some 5), none, .mv (.t 6)⟩]) (.cond (.t 5) (.seq (.reg [⟨(some 2), none, .nil_ 1⟩]) .ret) (.seq (.seq (.reg [⟨(some 8), none, .bin .eql (.int .i64) (.t 4) (.c (.d (.int .i64 (2))))⟩,
    ⟨(some 7), none, .mv (.t 8)⟩]) (.cond (.t 7) .skip (.reg [⟨(some 9), none, .bin .eql (.int .i64) (.t 4) (.c (.d (.int .i64 (5))))⟩,
    ⟨(some 7), none, .mv (.t 9)⟩]))) (.cond (.t 7) (.seq (.reg [⟨(some 10), none, .fieldAddr 1 (.t 1)⟩,
    ⟨(some 11), none, .load none (.t 10)⟩,
    ⟨(some 12), none, .fieldAddr 2 (.t 1)⟩,
    ⟨(some 13), none, .load none (.t 12)⟩,
    ⟨(some 14), none, .mkSl false 1 [(.int .i64 (0))] 2 [(0, (.t 11)), (1, (.t 13))]⟩,
    ⟨(some 2), none, .mv (.t 14)⟩]) .ret) (.seq (.reg [⟨(some 16), none, .bin .eql (.int .i64) (.t 4) (.c (.d (.int .i64 (4))))⟩,
    ⟨(some 15), none, .mv (.t 16)⟩]) (.cond (.t 15) (.seq (.reg [⟨(some 17), none, .fieldAddr 1 (.t 1)⟩,
    ⟨(some 18), none, .load none (.t 17)⟩,
    ⟨(some 19), none, .fieldAddr 2 (.t 1)⟩,
    ⟨(some 20), none, .load none (.t 19)⟩,
    ⟨(some 21), none, .fieldAddr 3 (.t 1)⟩,
    ⟨(some 22), none, .load none (.t 21)⟩,
    ⟨(some 23), none, .mkSl false 1 [(.int .i64 (0))] 3 [(0, (.t 18)), (1, (.t 20)), (2, (.t 22))]⟩,
    ⟨(some 2), none, .mv (.t 23)⟩]) .ret) .skip)))))))) (.seq (.reg [⟨(some 24), none, .fieldAddr 1 (.t 1)⟩,
    ⟨(some 25), none, .load none (.t 24)⟩,
    ⟨(some 26), none, .mkSl false 1 [(.int .i64 (0))] 1 [(0, (.t 25))]⟩,
    ⟨(some 2), none, .mv (.t 26)⟩]) .ret)))
def c19r : List RV := [.tmp 2]
theorem c19_tr : (Tryd.f19.body.bind (trCode Tryd.prog byref)) = some c19 := by kernel_rfl
theorem c19_rv : trRV Tryd.prog Tryd.f19.results.toList = some c19r := by kernel_rfl

-- spec.l15Names
def c20 : MC := (.seq (.reg [⟨(some 0), none, .nil_ 1⟩]) (.seq (.reg [⟨(some 1), none, .mkSl false 1 [(.str (S []))] 8 [(0, (.c (.d (.str (S []))))), (1, (.c (.d (.str (S [98, 101, 103, 105, 110]))))), (2, (.c (.d (.str (S [103, 101, 116]))))), (3, (.c (.d (.str (S [115, 99, 97, 110]))))), (4, (.c (.d (.str (S [112, 117, 116]))))), (5, (.c (.d (.str (S [100, 114, 111, 112]))))), (6, (.c (.d (.str (S [99, 111, 109, 109, 105, 116]))))), (7, (.c (.d (.str (S [97, 98, 111, 114, 116])))))]⟩,
    ⟨(some 0), none, .mv (.t 1)⟩]) .ret))
def c20r : List RV := [.tmp 0]
theorem c20_tr : (Tryd.f20.body.bind (trCode Tryd.prog byref)) = some c20 := by kernel_rfl
theorem c20_rv : trRV Tryd.prog Tryd.f20.results.toList = some c20r := by kernel_rfl

-- spec.l7Digits
def c21 : MC := (.seq (.reg [⟨(some 2), none, .mv (.c (.d (.str (S []))))⟩]) (.seq (.seq (.reg [⟨(some 3), none, .mv (.t 0)⟩,
    ⟨(some 4), none, .bin .lss (.int .i64) (.t 3) (.c (.d (.int .i64 (10))))⟩]) (.cond (.t 4) (.seq (.reg [⟨(some 5), none, .mv (.t 0)⟩,
    ⟨(some 6), none, .bin .add (.int .i64) (.c (.d (.int .i64 (48)))) (.t 5)⟩,
    ⟨(some 7), none, .conv (.int .u8) (.t 6)⟩,
    ⟨(some 8), none, .mkSl false 1 [(.int .u8 (0))] 1 [(0, (.t 7))]⟩,
    ⟨(some 9), none, .conv .bytes (.t 8)⟩,
    ⟨(some 2), none, .mv (.t 9)⟩]) .ret) .skip)) (.seq (.draw (.seq (.reg [⟨(some 10), none, .mv (.t 0)⟩]) (.seq (.reg [⟨(some 11), none, .bin .quo (.int .i64) (.t 10) (.c (.d (.int .i64 (10))))⟩]) (.seq (.reg [⟨(some 13), none, .mv (.t 0)⟩]) (.seq (.reg [⟨(some 14), none, .bin .rem (.int .i64) (.t 13) (.c (.d (.int .i64 (10))))⟩]) (.seq (.reg [⟨(some 15), none, .bin .add (.int .i64) (.c (.d (.int .i64 (48)))) (.t 14)⟩]) (.seq (.reg [⟨(some 16), none, .conv (.int .u8) (.t 15)⟩]) (.alt (.seq (.reg [⟨(some 12), none, .call 21 [(.t 11)]⟩]) (.seq (.reg [⟨(some 17), none, .mkSl false 1 [(.int .u8 (0))] 1 [(0, (.t 16))]⟩]) (.seq (.reg [⟨(some 18), none, .conv .bytes (.t 17)⟩]) (.seq (.reg [⟨(some 19), none, .bin .add .str (.t 12) (.t 18)⟩]) (.seq (.reg [⟨(some 2), none, .mv (.t 19)⟩]) .skip))))) (.seq (.reg [⟨(some 17), none, .mkSl false 1 [(.int .u8 (0))] 1 [(0, (.t 16))]⟩]) (.seq (.reg [⟨(some 18), none, .conv .bytes (.t 17)⟩]) (.seq (.reg [⟨(some 12), none, .call 21 [(.t 11)]⟩]) (.seq (.reg [⟨(some 19), none, .bin .add .str (.t 12) (.t 18)⟩]) (.seq (.reg [⟨(some 2), none, .mv (.t 19)⟩]) .skip))))))))))))) .ret)))
def c21r : List RV := [.tmp 2]
theorem c21_tr : (Tryd.f21.body.bind (trCode Tryd.prog byref)) = some c21 := by kernel_rfl
theorem c21_rv : trRV Tryd.prog Tryd.f21.results.toList = some c21r := by kernel_rfl

-- impl.forms
def c23 : MC := (.seq (.reg [⟨(some 2), none, .mv (.c (.d (.str (S []))))⟩,
    ⟨(some 3), none, .mv (.c (.d (.int .i64 (0))))⟩]) (.seq (.draw (.seq (.reg [⟨(some 5), none, .mv (.t 0)⟩]) (.seq (.reg [⟨(some 9), none, .mv (.t 0)⟩]) (.alt (.seq (.reg [⟨(some 4), none, .mkSl false 1 [(.str (S []))] 8 [(0, (.c (.d (.str (S []))))), (1, (.c (.d (.str (S [98, 101, 103, 105, 110]))))), (2, (.c (.d (.str (S [103, 101, 116]))))), (3, (.c (.d (.str (S [115, 99, 97, 110]))))), (4, (.c (.d (.str (S [112, 117, 116]))))), (5, (.c (.d (.str (S [100, 114, 111, 112]))))), (6, (.c (.d (.str (S [99, 111, 109, 109, 105, 116]))))), (7, (.c (.d (.str (S [97, 98, 111, 114, 116])))))]⟩]) (.seq (.reg [⟨(some 6), none, .indexAddr 1 (.t 4) (.t 5)⟩]) (.seq (.reg [⟨(some 7), none, .load none (.t 6)⟩]) (.seq (.reg [⟨(some 2), none, .mv (.t 7)⟩]) (.seq (.reg [⟨(some 8), none, .mkSl false 1 [(.int .i64 (0))] 8 [(0, (.c (.d (.int .i64 (0))))), (1, (.c (.d (.int .i64 (0))))), (2, (.c (.d (.int .i64 (2))))), (3, (.c (.d (.int .i64 (1))))), (4, (.c (.d (.int .i64 (3))))), (5, (.c (.d (.int .i64 (2))))), (6, (.c (.d (.int .i64 (1))))), (7, (.c (.d (.int .i64 (1)))))]⟩]) (.seq (.reg [⟨(some 10), none, .indexAddr 1 (.t 8) (.t 9)⟩]) (.seq (.reg [⟨(some 11), none, .load none (.t 10)⟩]) (.seq (.reg [⟨(some 3), none, .mv (.t 11)⟩]) .skip)))))))) (.seq (.reg [⟨(some 8), none, .mkSl false 1 [(.int .i64 (0))] 8 [(0, (.c (.d (.int .i64 (0))))), (1, (.c (.d (.int .i64 (0))))), (2, (.c (.d (.int .i64 (2))))), (3, (.c (.d (.int .i64 (1))))), (4, (.c (.d (.int .i64 (3))))), (5, (.c (.d (.int .i64 (2))))), (6, (.c (.d (.int .i64 (1))))), (7, (.c (.d (.int .i64 (1)))))]⟩]) (.seq (.reg [⟨(some 10), none, .indexAddr 1 (.t 8) (.t 9)⟩]) (.seq (.reg [⟨(some 11), none, .load none (.t 10)⟩]) (.seq (.reg [⟨(some 4), none, .mkSl false 1 [(.str (S []))] 8 [(0, (.c (.d (.str (S []))))), (1, (.c (.d (.str (S [98, 101, 103, 105, 110]))))), (2, (.c (.d (.str (S [103, 101, 116]))))), (3, (.c (.d (.str (S [115, 99, 97, 110]))))), (4, (.c (.d (.str (S [112, 117, 116]))))), (5, (.c (.d (.str (S [100, 114, 111, 112]))))), (6, (.c (.d (.str (S [99, 111, 109, 109, 105, 116]))))), (7, (.c (.d (.str (S [97, 98, 111, 114, 116])))))]⟩]) (.seq (.reg [⟨(some 6), none, .indexAddr 1 (.t 4) (.t 5)⟩]) (.seq (.reg [⟨(some 7), none, .load none (.t 6)⟩]) (.seq (.reg [⟨(some 2), none, .mv (.t 7)⟩]) (.seq (.reg [⟨(some 3), none, .mv (.t 11)⟩]) .skip)))))))))))) .ret))
def c23r : List RV := [.tmp 2, .tmp 3]
theorem c23_tr : (Tryd.f23.body.bind (trCode Tryd.prog byref)) = some c23 := by kernel_rfl
theorem c23_rv : trRV Tryd.prog Tryd.f23.results.toList = some c23r := by kernel_rfl

-- impl.dec
def c24 : MC := (.seq (.reg [⟨(some 2), none, .mv (.c (.d (.str (S []))))⟩]) (.seq (.reg [⟨(some 3), none, .mv (.t 0)⟩,
    ⟨(some 4), none, .call 36 [(.t 3), (.c (.d (.int .i64 (10))))]⟩,
    ⟨(some 2), none, .mv (.t 4)⟩]) .ret))
def c24r : List RV := [.tmp 2]
theorem c24_tr : (Tryd.f24.body.bind (trCode Tryd.prog byref)) = some c24 := by kernel_rfl
theorem c24_rv : trRV Tryd.prog Tryd.f24.results.toList = some c24r := by kernel_rfl

-- impl.joined
def c25 : MC := (.seq (.reg [⟨(some 2), none, .mv (.c (.d (.str (S []))))⟩]) (.seq (.reg [⟨(some 3), none, .mv (.t 0)⟩,
    ⟨(some 4), none, .call 37 [(.t 3), (.c (.d (.str (S [32]))))]⟩,
    ⟨(some 2), none, .mv (.t 4)⟩]) .ret))
def c25r : List RV := [.tmp 2]
theorem c25_tr : (Tryd.f25.body.bind (trCode Tryd.prog byref)) = some c25 := by kernel_rfl
theorem c25_rv : trRV Tryd.prog Tryd.f25.results.toList = some c25r := by kernel_rfl

structure Act where
  kind : Int
  txn : Int
  key : Int
  value : Int
def Act.t (a : Act) : T := .agg [.int .i64 a.kind, .int .i64 a.txn, .int .i64 a.key, .int .i64 a.value]
def txt (c : Int) (s : List UInt8) : T := .agg [.int .i64 c, .str (S s)]
def inn (a b c : Int) : Bool := decide (b ≤ a) && decide (a ≤ c)
theorem l1In_ok (a b c : Int) : FnSem Tryd.prog 18 [.d (.int .i64 a), .d (.int .i64 b), .d (.int .i64 c)] fun t N => t = .d (.bool (inn a b c)) ∧ N = [] := by
  refine fn_of mixed (by kernel_rfl) Tryd.func18 Tryd.ntmps18 c18_tr c18_rv (by simp) fun Fn In Sh hFn hIn hSh => ?_
  subst hFn hIn hSh
  unfold c18 c18r
  simp -dsimp only [go_sem, make_rows, ro_rows, Nat.reduceSub, Nat.reduceAdd, Nat.reduceLT, Nat.reduceLeDiff, Nat.reduceMul, Nat.reduceEqDiff, reduceCtorEq, reduceIte, Int.reduceToNat, Int.reduceLE, Int.reduceLT, Int.reduceNe]
  unfold inn
  simp only [ile_eq]
  constructor <;> intro h <;> simp [h]
theorem within_ok (a b c : Int) : FnSem Tryd.prog 22 [.d (.int .i64 a), .d (.int .i64 b), .d (.int .i64 c)] fun t N => t = .d (.bool (inn a b c)) ∧ N = [] := by
  refine fn_of mixed (by kernel_rfl) Tryd.func22 Tryd.ntmps22 c22_tr c22_rv (by simp) fun Fn In Sh hFn hIn hSh => ?_
  subst hFn hIn hSh
  unfold c22 c22r
  simp -dsimp only [go_sem, make_rows, ro_rows, Nat.reduceSub, Nat.reduceAdd, Nat.reduceLT, Nat.reduceLeDiff, Nat.reduceMul, Nat.reduceEqDiff, reduceCtorEq, reduceIte, Int.reduceToNat, Int.reduceLE, Int.reduceLT, Int.reduceNe]
  unfold inn
  simp only [ile_eq]
  constructor <;> intro h <;> simp [h]
theorem toAct_ok (a : Act) : FnSem Tryd.prog 7 [a.t] fun t N => t = a.t ∧ N = [] := by
  refine fn_of mixed (by kernel_rfl) Tryd.func7 Tryd.ntmps7 c7_tr c7_rv (by simp) fun Fn In Sh hFn hIn hSh => ?_
  subst hFn hIn hSh
  unfold c7 c7r
  unfold Act.t
  simp -dsimp only [go_sem, make_rows, ro_rows, Nat.reduceSub, Nat.reduceAdd, Nat.reduceLT, Nat.reduceLeDiff, Nat.reduceMul, Nat.reduceEqDiff, reduceCtorEq, reduceIte, Int.reduceToNat, Int.reduceLE, Int.reduceLT, Int.reduceNe]
theorem eqText_ok (c d : Int) (s r : List UInt8) : FnSem Tryd.prog 9 [txt c s, txt d r] fun t N => t = .d (.bool (decide (c = d ∧ s = r))) ∧ N = [] := by
  refine fn_of mixed (by kernel_rfl) Tryd.func9 Tryd.ntmps9 c9_tr c9_rv (by simp) fun Fn In Sh hFn hIn hSh => ?_
  subst hFn hIn hSh
  unfold c9 c9r
  unfold txt
  simp -dsimp only [go_sem, make_rows, ro_rows, Nat.reduceSub, Nat.reduceAdd, Nat.reduceLT, Nat.reduceLeDiff, Nat.reduceMul, Nat.reduceEqDiff, reduceCtorEq, reduceIte, Int.reduceToNat, Int.reduceLE, Int.reduceLT, Int.reduceNe]
  simp only [ieq_eq]
  by_cases h1 : c = d <;> by_cases h2 : s = r <;> simp [h1, h2]
def numsOf (a : Act) : List Int := if a.kind = 1 then [] else if a.kind = 2 ∨ a.kind = 5 then [a.txn, a.key] else if a.kind = 4 then [a.txn, a.key, a.value] else [a.txn]
theorem numbers_ok (a : Act) : FnSem Tryd.prog 19 [a.t] (newL intE 1 (numsOf a)) := by
  refine fn_of mixed (by kernel_rfl) Tryd.func19 Tryd.ntmps19 c19_tr c19_rv (by simp) fun Fn In Sh hFn hIn hSh => ?_
  subst hFn hIn hSh
  unfold c19 c19r
  unfold Act.t
  simp -dsimp only [go_sem, make_rows, ro_rows, Nat.reduceSub, Nat.reduceAdd, Nat.reduceLT, Nat.reduceLeDiff, Nat.reduceMul, Nat.reduceEqDiff, reduceCtorEq, reduceIte, Int.reduceToNat, Int.reduceLE, Int.reduceLT, Int.reduceNe, newL]
  simp only [ilt_eq, ile_eq, ieq_eq, decide_eq_true_eq, decide_eq_false_iff_not, beq_iff_eq, beq_eq_false_iff_ne, Bool.not_eq_true', Bool.not_eq_false', Bool.or_eq_true, Bool.and_eq_true, Bool.or_eq_false_iff, Bool.and_eq_false_iff, ne_eq, Int.not_lt, Int.not_le]
  unfold numsOf
  by_cases h1 : a.kind = 1
  · simp [h1, rowsD_nil, subAt_dead]
  by_cases h2 : a.kind = 2
  · simp [h2, intE]
  by_cases h5 : a.kind = 5
  · simp [h5, intE]
  by_cases h4 : a.kind = 4
  · simp [h4, intE]
  · simp [h1, h2, h4, h5, intE]
def namesL : List (List UInt8) := [[], [98, 101, 103, 105, 110], [103, 101, 116], [115, 99, 97, 110], [112, 117, 116], [100, 114, 111, 112], [99, 111, 109, 109, 105, 116], [97, 98, 111, 114, 116]]
theorem names_ok : FnSem Tryd.prog 20 [] (newL strE 1 namesL) := by
  refine fn_of mixed (by kernel_rfl) Tryd.func20 Tryd.ntmps20 c20_tr c20_rv (by simp) fun Fn In Sh hFn hIn hSh => ?_
  subst hFn hIn hSh
  unfold c20 c20r
  simp -dsimp only [go_sem, make_rows, ro_rows, Nat.reduceSub, Nat.reduceAdd, Nat.reduceLT, Nat.reduceLeDiff, Nat.reduceMul, Nat.reduceEqDiff, reduceCtorEq, reduceIte, Int.reduceToNat, Int.reduceLE, Int.reduceLT, Int.reduceNe, newL, namesL, strE]
def word (k : Int) : List UInt8 := namesL.getD k.toNat []
def cnt (k : Int) : Int := [0, 0, 2, 1, 3, 2, 1, 1].getD k.toNat 0
theorem forms_ok (k : Int) (h1 : 1 ≤ k) (h7 : k ≤ 7) : FnSem Tryd.prog 23 [.d (.int .i64 k)] fun t N => t = .tup [.d (.str (S (word k))), .d (.int .i64 (cnt k))] ∧ N = [] := by
  have hk : k = 1 ∨ k = 2 ∨ k = 3 ∨ k = 4 ∨ k = 5 ∨ k = 6 ∨ k = 7 := by omega
  refine fn_of mixed (by kernel_rfl) Tryd.func23 Tryd.ntmps23 c23_tr c23_rv (by simp) fun Fn In Sh hFn hIn hSh => ?_
  subst hFn hIn hSh
  unfold c23 c23r
  rcases hk with rfl | rfl | rfl | rfl | rfl | rfl | rfl <;> (simp -dsimp only [go_sem, make_rows, ro_rows, Nat.reduceSub, Nat.reduceAdd, Nat.reduceLT, Nat.reduceLeDiff, Nat.reduceMul, Nat.reduceEqDiff, reduceCtorEq, reduceIte, Int.reduceToNat, Int.reduceLE, Int.reduceLT, Int.reduceNe, word, cnt, namesL])
def digs (n : Int) : List UInt8 := Lib.decDigits n.toNat
theorem digs_small {n : Nat} (h : n < 10) : Lib.decDigits n = [UInt8.ofNat (48 + n)] := by rw [Lib.decDigits, dif_pos h]
theorem digs_big {n : Nat} (h : ¬ n < 10) : Lib.decDigits n = Lib.decDigits (n / 10) ++ [UInt8.ofNat (48 + n % 10)] := by rw [Lib.decDigits, dif_neg h]
theorem digits_ok (n : Nat) (h : n < 9223372036854775808) : FnSem Tryd.prog 21 [.d (.int .i64 n)] fun t N => t = .d (.str (S (Lib.decDigits n))) ∧ N = [] := by
  induction n using Nat.strongRecOn with
  | _ n ih =>
    have hl : (Lib.decDigits (n / 10)).length ≤ 21 := by
      have := Lib.itoa_length_le (n / 10 : Nat) (by omega) (by omega)
      rwa [Lib.itoa_nonneg] at this
    have e1 : IntKind.i64.wrap ((n : Int).tdiv 10) = ((n / 10 : Nat) : Int) := by
      rw [Int.tdiv_eq_ediv_of_nonneg (by omega), wrap64 (by omega) (by omega)]; omega
    have e3 : IntKind.u8.wrap (iadd IntKind.i64 48 ((n : Int).tmod 10)) = ((48 + n % 10 : Nat) : Int) := by
      rw [Int.tmod_eq_emod_of_nonneg (by omega), iadd64 (by omega) (by omega), wrap8 (by omega) (by omega)]; omega
    have hc := ih (n / 10)
    refine fn_of mixed (by kernel_rfl) Tryd.func21 Tryd.ntmps21 c21_tr c21_rv (by simp) fun Fn In Sh hFn hIn hSh => ?_
    subst hFn hIn hSh
    unfold c21 c21r
    simp -dsimp only [go_sem, make_rows, ro_rows, Nat.reduceSub, Nat.reduceAdd, Nat.reduceLT, Nat.reduceLeDiff, Nat.reduceMul, Nat.reduceEqDiff, reduceCtorEq, reduceIte, Int.reduceToNat, Int.reduceLE, Int.reduceLT, Int.reduceNe, e1, e3]
    refine ⟨fun hs => ?_, fun hs => ?_⟩
    · simp only [ilt_eq, decide_eq_true_eq] at hs
      have hn : n < 10 := by omega
      rw [iadd64 (by omega) (by omega), wrap8 (by omega) (by omega), digs_small hn]
      exact congrArg (fun x => S [UInt8.ofNat x]) (by omega)
    · simp only [ilt_eq, decide_eq_false_iff_not] at hs
      have hn : ¬ n < 10 := by omega
      constructor
      · refine step1 (hc (by omega) (by omega)) ?_
        simp -dsimp only [go_sem, make_rows, ro_rows, Nat.reduceSub, Nat.reduceAdd, Nat.reduceLT, Nat.reduceLeDiff, Nat.reduceMul, Nat.reduceEqDiff, reduceCtorEq, reduceIte, Int.reduceToNat, Int.reduceLE, Int.reduceLT, Int.reduceNe, e3]
        rw [digs_big hn]
        exact ⟨by omega, rfl⟩
      · refine step1 (hc (by omega) (by omega)) ?_
        simp -dsimp only [go_sem, make_rows, ro_rows, Nat.reduceSub, Nat.reduceAdd, Nat.reduceLT, Nat.reduceLeDiff, Nat.reduceMul, Nat.reduceEqDiff, reduceCtorEq, reduceIte, Int.reduceToNat, Int.reduceLE, Int.reduceLT, Int.reduceNe, e3]
        rw [digs_big hn]
        exact ⟨by omega, rfl⟩
theorem formatInt_ok (n : Int) (h : I64 n) : FnSem Tryd.prog 36 [.d (.int .i64 n), .d (.int .i64 10)] fun t N => t = .d (.str (S (Lib.itoa n))) ∧ N = [] := by
  refine fnSem_scalar rfl (by kernel_rfl) fun ok w vs hst hok hv => ?_
  cases hv with
  | cons h1 h2 => cases h2 with
    | cons h3 h4 =>
      cases h4
      obtain ⟨_, rfl⟩ := h1
      obtain ⟨_, rfl⟩ := h3
      have ht := hst.1 1 (by kernel_rfl)
      exact (Tryd.strconv_FormatInt_10 n h.1 h.2 w ht).mono fun e w' ⟨he, k, os, hw⟩ => ⟨he, by rw [hw]; exact Lib.below_grow _ _ (Nat.le_refl _) k os⟩
theorem join_ok (xs : List (List UInt8)) (sep : List UInt8) (hn : xs.length ≤ 140737488355328) (hl : (Lib.join xs sep).length ≤ 140737488355328) :
    FnSem Tryd.prog 37 [.d (roL strE 1 xs), .d (.str (S sep))] fun t N => t = .d (.str (S (Lib.join xs sep))) ∧ N = [] := by
  refine fnSem_scalar rfl (by kernel_rfl) fun ok w vs hst hok hv => ?_
  cases hv with
  | cons h1 h2 => cases h2 with
    | cons h3 h4 =>
      cases h4
      obtain ⟨_, rfl⟩ := h3
      obtain ⟨_, _, A, cap, rfl, hcap, hc⟩ := h1
      by_cases h0 : xs = []
      · subst h0
        exact (Tryd.strings_Join_none A cap (S sep) w).mono fun e w' ⟨he, hw⟩ => ⟨he, by rw [hw]; exact Below.refl _ _⟩
      · have hlen : 0 < xs.length := List.length_pos_iff.2 h0
        obtain ⟨b, off, rfl, hb, hcell⟩ := hc hlen
        have := Tryd.strings_Join b off cap (xs.map S) (S sep) w (fun j x hx => ?_) (hok b hb) (by simpa using hn) (by simpa using hcap) (by simpa [S, Function.comp_def] using hl)
        · simpa [S, Function.comp_def] using this
        · rw [List.getElem?_map, Option.map_eq_some_iff] at hx
          obtain ⟨y, hy, rfl⟩ := hx
          have hj : j < xs.length := (List.getElem?_eq_some_iff.1 hy).1
          obtain ⟨u, hu, _, hr⟩ := hcell j 0 hj (by omega)
          have e : rowsD (xs.map strE) j 0 = .str (S y) := by
            simp [rowsD_get, List.getD_eq_getElem?_getD, hy, strE]
          rw [e] at hr
          have : u = .string (S y) := hr
          rw [← this, ← hu]; simp
theorem dec_ok (n : Int) (h : I64 n) : FnSem Tryd.prog 24 [.d (.int .i64 n)] fun t N => t = .d (.str (S (Lib.itoa n))) ∧ N = [] := by
  refine fn_of mixed (by kernel_rfl) Tryd.func24 Tryd.ntmps24 c24_tr c24_rv (by simp) fun Fn In Sh hFn hIn hSh => ?_
  subst hFn hIn hSh
  unfold c24 c24r
  simp -dsimp only [go_sem, make_rows, ro_rows, Nat.reduceSub, Nat.reduceAdd, Nat.reduceLT, Nat.reduceLeDiff, Nat.reduceMul, Nat.reduceEqDiff, reduceCtorEq, reduceIte, Int.reduceToNat, Int.reduceLE, Int.reduceLT, Int.reduceNe]
  repeat' ((first | (refine step1 (formatInt_ok _ h) ?_) | (refine ⟨fun _ => ?_, fun _ => ?_⟩)) <;> (try (simp -dsimp only [go_sem, make_rows, ro_rows, Nat.reduceSub, Nat.reduceAdd, Nat.reduceLT, Nat.reduceLeDiff, Nat.reduceMul, Nat.reduceEqDiff, reduceCtorEq, reduceIte, Int.reduceToNat, Int.reduceLE, Int.reduceLT, Int.reduceNe])))
theorem joined_ok (xs : List (List UInt8)) (hn : xs.length ≤ 140737488355328) (hl : (Lib.join xs [32]).length ≤ 140737488355328) :
    FnSem Tryd.prog 25 [.d (roL strE 1 xs)] fun t N => t = .d (.str (S (Lib.join xs [32]))) ∧ N = [] := by
  refine fn_of mixed (by kernel_rfl) Tryd.func25 Tryd.ntmps25 c25_tr c25_rv (by simp) fun Fn In Sh hFn hIn hSh => ?_
  subst hFn hIn hSh
  unfold c25 c25r
  unfold roL
  simp -dsimp only [go_sem, make_rows, ro_rows, Nat.reduceSub, Nat.reduceAdd, Nat.reduceLT, Nat.reduceLeDiff, Nat.reduceMul, Nat.reduceEqDiff, reduceCtorEq, reduceIte, Int.reduceToNat, Int.reduceLE, Int.reduceLT, Int.reduceNe]
  repeat' ((first | (refine step1 (join_ok xs [32] hn hl) ?_) | (refine ⟨fun _ => ?_, fun _ => ?_⟩)) <;> (try (simp -dsimp only [go_sem, make_rows, ro_rows, Nat.reduceSub, Nat.reduceAdd, Nat.reduceLT, Nat.reduceLeDiff, Nat.reduceMul, Nat.reduceEqDiff, reduceCtorEq, reduceIte, Int.reduceToNat, Int.reduceLE, Int.reduceLT, Int.reduceNe])))
end Go.Proofs.YtjlgchgjgjcagaaDoor
