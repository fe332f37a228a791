/- Cells: what laws do with them. -/
import Derived.Test.YtjlgchgjgjcagaaDoorBase
set_option linter.unusedVariables false
set_option linter.unusedSimpArgs false
namespace Go.Proofs.YtjlgchgjgjcagaaDoor
open Go Go.R Go.Proofs Go.RowKit
set_option maxRecDepth 100000
attribute [local go_sem ↓] v_skip v_reg v_draw v_alt v_seq v_block v_exit v_ret v_loop o_nil o_g q_mv o_mv q_nil_ o_nil_ q_pick o_pick q_alloc o_alloc q_box o_box q_build o_build q_mkSl o_mkSl q_load o_load q_bin o_bin q_shift o_shift q_un o_un q_conv o_conv q_make o_make q_slice o_slice q_substr o_substr q_fieldAddr o_fieldAddr q_field o_field q_indexAddr o_indexAddr q_strIdx o_strIdx q_extract o_extract q_len o_len q_minmax o_minmax q_nilCheck o_nilCheck q_mkFn o_mkFn q_call o_call q_callF o_callF l_mkSl o_mkSlM l_store o_store l_append o_append l_copy o_copy l_callR o_callR v_cond callQ_eq
attribute [local go_sem] condv_t condv_f g_tt g_ff g_tf g_ft Norm_eq Opd.get putT List.length_cons List.length_nil List.length_append List.replicate List.cons_append List.nil_append List.append_assoc List.set List.set_cons_zero List.set_cons_succ List.getD_cons_zero List.getD_cons_succ List.getD_nil List.map_cons List.map_nil List.zipIdx_cons List.zipIdx_nil List.any_cons List.any_nil List.all_cons List.all_nil List.flatMap_cons List.flatMap_nil List.foldl_cons List.foldl_nil List.take_succ_cons List.take_zero List.take_nil List.drop_succ_cons List.drop_zero List.drop_nil List.flatten_cons List.flatten_nil List.length_map roL owL arrL List.range_succ List.range_zero List.append_nil binInt true_and and_true false_and and_false Bool.not_true Bool.not_false Bool.and_self Bool.true_and Bool.and_true Bool.false_and Bool.and_false Bool.or_false Bool.or_true Bool.false_or Bool.true_or Bool.false_eq_true false_implies true_implies implies_true forall_const if_true if_false beq_self_eq_true BEq.rfl decide_true decide_false decide_eq_true_eq eq_self Option.getD_none Option.getD_some Option.map_some Option.map_none Option.isNone_none Option.isNone_some Nat.le_refl Int.le_refl Nat.zero_add Nat.add_zero Nat.zero_le Nat.sub_zero Nat.zero_mul Nat.one_mul Nat.lt_one_iff Nat.zero_lt_one Int.toNat_natCast Int.toNat_zero Int.toNat_one Int.natCast_zero retPost inPost rets T.known T.cells T.one takeAll take_ regroup retD retH final nodeR nodeIn pathOk pathIn Obj.rows loadCell setList Heap.put Obj.put setIn splitLast Heap.drop_ arrAt Heap.kill Obj.kill T.kill D.kill D.thru thruPath params T.param D.param paramCells cellP cellsP capsP rps D.ro T.back T.back1 D.back T.closed D.closed T.clean D.clean D.still view optInt optOk chunk isEq eqDs eqD source capIds D.flat bytesOfAt D.isByte D.byte rowsD_cons_zero subAt_rows shiftAt_rows  drop_mapE take_mapE List.take_length app_rows ro_ints ro_strs ro_bytes big rowsD_cons_succ S_add S_size strEq_S Int.natCast_add Int.cast_ofNat_Int List.mem_cons List.not_mem_nil false_or or_false true_or or_true forall_eq_or_imp forall_eq T.d.injEq T.agg.injEq T.tup.injEq D.int.injEq D.bool.injEq D.str.injEq List.cons.injEq Prod.mk.injEq Option.some.injEq
attribute [local go_sem low] condv_b g_b

structure Cell where
  key : Int
  value : Int
deriving DecidableEq, Inhabited
def cellE (c : Cell) : List D := [.int .i64 c.key, .int .i64 c.value]
theorem ro_cells (l : List Cell) : (l.map cellE).map (List.map D.ro) = l.map cellE := by simp [cellE, D.ro]
-- laws.toCell
def c38 : MC := (.seq (.reg [⟨(some 1), none, .box (.t 0)⟩,
    ⟨(some 2), none, .alloc [(.int .i64 (0)), (.int .i64 (0))]⟩]) (.seq (.reg [⟨(some 3), none, .alloc [(.int .i64 (0)), (.int .i64 (0))]⟩]) (.seq (.reg [⟨(some 4), none, .fieldAddr 0 (.t 1)⟩,
    ⟨(some 5), none, .load none (.t 4)⟩,
    ⟨(some 6), none, .fieldAddr 0 (.t 3)⟩,
    ⟨none, none, .store 1 (.t 6) (.t 5)⟩]) (.seq (.reg [⟨(some 7), none, .fieldAddr 1 (.t 1)⟩,
    ⟨(some 8), none, .load none (.t 7)⟩,
    ⟨(some 9), none, .fieldAddr 1 (.t 3)⟩,
    ⟨none, none, .store 1 (.t 9) (.t 8)⟩]) (.seq (.reg [⟨(some 10), none, .load (some 2) (.t 3)⟩,
    ⟨none, none, .store 2 (.t 2) (.t 10)⟩]) .ret)))))
def c38r : List RV := [.cell 2 (some 2)]
theorem c38_tr : (Tryd.f38.body.bind (trCode Tryd.prog byref)) = some c38 := by kernel_rfl
theorem c38_rv : trRV Tryd.prog Tryd.f38.results.toList = some c38r := by kernel_rfl

-- laws.eqCell
def c40 : MC := (.seq (.reg [⟨(some 2), none, .box (.t 0)⟩,
    ⟨(some 3), none, .box (.t 1)⟩,
    ⟨(some 4), none, .mv (.c (.d (.bool false)))⟩]) (.seq (.seq (.reg [⟨(some 5), none, .fieldAddr 0 (.t 2)⟩,
    ⟨(some 6), none, .load none (.t 5)⟩,
    ⟨(some 7), none, .fieldAddr 0 (.t 3)⟩,
    ⟨(some 8), none, .load none (.t 7)⟩,
    ⟨(some 9), none, .bin .neq (.int .i64) (.t 6) (.t 8)⟩]) (.cond (.t 9) (.seq (.reg [⟨(some 4), none, .mv (.c (.d (.bool false)))⟩]) .ret) .skip)) (.seq (.seq (.reg [⟨(some 10), none, .fieldAddr 1 (.t 2)⟩,
    ⟨(some 11), none, .load none (.t 10)⟩,
    ⟨(some 12), none, .fieldAddr 1 (.t 3)⟩,
    ⟨(some 13), none, .load none (.t 12)⟩,
    ⟨(some 14), none, .bin .neq (.int .i64) (.t 11) (.t 13)⟩]) (.cond (.t 14) (.seq (.reg [⟨(some 4), none, .mv (.c (.d (.bool false)))⟩]) .ret) .skip)) (.seq (.reg [⟨(some 4), none, .mv (.c (.d (.bool true)))⟩]) .ret))))
def c40r : List RV := [.tmp 4]
theorem c40_tr : (Tryd.f40.body.bind (trCode Tryd.prog byref)) = some c40 := by kernel_rfl
theorem c40_rv : trRV Tryd.prog Tryd.f40.results.toList = some c40r := by kernel_rfl

-- laws.eqCellS
def c30L0 : MC := (.seq (.seq (.reg [⟨(some 11), none, .mv (.t 5)⟩,
    ⟨(some 12), none, .mv (.t 0)⟩,
    ⟨(some 13), none, .len false (.t 12)⟩,
    ⟨(some 14), none, .bin .lss (.int .i64) (.t 11) (.t 13)⟩]) (.cond (.t 14) .skip (.exit 0))) (.seq (.block 1 (.seq (.reg [⟨(some 17), none, .mv (.t 0)⟩,
    ⟨(some 18), none, .mv (.t 5)⟩,
    ⟨(some 19), none, .indexAddr 2 (.t 17) (.t 18)⟩,
    ⟨(some 20), none, .load (some 2) (.t 19)⟩,
    ⟨(some 21), none, .mv (.t 1)⟩,
    ⟨(some 22), none, .mv (.t 5)⟩,
    ⟨(some 23), none, .indexAddr 2 (.t 21) (.t 22)⟩,
    ⟨(some 24), none, .load (some 2) (.t 23)⟩,
    ⟨(some 25), none, .call 40 [(.t 20), (.t 24)]⟩,
    ⟨(some 26), none, .un .not .bool (.t 25)⟩]) (.cond (.t 26) (.seq (.reg [⟨(some 4), none, .mv (.c (.d (.bool false)))⟩]) .ret) .skip))) (.reg [⟨(some 15), none, .mv (.t 5)⟩,
    ⟨(some 16), none, .bin .add (.int .i64) (.t 15) (.c (.d (.int .i64 (1))))⟩,
    ⟨(some 5), none, .mv (.t 16)⟩])))
def c30R0 : MC := (.seq (.reg [⟨(some 4), none, .mv (.c (.d (.bool true)))⟩]) .ret)
def c30 : MC := (.seq (.reg [⟨(some 4), none, .mv (.c (.d (.bool false)))⟩]) (.seq (.seq (.reg [⟨(some 6), none, .mv (.t 0)⟩,
    ⟨(some 7), none, .len false (.t 6)⟩,
    ⟨(some 8), none, .mv (.t 1)⟩,
    ⟨(some 9), none, .len false (.t 8)⟩,
    ⟨(some 10), none, .bin .neq (.int .i64) (.t 7) (.t 9)⟩]) (.cond (.t 10) (.seq (.reg [⟨(some 4), none, .mv (.c (.d (.bool false)))⟩]) .ret) .skip)) (.seq (.seq (.reg [⟨(some 5), none, .mv (.c (.d (.int .i64 (0))))⟩]) (.block 0 (.loop c30L0))) c30R0)))
def c30r : List RV := [.tmp 4]
theorem c30_tr : (Tryd.f30.body.bind (trCode Tryd.prog byref)) = some c30 := by kernel_rfl
theorem c30_rv : trRV Tryd.prog Tryd.f30.results.toList = some c30r := by kernel_rfl

-- laws.toCellS
def c27L0 : MC := (.seq (.seq (.reg [⟨(some 8), none, .mv (.t 4)⟩,
    ⟨(some 9), none, .mv (.t 0)⟩,
    ⟨(some 10), none, .len false (.t 9)⟩,
    ⟨(some 11), none, .bin .lss (.int .i64) (.t 8) (.t 10)⟩]) (.cond (.t 11) .skip (.exit 0))) (.seq (.block 1 (.reg [⟨(some 14), none, .mv (.t 3)⟩,
    ⟨(some 15), none, .mv (.t 4)⟩,
    ⟨(some 16), none, .mv (.t 0)⟩,
    ⟨(some 17), none, .mv (.t 4)⟩,
    ⟨(some 18), none, .indexAddr 2 (.t 16) (.t 17)⟩,
    ⟨(some 19), none, .load (some 2) (.t 18)⟩,
    ⟨(some 20), none, .call 38 [(.t 19)]⟩,
    ⟨(some 21), none, .indexAddr 2 (.t 14) (.t 15)⟩,
    ⟨none, none, .store 2 (.t 21) (.t 20)⟩])) (.reg [⟨(some 12), none, .mv (.t 4)⟩,
    ⟨(some 13), none, .bin .add (.int .i64) (.t 12) (.c (.d (.int .i64 (1))))⟩,
    ⟨(some 4), none, .mv (.t 13)⟩])))
def c27R0 : MC := (.seq (.reg [⟨(some 22), none, .mv (.t 3)⟩,
    ⟨(some 2), none, .mv (.t 22)⟩]) .ret)
def c27 : MC := (.seq (.reg [⟨(some 2), none, .nil_ 2⟩]) (.seq (.reg [⟨(some 5), none, .mv (.t 0)⟩,
    ⟨(some 6), none, .len false (.t 5)⟩,
    ⟨(some 7), none, .make 2 16 [(.int .i64 (0)), (.int .i64 (0))] (.t 6) (.t 6)⟩,
    ⟨(some 3), none, .mv (.t 7)⟩]) (.seq (.seq (.reg [⟨(some 4), none, .mv (.c (.d (.int .i64 (0))))⟩]) (.block 0 (.loop c27L0))) c27R0)))
def c27r : List RV := [.tmp 2]
theorem c27_tr : (Tryd.f27.body.bind (trCode Tryd.prog byref)) = some c27 := by kernel_rfl
theorem c27_rv : trRV Tryd.prog Tryd.f27.results.toList = some c27r := by kernel_rfl

-- laws.szCellS
def c26 : MC := (.seq (.reg [⟨(some 4), none, .mv (.c (.d (.int .i64 (0))))⟩]) (.seq (.reg [⟨(some 5), none, .mv (.t 1)⟩,
    ⟨(some 6), none, .mv (.t 0)⟩,
    ⟨(some 7), none, .len false (.t 6)⟩,
    ⟨(some 8), none, .bin .sub (.int .i64) (.t 5) (.t 7)⟩,
    ⟨(some 1), none, .mv (.t 8)⟩]) (.seq (.seq (.reg [⟨(some 9), none, .mv (.t 1)⟩,
    ⟨(some 10), none, .bin .lss (.int .i64) (.t 9) (.c (.d (.int .i64 (0))))⟩]) (.cond (.t 10) (.seq (.reg [⟨(some 4), none, .mv (.c (.d (.int .i64 (-1))))⟩]) .ret) .skip)) (.seq (.reg [⟨(some 11), none, .mv (.t 1)⟩,
    ⟨(some 4), none, .mv (.t 11)⟩]) .ret))))
def c26r : List RV := [.tmp 4]
theorem c26_tr : (Tryd.f26.body.bind (trCode Tryd.prog byref)) = some c26 := by kernel_rfl
theorem c26_rv : trRV Tryd.prog Tryd.f26.results.toList = some c26r := by kernel_rfl

theorem toCell_ok (c : Cell) : FnSem Tryd.prog 38 [.agg (cellE c)] fun t N => t = .agg (cellE c) ∧ N = [] := by
  refine fn_of mixed (by kernel_rfl) Tryd.func38 Tryd.ntmps38 c38_tr c38_rv (by simp) fun Fn In Sh hFn hIn hSh => ?_
  subst hFn hIn hSh
  unfold c38 c38r
  unfold cellE
  simp -dsimp only [go_sem, make_rows, ro_rows, Nat.reduceSub, Nat.reduceAdd, Nat.reduceLT, Nat.reduceLeDiff, Nat.reduceMul, Nat.reduceEqDiff, reduceCtorEq, reduceIte, Int.reduceToNat, Int.reduceLE, Int.reduceLT, Int.reduceNe]
theorem eqCell_ok (c d : Cell) : FnSem Tryd.prog 40 [.agg (cellE c), .agg (cellE d)] fun t N => t = .d (.bool (decide (c = d))) ∧ N = [] := by
  refine fn_of mixed (by kernel_rfl) Tryd.func40 Tryd.ntmps40 c40_tr c40_rv (by simp) fun Fn In Sh hFn hIn hSh => ?_
  subst hFn hIn hSh
  unfold c40 c40r
  unfold cellE
  simp -dsimp only [go_sem, make_rows, ro_rows, Nat.reduceSub, Nat.reduceAdd, Nat.reduceLT, Nat.reduceLeDiff, Nat.reduceMul, Nat.reduceEqDiff, reduceCtorEq, reduceIte, Int.reduceToNat, Int.reduceLE, Int.reduceLT, Int.reduceNe]
  cases c; cases d
  simp only [ieq_eq, Cell.mk.injEq]
  rename_i a b x y
  by_cases h1 : a = x <;> by_cases h2 : b = y <;> simp [h1, h2]
theorem eqCellS_ok (xs ys : List Cell) (hx : xs.length < 9223372036854775807) : FnSem Tryd.prog 30 [.d (roL cellE 2 xs), .d (roL cellE 2 ys)] fun t N => t = .d (.bool (decide (xs = ys))) ∧ N = [] := by
  refine fn_of mixed (by kernel_rfl) Tryd.func30 Tryd.ntmps30 c30_tr c30_rv (by simp) fun Fn In Sh hFn hIn hSh => ?_
  subst hFn hIn hSh
  unfold c30 c30r
  simp -dsimp only [go_sem, make_rows, ro_rows, Nat.reduceSub, Nat.reduceAdd, Nat.reduceLT, Nat.reduceLeDiff, Nat.reduceMul, Nat.reduceEqDiff, reduceCtorEq, reduceIte, Int.reduceToNat, Int.reduceLE, Int.reduceLT, Int.reduceNe]
  simp only [Bool.not_eq_true', Bool.not_eq_false']
  refine ⟨fun hne => ?_, fun he => ?_⟩
  · have : xs ≠ ys := fun e => by subst e; rw [ieq_t rfl] at hne; cases hne
    simp [this]
  have hlen : xs.length = ys.length := by
    rw [ieq_eq, beq_iff_eq] at he
    omega
  refine loopI (fun k s => ∃ i, i ≤ xs.length ∧ k = xs.length - i ∧ (∀ j, j < i → xs.getD j default = ys.getD j default) ∧
    s = ⟨(.d (.sl false 2 xs.length (rowsD (xs.map cellE))) :: .d (.sl false 2 ys.length (rowsD (ys.map cellE))) :: .d .dead :: .d .dead :: .d (.bool false) :: .d (.int .i64 (i : Int)) :: .d .dead :: .d .dead :: .d .dead :: .d .dead :: .d .dead :: .d .dead :: .d .dead :: .d .dead :: .d .dead :: .d .dead :: .d .dead :: .d .dead :: .d .dead :: .d .dead :: .d .dead :: .d .dead :: .d .dead :: .d .dead :: .d .dead :: .d .dead :: .d .dead :: []), [], []⟩) xs.length _ (Shift.forget ?_) ⟨0, Nat.zero_le _, rfl, fun j hj => absurd hj (Nat.not_lt_zero _), rfl⟩ ?_
  · simp [Fgt]
  rintro k s ⟨i, hi, rfl, hall, rfl⟩
  unfold c30L0
  by_cases hlt : i < xs.length
  · have hc : ilt (i : Int) (xs.length : Int) = true := ilt_t (by omega)
    have hi1 := inc64 (show i < 9223372036854775807 by omega)
    have hra := row_at (enc := cellE) hlt
    have hrb := row_at (enc := cellE) (show i < ys.length by omega)
    simp -dsimp only [go_sem, make_rows, ro_rows, Nat.reduceSub, Nat.reduceAdd, Nat.reduceLT, Nat.reduceLeDiff, Nat.reduceMul, Nat.reduceEqDiff, reduceCtorEq, reduceIte, Int.reduceToNat, Int.reduceLE, Int.reduceLT, Int.reduceNe, hc, hi1, hra, hrb, cellE]
    repeat (refine ⟨by omega, ?_⟩)
    refine step1 (eqCell_ok (xs.getD i default) (ys.getD i default)) ?_
    simp -dsimp only [go_sem, make_rows, ro_rows, Nat.reduceSub, Nat.reduceAdd, Nat.reduceLT, Nat.reduceLeDiff, Nat.reduceMul, Nat.reduceEqDiff, reduceCtorEq, reduceIte, Int.reduceToNat, Int.reduceLE, Int.reduceLT, Int.reduceNe, hc, hi1, hra, hrb, cellE]
    simp only [Bool.not_eq_true', Bool.not_eq_false', decide_eq_false_iff_not, decide_eq_true_eq]
    refine ⟨fun hne => ?_, fun heq => ?_⟩
    · have : xs ≠ ys := fun e => hne (by rw [e])
      simp [this]
    · refine next (xs.length - (i + 1)) _ (by omega) (Shift.forget ?_) ⟨i + 1, by omega, rfl, fun j hj => ?_, rfl⟩
      · simp [Fgt]
      · rcases Nat.lt_or_ge j i with h1 | h1
        · exact hall j h1
        · rw [show j = i by omega]; exact heq
  · have hc : ilt (i : Int) (xs.length : Int) = false := ilt_f (by omega)
    unfold c30R0
    simp -dsimp only [go_sem, make_rows, ro_rows, Nat.reduceSub, Nat.reduceAdd, Nat.reduceLT, Nat.reduceLeDiff, Nat.reduceMul, Nat.reduceEqDiff, reduceCtorEq, reduceIte, Int.reduceToNat, Int.reduceLE, Int.reduceLT, Int.reduceNe, hc]
    have : xs = ys := ext_getD hlen fun j hj => hall j (by omega)
    simp [this]
theorem toCellS_ok (l : List Cell) (hl : l.length ≤ 1000000000000) : FnSem Tryd.prog 27 [.d (roL cellE 2 l)] (newL cellE 2 l) := by
  refine fn_of mixed (by kernel_rfl) Tryd.func27 Tryd.ntmps27 c27_tr c27_rv (by simp) fun Fn In Sh hFn hIn hSh => ?_
  subst hFn hIn hSh
  unfold c27 c27r
  unfold newL
  simp -dsimp only [go_sem, make_rows, ro_rows, Nat.reduceSub, Nat.reduceAdd, Nat.reduceLT, Nat.reduceLeDiff, Nat.reduceMul, Nat.reduceEqDiff, reduceCtorEq, reduceIte, Int.reduceToNat, Int.reduceLE, Int.reduceLT, Int.reduceNe]
  repeat (refine ⟨by omega, ?_⟩)
  refine loopI (fun k s => ∃ i, i ≤ l.length ∧ k = l.length - i ∧
    s = ⟨(.d (.sl false 2 l.length (rowsD (l.map cellE))) :: .d .dead :: .d .dead :: .d (.own 1 [] l.length 0 l.length) :: .d (.int .i64 (i : Int)) :: .d .dead :: .d .dead :: .d .dead :: .d .dead :: .d .dead :: .d .dead :: .d .dead :: .d .dead :: .d .dead :: .d .dead :: .d .dead :: .d .dead :: .d .dead :: .d .dead :: .d .dead :: .d .dead :: .d .dead :: .d .dead :: []), [none, some (.arr 2 l.length (rowsD ((l.take i).map cellE ++ List.replicate (l.length - i) [.int .i64 0, .int .i64 0])))], []⟩) l.length _ (Shift.keep0 [0, 1] (by decide) ?_ ?_) ⟨0, Nat.zero_le _, rfl, rfl⟩ ?_
  · simp [KeepH, KeepO, KeepDs, KeepD, KeepTs, KeepT, KeepU, D.ren, D.inR]
  · simp [KeepH, KeepO, KeepDs, KeepD, KeepTs, KeepT, KeepU, D.ren, D.inR]
  rintro k s ⟨i, hi, rfl, rfl⟩
  unfold c27L0
  by_cases hlt : i < l.length
  · have hc : ilt (i : Int) (l.length : Int) = true := ilt_t (by omega)
    have hi1 := inc64 (show i < 9223372036854775807 by omega)
    have hra := row_at (enc := cellE) hlt
    simp -dsimp only [go_sem, make_rows, ro_rows, Nat.reduceSub, Nat.reduceAdd, Nat.reduceLT, Nat.reduceLeDiff, Nat.reduceMul, Nat.reduceEqDiff, reduceCtorEq, reduceIte, Int.reduceToNat, Int.reduceLE, Int.reduceLT, Int.reduceNe, hc, hi1, hra, cellE]
    repeat (refine ⟨by omega, ?_⟩)
    refine step1 (toCell_ok (l.getD i default)) ?_
    simp -dsimp only [go_sem, make_rows, ro_rows, Nat.reduceSub, Nat.reduceAdd, Nat.reduceLT, Nat.reduceLeDiff, Nat.reduceMul, Nat.reduceEqDiff, reduceCtorEq, reduceIte, Int.reduceToNat, Int.reduceLE, Int.reduceLT, Int.reduceNe, hc, hi1, hra, cellE]
    repeat (refine ⟨by omega, ?_⟩)
    refine next (l.length - (i + 1)) _ (by omega) (Shift.keep0 [0, 1] (by decide) ?_ ?_) ⟨i + 1, by omega, rfl, rfl⟩
    · simp only [KeepH, KeepO, KeepDs, KeepD, KeepTs, KeepT, KeepU, D.ren, D.inR, List.getD_cons_zero, List.getD_cons_succ, List.getD_nil, and_true, true_and, true_or, or_true, eq_self, reduceCtorEq, false_or, or_false, and_self, List.length_cons, List.length_nil, Nat.reduceAdd, Nat.reduceLT, Nat.zero_lt_succ]
      exact fill_step (sz := 2) rfl hlt rfl rfl rfl
    · simp [KeepH, KeepO, KeepDs, KeepD, KeepTs, KeepT, KeepU, D.ren, D.inR]
  · have hc : ilt (i : Int) (l.length : Int) = false := ilt_f (by omega)
    have hi2 : i = l.length := by omega
    unfold c27R0
    simp -dsimp only [go_sem, make_rows, ro_rows, Nat.reduceSub, Nat.reduceAdd, Nat.reduceLT, Nat.reduceLeDiff, Nat.reduceMul, Nat.reduceEqDiff, reduceCtorEq, reduceIte, Int.reduceToNat, Int.reduceLE, Int.reduceLT, Int.reduceNe, hc]
    subst hi2
    simp only [List.take_length, Nat.sub_self, List.replicate_zero, List.append_nil]
    rw [List.take_of_length_le (by simp)]
theorem szCellS_ok (l : List Cell) (n : Int) (h1 : 0 ≤ n) (h2 : n ≤ 1048576) (hl : l.length ≤ 9223372036854775807) : FnSem Tryd.prog 26 [.d (roL cellE 2 l), .d (.int .i64 n)] fun t N => t = .d (.int .i64 (if n < l.length then -1 else n - l.length)) ∧ N = [] := by
  refine fn_of mixed (by kernel_rfl) Tryd.func26 Tryd.ntmps26 c26_tr c26_rv (by simp) fun Fn In Sh hFn hIn hSh => ?_
  subst hFn hIn hSh
  unfold c26 c26r
  have e : isub .i64 n (l.length : Int) = n - l.length := isub64 (by omega) (by omega)
  simp -dsimp only [go_sem, make_rows, ro_rows, Nat.reduceSub, Nat.reduceAdd, Nat.reduceLT, Nat.reduceLeDiff, Nat.reduceMul, Nat.reduceEqDiff, reduceCtorEq, reduceIte, Int.reduceToNat, Int.reduceLE, Int.reduceLT, Int.reduceNe, e]
  simp only [ilt_eq, ile_eq, ieq_eq, decide_eq_true_eq, decide_eq_false_iff_not, beq_iff_eq, beq_eq_false_iff_ne, Bool.not_eq_true', Bool.not_eq_false', Bool.or_eq_true, Bool.and_eq_true, Bool.or_eq_false_iff, Bool.and_eq_false_iff, ne_eq, Int.not_lt, Int.not_le]
  refine ⟨fun h => ?_, fun h => ?_⟩
  · rw [if_pos (by omega)]
  · rw [if_neg (by omega)]
end Go.Proofs.YtjlgchgjgjcagaaDoor
