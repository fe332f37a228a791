/- FormatAct, on both sides. -/
import Derived.Test.YtjlgchgjgjcagaaDoorFormA
set_option linter.unusedVariables false
set_option linter.unusedSimpArgs false
namespace Go.Proofs.YtjlgchgjgjcagaaDoor
open Go Go.R Go.Proofs Go.RowKit
set_option maxRecDepth 100000
attribute [local go_sem ↓] v_skip v_reg v_draw v_alt v_seq v_block v_exit v_ret v_loop o_nil o_g q_mv o_mv q_nil_ o_nil_ q_pick o_pick q_alloc o_alloc q_box o_box q_build o_build q_mkSl o_mkSl q_load o_load q_bin o_bin q_shift o_shift q_un o_un q_conv o_conv q_make o_make q_slice o_slice q_substr o_substr q_fieldAddr o_fieldAddr q_field o_field q_indexAddr o_indexAddr q_strIdx o_strIdx q_extract o_extract q_len o_len q_minmax o_minmax q_nilCheck o_nilCheck q_mkFn o_mkFn q_call o_call q_callF o_callF l_mkSl o_mkSlM l_store o_store l_append o_append l_copy o_copy l_callR o_callR v_cond callQ_eq
attribute [local go_sem] condv_t condv_f g_tt g_ff g_tf g_ft Norm_eq Opd.get putT List.length_cons List.length_nil List.length_append List.replicate List.cons_append List.nil_append List.append_assoc List.set List.set_cons_zero List.set_cons_succ List.getD_cons_zero List.getD_cons_succ List.getD_nil List.map_cons List.map_nil List.zipIdx_cons List.zipIdx_nil List.any_cons List.any_nil List.all_cons List.all_nil List.flatMap_cons List.flatMap_nil List.foldl_cons List.foldl_nil List.take_succ_cons List.take_zero List.take_nil List.drop_succ_cons List.drop_zero List.drop_nil List.flatten_cons List.flatten_nil List.length_map roL owL arrL List.range_succ List.range_zero List.append_nil binInt true_and and_true false_and and_false Bool.not_true Bool.not_false Bool.and_self Bool.true_and Bool.and_true Bool.false_and Bool.and_false Bool.or_false Bool.or_true Bool.false_or Bool.true_or Bool.false_eq_true false_implies true_implies implies_true forall_const if_true if_false beq_self_eq_true BEq.rfl decide_true decide_false decide_eq_true_eq eq_self Option.getD_none Option.getD_some Option.map_some Option.map_none Option.isNone_none Option.isNone_some Nat.le_refl Int.le_refl Nat.zero_add Nat.add_zero Nat.zero_le Nat.sub_zero Nat.zero_mul Nat.one_mul Nat.lt_one_iff Nat.zero_lt_one Int.toNat_natCast Int.toNat_zero Int.toNat_one Int.natCast_zero retPost inPost rets T.known T.cells T.one takeAll take_ regroup retD retH final nodeR nodeIn pathOk pathIn Obj.rows loadCell setList Heap.put Obj.put setIn splitLast Heap.drop_ arrAt Heap.kill Obj.kill T.kill D.kill D.thru thruPath params T.param D.param paramCells cellP cellsP capsP rps D.ro T.back T.back1 D.back T.closed D.closed T.clean D.clean D.still view optInt optOk chunk isEq eqDs eqD source capIds D.flat bytesOfAt D.isByte D.byte rowsD_cons_zero subAt_rows shiftAt_rows  drop_mapE take_mapE List.take_length app_rows ro_ints ro_strs ro_bytes big rowsD_cons_succ S_add S_size strEq_S Int.natCast_add Int.cast_ofNat_Int List.mem_cons List.not_mem_nil false_or or_false true_or or_true forall_eq_or_imp forall_eq T.d.injEq T.agg.injEq T.tup.injEq D.int.injEq D.bool.injEq D.str.injEq List.cons.injEq Prod.mk.injEq Option.some.injEq
attribute [local go_sem low] condv_b g_b

-- spec.FormatAct
def c6L0 : MC := (.seq (.seq (.reg [⟨(some 18), none, .mv (.t 5)⟩,
    ⟨(some 19), none, .mv (.t 3)⟩,
    ⟨(some 20), none, .len false (.t 19)⟩,
    ⟨(some 21), none, .bin .lss (.int .i64) (.t 18) (.t 20)⟩]) (.cond (.t 21) .skip (.exit 0))) (.seq (.block 1 (.seq (.seq (.reg [⟨(some 24), none, .mv (.t 3)⟩,
    ⟨(some 25), none, .mv (.t 5)⟩,
    ⟨(some 26), none, .indexAddr 1 (.t 24) (.t 25)⟩,
    ⟨(some 27), none, .load none (.t 26)⟩,
    ⟨(some 28), none, .call 18 [(.t 27), (.c (.d (.int .i64 (0)))), (.c (.d (.int .i64 (999999999))))]⟩,
    ⟨(some 29), none, .un .not .bool (.t 28)⟩]) (.cond (.t 29) (.seq (.reg [⟨(some 30), none, .build [(.int .i64 (0)), (.str (S []))] [(0, 1, (.c (.d (.int .i64 (3)))))]⟩,
    ⟨none, none, .store 2 (.t 2) (.t 30)⟩]) .ret) .skip)) (.reg [⟨(some 31), none, .mv (.t 4)⟩,
    ⟨(some 32), none, .bin .add .str (.t 31) (.c (.d (.str (S [32]))))⟩,
    ⟨(some 33), none, .mv (.t 3)⟩,
    ⟨(some 34), none, .mv (.t 5)⟩,
    ⟨(some 35), none, .indexAddr 1 (.t 33) (.t 34)⟩,
    ⟨(some 36), none, .load none (.t 35)⟩,
    ⟨(some 37), none, .call 21 [(.t 36)]⟩,
    ⟨(some 38), none, .bin .add .str (.t 32) (.t 37)⟩,
    ⟨(some 4), none, .mv (.t 38)⟩]))) (.reg [⟨(some 22), none, .mv (.t 5)⟩,
    ⟨(some 23), none, .bin .add (.int .i64) (.t 22) (.c (.d (.int .i64 (1))))⟩,
    ⟨(some 5), none, .mv (.t 23)⟩])))
def c6R0 : MC := (.seq (.reg [⟨(some 39), none, .mv (.t 4)⟩,
    ⟨(some 40), none, .build [(.int .i64 (0)), (.str (S []))] [(1, 1, (.t 39))]⟩,
    ⟨none, none, .store 2 (.t 2) (.t 40)⟩]) .ret)
def c6 : MC := (.seq (.reg [⟨(some 1), none, .box (.t 0)⟩,
    ⟨(some 2), none, .alloc [(.int .i64 (0)), (.str (S []))]⟩]) (.seq (.seq (.reg [⟨(some 6), none, .fieldAddr 0 (.t 1)⟩,
    ⟨(some 7), none, .load none (.t 6)⟩,
    ⟨(some 8), none, .call 18 [(.t 7), (.c (.d (.int .i64 (1)))), (.c (.d (.int .i64 (7))))]⟩,
    ⟨(some 9), none, .un .not .bool (.t 8)⟩]) (.cond (.t 9) (.seq (.reg [⟨(some 10), none, .build [(.int .i64 (0)), (.str (S []))] [(0, 1, (.c (.d (.int .i64 (3)))))]⟩,
    ⟨none, none, .store 2 (.t 2) (.t 10)⟩]) .ret) .skip)) (.seq (.reg [⟨(some 11), none, .load (some 4) (.t 1)⟩,
    ⟨(some 12), none, .call 19 [(.t 11)]⟩,
    ⟨(some 3), none, .mv (.t 12)⟩]) (.seq (.reg [⟨(some 14), none, .fieldAddr 0 (.t 1)⟩,
    ⟨(some 15), none, .load none (.t 14)⟩,
    ⟨(some 13), none, .call 20 []⟩,
    ⟨(some 16), none, .indexAddr 1 (.t 13) (.t 15)⟩,
    ⟨(some 17), none, .load none (.t 16)⟩,
    ⟨(some 4), none, .mv (.t 17)⟩]) (.seq (.seq (.reg [⟨(some 5), none, .mv (.c (.d (.int .i64 (0))))⟩]) (.block 0 (.loop c6L0))) c6R0)))))
def c6r : List RV := [.cell 2 (some 2)]
theorem c6_tr : (Tryd.f6.body.bind (trCode Tryd.prog byref)) = some c6 := by kernel_rfl
theorem c6_rv : trRV Tryd.prog Tryd.f6.results.toList = some c6r := by kernel_rfl

-- impl.FormatAct
def c8L0 : MC := (.seq (.reg [⟨(some 32), none, .bin .lss (.int .i64) (.t 31) (.t 30)⟩]) (.seq (.cond (.t 32) .skip (.exit 0)) (.seq (.block 1 (.seq (.reg [⟨(some 33), none, .indexAddr 1 (.t 29) (.t 31)⟩,
    ⟨(some 34), none, .load none (.t 33)⟩,
    ⟨(some 7), none, .mv (.t 34)⟩]) (.seq (.seq (.reg [⟨(some 35), none, .mv (.t 7)⟩,
    ⟨(some 36), none, .call 22 [(.t 35), (.c (.d (.int .i64 (0)))), (.c (.d (.int .i64 (999999999))))]⟩,
    ⟨(some 37), none, .un .not .bool (.t 36)⟩]) (.cond (.t 37) (.seq (.reg [⟨(some 38), none, .build [(.int .i64 (0)), (.str (S []))] [(0, 1, (.c (.d (.int .i64 (3)))))]⟩,
    ⟨none, none, .store 2 (.t 2) (.t 38)⟩]) .ret) .skip)) (.reg [⟨(some 39), none, .mv (.t 5)⟩,
    ⟨(some 40), none, .mv (.t 7)⟩,
    ⟨(some 41), none, .call 24 [(.t 40)]⟩,
    ⟨(some 42), none, .mkSl false 1 [(.str (S []))] 1 [(0, (.t 41))]⟩,
    ⟨(some 43), none, .append 1 16 true (.t 39) (.t 42)⟩,
    ⟨(some 5), none, .mv (.t 43)⟩])))) (.reg [⟨(some 44), none, .bin .add (.int .i64) (.t 31) (.c (.d (.int .i64 (1))))⟩,
    ⟨(some 31), none, .mv (.t 44)⟩]))))
def c8R0 : MC := (.seq (.reg [⟨(some 45), none, .mv (.t 5)⟩,
    ⟨(some 46), none, .call 25 [(.t 45)]⟩,
    ⟨(some 47), none, .build [(.int .i64 (0)), (.str (S []))] [(1, 1, (.t 46))]⟩,
    ⟨none, none, .store 2 (.t 2) (.t 47)⟩]) .ret)
def c8 : MC := (.seq (.reg [⟨(some 1), none, .box (.t 0)⟩,
    ⟨(some 2), none, .alloc [(.int .i64 (0)), (.str (S []))]⟩]) (.seq (.seq (.reg [⟨(some 8), none, .fieldAddr 0 (.t 1)⟩,
    ⟨(some 9), none, .load none (.t 8)⟩,
    ⟨(some 10), none, .call 22 [(.t 9), (.c (.d (.int .i64 (1)))), (.c (.d (.int .i64 (7))))]⟩,
    ⟨(some 11), none, .un .not .bool (.t 10)⟩]) (.cond (.t 11) (.seq (.reg [⟨(some 12), none, .build [(.int .i64 (0)), (.str (S []))] [(0, 1, (.c (.d (.int .i64 (3)))))]⟩,
    ⟨none, none, .store 2 (.t 2) (.t 12)⟩]) .ret) .skip)) (.seq (.reg [⟨(some 14), none, .fieldAddr 0 (.t 1)⟩,
    ⟨(some 15), none, .load none (.t 14)⟩,
    ⟨(some 16), none, .call 23 [(.t 15)]⟩,
    ⟨(some 13), none, .mv (.t 16)⟩,
    ⟨(some 17), none, .extract 0 (.t 13)⟩,
    ⟨(some 18), none, .extract 1 (.t 13)⟩,
    ⟨(some 3), none, .mv (.t 17)⟩,
    ⟨(some 4), none, .mv (.t 18)⟩]) (.seq (.reg [⟨(some 19), none, .mv (.t 3)⟩,
    ⟨(some 20), none, .mkSl false 1 [(.str (S []))] 1 [(0, (.t 19))]⟩,
    ⟨(some 5), none, .mv (.t 20)⟩]) (.seq (.seq (.reg [⟨(some 21), none, .fieldAddr 1 (.t 1)⟩,
    ⟨(some 22), none, .load none (.t 21)⟩,
    ⟨(some 23), none, .fieldAddr 2 (.t 1)⟩,
    ⟨(some 24), none, .load none (.t 23)⟩,
    ⟨(some 25), none, .fieldAddr 3 (.t 1)⟩,
    ⟨(some 26), none, .load none (.t 25)⟩,
    ⟨(some 27), none, .mkSl false 1 [(.int .i64 (0))] 3 [(0, (.t 22)), (1, (.t 24)), (2, (.t 26))]⟩,
    ⟨(some 28), none, .mv (.t 4)⟩,
    ⟨(some 29), none, .slice 1 (.t 27) none (some (.t 28)) none⟩,
    ⟨(some 30), none, .len false (.t 29)⟩,
    ⟨(some 31), none, .mv (.c (.d (.int .i64 (0))))⟩]) (.block 0 (.loop c8L0))) c8R0)))))
def c8r : List RV := [.cell 2 (some 2)]
theorem c8_tr : (Tryd.f8.body.bind (trCode Tryd.prog byref)) = some c8 := by kernel_rfl
theorem c8_rv : trRV Tryd.prog Tryd.f8.results.toList = some c8r := by kernel_rfl

-- laws.FnExactFormatAct
def c3 : MC := (.seq (.reg [⟨(some 1), none, .box (.t 0)⟩,
    ⟨(some 2), none, .mv (.c (.d (.bool false)))⟩]) (.seq (.reg [⟨(some 5), none, .load (some 4) (.t 1)⟩,
    ⟨(some 6), none, .call 7 [(.t 5)]⟩,
    ⟨(some 7), none, .call 6 [(.t 6)]⟩,
    ⟨(some 3), none, .alloc [(.int .i64 (0)), (.str (S []))]⟩,
    ⟨none, none, .store 2 (.t 3) (.t 7)⟩]) (.seq (.reg [⟨(some 8), none, .load (some 4) (.t 1)⟩,
    ⟨(some 9), none, .call 7 [(.t 8)]⟩,
    ⟨(some 10), none, .call 8 [(.t 9)]⟩,
    ⟨(some 4), none, .alloc [(.int .i64 (0)), (.str (S []))]⟩,
    ⟨none, none, .store 2 (.t 4) (.t 10)⟩]) (.seq (.seq (.reg [⟨(some 11), none, .load (some 2) (.t 4)⟩,
    ⟨(some 12), none, .load (some 2) (.t 3)⟩,
    ⟨(some 13), none, .call 9 [(.t 11), (.t 12)]⟩,
    ⟨(some 14), none, .un .not .bool (.t 13)⟩]) (.cond (.t 14) (.seq (.reg [⟨(some 2), none, .mv (.c (.d (.bool false)))⟩]) .ret) .skip)) (.seq (.reg [⟨(some 2), none, .mv (.c (.d (.bool true)))⟩]) .ret)))))
def c3r : List RV := [.tmp 2]
theorem c3_tr : (Tryd.f3.body.bind (trCode Tryd.prog byref)) = some c3 := by kernel_rfl
theorem c3_rv : trRV Tryd.prog Tryd.f3.results.toList = some c3r := by kernel_rfl

def fmtGo : List UInt8 → List Int → Option (List UInt8)
  | out, [] => some out
  | out, x :: xs => if inn x 0 999999999 then fmtGo (out ++ 32 :: Lib.decDigits x.toNat) xs else none
def fmtR (a : Act) : T := if inn a.kind 1 7 then match fmtGo (word a.kind) (numsOf a) with
  | some s => txt 0 s
  | none => txt 3 [] else txt 3 []
theorem inn_t {a b c : Int} (h : inn a b c = true) : b ≤ a ∧ a ≤ c := by simpa [inn] using h
theorem digitsI_ok (x : Int) (h0 : 0 ≤ x) (h1 : x < 9223372036854775808) : FnSem Tryd.prog 21 [.d (.int .i64 x)] fun t N => t = .d (.str (S (Lib.decDigits x.toNat))) ∧ N = [] := by
  have := digits_ok x.toNat (by omega)
  rwa [Int.toNat_of_nonneg h0] at this
theorem numsOf_len (a : Act) : (numsOf a).length ≤ 3 := by
  unfold numsOf
  repeat' split
  all_goals simp
theorem decDigits_len (x : Int) (h0 : 0 ≤ x) (h1 : x < 9223372036854775808) : (Lib.decDigits x.toNat).length ≤ 21 := by
  have := Lib.itoa_length_le x (by omega) (by omega)
  rw [← Int.toNat_of_nonneg h0, Lib.itoa_nonneg] at this
  exact this
theorem word_len (k : Int) (h1 : 1 ≤ k) (h7 : k ≤ 7) : (word k).length ≤ 10 := by
  have hk : k = 1 ∨ k = 2 ∨ k = 3 ∨ k = 4 ∨ k = 5 ∨ k = 6 ∨ k = 7 := by omega
  rcases hk with rfl | rfl | rfl | rfl | rfl | rfl | rfl <;> decide
theorem specFormat_ok (a : Act) : FnSem Tryd.prog 6 [a.t] fun t N => t = fmtR a ∧ N = [] := by
  refine fn_of mixed (by kernel_rfl) Tryd.func6 Tryd.ntmps6 c6_tr c6_rv (by simp) fun Fn In Sh hFn hIn hSh => ?_
  subst hFn hIn hSh
  unfold c6 c6r
  unfold Act.t
  simp -dsimp only [go_sem, make_rows, ro_rows, Nat.reduceSub, Nat.reduceAdd, Nat.reduceLT, Nat.reduceLeDiff, Nat.reduceMul, Nat.reduceEqDiff, reduceCtorEq, reduceIte, Int.reduceToNat, Int.reduceLE, Int.reduceLT, Int.reduceNe]
  refine step1 (l1In_ok _ _ _) ?_
  simp -dsimp only [go_sem, make_rows, ro_rows, Nat.reduceSub, Nat.reduceAdd, Nat.reduceLT, Nat.reduceLeDiff, Nat.reduceMul, Nat.reduceEqDiff, reduceCtorEq, reduceIte, Int.reduceToNat, Int.reduceLE, Int.reduceLT, Int.reduceNe]
  refine ⟨fun hk => ?_, fun hk => ?_⟩
  · simp only [Bool.not_eq_true'] at hk
    unfold fmtR; rw [hk]; rfl
  simp only [Bool.not_eq_false'] at hk
  obtain ⟨hk1, hk7⟩ := inn_t hk
  have hnl := numsOf_len a
  have hN : namesL.length = 8 := rfl
  have hkt : a.kind.toNat < namesL.length := by rw [hN]; omega
  have hw : rowsD (namesL.map strE) a.kind.toNat 0 = .str (S (word a.kind)) := row_get hkt
  refine step1 (numbers_ok a) ?_
  simp -dsimp only [go_sem, make_rows, ro_rows, Nat.reduceSub, Nat.reduceAdd, Nat.reduceLT, Nat.reduceLeDiff, Nat.reduceMul, Nat.reduceEqDiff, reduceCtorEq, reduceIte, Int.reduceToNat, Int.reduceLE, Int.reduceLT, Int.reduceNe]
  refine step1 names_ok ?_
  simp -dsimp only [go_sem, make_rows, ro_rows, Nat.reduceSub, Nat.reduceAdd, Nat.reduceLT, Nat.reduceLeDiff, Nat.reduceMul, Nat.reduceEqDiff, reduceCtorEq, reduceIte, Int.reduceToNat, Int.reduceLE, Int.reduceLT, Int.reduceNe, hN, hw]
  refine ⟨by omega, by omega, by omega, ?_⟩
  refine loopI (fun k s => ∃ i o, i ≤ (numsOf a).length ∧ k = (numsOf a).length - i ∧ o.length ≤ 10 + 30 * i ∧ fmtGo o ((numsOf a).drop i) = fmtGo (word a.kind) (numsOf a) ∧
    s = ⟨(.d .dead :: .d .dead :: .d (.ptr 1 [] 1 0 0) :: .d (.own 2 [] (numsOf a).length 0 (numsOf a).length) :: .d (.str (S o)) :: .d (.int .i64 (i : Int)) :: .d .dead :: .d .dead :: .d .dead :: .d .dead :: .d .dead :: .d .dead :: .d .dead :: .d .dead :: .d .dead :: .d .dead :: .d .dead :: .d .dead :: .d .dead :: .d .dead :: .d .dead :: .d .dead :: .d .dead :: .d .dead :: .d .dead :: .d .dead :: .d .dead :: .d .dead :: .d .dead :: .d .dead :: .d .dead :: .d .dead :: .d .dead :: .d .dead :: .d .dead :: .d .dead :: .d .dead :: .d .dead :: .d .dead :: .d .dead :: .d .dead :: []), [some (.box [.int .i64 a.kind, .int .i64 a.txn, .int .i64 a.key, .int .i64 a.value]), some (.box [.int .i64 0, .str (S [])]), some (arrL intE 1 (numsOf a)), some (arrL strE 1 namesL)], []⟩) (numsOf a).length _ (Shift.forget ?_) ⟨0, word a.kind, Nat.zero_le _, rfl, ?_, rfl, rfl⟩ ?_
  · simp [Fgt, word]
  · exact Nat.le_trans (word_len _ hk1 hk7) (by omega)
  rintro k s ⟨i, o, hi, rfl, ho, hgo, rfl⟩
  unfold c6L0
  by_cases hlt : i < (numsOf a).length
  · have hd := drop_getD (numsOf a) 0 hlt
    have hg : rowsD ((numsOf a).map intE) i 0 = .int .i64 ((numsOf a).getD i 0) := row_get hlt
    have hc : ilt (i : Int) ((numsOf a).length : Int) = true := ilt_t (by omega)
    generalize (numsOf a).getD i 0 = x at hd hg
    rw [hd] at hgo
    have hi1 := inc64 (show i < 9223372036854775807 by omega)
    simp -dsimp only [go_sem, make_rows, ro_rows, Nat.reduceSub, Nat.reduceAdd, Nat.reduceLT, Nat.reduceLeDiff, Nat.reduceMul, Nat.reduceEqDiff, reduceCtorEq, reduceIte, Int.reduceToNat, Int.reduceLE, Int.reduceLT, Int.reduceNe, hc, hg, hi1]
    repeat (refine ⟨by omega, ?_⟩)
    refine step1 (l1In_ok _ _ _) ?_
    simp -dsimp only [go_sem, make_rows, ro_rows, Nat.reduceSub, Nat.reduceAdd, Nat.reduceLT, Nat.reduceLeDiff, Nat.reduceMul, Nat.reduceEqDiff, reduceCtorEq, reduceIte, Int.reduceToNat, Int.reduceLE, Int.reduceLT, Int.reduceNe, hc, hg, hi1]
    refine ⟨fun hx => ?_, fun hx => ?_⟩
    · simp only [Bool.not_eq_true'] at hx
      unfold fmtR; rw [hk, ← hgo]; simp [fmtGo, hx, txt]
    · simp only [Bool.not_eq_false'] at hx
      obtain ⟨hx1, hx2⟩ := inn_t hx
      have hdl := decDigits_len x hx1 (by omega)
      repeat (refine ⟨by omega, ?_⟩)
      refine step1 (digitsI_ok x hx1 (by omega)) ?_
      simp -dsimp only [go_sem, make_rows, ro_rows, Nat.reduceSub, Nat.reduceAdd, Nat.reduceLT, Nat.reduceLeDiff, Nat.reduceMul, Nat.reduceEqDiff, reduceCtorEq, reduceIte, Int.reduceToNat, Int.reduceLE, Int.reduceLT, Int.reduceNe, hc, hg, hi1]
      repeat (refine ⟨by omega, ?_⟩)
      refine next ((numsOf a).length - (i + 1)) _ (by omega) (Shift.forget ?_) ⟨i + 1, o ++ 32 :: Lib.decDigits x.toNat, by omega, rfl, ?_, ?_, rfl⟩
      · simp [Fgt]
      · simp; omega
      · simpa [fmtGo, hx] using hgo
  · have hc : ilt (i : Int) ((numsOf a).length : Int) = false := ilt_f (by omega)
    have hi2 : i = (numsOf a).length := by omega
    unfold c6R0
    simp -dsimp only [go_sem, make_rows, ro_rows, Nat.reduceSub, Nat.reduceAdd, Nat.reduceLT, Nat.reduceLeDiff, Nat.reduceMul, Nat.reduceEqDiff, reduceCtorEq, reduceIte, Int.reduceToNat, Int.reduceLE, Int.reduceLT, Int.reduceNe, hc]
    unfold fmtR; rw [hk, ← hgo, hi2]; simp [fmtGo, txt]
theorem join_snoc (ws : List (List UInt8)) (x sep : List UInt8) (h : ws ≠ []) : Lib.join (ws ++ [x]) sep = Lib.join ws sep ++ sep ++ x := by
  induction ws with
  | nil => exact absurd rfl h
  | cons w ws ih =>
    cases ws with
    | nil => simp [Lib.join, List.intercalate, List.intersperse]
    | cons v vs =>
      have := ih (by simp)
      simp only [Lib.join, List.intercalate] at this ⊢
      simp only [List.cons_append, List.intersperse, List.flatten_cons] at this ⊢
      simp [this]
theorem numsOf_get (a : Act) (h1 : 1 ≤ a.kind) (h7 : a.kind ≤ 7) : (numsOf a).length = (cnt a.kind).toNat ∧ 0 ≤ cnt a.kind ∧ ∀ i, i < (numsOf a).length → [a.txn, a.key, a.value].getD i 0 = (numsOf a).getD i 0 := by
  have hk : a.kind = 1 ∨ a.kind = 2 ∨ a.kind = 3 ∨ a.kind = 4 ∨ a.kind = 5 ∨ a.kind = 6 ∨ a.kind = 7 := by omega
  rcases hk with h | h | h | h | h | h | h <;> simp [numsOf, cnt, h] <;> intro i hi <;> (try omega) <;> (have : i = 0 ∨ i = 1 ∨ i = 2 := by omega) <;> rcases this with rfl | rfl | rfl <;> first | rfl | omega
theorem implFormat_ok (a : Act) : FnSem Tryd.prog 8 [a.t] fun t N => t = fmtR a ∧ N = [] := by
  refine fn_of mixed (by kernel_rfl) Tryd.func8 Tryd.ntmps8 c8_tr c8_rv (by simp) fun Fn In Sh hFn hIn hSh => ?_
  subst hFn hIn hSh
  unfold c8 c8r
  unfold Act.t
  simp -dsimp only [go_sem, make_rows, ro_rows, Nat.reduceSub, Nat.reduceAdd, Nat.reduceLT, Nat.reduceLeDiff, Nat.reduceMul, Nat.reduceEqDiff, reduceCtorEq, reduceIte, Int.reduceToNat, Int.reduceLE, Int.reduceLT, Int.reduceNe]
  repeat (refine ⟨by omega, ?_⟩)
  refine step1 (within_ok _ _ _) ?_
  simp -dsimp only [go_sem, make_rows, ro_rows, Nat.reduceSub, Nat.reduceAdd, Nat.reduceLT, Nat.reduceLeDiff, Nat.reduceMul, Nat.reduceEqDiff, reduceCtorEq, reduceIte, Int.reduceToNat, Int.reduceLE, Int.reduceLT, Int.reduceNe]
  refine ⟨fun hk => ?_, fun hk => ?_⟩
  · simp only [Bool.not_eq_true'] at hk
    unfold fmtR; rw [hk]; rfl
  simp only [Bool.not_eq_false'] at hk
  obtain ⟨hk1, hk7⟩ := inn_t hk
  have hnl := numsOf_len a
  obtain ⟨hn, hn0, hng⟩ := numsOf_get a hk1 hk7
  have hc3 : cnt a.kind = ((numsOf a).length : Int) := by omega
  repeat (refine ⟨by omega, ?_⟩)
  refine step1 (forms_ok _ hk1 hk7) ?_
  simp -dsimp only [go_sem, make_rows, ro_rows, Nat.reduceSub, Nat.reduceAdd, Nat.reduceLT, Nat.reduceLeDiff, Nat.reduceMul, Nat.reduceEqDiff, reduceCtorEq, reduceIte, Int.reduceToNat, Int.reduceLE, Int.reduceLT, Int.reduceNe, hc3]
  repeat (refine ⟨by omega, ?_⟩)
  refine loopI (fun k s => ∃ i ws, i ≤ (numsOf a).length ∧ k = (numsOf a).length - i ∧ ws ≠ [] ∧ ws.length ≤ 1 + i ∧ (Lib.join ws [32]).length ≤ 10 + 30 * i ∧ fmtGo (Lib.join ws [32]) ((numsOf a).drop i) = fmtGo (word a.kind) (numsOf a) ∧
    s = ⟨(.d .dead :: .d .dead :: .d (.ptr 1 [] 1 0 0) :: .d .dead :: .d .dead :: .d (.own 2 [] ws.length 0 ws.length) :: .d .dead :: .d .dead :: .d .dead :: .d .dead :: .d .dead :: .d .dead :: .d .dead :: .d .dead :: .d .dead :: .d .dead :: .d .dead :: .d .dead :: .d .dead :: .d .dead :: .d .dead :: .d .dead :: .d .dead :: .d .dead :: .d .dead :: .d .dead :: .d .dead :: .d .dead :: .d .dead :: .d (.own 3 [] 3 0 (numsOf a).length) :: .d (.int .i64 ((numsOf a).length : Int)) :: .d (.int .i64 (i : Int)) :: .d .dead :: .d .dead :: .d .dead :: .d .dead :: .d .dead :: .d .dead :: .d .dead :: .d .dead :: .d .dead :: .d .dead :: .d .dead :: .d .dead :: .d .dead :: .d .dead :: .d .dead :: .d .dead :: []), [some (.box [.int .i64 a.kind, .int .i64 a.txn, .int .i64 a.key, .int .i64 a.value]), some (.box [.int .i64 0, .str (S [])]), some (arrL strE 1 ws), some (.arr 1 3 (rowsD [[.int .i64 a.txn], [.int .i64 a.key], [.int .i64 a.value]]))], []⟩) (numsOf a).length _ (Shift.forget ?_) ⟨0, [word a.kind], Nat.zero_le _, rfl, by simp, by simp, ?_, ?_, rfl⟩ ?_
  · simp [Fgt]
  · simpa [Lib.join, List.intercalate] using word_len _ hk1 hk7
  · simp [Lib.join, List.intercalate]
  rintro k s ⟨i, ws, hi, rfl, hw0, hwl, ho, hgo, rfl⟩
  unfold c8L0
  by_cases hlt : i < (numsOf a).length
  · have hd := drop_getD (numsOf a) 0 hlt
    have hg : rowsD [[.int .i64 a.txn], [.int .i64 a.key], [.int .i64 a.value]] i 0 = .int .i64 ((numsOf a).getD i 0) := by
      rw [← hng i hlt]
      exact row_get (enc := intE) (l := [a.txn, a.key, a.value]) (by simp; omega)
    have hc : ilt (i : Int) ((numsOf a).length : Int) = true := ilt_t (by omega)
    generalize (numsOf a).getD i 0 = x at hd hg
    rw [hd] at hgo
    have hi1 := inc64 (show i < 9223372036854775807 by omega)
    simp -dsimp only [go_sem, make_rows, ro_rows, Nat.reduceSub, Nat.reduceAdd, Nat.reduceLT, Nat.reduceLeDiff, Nat.reduceMul, Nat.reduceEqDiff, reduceCtorEq, reduceIte, Int.reduceToNat, Int.reduceLE, Int.reduceLT, Int.reduceNe, hc, hg, hi1]
    repeat (refine ⟨by omega, ?_⟩)
    refine step1 (within_ok _ _ _) ?_
    simp -dsimp only [go_sem, make_rows, ro_rows, Nat.reduceSub, Nat.reduceAdd, Nat.reduceLT, Nat.reduceLeDiff, Nat.reduceMul, Nat.reduceEqDiff, reduceCtorEq, reduceIte, Int.reduceToNat, Int.reduceLE, Int.reduceLT, Int.reduceNe, hc, hg, hi1]
    refine ⟨fun hx => ?_, fun hx => ?_⟩
    · simp only [Bool.not_eq_true'] at hx
      unfold fmtR; rw [hk, ← hgo]; simp [fmtGo, hx, txt]
    · simp only [Bool.not_eq_false'] at hx
      obtain ⟨hx1, hx2⟩ := inn_t hx
      have hdl := decDigits_len x hx1 (by omega)
      have hit : Lib.itoa x = Lib.decDigits x.toNat := by
        conv => lhs; rw [← Int.toNat_of_nonneg hx1]
        exact Lib.itoa_nonneg _
      repeat (refine ⟨by omega, ?_⟩)
      refine step1 (dec_ok x ⟨by omega, by omega⟩) ?_
      simp -dsimp only [go_sem, make_rows, ro_rows, Nat.reduceSub, Nat.reduceAdd, Nat.reduceLT, Nat.reduceLeDiff, Nat.reduceMul, Nat.reduceEqDiff, reduceCtorEq, reduceIte, Int.reduceToNat, Int.reduceLE, Int.reduceLT, Int.reduceNe, hc, hg, hi1]
      repeat (refine ⟨by omega, ?_⟩)
      have hj := join_snoc ws (Lib.itoa x) [32] hw0
      refine next ((numsOf a).length - (i + 1)) _ (by omega) (Shift.keep0 [0, 1, 5, 3] (by decide) ?_ ?_) ⟨i + 1, ws ++ [Lib.itoa x], by omega, rfl, by simp, by simp; omega, ?_, ?_, rfl⟩
      · simp [KeepH, KeepO, KeepDs, KeepD, KeepTs, KeepT, KeepU, D.ren, D.inR, strE, arrL]
      · simp [KeepH, KeepO, KeepDs, KeepD, KeepTs, KeepT, KeepU, D.ren, D.inR]
      · rw [hj]; simp [hit]; omega
      · rw [hj, hit]
        simpa [fmtGo, hx] using hgo
  · have hc : ilt (i : Int) ((numsOf a).length : Int) = false := ilt_f (by omega)
    have hi2 : i = (numsOf a).length := by omega
    unfold c8R0
    simp -dsimp only [go_sem, make_rows, ro_rows, Nat.reduceSub, Nat.reduceAdd, Nat.reduceLT, Nat.reduceLeDiff, Nat.reduceMul, Nat.reduceEqDiff, reduceCtorEq, reduceIte, Int.reduceToNat, Int.reduceLE, Int.reduceLT, Int.reduceNe, hc]
    repeat (refine ⟨by omega, ?_⟩)
    refine step1 (joined_ok ws (by omega) (by omega)) ?_
    simp -dsimp only [go_sem, make_rows, ro_rows, Nat.reduceSub, Nat.reduceAdd, Nat.reduceLT, Nat.reduceLeDiff, Nat.reduceMul, Nat.reduceEqDiff, reduceCtorEq, reduceIte, Int.reduceToNat, Int.reduceLE, Int.reduceLT, Int.reduceNe, hc]
    unfold fmtR; rw [hk, ← hgo, hi2]; simp [fmtGo, txt]
end Go.Proofs.YtjlgchgjgjcagaaDoor
