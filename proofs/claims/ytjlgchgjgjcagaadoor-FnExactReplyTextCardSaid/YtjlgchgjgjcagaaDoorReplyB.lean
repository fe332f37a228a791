/- The reference's ReplyText. -/
import Derived.Test.YtjlgchgjgjcagaaDoorReplyA
set_option linter.unusedVariables false
set_option linter.unusedSimpArgs false
namespace Go.Proofs.YtjlgchgjgjcagaaDoor
open Go Go.R Go.Proofs Go.RowKit
set_option maxRecDepth 100000
attribute [local go_sem ↓] v_skip v_reg v_draw v_alt v_seq v_block v_exit v_ret v_loop o_nil o_g q_mv o_mv q_nil_ o_nil_ q_pick o_pick q_alloc o_alloc q_box o_box q_build o_build q_mkSl o_mkSl q_load o_load q_bin o_bin q_shift o_shift q_un o_un q_conv o_conv q_make o_make q_slice o_slice q_substr o_substr q_fieldAddr o_fieldAddr q_field o_field q_indexAddr o_indexAddr q_strIdx o_strIdx q_extract o_extract q_len o_len q_minmax o_minmax q_nilCheck o_nilCheck q_mkFn o_mkFn q_call o_call q_callF o_callF l_mkSl o_mkSlM l_store o_store l_append o_append l_copy o_copy l_callR o_callR v_cond callQ_eq
attribute [local go_sem] condv_t condv_f g_tt g_ff g_tf g_ft Norm_eq Opd.get putT List.length_cons List.length_nil List.length_append List.replicate List.cons_append List.nil_append List.append_assoc List.set List.set_cons_zero List.set_cons_succ List.getD_cons_zero List.getD_cons_succ List.getD_nil List.map_cons List.map_nil List.zipIdx_cons List.zipIdx_nil List.any_cons List.any_nil List.all_cons List.all_nil List.flatMap_cons List.flatMap_nil List.foldl_cons List.foldl_nil List.take_succ_cons List.take_zero List.take_nil List.drop_succ_cons List.drop_zero List.drop_nil List.flatten_cons List.flatten_nil List.length_map roL owL arrL List.range_succ List.range_zero List.append_nil binInt true_and and_true false_and and_false Bool.not_true Bool.not_false Bool.and_self Bool.true_and Bool.and_true Bool.false_and Bool.and_false Bool.or_false Bool.or_true Bool.false_or Bool.true_or Bool.false_eq_true false_implies true_implies implies_true forall_const if_true if_false beq_self_eq_true BEq.rfl decide_true decide_false decide_eq_true_eq eq_self Option.getD_none Option.getD_some Option.map_some Option.map_none Option.isNone_none Option.isNone_some Nat.le_refl Int.le_refl Nat.zero_add Nat.add_zero Nat.zero_le Nat.sub_zero Nat.zero_mul Nat.one_mul Nat.lt_one_iff Nat.zero_lt_one Int.toNat_natCast Int.toNat_zero Int.toNat_one Int.natCast_zero retPost inPost rets T.known T.cells T.one takeAll take_ regroup retD retH final nodeR nodeIn pathOk pathIn Obj.rows loadCell setList Heap.put Obj.put setIn splitLast Heap.drop_ arrAt Heap.kill Obj.kill T.kill D.kill D.thru thruPath params T.param D.param paramCells cellP cellsP capsP rps D.ro T.back T.back1 D.back T.closed D.closed T.clean D.clean D.still view optInt optOk chunk isEq eqDs eqD source capIds D.flat bytesOfAt D.isByte D.byte rowsD_cons_zero subAt_rows shiftAt_rows  drop_mapE take_mapE List.take_length app_rows ro_ints ro_strs ro_bytes big rowsD_cons_succ S_add S_size strEq_S Int.natCast_add Int.cast_ofNat_Int List.mem_cons List.not_mem_nil false_or or_false true_or or_true forall_eq_or_imp forall_eq T.d.injEq T.agg.injEq T.tup.injEq D.int.injEq D.bool.injEq D.str.injEq List.cons.injEq Prod.mk.injEq Option.some.injEq
attribute [local go_sem low] condv_b g_b

-- spec.ReplyText
def c11L0 : MC := (.seq (.seq (.reg [⟨(some 15), none, .mv (.t 4)⟩,
    ⟨(some 16), none, .fieldAddr 2 (.t 1)⟩,
    ⟨(some 17), none, .load none (.t 16)⟩,
    ⟨(some 18), none, .len false (.t 17)⟩,
    ⟨(some 19), none, .bin .lss (.int .i64) (.t 15) (.t 18)⟩]) (.cond (.t 19) .skip (.exit 0))) (.seq (.block 1 (.reg [⟨(some 22), none, .mv (.t 3)⟩,
    ⟨(some 23), none, .mv (.t 22)⟩,
    ⟨(some 24), (some (23, false)), .fieldAddr 2 (.t 1)⟩,
    ⟨(some 25), (some (23, false)), .load none (.t 24)⟩,
    ⟨(some 26), (some (23, false)), .mv (.t 4)⟩,
    ⟨(some 27), (some (23, false)), .indexAddr 2 (.t 25) (.t 26)⟩,
    ⟨(some 28), (some (23, false)), .fieldAddr 0 (.t 27)⟩,
    ⟨(some 29), (some (23, false)), .load none (.t 28)⟩,
    ⟨(some 30), (some (23, false)), .bin .lss (.int .i64) (.t 29) (.c (.d (.int .i64 (0))))⟩,
    ⟨(some 31), none, .pick (.t 23) (.c (.d (.bool true))) (.t 30)⟩,
    ⟨(some 32), none, .mv (.t 31)⟩,
    ⟨(some 33), (some (32, false)), .fieldAddr 2 (.t 1)⟩,
    ⟨(some 34), (some (32, false)), .load none (.t 33)⟩,
    ⟨(some 35), (some (32, false)), .mv (.t 4)⟩,
    ⟨(some 36), (some (32, false)), .indexAddr 2 (.t 34) (.t 35)⟩,
    ⟨(some 37), (some (32, false)), .fieldAddr 1 (.t 36)⟩,
    ⟨(some 38), (some (32, false)), .load none (.t 37)⟩,
    ⟨(some 39), (some (32, false)), .bin .lss (.int .i64) (.t 38) (.c (.d (.int .i64 (0))))⟩,
    ⟨(some 40), none, .pick (.t 32) (.c (.d (.bool true))) (.t 39)⟩,
    ⟨(some 3), none, .mv (.t 40)⟩])) (.reg [⟨(some 20), none, .mv (.t 4)⟩,
    ⟨(some 21), none, .bin .add (.int .i64) (.t 20) (.c (.d (.int .i64 (1))))⟩,
    ⟨(some 4), none, .mv (.t 21)⟩])))
def c11L1 : MC := (.seq (.seq (.reg [⟨(some 55), none, .mv (.t 6)⟩,
    ⟨(some 56), none, .fieldAddr 2 (.t 1)⟩,
    ⟨(some 57), none, .load none (.t 56)⟩,
    ⟨(some 58), none, .len false (.t 57)⟩,
    ⟨(some 59), none, .bin .lss (.int .i64) (.t 55) (.t 58)⟩]) (.cond (.t 59) .skip (.exit 2))) (.seq (.block 3 (.reg [⟨(some 62), none, .mv (.t 5)⟩,
    ⟨(some 63), none, .bin .add .str (.t 62) (.c (.d (.str (S [32]))))⟩,
    ⟨(some 64), none, .fieldAddr 2 (.t 1)⟩,
    ⟨(some 65), none, .load none (.t 64)⟩,
    ⟨(some 66), none, .mv (.t 6)⟩,
    ⟨(some 67), none, .indexAddr 2 (.t 65) (.t 66)⟩,
    ⟨(some 68), none, .fieldAddr 0 (.t 67)⟩,
    ⟨(some 69), none, .load none (.t 68)⟩,
    ⟨(some 73), none, .fieldAddr 2 (.t 1)⟩,
    ⟨(some 74), none, .load none (.t 73)⟩,
    ⟨(some 75), none, .mv (.t 6)⟩,
    ⟨(some 76), none, .indexAddr 2 (.t 74) (.t 75)⟩,
    ⟨(some 77), none, .fieldAddr 1 (.t 76)⟩,
    ⟨(some 78), none, .load none (.t 77)⟩,
    ⟨(some 70), none, .call 21 [(.t 69)]⟩,
    ⟨(some 71), none, .bin .add .str (.t 63) (.t 70)⟩,
    ⟨(some 72), none, .bin .add .str (.t 71) (.c (.d (.str (S [61]))))⟩,
    ⟨(some 79), none, .call 21 [(.t 78)]⟩,
    ⟨(some 80), none, .bin .add .str (.t 72) (.t 79)⟩,
    ⟨(some 5), none, .mv (.t 80)⟩])) (.reg [⟨(some 60), none, .mv (.t 6)⟩,
    ⟨(some 61), none, .bin .add (.int .i64) (.t 60) (.c (.d (.int .i64 (1))))⟩,
    ⟨(some 6), none, .mv (.t 61)⟩])))
def c11R0 : MC := (.seq (.reg [⟨(some 81), none, .mv (.t 5)⟩,
    ⟨(some 82), none, .build [(.int .i64 (0)), (.str (S []))] [(1, 1, (.t 81))]⟩,
    ⟨none, none, .store 2 (.t 2) (.t 82)⟩]) .ret)
def c11R1 : MC := (.seq (.seq (.reg [⟨(some 41), none, .mv (.t 3)⟩]) (.cond (.t 41) (.seq (.reg [⟨(some 42), none, .build [(.int .i64 (0)), (.str (S []))] [(0, 1, (.c (.d (.int .i64 (3)))))]⟩,
    ⟨none, none, .store 2 (.t 2) (.t 42)⟩]) .ret) .skip)) (.seq (.seq (.reg [⟨(some 43), none, .fieldAddr 0 (.t 1)⟩,
    ⟨(some 44), none, .load none (.t 43)⟩,
    ⟨(some 45), none, .bin .neq (.int .i64) (.t 44) (.c (.d (.int .i64 (0))))⟩]) (.cond (.t 45) (.seq (.reg [⟨(some 46), none, .fieldAddr 0 (.t 1)⟩,
    ⟨(some 47), none, .load none (.t 46)⟩,
    ⟨(some 48), none, .call 21 [(.t 47)]⟩,
    ⟨(some 49), none, .bin .add .str (.c (.d (.str (S [33, 32])))) (.t 48)⟩,
    ⟨(some 50), none, .build [(.int .i64 (0)), (.str (S []))] [(1, 1, (.t 49))]⟩,
    ⟨none, none, .store 2 (.t 2) (.t 50)⟩]) .ret) .skip)) (.seq (.reg [⟨(some 51), none, .fieldAddr 1 (.t 1)⟩,
    ⟨(some 52), none, .load none (.t 51)⟩,
    ⟨(some 53), none, .call 21 [(.t 52)]⟩,
    ⟨(some 54), none, .bin .add .str (.c (.d (.str (S [111, 107, 32])))) (.t 53)⟩,
    ⟨(some 5), none, .mv (.t 54)⟩]) (.seq (.seq (.reg [⟨(some 6), none, .mv (.c (.d (.int .i64 (0))))⟩]) (.block 2 (.loop c11L1))) c11R0))))
def c11 : MC := (.seq (.reg [⟨(some 1), none, .box (.t 0)⟩,
    ⟨(some 2), none, .alloc [(.int .i64 (0)), (.str (S []))]⟩]) (.seq (.reg [⟨(some 7), none, .fieldAddr 0 (.t 1)⟩,
    ⟨(some 8), none, .load none (.t 7)⟩,
    ⟨(some 9), none, .bin .lss (.int .i64) (.t 8) (.c (.d (.int .i64 (0))))⟩,
    ⟨(some 10), none, .mv (.t 9)⟩,
    ⟨(some 11), (some (10, false)), .fieldAddr 1 (.t 1)⟩,
    ⟨(some 12), (some (10, false)), .load none (.t 11)⟩,
    ⟨(some 13), (some (10, false)), .bin .lss (.int .i64) (.t 12) (.c (.d (.int .i64 (0))))⟩,
    ⟨(some 14), none, .pick (.t 10) (.c (.d (.bool true))) (.t 13)⟩,
    ⟨(some 3), none, .mv (.t 14)⟩]) (.seq (.seq (.reg [⟨(some 4), none, .mv (.c (.d (.int .i64 (0))))⟩]) (.block 0 (.loop c11L0))) c11R1)))
def c11r : List RV := [.cell 2 (some 2)]
theorem c11_tr : (Tryd.f11.body.bind (trCode Tryd.prog byref)) = some c11 := by kernel_rfl
theorem c11_rv : trRV Tryd.prog Tryd.f11.results.toList = some c11r := by kernel_rfl

theorem itoa_nn (x : Int) (h : 0 ≤ x) : Lib.decDigits x.toNat = Lib.itoa x := by
  conv => rhs; rw [← Int.toNat_of_nonneg h]
  exact (Lib.itoa_nonneg _).symm
theorem digitsT_ok (x : Int) (h0 : 0 ≤ x) (h1 : I64 x) : FnSem Tryd.prog 21 [.d (.int .i64 x)] fun t N => t = .d (.str (S (Lib.itoa x))) ∧ N = [] := by
  rw [← itoa_nn x h0]
  exact digitsI_ok x h0 (by have := h1.2; omega)
def bad (r : Reply) (i : Nat) : Bool := decide (r.code < 0) || decide (r.value < 0) || (r.cells.take i).any badC
def outGo (o : List UInt8) (l : List Cell) : List UInt8 := l.foldl (fun o c => o ++ 32 :: cellTxt c) o
theorem outGo_join (ws : List (List UInt8)) (h : ws ≠ []) : ∀ l : List Cell, outGo (Lib.join ws [32]) l = Lib.join (ws ++ l.map cellTxt) [32] := by
  intro l
  induction l generalizing ws with
  | nil => simp [outGo]
  | cons c l ih =>
    have := ih (ws ++ [cellTxt c]) (by simp)
    rw [join_snoc ws (cellTxt c) [32] h] at this
    simp only [outGo, List.foldl_cons] at this ⊢
    simp only [List.append_assoc, List.cons_append, List.nil_append] at this
    rw [this]
    simp
theorem specReply_ok (r : Reply) (hg : r.good) (hl : r.cells.length ≤ 1048576) : FnSem Tryd.prog 11 [.agg (replyE r)] fun t N => t = replyR r ∧ N = [] := by
  obtain ⟨hg1, hg2, hg3⟩ := hg
  have hl1 := itoa_len r.code hg1
  have hl2 := itoa_len r.value hg2
  -- behind the first loop
  have rest : ∀ (b : Bool) (t4 t15 t16 t17 t18 t19 : T), bad r r.cells.length = b → ev (FnSem Tryd.prog) (InSem Tryd.prog) Shift c11R1 ⟨(.d .dead :: .d (.ptr 0 [] 1 0 0) :: .d (.ptr 1 [] 1 0 0) :: .d (.bool b) :: t4 :: .d .dead :: .d .dead :: .d .dead :: .d .dead :: .d .dead :: .d .dead :: .d .dead :: .d .dead :: .d .dead :: .d .dead :: t15 :: t16 :: t17 :: t18 :: t19 :: .d .dead :: .d .dead :: .d .dead :: .d .dead :: .d .dead :: .d .dead :: .d .dead :: .d .dead :: .d .dead :: .d .dead :: .d .dead :: .d .dead :: .d .dead :: .d .dead :: .d .dead :: .d .dead :: .d .dead :: .d .dead :: .d .dead :: .d .dead :: .d .dead :: .d .dead :: .d .dead :: .d .dead :: .d .dead :: .d .dead :: .d .dead :: .d .dead :: .d .dead :: .d .dead :: .d .dead :: .d .dead :: .d .dead :: .d .dead :: .d .dead :: .d .dead :: .d .dead :: .d .dead :: .d .dead :: .d .dead :: .d .dead :: .d .dead :: .d .dead :: .d .dead :: .d .dead :: .d .dead :: .d .dead :: .d .dead :: .d .dead :: .d .dead :: .d .dead :: .d .dead :: .d .dead :: .d .dead :: .d .dead :: .d .dead :: .d .dead :: .d .dead :: .d .dead :: .d .dead :: .d .dead :: .d .dead :: .d .dead :: []), [some (.box (replyE r)), some (.box [.int .i64 0, .str (S [])])], []⟩
      (retPost c11r fun t N => t = replyR r ∧ N = []) (fun _ _ => False) (retPost c11r fun t N => t = replyR r ∧ N = []) := by
    intro b t4 t15 t16 t17 t18 t19 hb
    have hbad : (decide (r.code < 0) || decide (r.value < 0) || r.cells.any badC) = b := by
      rw [← hb]; unfold bad; rw [List.take_length]
    unfold c11R1 c11r replyE
    cases b with
    | true =>
      simp -dsimp only [go_sem, make_rows, ro_rows, Nat.reduceSub, Nat.reduceAdd, Nat.reduceLT, Nat.reduceLeDiff, Nat.reduceMul, Nat.reduceEqDiff, reduceCtorEq, reduceIte, Int.reduceToNat, Int.reduceLE, Int.reduceLT, Int.reduceNe]
      unfold replyR; rw [if_pos hbad]; rfl
    | false =>
      have hnn : 0 ≤ r.code ∧ 0 ≤ r.value ∧ r.cells.any badC = false := by
        simp only [Bool.or_eq_false_iff, decide_eq_false_iff_not] at hbad
        exact ⟨by omega, by omega, hbad.2⟩
      simp -dsimp only [go_sem, make_rows, ro_rows, Nat.reduceSub, Nat.reduceAdd, Nat.reduceLT, Nat.reduceLeDiff, Nat.reduceMul, Nat.reduceEqDiff, reduceCtorEq, reduceIte, Int.reduceToNat, Int.reduceLE, Int.reduceLT, Int.reduceNe]
      simp only [Bool.not_eq_true', Bool.not_eq_false']
      refine ⟨fun h3 => ?_, fun h3 => ?_⟩
      · refine step1 (digitsT_ok r.code hnn.1 hg1) ?_
        simp -dsimp only [go_sem, make_rows, ro_rows, Nat.reduceSub, Nat.reduceAdd, Nat.reduceLT, Nat.reduceLeDiff, Nat.reduceMul, Nat.reduceEqDiff, reduceCtorEq, reduceIte, Int.reduceToNat, Int.reduceLE, Int.reduceLT, Int.reduceNe]
        rw [ieq_eq, beq_eq_false_iff_ne] at h3
        unfold replyR
        rw [if_neg (by rw [hbad]; simp), if_pos h3]
        exact ⟨by omega, rfl⟩
      rw [ieq_eq, beq_iff_eq] at h3
      refine step1 (digitsT_ok r.value hnn.2.1 hg2) ?_
      simp -dsimp only [go_sem, make_rows, ro_rows, Nat.reduceSub, Nat.reduceAdd, Nat.reduceLT, Nat.reduceLeDiff, Nat.reduceMul, Nat.reduceEqDiff, reduceCtorEq, reduceIte, Int.reduceToNat, Int.reduceLE, Int.reduceLT, Int.reduceNe]
      have hfin : replyR r = txt 0 (Lib.join ([111, 107] :: Lib.itoa r.value :: r.cells.map cellTxt) [32]) := by
        unfold replyR
        rw [if_neg (by rw [hbad]; simp), if_neg (by simp [h3])]
      repeat (refine And.intro (by omega) ?_)
      refine loopI (fun k s => ∃ i o, i ≤ r.cells.length ∧ k = r.cells.length - i ∧ o = outGo (111 :: 107 :: 32 :: Lib.itoa r.value) (r.cells.take i) ∧ o.length ≤ 30 + 44 * i ∧
        s = ⟨(.d .dead :: .d (.ptr 0 [] 1 0 0) :: .d (.ptr 1 [] 1 0 0) :: .d .dead :: .d .dead :: .d (.str (S o)) :: .d (.int .i64 (i : Int)) :: .d .dead :: .d .dead :: .d .dead :: .d .dead :: .d .dead :: .d .dead :: .d .dead :: .d .dead :: .d .dead :: .d .dead :: .d .dead :: .d .dead :: .d .dead :: .d .dead :: .d .dead :: .d .dead :: .d .dead :: .d .dead :: .d .dead :: .d .dead :: .d .dead :: .d .dead :: .d .dead :: .d .dead :: .d .dead :: .d .dead :: .d .dead :: .d .dead :: .d .dead :: .d .dead :: .d .dead :: .d .dead :: .d .dead :: .d .dead :: .d .dead :: .d .dead :: .d .dead :: .d .dead :: .d .dead :: .d .dead :: .d .dead :: .d .dead :: .d .dead :: .d .dead :: .d .dead :: .d .dead :: .d .dead :: .d .dead :: .d .dead :: .d .dead :: .d .dead :: .d .dead :: .d .dead :: .d .dead :: .d .dead :: .d .dead :: .d .dead :: .d .dead :: .d .dead :: .d .dead :: .d .dead :: .d .dead :: .d .dead :: .d .dead :: .d .dead :: .d .dead :: .d .dead :: .d .dead :: .d .dead :: .d .dead :: .d .dead :: .d .dead :: .d .dead :: .d .dead :: .d .dead :: .d .dead :: []), [some (.box (replyE r)), some (.box [.int .i64 0, .str (S [])])], []⟩) r.cells.length _ (Shift.forget ?_) ⟨0, _, Nat.zero_le _, rfl, rfl, ?_, rfl⟩ ?_
      · simp [Fgt, outGo]
      · simp [outGo]; omega
      rintro k s ⟨i, o, hi, rfl, ho, hol, rfl⟩
      unfold c11L1 replyE
      by_cases hlt : i < r.cells.length
      · have hc : ilt (i : Int) (r.cells.length : Int) = true := ilt_t (by omega)
        have hi1 := inc64 (show i < 9223372036854775807 by omega)
        have hra := row_at (enc := cellE) hlt
        have hmem : r.cells.getD i default ∈ r.cells := by simp [List.getD_eq_getElem?_getD, hlt]
        have hgx := hg3 _ hmem
        have htk := take_snoc r.cells default hlt
        have hbx : badC (r.cells.getD i default) = false := by
          have := hnn.2.2
          rw [List.any_eq_false] at this
          simpa using this _ hmem
        generalize r.cells.getD i default = x at hra hgx htk hbx
        simp only [badC, Bool.or_eq_false_iff, decide_eq_false_iff_not] at hbx
        have hx1 := itoa_len x.key hgx.1
        have hx2 := itoa_len x.value hgx.2
        simp -dsimp only [go_sem, make_rows, ro_rows, Nat.reduceSub, Nat.reduceAdd, Nat.reduceLT, Nat.reduceLeDiff, Nat.reduceMul, Nat.reduceEqDiff, reduceCtorEq, reduceIte, Int.reduceToNat, Int.reduceLE, Int.reduceLT, Int.reduceNe, hc, hi1, hra, cellE]
        repeat (refine And.intro (by omega) ?_)
        refine step1 (digitsT_ok x.key (by omega) hgx.1) ?_
        simp -dsimp only [go_sem, make_rows, ro_rows, Nat.reduceSub, Nat.reduceAdd, Nat.reduceLT, Nat.reduceLeDiff, Nat.reduceMul, Nat.reduceEqDiff, reduceCtorEq, reduceIte, Int.reduceToNat, Int.reduceLE, Int.reduceLT, Int.reduceNe, hc, hi1, hra, cellE]
        repeat (refine And.intro (by omega) ?_)
        refine step1 (digitsT_ok x.value (by omega) hgx.2) ?_
        simp -dsimp only [go_sem, make_rows, ro_rows, Nat.reduceSub, Nat.reduceAdd, Nat.reduceLT, Nat.reduceLeDiff, Nat.reduceMul, Nat.reduceEqDiff, reduceCtorEq, reduceIte, Int.reduceToNat, Int.reduceLE, Int.reduceLT, Int.reduceNe, hc, hi1, hra, cellE]
        repeat (refine And.intro (by omega) ?_)
        refine next (r.cells.length - (i + 1)) _ (by omega) (Shift.forget ?_) ⟨i + 1, o ++ 32 :: cellTxt x, by omega, rfl, ?_, ?_, rfl⟩
        · simp [Fgt, cellTxt, replyE]
        · rw [htk, ho]; simp [outGo]
        · simp [cellTxt]; omega
      · have hc : ilt (i : Int) (r.cells.length : Int) = false := ilt_f (by omega)
        have hi2 : i = r.cells.length := by omega
        unfold c11R0
        simp -dsimp only [go_sem, make_rows, ro_rows, Nat.reduceSub, Nat.reduceAdd, Nat.reduceLT, Nat.reduceLeDiff, Nat.reduceMul, Nat.reduceEqDiff, reduceCtorEq, reduceIte, Int.reduceToNat, Int.reduceLE, Int.reduceLT, Int.reduceNe, hc]
        have hj := outGo_join [[111, 107], Lib.itoa r.value] (by simp) r.cells
        have e : Lib.join [[111, 107], Lib.itoa r.value] [32] = 111 :: 107 :: 32 :: Lib.itoa r.value := by simp [Lib.join, List.intercalate]
        rw [e] at hj
        rw [hfin, ho, hi2, List.take_length, hj]; rfl
  have bad_succ : ∀ i, (h : i < r.cells.length) → bad r (i + 1) = (bad r i || badC (r.cells.getD i default)) := by
    intro i h
    unfold bad
    rw [take_snoc r.cells default h, List.any_append]
    simp [Bool.or_assoc]
  have loop : ∀ s, Shift s ⟨(.d .dead :: .d (.ptr 0 [] 1 0 0) :: .d (.ptr 1 [] 1 0 0) :: .d (.bool (bad r 0)) :: .d (.int .i64 0) :: .d .dead :: .d .dead :: .d .dead :: .d .dead :: .d .dead :: .d .dead :: .d .dead :: .d .dead :: .d .dead :: .d .dead :: .d .dead :: .d .dead :: .d .dead :: .d .dead :: .d .dead :: .d .dead :: .d .dead :: .d .dead :: .d .dead :: .d .dead :: .d .dead :: .d .dead :: .d .dead :: .d .dead :: .d .dead :: .d .dead :: .d .dead :: .d .dead :: .d .dead :: .d .dead :: .d .dead :: .d .dead :: .d .dead :: .d .dead :: .d .dead :: .d .dead :: .d .dead :: .d .dead :: .d .dead :: .d .dead :: .d .dead :: .d .dead :: .d .dead :: .d .dead :: .d .dead :: .d .dead :: .d .dead :: .d .dead :: .d .dead :: .d .dead :: .d .dead :: .d .dead :: .d .dead :: .d .dead :: .d .dead :: .d .dead :: .d .dead :: .d .dead :: .d .dead :: .d .dead :: .d .dead :: .d .dead :: .d .dead :: .d .dead :: .d .dead :: .d .dead :: .d .dead :: .d .dead :: .d .dead :: .d .dead :: .d .dead :: .d .dead :: .d .dead :: .d .dead :: .d .dead :: .d .dead :: .d .dead :: .d .dead :: []), [some (.box (replyE r)), some (.box [.int .i64 0, .str (S [])])], []⟩ →
      ∃ I : Nat → St → Prop, (∃ s0 k, Shift s s0 ∧ I k s0) ∧ ∀ k s, I k s → ev (FnSem Tryd.prog) (InSem Tryd.prog) Shift c11L0 s (fun s' => ∃ s2 k', Shift s' s2 ∧ k' < k ∧ I k' s2)
        (fun j s' => if j = 0 then ev (FnSem Tryd.prog) (InSem Tryd.prog) Shift c11R1 s' (retPost c11r fun t N => t = replyR r ∧ N = []) (fun _ _ => False) (retPost c11r fun t N => t = replyR r ∧ N = []) else False)
        (retPost c11r fun t N => t = replyR r ∧ N = []) := by
    intro s hs
    refine loopI (fun k s => ∃ i, i ≤ r.cells.length ∧ k = r.cells.length - i ∧
      s = ⟨(.d .dead :: .d (.ptr 0 [] 1 0 0) :: .d (.ptr 1 [] 1 0 0) :: .d (.bool (bad r i)) :: .d (.int .i64 (i : Int)) :: .d .dead :: .d .dead :: .d .dead :: .d .dead :: .d .dead :: .d .dead :: .d .dead :: .d .dead :: .d .dead :: .d .dead :: .d .dead :: .d .dead :: .d .dead :: .d .dead :: .d .dead :: .d .dead :: .d .dead :: .d .dead :: .d .dead :: .d .dead :: .d .dead :: .d .dead :: .d .dead :: .d .dead :: .d .dead :: .d .dead :: .d .dead :: .d .dead :: .d .dead :: .d .dead :: .d .dead :: .d .dead :: .d .dead :: .d .dead :: .d .dead :: .d .dead :: .d .dead :: .d .dead :: .d .dead :: .d .dead :: .d .dead :: .d .dead :: .d .dead :: .d .dead :: .d .dead :: .d .dead :: .d .dead :: .d .dead :: .d .dead :: .d .dead :: .d .dead :: .d .dead :: .d .dead :: .d .dead :: .d .dead :: .d .dead :: .d .dead :: .d .dead :: .d .dead :: .d .dead :: .d .dead :: .d .dead :: .d .dead :: .d .dead :: .d .dead :: .d .dead :: .d .dead :: .d .dead :: .d .dead :: .d .dead :: .d .dead :: .d .dead :: .d .dead :: .d .dead :: .d .dead :: .d .dead :: .d .dead :: .d .dead :: []), [some (.box (replyE r)), some (.box [.int .i64 0, .str (S [])])], []⟩) r.cells.length _ hs ⟨0, Nat.zero_le _, rfl, rfl⟩ ?_
    rintro k s ⟨i, hi, rfl, rfl⟩
    unfold c11L0 c11r replyE
    by_cases hlt : i < r.cells.length
    · have hc : ilt (i : Int) (r.cells.length : Int) = true := ilt_t (by omega)
      have hi1 := inc64 (show i < 9223372036854775807 by omega)
      have hra := row_at (enc := cellE) hlt
      have hbs := bad_succ i hlt
      generalize r.cells.getD i default = x at hra hbs
      generalize hb : bad r i = b at hbs
      cases b with
      | true =>
        simp -dsimp only [go_sem, make_rows, ro_rows, Nat.reduceSub, Nat.reduceAdd, Nat.reduceLT, Nat.reduceLeDiff, Nat.reduceMul, Nat.reduceEqDiff, reduceCtorEq, reduceIte, Int.reduceToNat, Int.reduceLE, Int.reduceLT, Int.reduceNe, hc, hi1, hra, cellE]
        refine next (r.cells.length - (i + 1)) _ (by omega) (Shift.forget ?_) ⟨i + 1, by omega, rfl, rfl⟩
        simp [Fgt, replyE, hbs]
      | false =>
        have hbs2 : bad r (i + 1) = (ilt x.key 0 || ilt x.value 0) := by rw [hbs, Bool.false_or, badC, ilt_eq, ilt_eq]
        simp -dsimp only [go_sem, make_rows, ro_rows, Nat.reduceSub, Nat.reduceAdd, Nat.reduceLT, Nat.reduceLeDiff, Nat.reduceMul, Nat.reduceEqDiff, reduceCtorEq, reduceIte, Int.reduceToNat, Int.reduceLE, Int.reduceLT, Int.reduceNe, hc, hi1, hra, cellE]
        repeat (refine And.intro (by omega) ?_)
        refine ⟨fun h1 => ?_, fun h1 => ?_⟩
        · repeat (refine And.intro (by omega) ?_)
          refine next (r.cells.length - (i + 1)) _ (by omega) (Shift.forget ?_) ⟨i + 1, by omega, rfl, rfl⟩
          simp [Fgt, replyE, hbs2, h1]
        · refine next (r.cells.length - (i + 1)) _ (by omega) (Shift.forget ?_) ⟨i + 1, by omega, rfl, rfl⟩
          simp [Fgt, replyE, hbs2, h1]
    · have hc : ilt (i : Int) (r.cells.length : Int) = false := ilt_f (by omega)
      have hi2 : i = r.cells.length := by omega
      generalize hb : bad r i = b
      cases b with
      | true =>
        have := rest true
        unfold c11r replyE roL at this
        simp -dsimp only [go_sem, make_rows, ro_rows, Nat.reduceSub, Nat.reduceAdd, Nat.reduceLT, Nat.reduceLeDiff, Nat.reduceMul, Nat.reduceEqDiff, reduceCtorEq, reduceIte, Int.reduceToNat, Int.reduceLE, Int.reduceLT, Int.reduceNe, hc]
        exact this _ _ _ _ _ _ (by rw [← hi2]; exact hb)
      | false =>
        have := rest false
        unfold c11r replyE roL at this
        simp -dsimp only [go_sem, make_rows, ro_rows, Nat.reduceSub, Nat.reduceAdd, Nat.reduceLT, Nat.reduceLeDiff, Nat.reduceMul, Nat.reduceEqDiff, reduceCtorEq, reduceIte, Int.reduceToNat, Int.reduceLE, Int.reduceLT, Int.reduceNe, hc]
        exact this _ _ _ _ _ _ (by rw [← hi2]; exact hb)
  refine fn_of mixed (by kernel_rfl) Tryd.func11 Tryd.ntmps11 c11_tr c11_rv (by simp) fun Fn In Sh hFn hIn hSh => ?_
  subst hFn hIn hSh
  unfold c11 c11r
  unfold c11r at loop
  unfold replyE
  simp -dsimp only [go_sem, make_rows, ro_rows, Nat.reduceSub, Nat.reduceAdd, Nat.reduceLT, Nat.reduceLeDiff, Nat.reduceMul, Nat.reduceEqDiff, reduceCtorEq, reduceIte, Int.reduceToNat, Int.reduceLE, Int.reduceLT, Int.reduceNe]
  refine ⟨fun h => loop _ (Shift.forget ?_), fun h => loop _ (Shift.forget ?_)⟩
  · simp [Fgt, replyE, bad, ← ilt_eq, h]
  · simp [Fgt, replyE, bad, ← ilt_eq, h]
end Go.Proofs.YtjlgchgjgjcagaaDoor
