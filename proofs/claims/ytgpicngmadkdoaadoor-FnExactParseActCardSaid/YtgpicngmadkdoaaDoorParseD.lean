/- ParseAct, the program's; the law. -/
import Derived.Test.YtgpicngmadkdoaaDoorParseC
set_option linter.unusedVariables false
set_option linter.unusedSimpArgs false
namespace Go.Proofs.YtgpicngmadkdoaaDoor
open Go Go.R Go.Proofs Go.RowKit
set_option maxRecDepth 100000
attribute [local go_sem ↓] v_skip v_reg v_draw v_alt v_seq v_block v_exit v_ret v_loop o_nil o_g q_mv o_mv q_nil_ o_nil_ q_pick o_pick q_alloc o_alloc q_box o_box q_build o_build q_mkSl o_mkSl q_load o_load q_bin o_bin q_shift o_shift q_un o_un q_conv o_conv q_make o_make q_slice o_slice q_substr o_substr q_fieldAddr o_fieldAddr q_field o_field q_indexAddr o_indexAddr q_strIdx o_strIdx q_extract o_extract q_len o_len q_minmax o_minmax q_nilCheck o_nilCheck q_mkFn o_mkFn q_call o_call q_callF o_callF l_mkSl o_mkSlM l_store o_store l_append o_append l_copy o_copy l_clear o_clear l_callR o_callR v_cond callQ_eq
attribute [local go_sem] condv_t condv_f g_tt g_ff g_tf g_ft Norm_eq Opd.get putT List.length_cons List.length_nil List.length_append List.replicate List.cons_append List.nil_append List.append_assoc List.set List.set_cons_zero List.set_cons_succ List.getD_cons_zero List.getD_cons_succ List.getD_nil List.map_cons List.map_nil List.zipIdx_cons List.zipIdx_nil List.any_cons List.any_nil List.all_cons List.all_nil List.flatMap_cons List.flatMap_nil List.foldl_cons List.foldl_nil List.take_succ_cons List.take_zero List.take_nil List.drop_succ_cons List.drop_zero List.drop_nil List.flatten_cons List.flatten_nil List.length_map roL owL arrL List.range_succ List.range_zero List.append_nil binInt true_and and_true false_and and_false Bool.not_true Bool.not_false Bool.and_self Bool.true_and Bool.and_true Bool.false_and Bool.and_false Bool.or_false Bool.or_true Bool.false_or Bool.true_or Bool.false_eq_true false_implies true_implies implies_true forall_const if_true if_false beq_self_eq_true BEq.rfl decide_true decide_false decide_eq_true_eq eq_self Option.getD_none Option.getD_some Option.map_some Option.map_none Option.isNone_none Option.isNone_some Nat.le_refl Int.le_refl Nat.zero_add Nat.add_zero Nat.zero_le Nat.sub_zero Nat.zero_mul Nat.one_mul Nat.lt_one_iff Nat.zero_lt_one Int.toNat_natCast Int.toNat_zero Int.toNat_one Int.natCast_zero retPost inPost rets T.known T.cells T.one takeAll take_ regroup retD retH final nodeR nodeIn pathOk pathIn Obj.rows loadCell setList Heap.put Obj.put Heap.setNode Obj.setNode nodeSet setIn splitLast Heap.drop_ arrAt Heap.kill Obj.kill T.kill D.kill D.thru thruPath params T.param D.param paramCells cellP cellsP capsP rps D.ro T.back T.back1 D.back T.closed D.closed T.clean D.clean D.still view optInt optOk chunk isEq eqDs eqD source capIds D.flat bytesOfAt D.isByte D.byte rowsD_cons_zero subAt_rows shiftAt_rows  drop_mapE take_mapE List.take_length app_rows ro_ints ro_strs ro_bytes big rowsD_cons_succ S_add S_size strEq_S Int.natCast_add Int.cast_ofNat_Int List.mem_cons List.not_mem_nil false_or or_false true_or or_true forall_eq_or_imp forall_eq T.d.injEq T.agg.injEq T.tup.injEq D.int.injEq D.bool.injEq D.str.injEq List.cons.injEq Prod.mk.injEq Option.some.injEq
attribute [local go_sem low] condv_b g_b

theorem kind_none {w : List UInt8} {ws : List (List UInt8)} (h : ∀ j : Nat, 1 ≤ j → j < 8 → ¬ (w = word (j : Int) ∧ ((ws.length + 1 : Nat) : Int) = cnt (j : Int) + 1)) : parseW (w :: ws) = none := by
  rw [parseW_cons]
  by_cases h0 : kindUp w 8 = 0
  · rw [if_pos (Or.inl h0)]
  · have h1 := kindUp_word w 8 h0
    have h7 : kindUp w 8 ≤ 7 := kindUp_le w 7
    have := h (kindUp w 8) (by omega) (by omega)
    rw [if_pos (Or.inr ?_)]
    intro hc
    exact this ⟨h1.symm, by omega⟩
theorem implParse_ok (l : List UInt8) (hl : l.length ≤ 1048576) : FnSem Tryd.prog 5 [.d (.str (S l))] fun t N => t = parseR l ∧ N = [] := by
  have hws := implWords_ok l hl
  have hcon := contains_ok l 10
  have hwl := wordsL_len l
  have hwb : ∀ w ∈ wordsL l, w.length ≤ 1048576 := fun w h => Nat.le_trans (wordsL_le l h) hl
  have e : parseR l = match (if l.contains 10 then none else parseW (wordsL l)) with | none => actR 5 0 0 0 0 | some (k, xs) => actR 0 k (xs.getD 0 0) (xs.getD 1 0) (xs.getD 2 0) := rfl
  rw [e]
  generalize wordsL l = ws at hws hwl hwb
  refine fn_of mixed (by kernel_rfl) Tryd.func5 Tryd.ntmps5 c5_tr c5_rv (by simp) fun Fn In Sh hFn hIn hSh => ?_
  subst hFn hIn hSh
  unfold c5 c5r
  simp -dsimp only [go_sem, make_rows, ro_rows, Nat.reduceSub, Nat.reduceAdd, Nat.reduceLT, Nat.reduceLeDiff, Nat.reduceMul, Nat.reduceEqDiff, reduceCtorEq, reduceIte, Int.reduceToNat, Int.reduceLE, Int.reduceLT, Int.reduceNe]
  refine step1 hws ?_
  simp -dsimp only [go_sem, make_rows, ro_rows, Nat.reduceSub, Nat.reduceAdd, Nat.reduceLT, Nat.reduceLeDiff, Nat.reduceMul, Nat.reduceEqDiff, reduceCtorEq, reduceIte, Int.reduceToNat, Int.reduceLE, Int.reduceLT, Int.reduceNe]
  refine step1 hcon ?_
  cases hc : l.contains 10 with
  | true =>
    simp -dsimp only [go_sem, make_rows, ro_rows, Nat.reduceSub, Nat.reduceAdd, Nat.reduceLT, Nat.reduceLeDiff, Nat.reduceMul, Nat.reduceEqDiff, reduceCtorEq, reduceIte, Int.reduceToNat, Int.reduceLE, Int.reduceLT, Int.reduceNe, actR]
  | false =>
    by_cases h0 : ws = []
    · subst h0
      have he : ieq 0 0 = true := ieq_t rfl
      have hp : parseW [] = none := rfl
      simp -dsimp only [go_sem, make_rows, ro_rows, Nat.reduceSub, Nat.reduceAdd, Nat.reduceLT, Nat.reduceLeDiff, Nat.reduceMul, Nat.reduceEqDiff, reduceCtorEq, reduceIte, Int.reduceToNat, Int.reduceLE, Int.reduceLT, Int.reduceNe, actR, he, hp]
    obtain ⟨w, ws', hwe⟩ : ∃ w ws', ws = w :: ws' := by
      cases ws with
      | nil => exact absurd rfl h0
      | cons w ws' => exact ⟨w, ws', rfl⟩
    have hlen : ws.length = ws'.length + 1 := by rw [hwe]; rfl
    have he : ieq (ws.length : Int) 0 = false := ieq_f (by omega)
    have hrw : rowsD (ws.map strE) 0 0 = .str (S w) := by rw [hwe]; rfl
    simp -dsimp only [go_sem, make_rows, ro_rows, Nat.reduceSub, Nat.reduceAdd, Nat.reduceLT, Nat.reduceLeDiff, Nat.reduceMul, Nat.reduceEqDiff, reduceCtorEq, reduceIte, Int.reduceToNat, Int.reduceLE, Int.reduceLT, Int.reduceNe, he]
    refine loopI (fun k s => ∃ i : Nat, 1 ≤ i ∧ i ≤ 8 ∧ k = 8 - i ∧ (∀ j : Nat, 1 ≤ j → j < i → ¬ (w = word (j : Int) ∧ ((ws'.length + 1 : Nat) : Int) = cnt (j : Int) + 1)) ∧
      s = ⟨(.d .dead :: .d .dead :: .d (.ptr 0 [] 1 0 0) :: .d (.own 1 [] ws.length 0 ws.length) :: .d (.int .i64 (i : Int)) :: .d .dead :: .d .dead :: .d .dead :: .d .dead :: .d .dead :: .d .dead :: .d .dead :: .d .dead :: .d .dead :: .d .dead :: .d .dead :: .d .dead :: .d .dead :: .d .dead :: .d .dead :: .d .dead :: .d .dead :: .d .dead :: .d .dead :: .d .dead :: .d .dead :: .d .dead :: .d .dead :: .d .dead :: .d .dead :: .d .dead :: .d .dead :: .d .dead :: .d .dead :: .d .dead :: .d .dead :: .d .dead :: .d .dead :: .d .dead :: .d .dead :: .d .dead :: .d .dead :: .d .dead :: .d .dead :: .d .dead :: .d .dead :: .d .dead :: .d .dead :: .d .dead :: .d .dead :: .d .dead :: .d .dead :: .d .dead :: .d .dead :: .d .dead :: .d .dead :: .d .dead :: .d .dead :: .d .dead :: .d .dead :: .d .dead :: .d .dead :: .d .dead :: .d .dead :: .d .dead :: .d .dead :: .d .dead :: .d .dead :: .d .dead :: .d .dead :: .d .dead :: .d .dead :: .d .dead :: .d .dead :: .d .dead :: []), [some (.box [.int .i64 0, .int .i64 0, .int .i64 0, .int .i64 0, .int .i64 0]), some (arrL strE 1 ws)], []⟩) 7 _ (Shift.forget ?_) ⟨1, by omega, by omega, rfl, fun j h1 h2 => by omega, rfl⟩ ?_
    · simp [Fgt]
    rintro k s ⟨i, hi1, hi8, rfl, hno, rfl⟩
    unfold c5L0
    by_cases h8 : i < 8
    · have hc8 : ile (i : Int) 7 = true := ile_t (by omega)
      have hii := inc64 (show i < 9223372036854775807 by omega)
      have hcl := cnt_le (i : Int)
      have hins : iadd IntKind.i64 (cnt (i : Int)) 1 = cnt (i : Int) + 1 := iadd64 (by omega) (by omega)
      simp -dsimp only [go_sem, make_rows, ro_rows, Nat.reduceSub, Nat.reduceAdd, Nat.reduceLT, Nat.reduceLeDiff, Nat.reduceMul, Nat.reduceEqDiff, reduceCtorEq, reduceIte, Int.reduceToNat, Int.reduceLE, Int.reduceLT, Int.reduceNe, hc8, hii, hrw]
      refine step1 (forms_ok (i : Int) (by omega) (by omega)) ?_
      by_cases hw : w = word (i : Int)
      · have hd : decide (w = word (i : Int)) = true := decide_eq_true hw
        by_cases hcn : (ws.length : Int) = cnt (i : Int) + 1
        · have heq : ieq (ws.length : Int) (cnt (i : Int) + 1) = true := ieq_t hcn
          simp -dsimp only [go_sem, make_rows, ro_rows, Nat.reduceSub, Nat.reduceAdd, Nat.reduceLT, Nat.reduceLeDiff, Nat.reduceMul, Nat.reduceEqDiff, reduceCtorEq, reduceIte, Int.reduceToNat, Int.reduceLE, Int.reduceLT, Int.reduceNe, hc8, hii, hrw, hd, hins, heq]
          repeat (refine And.intro (by omega) ?_)
          have hku := kindUp_eq hi1 (by omega) hw.symm
          have hpw : parseW ws = match numsGo ws' with | none => none | some xs => some ((i : Int), xs) := by
            rw [hwe, parseW_cons, hku, if_neg (by rintro (h2 | h2); omega; exact h2 (by omega))]
            cases numsGo ws' <;> rfl
          have hwd : ws.drop 1 = ws' := by rw [hwe]; rfl
          rw [hpw]
          refine loopI (fun k s => ∃ j xs, j + 1 ≤ ws.length ∧ k = ws.length - (j + 1) ∧ xs.length = j ∧ numsGo ws' = (numsGo (ws.drop (1 + j))).map (xs ++ ·) ∧
            s = ⟨(.d .dead :: .d .dead :: .d (.ptr 0 [] 1 0 0) :: .d .dead :: .d (.int .i64 (i : Int)) :: .d .dead :: .d .dead :: .d (.own 2 [] 3 0 3) :: .d .dead :: .d .dead :: .d .dead :: .d .dead :: .d .dead :: .d .dead :: .d .dead :: .d .dead :: .d .dead :: .d .dead :: .d .dead :: .d .dead :: .d .dead :: .d .dead :: .d .dead :: .d .dead :: .d .dead :: .d .dead :: .d .dead :: .d .dead :: .d .dead :: .d .dead :: .d .dead :: .d .dead :: .d .dead :: .d .dead :: .d .dead :: .d .dead :: .d .dead :: .d .dead :: .d .dead :: .d .dead :: .d .dead :: .d .dead :: .d .dead :: .d (.own 1 [] ws.length 1 (ws.length - 1)) :: .d (.int .i64 ((ws.length - 1 : Nat) : Int)) :: .d (.int .i64 (j : Int)) :: .d .dead :: .d .dead :: .d .dead :: .d .dead :: .d .dead :: .d .dead :: .d .dead :: .d .dead :: .d .dead :: .d .dead :: .d .dead :: .d .dead :: .d .dead :: .d .dead :: .d .dead :: .d .dead :: .d .dead :: .d .dead :: .d .dead :: .d .dead :: .d .dead :: .d .dead :: .d .dead :: .d .dead :: .d .dead :: .d .dead :: .d .dead :: .d .dead :: .d .dead :: []), [some (.box [.int .i64 0, .int .i64 0, .int .i64 0, .int .i64 0, .int .i64 0]), some (arrL strE 1 ws), some (.arr 1 3 (rowsD ((xs ++ List.replicate (3 - j) 0).map intE)))], []⟩) (ws.length - 1) _ (Shift.forget ?_) ⟨0, [], by omega, by omega, rfl, ?_, rfl⟩ ?_
          · simp [Fgt]
          · rw [hwd]; cases numsGo ws' <;> simp
          rintro k s ⟨j, xs, hj, rfl, hxl, hgo, rfl⟩
          unfold c5L1
          by_cases hjl : 1 + j < ws.length
          · have hc : ilt (j : Int) ((ws.length - 1 : Nat) : Int) = true := ilt_t (by omega)
            have hi1' := inc64 (show j < 9223372036854775807 by omega)
            have hrw2 : rowsD (ws.map strE) (1 + j) 0 = .str (S (ws.getD (1 + j) [])) := row_get hjl
            have hmem : ws.getD (1 + j) [] ∈ ws := by rw [List.getD_eq_getElem?_getD, List.getElem?_eq_getElem hjl]; exact List.getElem_mem hjl
            have hsx := impNumber_ok (ws.getD (1 + j) []) (hwb _ hmem)
            have hdr := drop_getD ws [] hjl
            rw [hdr] at hgo
            generalize ws.getD (1 + j) [] = x at hrw2 hsx hgo
            obtain ⟨m, hm⟩ : ∃ m, 3 - j = m + 1 := ⟨2 - j, by omega⟩
            have hload : ∀ v : Int, rowsD (((xs ++ [v]) ++ List.replicate m 0).map intE) j 0 = .int .i64 v := by
              intro v
              have hgv : ((xs ++ [v]) ++ List.replicate m 0).getD j default = v := by
                rw [List.append_assoc, List.getD_eq_getElem?_getD, List.getElem?_append_right (by omega), hxl]
                simp
              rw [row_get (by simp; omega), hgv]
              rfl
            have hset : ∀ v : Int, setAt (rowsD ((xs ++ List.replicate (3 - j) 0).map intE)) j 0 [.int .i64 v] = rowsD (((xs ++ [v]) ++ List.replicate m 0).map intE) := by
              intro v
              rw [hm]; exact fill_int hxl
            cases hnx : numOf x with
            | none =>
              rw [hnx] at hsx
              simp only [numsGo, hnx, Option.map_none] at hgo
              have hs0 := hset (-1)
              have hl0 := hload (-1)
              generalize rowsD (((xs ++ [(-1 : Int)]) ++ List.replicate m 0).map intE) = R0 at hs0 hl0
              have hneg : ilt (-1) 0 = true := ilt_t (by decide)
              simp -dsimp only [go_sem, make_rows, ro_rows, Nat.reduceSub, Nat.reduceAdd, Nat.reduceLT, Nat.reduceLeDiff, Nat.reduceMul, Nat.reduceEqDiff, reduceCtorEq, reduceIte, Int.reduceToNat, Int.reduceLE, Int.reduceLT, Int.reduceNe, hc, hi1', hrw2, hs0, hl0, hneg, hgo, actR]
              repeat (refine And.intro (by omega) ?_)
              refine step1 hsx ?_
              simp -dsimp only [go_sem, make_rows, ro_rows, Nat.reduceSub, Nat.reduceAdd, Nat.reduceLT, Nat.reduceLeDiff, Nat.reduceMul, Nat.reduceEqDiff, reduceCtorEq, reduceIte, Int.reduceToNat, Int.reduceLE, Int.reduceLT, Int.reduceNe, hc, hi1', hrw2, hs0, hl0, hneg, hgo, actR]
              omega
            | some n =>
              rw [hnx] at hsx
              have hs0 := hset (n : Int)
              have hl0 := hload (n : Int)
              generalize hR0 : rowsD (((xs ++ [(n : Int)]) ++ List.replicate m 0).map intE) = R0 at hs0 hl0
              have hneg : ilt (n : Int) 0 = false := ilt_f (by omega)
              simp -dsimp only [go_sem, make_rows, ro_rows, Nat.reduceSub, Nat.reduceAdd, Nat.reduceLT, Nat.reduceLeDiff, Nat.reduceMul, Nat.reduceEqDiff, reduceCtorEq, reduceIte, Int.reduceToNat, Int.reduceLE, Int.reduceLT, Int.reduceNe, hc, hi1', hrw2, hs0, hl0, hneg]
              repeat (refine And.intro (by omega) ?_)
              refine step1 hsx ?_
              simp -dsimp only [go_sem, make_rows, ro_rows, Nat.reduceSub, Nat.reduceAdd, Nat.reduceLT, Nat.reduceLeDiff, Nat.reduceMul, Nat.reduceEqDiff, reduceCtorEq, reduceIte, Int.reduceToNat, Int.reduceLE, Int.reduceLT, Int.reduceNe, hc, hi1', hrw2, hs0, hl0, hneg]
              repeat (refine And.intro (by omega) ?_)
              refine next (ws.length - (j + 1 + 1)) _ (by omega) (Shift.forget ?_) ⟨j + 1, xs ++ [(n : Int)], by omega, rfl, by simp [hxl], ?_, by rw [show 3 - (j + 1) = m by omega, hR0]⟩
              · simp [Fgt]
              · rw [hgo]
                simp only [numsGo, hnx]
                rw [show 1 + (j + 1) = 1 + j + 1 by omega]
                cases numsGo (ws.drop (1 + j + 1)) <;> simp
          · have hc : ilt (j : Int) ((ws.length - 1 : Nat) : Int) = false := ilt_f (by omega)
            have hje : 1 + j = ws.length := by omega
            rw [hje, List.drop_length] at hgo
            simp only [numsGo, Option.map_some, List.append_nil] at hgo
            have hml : (xs ++ List.replicate (3 - j) (0 : Int)).length = 3 := by simp; omega
            have g0 : rowsD ((xs ++ List.replicate (3 - j) 0).map intE) 0 0 = .int .i64 (xs.getD 0 0) := by rw [← getD_pad xs (3 - j) 0]; exact row_get (by omega)
            have g1 : rowsD ((xs ++ List.replicate (3 - j) 0).map intE) 1 0 = .int .i64 (xs.getD 1 0) := by rw [← getD_pad xs (3 - j) 1]; exact row_get (by omega)
            have g2 : rowsD ((xs ++ List.replicate (3 - j) 0).map intE) 2 0 = .int .i64 (xs.getD 2 0) := by rw [← getD_pad xs (3 - j) 2]; exact row_get (by omega)
            rw [hgo]
            simp -dsimp only [go_sem, make_rows, ro_rows, Nat.reduceSub, Nat.reduceAdd, Nat.reduceLT, Nat.reduceLeDiff, Nat.reduceMul, Nat.reduceEqDiff, reduceCtorEq, reduceIte, Int.reduceToNat, Int.reduceLE, Int.reduceLT, Int.reduceNe, hc, g0, g1, g2, actR]
            unfold c5R0
            simp -dsimp only [go_sem, make_rows, ro_rows, Nat.reduceSub, Nat.reduceAdd, Nat.reduceLT, Nat.reduceLeDiff, Nat.reduceMul, Nat.reduceEqDiff, reduceCtorEq, reduceIte, Int.reduceToNat, Int.reduceLE, Int.reduceLT, Int.reduceNe, hc, g0, g1, g2, actR]
        · have heq : ieq (ws.length : Int) (cnt (i : Int) + 1) = false := ieq_f hcn
          simp -dsimp only [go_sem, make_rows, ro_rows, Nat.reduceSub, Nat.reduceAdd, Nat.reduceLT, Nat.reduceLeDiff, Nat.reduceMul, Nat.reduceEqDiff, reduceCtorEq, reduceIte, Int.reduceToNat, Int.reduceLE, Int.reduceLT, Int.reduceNe, hc8, hii, hrw, hd, hins, heq]
          repeat (refine And.intro (by omega) ?_)
          unfold c5R1
          simp -dsimp only [go_sem, make_rows, ro_rows, Nat.reduceSub, Nat.reduceAdd, Nat.reduceLT, Nat.reduceLeDiff, Nat.reduceMul, Nat.reduceEqDiff, reduceCtorEq, reduceIte, Int.reduceToNat, Int.reduceLE, Int.reduceLT, Int.reduceNe, hc8, hii, hrw, hd, hins, heq]
          repeat (refine And.intro (by omega) ?_)
          refine next (8 - (i + 1)) _ (by omega) (Shift.forget ?_) ⟨i + 1, by omega, by omega, rfl, fun j h1 h2 => ?_, rfl⟩
          · simp [Fgt]
          · rcases Nat.lt_or_ge j i with h | h
            · exact hno j h1 h
            · rw [show j = i by omega]; rintro ⟨_, h3⟩; exact hcn (by omega)
      · have hd : decide (w = word (i : Int)) = false := decide_eq_false hw
        simp -dsimp only [go_sem, make_rows, ro_rows, Nat.reduceSub, Nat.reduceAdd, Nat.reduceLT, Nat.reduceLeDiff, Nat.reduceMul, Nat.reduceEqDiff, reduceCtorEq, reduceIte, Int.reduceToNat, Int.reduceLE, Int.reduceLT, Int.reduceNe, hc8, hii, hrw, hd]
        repeat (refine And.intro (by omega) ?_)
        unfold c5R1
        simp -dsimp only [go_sem, make_rows, ro_rows, Nat.reduceSub, Nat.reduceAdd, Nat.reduceLT, Nat.reduceLeDiff, Nat.reduceMul, Nat.reduceEqDiff, reduceCtorEq, reduceIte, Int.reduceToNat, Int.reduceLE, Int.reduceLT, Int.reduceNe, hc8, hii, hrw, hd]
        repeat (refine And.intro (by omega) ?_)
        refine next (8 - (i + 1)) _ (by omega) (Shift.forget ?_) ⟨i + 1, by omega, by omega, rfl, fun j h1 h2 => ?_, rfl⟩
        · simp [Fgt]
        · rcases Nat.lt_or_ge j i with h | h
          · exact hno j h1 h
          · rw [show j = i by omega]; rintro ⟨h3, _⟩; exact hw h3
    · have hc8 : ile (i : Int) 7 = false := ile_f (by omega)
      have hp : parseW ws = none := by rw [hwe]; exact kind_none fun j h1 h2 => hno j h1 (by omega)
      unfold c5R2
      simp -dsimp only [go_sem, make_rows, ro_rows, Nat.reduceSub, Nat.reduceAdd, Nat.reduceLT, Nat.reduceLeDiff, Nat.reduceMul, Nat.reduceEqDiff, reduceCtorEq, reduceIte, Int.reduceToNat, Int.reduceLE, Int.reduceLT, Int.reduceNe, hc8, hp, actR]
theorem parseR_txt (l : List UInt8) : ∃ e a b c d, parseR l = actR e a b c d := by
  unfold parseR
  split
  · exact ⟨_, _, _, _, _, rfl⟩
  · exact ⟨_, _, _, _, _, rfl⟩
theorem law_parseAct (l : List UInt8) (hl : l.length ≤ 9223372036854775807) : FnSem Tryd.prog 3 [.d (.str (S l))] fun t N => t = .d (.bool true) ∧ N = [] := by
  refine fn_of mixed (by kernel_rfl) Tryd.func3 Tryd.ntmps3 c3_tr c3_rv (by simp) fun Fn In Sh hFn hIn hSh => ?_
  subst hFn hIn hSh
  unfold c3 c3r
  by_cases hb : 1048576 < l.length
  · simp -dsimp only [go_sem, make_rows, ro_rows, Nat.reduceSub, Nat.reduceAdd, Nat.reduceLT, Nat.reduceLeDiff, Nat.reduceMul, Nat.reduceEqDiff, reduceCtorEq, reduceIte, Int.reduceToNat, Int.reduceLE, Int.reduceLT, Int.reduceNe, ilt_t (show (1048576 : Int) < (l.length : Int) by omega)]
  have hb0 : ilt 1048576 (l.length : Int) = false := ilt_f (by omega)
  have h1 := specParse_ok l (by omega)
  have h2 := implParse_ok l (by omega)
  obtain ⟨e, a, b, c, d, hr⟩ := parseR_txt l
  rw [hr] at h1 h2
  have h3 := eqActR_ok e a b c d
  unfold actR at h1 h2 h3
  simp -dsimp only [go_sem, make_rows, ro_rows, Nat.reduceSub, Nat.reduceAdd, Nat.reduceLT, Nat.reduceLeDiff, Nat.reduceMul, Nat.reduceEqDiff, reduceCtorEq, reduceIte, Int.reduceToNat, Int.reduceLE, Int.reduceLT, Int.reduceNe, hb0]
  refine step1 h1 ?_
  simp -dsimp only [go_sem, make_rows, ro_rows, Nat.reduceSub, Nat.reduceAdd, Nat.reduceLT, Nat.reduceLeDiff, Nat.reduceMul, Nat.reduceEqDiff, reduceCtorEq, reduceIte, Int.reduceToNat, Int.reduceLE, Int.reduceLT, Int.reduceNe]
  refine step1 h2 ?_
  simp -dsimp only [go_sem, make_rows, ro_rows, Nat.reduceSub, Nat.reduceAdd, Nat.reduceLT, Nat.reduceLeDiff, Nat.reduceMul, Nat.reduceEqDiff, reduceCtorEq, reduceIte, Int.reduceToNat, Int.reduceLE, Int.reduceLT, Int.reduceNe]
  refine step1 h3 ?_
  simp -dsimp only [go_sem, make_rows, ro_rows, Nat.reduceSub, Nat.reduceAdd, Nat.reduceLT, Nat.reduceLeDiff, Nat.reduceMul, Nat.reduceEqDiff, reduceCtorEq, reduceIte, Int.reduceToNat, Int.reduceLE, Int.reduceLT, Int.reduceNe]
end Go.Proofs.YtgpicngmadkdoaaDoor
