/- ParseAct, the reference's. -/
import Derived.Test.YtgpicngmadkdoaaDoorParseB
set_option linter.unusedVariables false
set_option linter.unusedSimpArgs false
namespace Go.Proofs.YtgpicngmadkdoaaDoor
open Go Go.R Go.Proofs Go.RowKit
set_option maxRecDepth 100000
attribute [local go_sem ↓] v_skip v_reg v_draw v_alt v_seq v_block v_exit v_ret v_loop o_nil o_g q_mv o_mv q_nil_ o_nil_ q_pick o_pick q_alloc o_alloc q_box o_box q_build o_build q_mkSl o_mkSl q_load o_load q_bin o_bin q_shift o_shift q_un o_un q_conv o_conv q_make o_make q_slice o_slice q_substr o_substr q_fieldAddr o_fieldAddr q_field o_field q_indexAddr o_indexAddr q_strIdx o_strIdx q_extract o_extract q_len o_len q_minmax o_minmax q_nilCheck o_nilCheck q_mkFn o_mkFn q_call o_call q_callF o_callF l_mkSl o_mkSlM l_store o_store l_append o_append l_copy o_copy l_clear o_clear l_callR o_callR v_cond callQ_eq
attribute [local go_sem] condv_t condv_f g_tt g_ff g_tf g_ft Norm_eq Opd.get putT List.length_cons List.length_nil List.length_append List.replicate List.cons_append List.nil_append List.append_assoc List.set List.set_cons_zero List.set_cons_succ List.getD_cons_zero List.getD_cons_succ List.getD_nil List.map_cons List.map_nil List.zipIdx_cons List.zipIdx_nil List.any_cons List.any_nil List.all_cons List.all_nil List.flatMap_cons List.flatMap_nil List.foldl_cons List.foldl_nil List.take_succ_cons List.take_zero List.take_nil List.drop_succ_cons List.drop_zero List.drop_nil List.flatten_cons List.flatten_nil List.length_map roL owL arrL List.range_succ List.range_zero List.append_nil binInt true_and and_true false_and and_false Bool.not_true Bool.not_false Bool.and_self Bool.true_and Bool.and_true Bool.false_and Bool.and_false Bool.or_false Bool.or_true Bool.false_or Bool.true_or Bool.false_eq_true false_implies true_implies implies_true forall_const if_true if_false beq_self_eq_true BEq.rfl decide_true decide_false decide_eq_true_eq eq_self Option.getD_none Option.getD_some Option.map_some Option.map_none Option.isNone_none Option.isNone_some Nat.le_refl Int.le_refl Nat.zero_add Nat.add_zero Nat.zero_le Nat.sub_zero Nat.zero_mul Nat.one_mul Nat.lt_one_iff Nat.zero_lt_one Int.toNat_natCast Int.toNat_zero Int.toNat_one Int.natCast_zero retPost inPost rets T.known T.cells T.one takeAll take_ regroup retD retH final nodeR nodeIn pathOk pathIn Obj.rows loadCell setList Heap.put Obj.put Heap.setNode Obj.setNode nodeSet setIn splitLast Heap.drop_ arrAt Heap.kill Obj.kill T.kill D.kill D.thru thruPath params T.param D.param paramCells cellP cellsP capsP rps D.ro T.back T.back1 D.back T.closed D.closed T.clean D.clean D.still view optInt optOk chunk isEq eqDs eqD source capIds D.flat bytesOfAt D.isByte D.byte rowsD_cons_zero subAt_rows shiftAt_rows  drop_mapE take_mapE List.take_length app_rows ro_ints ro_strs ro_bytes big rowsD_cons_succ S_add S_size strEq_S Int.natCast_add Int.cast_ofNat_Int List.mem_cons List.not_mem_nil false_or or_false true_or or_true forall_eq_or_imp forall_eq T.d.injEq T.agg.injEq T.tup.injEq D.int.injEq D.bool.injEq D.str.injEq List.cons.injEq Prod.mk.injEq Option.some.injEq
attribute [local go_sem low] condv_b g_b

theorem parseW_cons (w : List UInt8) (ws : List (List UInt8)) : parseW (w :: ws) = if kindUp w 8 = 0 ∨ (ws.length : Int) ≠ cnt (kindUp w 8) then none else match numsGo ws with | none => none | some xs => some ((kindUp w 8 : Int), xs) := rfl
theorem fill_int {xs : List Int} {j m : Nat} {v : Int} (hj : xs.length = j) : setAt (rowsD ((xs ++ List.replicate (m + 1) 0).map intE)) j 0 [.int .i64 v] = rowsD (((xs ++ [v]) ++ List.replicate m 0).map intE) := by
  subst hj
  have hg : ((xs ++ List.replicate (m + 1) 0).map intE).getD xs.length [] = [.int .i64 0] := by
    simp [List.getD_eq_getElem?_getD, List.replicate_succ, intE]
  rw [setAt_rows _ _ _ _ (by simp) (by rw [hg]; simp), hg]
  congr 1
  simp [List.replicate_succ, intE, setList]
theorem getD_pad (xs : List Int) (m j : Nat) : (xs ++ List.replicate m 0).getD j 0 = xs.getD j 0 := by
  simp only [List.getD_eq_getElem?_getD]
  rcases Nat.lt_or_ge j xs.length with h | h
  · rw [List.getElem?_append_left h]
  · rw [List.getElem?_append_right h, List.getElem?_eq_none h, List.getElem?_replicate]
    split <;> rfl
theorem cutL_le (c : UInt8) : ∀ (l acc : List UInt8), ∀ w ∈ cutL c l acc, w.length ≤ acc.length + l.length
  | [], acc, w, h => by simp [cutL] at h; subst h; simp
  | x :: l, acc, w, h => by
    rw [cutL_cons] at h
    split at h
    · rcases List.mem_cons.1 h with h | h
      · subst h; omega
      · have := cutL_le c l [] w h; simp at this ⊢; omega
    · have := cutL_le c l (acc ++ [x]) w h; simp at this ⊢; omega
theorem wordsL_le (l : List UInt8) {w : List UInt8} (h : w ∈ wordsL l) : w.length ≤ l.length := by
  have := cutL_le 32 l [] w (List.mem_filter.1 h).1
  simpa using this
theorem wordsL_len (l : List UInt8) : (wordsL l).length ≤ l.length + 1 := Nat.le_trans (List.length_filter_le _ _) (cutL_len 32 l [])
theorem contains_prefix {l : List UInt8} {c : UInt8} (h : ∀ j, j < l.length → l.getD j 0 ≠ c) : l.contains c = false := by
  rw [List.contains_eq_any_beq, List.any_eq_false]
  intro x hx
  obtain ⟨j, hj, rfl⟩ := List.getElem_of_mem hx
  have := h j hj
  rw [List.getD_eq_getElem?_getD, List.getElem?_eq_getElem hj] at this
  simpa using fun e => this e.symm
theorem contains_at {l : List UInt8} {c : UInt8} {j : Nat} (hj : j < l.length) (h : l.getD j 0 = c) : l.contains c = true := by
  rw [List.contains_iff_mem, ← h, List.getD_eq_getElem?_getD, List.getElem?_eq_getElem hj]
  exact List.getElem_mem hj
/-- The act of a line, and whether it is one. -/
def parseA (l : List UInt8) : Option (Int × List Int) := if l.contains 10 then none else parseW (wordsL l)
def actP : Option (Int × List Int) → T
  | none => .tup [actT 0 0 0 0, .d (.bool false)]
  | some (k, xs) => .tup [actT k (xs.getD 0 0) (xs.getD 1 0) (xs.getD 2 0), .d (.bool true)]
theorem specAct_ok (l : List UInt8) (hl : l.length ≤ 1048576) : FnSem Tryd.prog 7 [.d (.str (S l))] fun t N => t = actP (parseA l) ∧ N = [] := by
  refine fn_of mixed (by kernel_rfl) Tryd.func7 Tryd.ntmps7 c7_tr c7_rv (by simp) fun Fn In Sh hFn hIn hSh => ?_
  subst hFn hIn hSh
  unfold c7 c7r
  simp -dsimp only [go_sem, make_rows, ro_rows, Nat.reduceSub, Nat.reduceAdd, Nat.reduceLT, Nat.reduceLeDiff, Nat.reduceMul, Nat.reduceEqDiff, reduceCtorEq, reduceIte, Int.reduceToNat, Int.reduceLE, Int.reduceLT, Int.reduceNe]
  refine loopI (fun k s => ∃ i, i ≤ l.length ∧ k = l.length - i ∧ (∀ j, j < i → l.getD j 0 ≠ 10) ∧
    s = ⟨(.d (.str (S l)) :: .d .dead :: .d (.ptr 0 [] 1 0 0) :: .d (.bool false) :: .d (.ptr 1 [] 1 0 0) :: .d (.int .i64 (i : Int)) :: .d .dead :: .d .dead :: .d .dead :: .d .dead :: .d .dead :: .d .dead :: .d .dead :: .d .dead :: .d .dead :: .d .dead :: .d .dead :: .d .dead :: .d .dead :: .d .dead :: .d .dead :: .d .dead :: .d .dead :: .d .dead :: .d .dead :: .d .dead :: .d .dead :: .d .dead :: .d .dead :: .d .dead :: .d .dead :: .d .dead :: .d .dead :: .d .dead :: .d .dead :: .d .dead :: .d .dead :: .d .dead :: .d .dead :: .d .dead :: .d .dead :: .d .dead :: .d .dead :: .d .dead :: .d .dead :: .d .dead :: .d .dead :: .d .dead :: .d .dead :: .d .dead :: .d .dead :: .d .dead :: .d .dead :: .d .dead :: .d .dead :: .d .dead :: .d .dead :: .d .dead :: .d .dead :: .d .dead :: .d .dead :: .d .dead :: .d .dead :: .d .dead :: .d .dead :: .d .dead :: .d .dead :: .d .dead :: .d .dead :: .d .dead :: .d .dead :: .d .dead :: .d .dead :: .d .dead :: .d .dead :: .d .dead :: .d .dead :: .d .dead :: .d .dead :: .d .dead :: .d .dead :: .d .dead :: .d .dead :: .d .dead :: .d .dead :: .d .dead :: .d .dead :: .d .dead :: .d .dead :: .d .dead :: .d .dead :: .d .dead :: .d .dead :: .d .dead :: .d .dead :: .d .dead :: .d .dead :: .d .dead :: []), [some (.box [.int .i64 0, .int .i64 0, .int .i64 0, .int .i64 0]), some (.box [.int .i64 0, .int .i64 0, .int .i64 0, .int .i64 0])], []⟩) l.length _ (Shift.forget ?_) ⟨0, by omega, rfl, fun j hj => absurd hj (Nat.not_lt_zero _), rfl⟩ ?_
  · simp [Fgt]
  rintro k s ⟨i, hi, rfl, hno, rfl⟩
  unfold c7L0
  by_cases hlt : i < l.length
  · have hc : ilt (i : Int) (l.length : Int) = true := ilt_t (by omega)
    have hi1 := inc64 (show i < 9223372036854775807 by omega)
    obtain ⟨x, hx⟩ : ∃ x, l.getD i 0 = x := ⟨_, rfl⟩
    have hg : (S l).data.getD i 0 = x := by rw [S_get, hx]
    have hb := byte_eq x 10
    by_cases hxc : x = 10
    · have hcon := contains_at hlt (hx.trans hxc)
      have hp : parseA l = none := by unfold parseA; rw [hcon]; rfl
      have hb1 : ieq (x.toNat : Int) 10 = true := by rw [show (10 : Int) = ((10 : UInt8).toNat : Int) from rfl, hb]; exact decide_eq_true hxc
      simp -dsimp only [go_sem, make_rows, ro_rows, Nat.reduceSub, Nat.reduceAdd, Nat.reduceLT, Nat.reduceLeDiff, Nat.reduceMul, Nat.reduceEqDiff, reduceCtorEq, reduceIte, Int.reduceToNat, Int.reduceLE, Int.reduceLT, Int.reduceNe, hc, hi1, hg, hb1, hp, actP, actT]
      omega
    · have hb0 : ieq (x.toNat : Int) 10 = false := by rw [show (10 : Int) = ((10 : UInt8).toNat : Int) from rfl, hb]; exact decide_eq_false hxc
      simp -dsimp only [go_sem, make_rows, ro_rows, Nat.reduceSub, Nat.reduceAdd, Nat.reduceLT, Nat.reduceLeDiff, Nat.reduceMul, Nat.reduceEqDiff, reduceCtorEq, reduceIte, Int.reduceToNat, Int.reduceLE, Int.reduceLT, Int.reduceNe, hc, hi1, hg, hb0]
      repeat (refine And.intro (by omega) ?_)
      refine next (l.length - (i + 1)) _ (by omega) (Shift.forget ?_) ⟨i + 1, by omega, rfl, fun j hj => ?_, rfl⟩
      · simp [Fgt]
      · rcases Nat.lt_or_ge j i with h | h
        · exact hno j h
        · rw [show j = i by omega, hx]; exact hxc
  -- behind the first loop
  have hc : ilt (i : Int) (l.length : Int) = false := ilt_f (by omega)
  have hcon : l.contains 10 = false := contains_prefix fun j hj => hno j (by omega)
  have hpa : parseA l = parseW (wordsL l) := by unfold parseA; rw [hcon]; rfl
  rw [hpa]
  have hws := words_ok l hl
  have hwl := wordsL_len l
  have hwb : ∀ w ∈ wordsL l, w.length ≤ 1048576 := fun w h => Nat.le_trans (wordsL_le l h) hl
  generalize wordsL l = ws at hws hwl hwb
  have hN : namesL.length = 8 := rfl
  unfold c7R2
  simp -dsimp only [go_sem, make_rows, ro_rows, Nat.reduceSub, Nat.reduceAdd, Nat.reduceLT, Nat.reduceLeDiff, Nat.reduceMul, Nat.reduceEqDiff, reduceCtorEq, reduceIte, Int.reduceToNat, Int.reduceLE, Int.reduceLT, Int.reduceNe, hc]
  refine step1 hws ?_
  simp -dsimp only [go_sem, make_rows, ro_rows, Nat.reduceSub, Nat.reduceAdd, Nat.reduceLT, Nat.reduceLeDiff, Nat.reduceMul, Nat.reduceEqDiff, reduceCtorEq, reduceIte, Int.reduceToNat, Int.reduceLE, Int.reduceLT, Int.reduceNe, hc]
  refine step1 names_ok ?_
  simp -dsimp only [go_sem, make_rows, ro_rows, Nat.reduceSub, Nat.reduceAdd, Nat.reduceLT, Nat.reduceLeDiff, Nat.reduceMul, Nat.reduceEqDiff, reduceCtorEq, reduceIte, Int.reduceToNat, Int.reduceLE, Int.reduceLT, Int.reduceNe, hc]
  refine loopI (fun k s => ∃ (i : Nat) (q : Int), 1 ≤ i ∧ i ≤ 8 ∧ k = 8 - i ∧ q = (if ws = [] then 0 else (kindUp (ws.getD 0 []) i : Int)) ∧
    s = ⟨(.d .dead :: .d .dead :: .d (.ptr 0 [] 1 0 0) :: .d (.bool false) :: .d (.ptr 1 [] 1 0 0) :: .d .dead :: .d (.own 2 [] ws.length 0 ws.length) :: .d (.own 3 [] 8 0 8) :: .d (.int .i64 (i : Int)) :: .d .dead :: .d .dead :: .d .dead :: .d .dead :: .d .dead :: .d .dead :: .d .dead :: .d .dead :: .d .dead :: .d .dead :: .d .dead :: .d .dead :: .d .dead :: .d .dead :: .d .dead :: .d .dead :: .d .dead :: .d .dead :: .d .dead :: .d .dead :: .d .dead :: .d .dead :: .d .dead :: .d .dead :: .d .dead :: .d .dead :: .d .dead :: .d .dead :: .d .dead :: .d .dead :: .d .dead :: .d .dead :: .d .dead :: .d .dead :: .d .dead :: .d .dead :: .d .dead :: .d .dead :: .d .dead :: .d .dead :: .d .dead :: .d .dead :: .d .dead :: .d .dead :: .d .dead :: .d .dead :: .d .dead :: .d .dead :: .d .dead :: .d .dead :: .d .dead :: .d .dead :: .d .dead :: .d .dead :: .d .dead :: .d .dead :: .d .dead :: .d .dead :: .d .dead :: .d .dead :: .d .dead :: .d .dead :: .d .dead :: .d .dead :: .d .dead :: .d .dead :: .d .dead :: .d .dead :: .d .dead :: .d .dead :: .d .dead :: .d .dead :: .d .dead :: .d .dead :: .d .dead :: .d .dead :: .d .dead :: .d .dead :: .d .dead :: .d .dead :: .d .dead :: .d .dead :: .d .dead :: .d .dead :: .d .dead :: .d .dead :: .d .dead :: .d .dead :: .d .dead :: []), [some (.box [.int .i64 0, .int .i64 0, .int .i64 0, .int .i64 0]), some (.box [.int .i64 q, .int .i64 0, .int .i64 0, .int .i64 0]), some (arrL strE 1 ws), some (arrL strE 1 namesL)], []⟩) 7 _ (Shift.forget ?_) ⟨1, 0, by omega, by omega, rfl, ?_, rfl⟩ ?_
  · simp [Fgt]
    rfl
  · have : kindUp (ws.getD 0 []) 1 = 0 := Nat.le_zero.1 (kindUp_le (ws.getD 0 []) 0)
    rw [this]; simp
  rintro k s ⟨i, q, hi1, hi8, rfl, hq, rfl⟩
  unfold c7L1
  -- behind the second loop
  have rest : ∀ (t8 t28 t29 t30 t31 t32 t33 t34 t35 t36 : T), q = (if ws = [] then 0 else (kindUp (ws.getD 0 []) 8 : Int)) → ev (FnSem Tryd.prog) (InSem Tryd.prog) Shift c7R1
      ⟨(.d .dead :: .d .dead :: .d (.ptr 0 [] 1 0 0) :: .d (.bool false) :: .d (.ptr 1 [] 1 0 0) :: .d .dead :: .d (.own 2 [] ws.length 0 ws.length) :: .d (.own 3 [] 8 0 8) :: t8 :: .d .dead :: .d .dead :: .d .dead :: .d .dead :: .d .dead :: .d .dead :: .d .dead :: .d .dead :: .d .dead :: .d .dead :: .d .dead :: .d .dead :: .d .dead :: .d .dead :: .d .dead :: .d .dead :: .d .dead :: .d .dead :: .d .dead :: t28 :: t29 :: t30 :: t31 :: t32 :: t33 :: t34 :: t35 :: t36 :: .d .dead :: .d .dead :: .d .dead :: .d .dead :: .d .dead :: .d .dead :: .d .dead :: .d .dead :: .d .dead :: .d .dead :: .d .dead :: .d .dead :: .d .dead :: .d .dead :: .d .dead :: .d .dead :: .d .dead :: .d .dead :: .d .dead :: .d .dead :: .d .dead :: .d .dead :: .d .dead :: .d .dead :: .d .dead :: .d .dead :: .d .dead :: .d .dead :: .d .dead :: .d .dead :: .d .dead :: .d .dead :: .d .dead :: .d .dead :: .d .dead :: .d .dead :: .d .dead :: .d .dead :: .d .dead :: .d .dead :: .d .dead :: .d .dead :: .d .dead :: .d .dead :: .d .dead :: .d .dead :: .d .dead :: .d .dead :: .d .dead :: .d .dead :: .d .dead :: .d .dead :: .d .dead :: .d .dead :: .d .dead :: .d .dead :: .d .dead :: .d .dead :: .d .dead :: .d .dead :: .d .dead :: []), [some (.box [.int .i64 0, .int .i64 0, .int .i64 0, .int .i64 0]), some (.box [.int .i64 q, .int .i64 0, .int .i64 0, .int .i64 0]), some (arrL strE 1 ws), some (arrL strE 1 namesL)], []⟩
      (retPost c7r fun t N => t = actP (parseW ws) ∧ N = []) (fun _ _ => False) (retPost c7r fun t N => t = actP (parseW ws) ∧ N = []) := by
    intro t8 t28 t29 t30 t31 t32 t33 t34 t35 t36 hq8
    unfold c7R1 c7r
    clear hq
    by_cases hq0 : q = 0
    · have hno : parseW ws = none := by
        cases ws with
        | nil => rfl
        | cons w ws =>
          rw [if_neg (by simp), List.getD_cons_zero] at hq8
          rw [parseW_cons, if_pos (Or.inl (by omega))]
      subst hq0
      simp -dsimp only [go_sem, make_rows, ro_rows, Nat.reduceSub, Nat.reduceAdd, Nat.reduceLT, Nat.reduceLeDiff, Nat.reduceMul, Nat.reduceEqDiff, reduceCtorEq, reduceIte, Int.reduceToNat, Int.reduceLE, Int.reduceLT, Int.reduceNe, hno, actP, actT, ieq_t (show (0 : Int) = 0 from rfl), hN]
    have h0 : ws ≠ [] := fun h => hq0 (by rw [hq8, if_pos h])
    obtain ⟨w, ws', hwe⟩ : ∃ w ws', ws = w :: ws' := by
      cases ws with
      | nil => exact absurd rfl h0
      | cons w ws' => exact ⟨w, ws', rfl⟩
    rw [if_neg h0, hwe, List.getD_cons_zero] at hq8
    have hk7 : kindUp w 8 ≤ 7 := kindUp_le w 7
    have hqn : q.toNat = kindUp w 8 := by omega
    obtain ⟨hn1, hn2, _⟩ := numsOf_get ⟨q, 0, 0, 0⟩ (by show 1 ≤ q; omega) (by show q ≤ 7; omega)
    have hcl := cnt_le q
    have hlen : ws.length = ws'.length + 1 := by rw [hwe]; rfl
    simp only at hn1
    have hnum := numbers_ok ⟨q, 0, 0, 0⟩
    have hpw : parseW ws = if (ws'.length : Int) ≠ cnt q then none else match numsGo ws' with | none => none | some xs => some (q, xs) := by
      rw [hwe, hq8, parseW_cons]
      by_cases h : (ws'.length : Int) ≠ cnt (kindUp w 8)
      · rw [if_pos (Or.inr h), if_pos h]
      · rw [if_neg (by rintro (h2 | h2); exact hq0 (by omega); exact h h2), if_neg h]
    unfold Act.t at hnum
    generalize numsOf ⟨q, 0, 0, 0⟩ = ns at hn1 hnum
    have hins : iadd IntKind.i64 (ns.length : Int) 1 = ((ns.length + 1 : Nat) : Int) := inc64 (by omega)
    simp -dsimp only [go_sem, make_rows, ro_rows, Nat.reduceSub, Nat.reduceAdd, Nat.reduceLT, Nat.reduceLeDiff, Nat.reduceMul, Nat.reduceEqDiff, reduceCtorEq, reduceIte, Int.reduceToNat, Int.reduceLE, Int.reduceLT, Int.reduceNe, ieq_f hq0, hN, hins]
    refine step1 hnum ?_
    simp -dsimp only [go_sem, make_rows, ro_rows, Nat.reduceSub, Nat.reduceAdd, Nat.reduceLT, Nat.reduceLeDiff, Nat.reduceMul, Nat.reduceEqDiff, reduceCtorEq, reduceIte, Int.reduceToNat, Int.reduceLE, Int.reduceLT, Int.reduceNe, ieq_f hq0, hN, hins]
    by_cases hcn : (ws'.length : Int) = cnt q
    · have he : ieq (ws.length : Int) ((ns.length : Int) + 1) = true := ieq_t (by omega)
      simp -dsimp only [go_sem, make_rows, ro_rows, Nat.reduceSub, Nat.reduceAdd, Nat.reduceLT, Nat.reduceLeDiff, Nat.reduceMul, Nat.reduceEqDiff, reduceCtorEq, reduceIte, Int.reduceToNat, Int.reduceLE, Int.reduceLT, Int.reduceNe, he, hN, hins]
      have hwd : ws.drop 1 = ws' := by rw [hwe]; rfl
      rw [hpw, if_neg (fun h => h hcn)]
      refine loopI (fun k s => ∃ i xs, 1 ≤ i ∧ i ≤ ws.length ∧ k = ws.length - i ∧ xs.length = i - 1 ∧ numsGo ws' = (numsGo (ws.drop i)).map (xs ++ ·) ∧
        s = ⟨(.d .dead :: .d .dead :: .d (.ptr 0 [] 1 0 0) :: .d .dead :: .d (.ptr 1 [] 1 0 0) :: .d .dead :: .d (.own 2 [] ws.length 0 ws.length) :: .d .dead :: .d .dead :: .d (.own 3 [] 3 0 3) :: .d (.int .i64 (i : Int)) :: .d .dead :: .d .dead :: .d .dead :: .d .dead :: .d .dead :: .d .dead :: .d .dead :: .d .dead :: .d .dead :: .d .dead :: .d .dead :: .d .dead :: .d .dead :: .d .dead :: .d .dead :: .d .dead :: .d .dead :: .d .dead :: .d .dead :: .d .dead :: .d .dead :: .d .dead :: .d .dead :: .d .dead :: .d .dead :: .d .dead :: .d .dead :: .d .dead :: .d .dead :: .d .dead :: .d .dead :: .d .dead :: .d .dead :: .d .dead :: .d .dead :: .d .dead :: .d .dead :: .d .dead :: .d .dead :: .d .dead :: .d .dead :: .d .dead :: .d .dead :: .d .dead :: .d .dead :: .d .dead :: .d .dead :: .d .dead :: .d .dead :: .d .dead :: .d .dead :: .d .dead :: .d .dead :: .d .dead :: .d .dead :: .d .dead :: .d .dead :: .d .dead :: .d .dead :: .d .dead :: .d .dead :: .d .dead :: .d .dead :: .d .dead :: .d .dead :: .d .dead :: .d .dead :: .d .dead :: .d .dead :: .d .dead :: .d .dead :: .d .dead :: .d .dead :: .d .dead :: .d .dead :: .d .dead :: .d .dead :: .d .dead :: .d .dead :: .d .dead :: .d .dead :: .d .dead :: .d .dead :: .d .dead :: .d .dead :: .d .dead :: .d .dead :: []), [some (.box [.int .i64 0, .int .i64 0, .int .i64 0, .int .i64 0]), some (.box [.int .i64 q, .int .i64 0, .int .i64 0, .int .i64 0]), some (arrL strE 1 ws), some (.arr 1 3 (rowsD ((xs ++ List.replicate (4 - i) 0).map intE)))], []⟩) (ws.length - 1) _ (Shift.keep0 [0, 1, 2, 5] (by decide) ?_ ?_) ⟨1, [], by omega, by omega, rfl, rfl, ?_, rfl⟩ ?_
      · simp [KeepH, KeepO, KeepDs, KeepD, KeepTs, KeepT, KeepU, D.ren, D.inR, strE, intE, arrL, List.replicate]
      · simp [KeepH, KeepO, KeepDs, KeepD, KeepTs, KeepT, KeepU, D.ren, D.inR]
      · rw [hwd]; cases numsGo ws' <;> simp
      rintro k s ⟨j, xs, hj1, hj, rfl, hxl, hgo, rfl⟩
      unfold c7L2
      by_cases hjl : j < ws.length
      · have hc : ilt (j : Int) (ws.length : Int) = true := ilt_t (by omega)
        have hi1' := inc64 (show j < 9223372036854775807 by omega)
        have hrw : rowsD (ws.map strE) j 0 = .str (S (ws.getD j [])) := row_get hjl
        have hmem : ws.getD j [] ∈ ws := by rw [List.getD_eq_getElem?_getD, List.getElem?_eq_getElem hjl]; exact List.getElem_mem hjl
        have hsx := specNumber_ok (ws.getD j []) (hwb _ hmem)
        have hd := drop_getD ws [] hjl
        have hsub : isub IntKind.i64 (j : Int) 1 = ((j - 1 : Nat) : Int) := by rw [isub64 (by omega) (by omega)]; omega
        rw [hd] at hgo
        generalize ws.getD j [] = x at hrw hsx hgo
        simp -dsimp only [go_sem, make_rows, ro_rows, Nat.reduceSub, Nat.reduceAdd, Nat.reduceLT, Nat.reduceLeDiff, Nat.reduceMul, Nat.reduceEqDiff, reduceCtorEq, reduceIte, Int.reduceToNat, Int.reduceLE, Int.reduceLT, Int.reduceNe, hc, hi1', hrw, hsub]
        repeat (refine And.intro (by omega) ?_)
        cases hnx : numOf x with
        | none =>
          rw [hnx] at hsx
          refine step1 hsx ?_
          simp only [numsGo, hnx, Option.map_none] at hgo
          simp -dsimp only [go_sem, make_rows, ro_rows, Nat.reduceSub, Nat.reduceAdd, Nat.reduceLT, Nat.reduceLeDiff, Nat.reduceMul, Nat.reduceEqDiff, reduceCtorEq, reduceIte, Int.reduceToNat, Int.reduceLE, Int.reduceLT, Int.reduceNe, hgo, actP, actT]
        | some n =>
          rw [hnx] at hsx
          refine step1 hsx ?_
          have hlt4 : j < 4 := by omega
          obtain ⟨m, hm⟩ : ∃ m, 4 - j = m + 1 := ⟨3 - j, by omega⟩
          have hset := fill_int (m := m) (v := (n : Int)) hxl
          rw [← hm] at hset
          simp -dsimp only [go_sem, make_rows, ro_rows, Nat.reduceSub, Nat.reduceAdd, Nat.reduceLT, Nat.reduceLeDiff, Nat.reduceMul, Nat.reduceEqDiff, reduceCtorEq, reduceIte, Int.reduceToNat, Int.reduceLE, Int.reduceLT, Int.reduceNe, hc, hi1', hsub, hset]
          repeat (refine And.intro (by omega) ?_)
          refine next (ws.length - (j + 1)) _ (by omega) (Shift.forget ?_) ⟨j + 1, xs ++ [(n : Int)], by omega, by omega, rfl, by simp; omega, ?_, by rw [show 4 - (j + 1) = m by omega, List.append_assoc]; rfl⟩
          · simp [Fgt]
          · rw [hgo]
            simp only [numsGo, hnx]
            cases numsGo (ws.drop (j + 1)) <;> simp
      · have hc : ilt (j : Int) (ws.length : Int) = false := ilt_f (by omega)
        have hje : j = ws.length := by omega
        rw [hje, List.drop_length] at hgo
        simp only [numsGo, Option.map_some, List.append_nil] at hgo
        have hml : (xs ++ List.replicate (4 - j) (0 : Int)).length = 3 := by simp; omega
        have g0 : rowsD ((xs ++ List.replicate (4 - j) 0).map intE) 0 0 = .int .i64 (xs.getD 0 0) := by rw [← getD_pad xs (4 - j) 0]; exact row_get (by omega)
        have g1 : rowsD ((xs ++ List.replicate (4 - j) 0).map intE) 1 0 = .int .i64 (xs.getD 1 0) := by rw [← getD_pad xs (4 - j) 1]; exact row_get (by omega)
        have g2 : rowsD ((xs ++ List.replicate (4 - j) 0).map intE) 2 0 = .int .i64 (xs.getD 2 0) := by rw [← getD_pad xs (4 - j) 2]; exact row_get (by omega)
        rw [hgo]
        unfold c7R0
        simp -dsimp only [go_sem, make_rows, ro_rows, Nat.reduceSub, Nat.reduceAdd, Nat.reduceLT, Nat.reduceLeDiff, Nat.reduceMul, Nat.reduceEqDiff, reduceCtorEq, reduceIte, Int.reduceToNat, Int.reduceLE, Int.reduceLT, Int.reduceNe, hc, g0, g1, g2, actP, actT]
    · have he : ieq (ws.length : Int) ((ns.length : Int) + 1) = false := ieq_f (by omega)
      rw [hpw, if_pos hcn]
      simp -dsimp only [go_sem, make_rows, ro_rows, Nat.reduceSub, Nat.reduceAdd, Nat.reduceLT, Nat.reduceLeDiff, Nat.reduceMul, Nat.reduceEqDiff, reduceCtorEq, reduceIte, Int.reduceToNat, Int.reduceLE, Int.reduceLT, Int.reduceNe, he, hN, hins, actP, actT]
  by_cases h8 : i < 8
  · have hc8 : ilt (i : Int) 8 = true := ilt_t (by omega)
    by_cases h0 : ws = []
    · have hw0 : ilt 0 (ws.length : Int) = false := by rw [h0]; exact ilt_f (by simp)
      simp -dsimp only [go_sem, make_rows, ro_rows, Nat.reduceSub, Nat.reduceAdd, Nat.reduceLT, Nat.reduceLeDiff, Nat.reduceMul, Nat.reduceEqDiff, reduceCtorEq, reduceIte, Int.reduceToNat, Int.reduceLE, Int.reduceLT, Int.reduceNe, hc8, hw0, hN]
      refine rest _ _ _ _ _ _ _ _ _ _ ?_
      rw [hq, if_pos h0, if_pos h0]
    · have hpos : 0 < ws.length := List.length_pos_iff.2 h0
      have hw0 : ilt 0 (ws.length : Int) = true := ilt_t (by omega)
      have hrw : rowsD (ws.map strE) 0 0 = .str (S (ws.getD 0 [])) := row_get hpos
      have hrn : rowsD (namesL.map strE) i 0 = .str (S (word (i : Int))) := row_get (by rw [hN]; exact h8)
      have hi1' := inc64 (show i < 9223372036854775807 by omega)
      rw [if_neg h0] at hq
      have hstep : kindUp (ws.getD 0 []) (i + 1) = if 1 ≤ i ∧ word i = ws.getD 0 [] then i else kindUp (ws.getD 0 []) i := rfl
      by_cases hw : word (i : Int) = ws.getD 0 []
      · have hd : decide (word (i : Int) = ws.getD 0 []) = true := decide_eq_true hw
        rw [if_pos ⟨hi1, hw⟩] at hstep
        simp -dsimp only [go_sem, make_rows, ro_rows, Nat.reduceSub, Nat.reduceAdd, Nat.reduceLT, Nat.reduceLeDiff, Nat.reduceMul, Nat.reduceEqDiff, reduceCtorEq, reduceIte, Int.reduceToNat, Int.reduceLE, Int.reduceLT, Int.reduceNe, hc8, hw0, hrw, hrn, hi1', hd, hN]
        repeat (refine And.intro (by omega) ?_)
        refine next (8 - (i + 1)) _ (by omega) (Shift.forget ?_) ⟨i + 1, i, by omega, by omega, rfl, by rw [if_neg h0, hstep], rfl⟩
        simp [Fgt]
      · have hd : decide (word (i : Int) = ws.getD 0 []) = false := decide_eq_false hw
        rw [if_neg (fun h => hw h.2)] at hstep
        simp -dsimp only [go_sem, make_rows, ro_rows, Nat.reduceSub, Nat.reduceAdd, Nat.reduceLT, Nat.reduceLeDiff, Nat.reduceMul, Nat.reduceEqDiff, reduceCtorEq, reduceIte, Int.reduceToNat, Int.reduceLE, Int.reduceLT, Int.reduceNe, hc8, hw0, hrw, hrn, hi1', hd, hN]
        repeat (refine And.intro (by omega) ?_)
        refine next (8 - (i + 1)) _ (by omega) (Shift.forget ?_) ⟨i + 1, q, by omega, by omega, rfl, by rw [if_neg h0, hstep, hq], rfl⟩
        simp [Fgt]
  · have hc8 : ilt (i : Int) 8 = false := ilt_f (by omega)
    simp -dsimp only [go_sem, make_rows, ro_rows, Nat.reduceSub, Nat.reduceAdd, Nat.reduceLT, Nat.reduceLeDiff, Nat.reduceMul, Nat.reduceEqDiff, reduceCtorEq, reduceIte, Int.reduceToNat, Int.reduceLE, Int.reduceLT, Int.reduceNe, hc8, hN]
    refine rest _ _ _ _ _ _ _ _ _ _ ?_
    rw [hq, show i = 8 by omega]
theorem specParse_ok (l : List UInt8) (hl : l.length ≤ 1048576) : FnSem Tryd.prog 4 [.d (.str (S l))] fun t N => t = parseR l ∧ N = [] := by
  have h := specAct_ok l hl
  have e : parseR l = match parseA l with | none => actR 5 0 0 0 0 | some (k, xs) => actR 0 k (xs.getD 0 0) (xs.getD 1 0) (xs.getD 2 0) := rfl
  rw [e]
  cases hp : parseA l with
  | none =>
    rw [hp] at h
    unfold actP actT at h
    refine fn_of mixed (by kernel_rfl) Tryd.func4 Tryd.ntmps4 c4_tr c4_rv (by simp) fun Fn In Sh hFn hIn hSh => ?_
    subst hFn hIn hSh
    unfold c4 c4r
    simp -dsimp only [go_sem, make_rows, ro_rows, Nat.reduceSub, Nat.reduceAdd, Nat.reduceLT, Nat.reduceLeDiff, Nat.reduceMul, Nat.reduceEqDiff, reduceCtorEq, reduceIte, Int.reduceToNat, Int.reduceLE, Int.reduceLT, Int.reduceNe]
    refine step1 h ?_
    simp -dsimp only [go_sem, make_rows, ro_rows, Nat.reduceSub, Nat.reduceAdd, Nat.reduceLT, Nat.reduceLeDiff, Nat.reduceMul, Nat.reduceEqDiff, reduceCtorEq, reduceIte, Int.reduceToNat, Int.reduceLE, Int.reduceLT, Int.reduceNe, actR]
  | some r =>
    obtain ⟨k, xs⟩ := r
    rw [hp] at h
    unfold actP actT at h
    refine fn_of mixed (by kernel_rfl) Tryd.func4 Tryd.ntmps4 c4_tr c4_rv (by simp) fun Fn In Sh hFn hIn hSh => ?_
    subst hFn hIn hSh
    unfold c4 c4r
    simp -dsimp only [go_sem, make_rows, ro_rows, Nat.reduceSub, Nat.reduceAdd, Nat.reduceLT, Nat.reduceLeDiff, Nat.reduceMul, Nat.reduceEqDiff, reduceCtorEq, reduceIte, Int.reduceToNat, Int.reduceLE, Int.reduceLT, Int.reduceNe, actR]
    refine step1 h ?_
    simp -dsimp only [go_sem, make_rows, ro_rows, Nat.reduceSub, Nat.reduceAdd, Nat.reduceLT, Nat.reduceLeDiff, Nat.reduceMul, Nat.reduceEqDiff, reduceCtorEq, reduceIte, Int.reduceToNat, Int.reduceLE, Int.reduceLT, Int.reduceNe, actR]
end Go.Proofs.YtgpicngmadkdoaaDoor
