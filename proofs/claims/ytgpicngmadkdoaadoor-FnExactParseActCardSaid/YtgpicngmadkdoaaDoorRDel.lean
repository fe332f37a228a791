/- slices.DeleteFunc over one-cell elements, once for all programs. -/
import Derived.Test.YtgpicngmadkdoaaDoorRGen
set_option linter.unusedVariables false
set_option linter.unusedSimpArgs false
namespace Go.R
open Go.RowKit
set_option maxRecDepth 100000
attribute [local go_sem ↓] v_skip v_reg v_draw v_alt v_seq v_block v_exit v_ret v_loop o_nil o_g q_mv o_mv q_nil_ o_nil_ q_pick o_pick q_alloc o_alloc q_box o_box q_build o_build q_mkSl o_mkSl q_load o_load q_bin o_bin q_shift o_shift q_un o_un q_conv o_conv q_make o_make q_slice o_slice q_substr o_substr q_fieldAddr o_fieldAddr q_field o_field q_indexAddr o_indexAddr q_strIdx o_strIdx q_extract o_extract q_len o_len q_minmax o_minmax q_nilCheck o_nilCheck q_mkFn o_mkFn q_call o_call q_callF o_callF l_mkSl o_mkSlM l_store o_store l_append o_append l_copy o_copy l_clear o_clear l_callR o_callR v_cond callQ_eq
attribute [local go_sem] condv_t condv_f g_tt g_ff g_tf g_ft Norm_eq Opd.get putT List.length_cons List.length_nil List.length_append List.replicate List.cons_append List.nil_append List.append_assoc List.set List.set_cons_zero List.set_cons_succ List.getD_cons_zero List.getD_cons_succ List.getD_nil List.map_cons List.map_nil List.zipIdx_cons List.zipIdx_nil List.any_cons List.any_nil List.all_cons List.all_nil List.flatMap_cons List.flatMap_nil List.foldl_cons List.foldl_nil List.take_succ_cons List.take_zero List.take_nil List.drop_succ_cons List.drop_zero List.drop_nil List.flatten_cons List.flatten_nil List.length_map roL owL arrL List.range_succ List.range_zero List.append_nil binInt true_and and_true false_and and_false Bool.not_true Bool.not_false Bool.and_self Bool.true_and Bool.and_true Bool.false_and Bool.and_false Bool.or_false Bool.or_true Bool.false_or Bool.true_or Bool.false_eq_true false_implies true_implies implies_true forall_const if_true if_false beq_self_eq_true BEq.rfl decide_true decide_false decide_eq_true_eq eq_self Option.getD_none Option.getD_some Option.map_some Option.map_none Option.isNone_none Option.isNone_some Nat.le_refl Int.le_refl Nat.zero_add Nat.add_zero Nat.zero_le Nat.sub_zero Nat.zero_mul Nat.one_mul Nat.lt_one_iff Nat.zero_lt_one Int.toNat_natCast Int.toNat_zero Int.toNat_one Int.natCast_zero retPost inPost rets T.known T.cells T.one takeAll take_ regroup retD retH final nodeR nodeIn pathOk pathIn Obj.rows loadCell setList Heap.put Obj.put Heap.setNode Obj.setNode nodeSet setIn splitLast Heap.drop_ arrAt Heap.kill Obj.kill T.kill D.kill D.thru thruPath params T.param D.param paramCells cellP cellsP capsP rps D.ro T.back T.back1 D.back T.closed D.closed T.clean D.clean D.still view optInt optOk chunk isEq eqDs eqD source capIds D.flat bytesOfAt D.isByte D.byte rowsD_cons_zero subAt_rows shiftAt_rows  drop_mapE take_mapE List.take_length app_rows ro_ints ro_strs ro_bytes big rowsD_cons_succ S_add S_size strEq_S Int.natCast_add Int.cast_ofNat_Int List.mem_cons List.not_mem_nil false_or or_false true_or or_true forall_eq_or_imp forall_eq T.d.injEq T.agg.injEq T.tup.injEq D.int.injEq D.bool.injEq D.str.injEq List.cons.injEq Prod.mk.injEq Option.some.injEq
attribute [local go_sem low] condv_b g_b

section
variable {P : Program}
def delFL : MC := (.seq (.seq (.reg [⟨(some 16), none, .mv (.t 6)⟩,
    ⟨(some 17), none, .mv (.t 0)⟩,
    ⟨(some 18), none, .len false (.t 17)⟩,
    ⟨(some 19), none, .bin .lss (.int .i64) (.t 16) (.t 18)⟩]) (.cond (.t 19) .skip (.exit 0))) (.seq (.block 1 (.seq (.reg [⟨(some 22), none, .mv (.t 0)⟩,
    ⟨(some 23), none, .mv (.t 6)⟩,
    ⟨(some 24), none, .indexAddr 1 (.t 22) (.t 23)⟩,
    ⟨(some 25), none, .load none (.t 24)⟩,
    ⟨(some 7), none, .mv (.t 25)⟩]) (.seq (.reg [⟨(some 26), none, .mv (.t 1)⟩,
    ⟨(some 27), none, .mv (.t 7)⟩,
    ⟨(some 28), none, .callF (.t 26) [(.t 27)]⟩,
    ⟨(some 29), none, .un .not .bool (.t 28)⟩]) (.cond (.t 29) (.seq (.reg [⟨(some 30), none, .mv (.t 0)⟩,
    ⟨(some 31), none, .mv (.t 5)⟩,
    ⟨(some 32), none, .mv (.t 7)⟩,
    ⟨(some 33), none, .indexAddr 1 (.t 30) (.t 31)⟩,
    ⟨none, none, .store 1 (.t 33) (.t 32)⟩]) (.reg [⟨(some 34), none, .mv (.t 5)⟩,
    ⟨(some 35), none, .bin .add (.int .i64) (.t 34) (.c (.d (.int .i64 (1))))⟩,
    ⟨(some 5), none, .mv (.t 35)⟩])) .skip)))) (.reg [⟨(some 20), none, .mv (.t 6)⟩,
    ⟨(some 21), none, .bin .add (.int .i64) (.t 20) (.c (.d (.int .i64 (1))))⟩,
    ⟨(some 6), none, .mv (.t 21)⟩])))
def delFR (z : D) : MC := (.seq (.reg [⟨(some 36), none, .mv (.t 0)⟩,
    ⟨(some 37), none, .mv (.t 5)⟩,
    ⟨(some 38), none, .slice 1 (.t 36) (some (.t 37)) none none⟩,
    ⟨none, none, .clear 1 [z] (.t 38)⟩]) (.seq (.reg [⟨(some 39), none, .mv (.t 0)⟩,
    ⟨(some 40), none, .mv (.t 5)⟩,
    ⟨(some 41), none, .slice 1 (.t 39) none (some (.t 40)) none⟩,
    ⟨(some 4), none, .mv (.t 41)⟩]) .ret))
def delFC (gi : Nat) (z : D) : MC := (.seq (.reg [⟨(some 4), none, .nil_ 1⟩]) (.seq (.reg [⟨(some 8), none, .mv (.t 0)⟩,
    ⟨(some 9), none, .mv (.t 1)⟩,
    ⟨(some 10), none, .call gi [(.t 8), (.t 9)]⟩,
    ⟨(some 5), none, .mv (.t 10)⟩]) (.seq (.seq (.reg [⟨(some 11), none, .mv (.t 5)⟩,
    ⟨(some 12), none, .bin .eql (.int .i64) (.t 11) (.c (.d (.int .i64 (-1))))⟩]) (.cond (.t 12) (.seq (.reg [⟨(some 13), none, .mv (.t 0)⟩,
    ⟨(some 4), none, .mv (.t 13)⟩]) .ret) .skip)) (.seq (.seq (.reg [⟨(some 14), none, .mv (.t 5)⟩,
    ⟨(some 15), none, .bin .add (.int .i64) (.t 14) (.c (.d (.int .i64 (1))))⟩,
    ⟨(some 6), none, .mv (.t 15)⟩]) (.block 0 (.loop delFL))) (delFR z)))))
theorem kill_none (H : Heap) : H.kill (fun _ => false) = H := by
  unfold Heap.kill
  have h1 : D.kill (fun _ => false) = id := by funext d; rfl
  have h2 : Obj.kill (fun _ => false) = id := by
    funext o
    cases o <;> simp [Obj.kill, h1]
  rw [h2]
  simp
theorem kill_map (H : Heap) : List.map (fun o => Option.map (Obj.kill fun _ => false) o) H = H := kill_none H
theorem T_kill_none (ts : List T) : ts.map (T.kill fun _ => false) = ts := map_kill_no ts
theorem up_kill_none (up : List (List T)) : (up.map fun ts => ts.map (T.kill fun _ => false)) = up := up_kill_no up
theorem set_same {H : Heap} {id : Nat} {o : Option Obj} (h : H.getD id none = o) (hl : id < H.length) : H = H.set id o := by
  apply list_ext_getD (by simp)
  intro j
  rw [getD_set hl]
  split
  · rename_i e; rw [e, h]
  · rfl
theorem sub_copyAt {sz off n k : Nat} {a b : Nat → Nat → D} (h : k ≤ off) : subAt 0 k (copyAt sz a off n b) = subAt 0 k a := by
  funext i f
  unfold subAt
  split
  · unfold copyAt
    rw [if_neg (by omega)]
  · rfl
theorem filter_all {α : Type} (p : α → Bool) (l : List α) (h : ∀ a ∈ l, p a = false) : l.filter (fun a => !p a) = l := by
  rw [List.filter_eq_self]
  intro a ha
  simp [h a ha]
theorem idxBy_cases {α : Type} [Inhabited α] (p : α → Bool) (l : List α) : (idxBy p l = -1 ∧ ∀ a ∈ l, p a = false) ∨ ∃ i, i < l.length ∧ idxBy p l = (i : Int) ∧ p (l.getD i default) = true ∧ (l.take i).filter (fun a => !p a) = l.take i := by
  unfold idxBy
  cases h : l.findIdx? p with
  | none =>
    rw [List.findIdx?_eq_none_iff] at h
    exact .inl ⟨rfl, h⟩
  | some i =>
    rw [List.findIdx?_eq_some_iff_getElem] at h
    obtain ⟨h1, h2, h3⟩ := h
    refine .inr ⟨i, h1, rfl, by simpa [List.getD_eq_getElem?_getD, h1] using h2, filter_all p _ fun a ha => ?_⟩
    obtain ⟨j, hj, rfl⟩ := List.getElem_of_mem ha
    simp only [List.length_take] at hj
    have := h3 j (by omega)
    simpa using this
/-- In the caller's memory: the kept elements are moved to the front. -/
def delPost {α : Type} (c : α → D) (p : α → Bool) (l : List α) (id : Nat) (H : Heap) (up : List (List T)) (t : T) (H' : Heap) (up' : List (List T)) : Prop :=
  ∃ a, H' = (H ++ [some (Obj.arr 1 0 fun _ _ => D.dead)] : Heap).set id (some (.arr 1 l.length a)) ∧ up' = up ∧ t = .d (.own id [] l.length 0 (l.filter fun a => !p a).length) ∧
    subAt 0 (l.filter fun a => !p a).length a = rowsD ((l.filter fun a => !p a).map fun a => [c a])
theorem delF_ok {g gi : Nat} {z : D} (h : Prg P g 42 (delFC gi z) [.tmp 4]) (hi : Prg P gi 19 (idxFC 1 none) [.tmp 4]) {α : Type} [Inhabited α] {c : α → D} (hfl : ∀ a, (c a).flat = true)
    (l : List α) (p : α → Bool) {g' : Nat} (hp : ∀ a ∈ l, FnSem P g' [.d (c a)] fun t N => t = .d (.bool (p a)) ∧ N = []) (hl : l.length < 9223372036854775807)
    {id : Nat} {H : Heap} {up : List (List T)} (hid : id < H.length) (hH : H.getD id none = some (.arr 1 l.length (rowsD (l.map fun a => [c a])))) :
    InSem P g [.d (.own id [] l.length 0 l.length), .d (.fn g' [])] H up (delPost c p l id H up) := by
  have hcl : ∀ a, (c a).closed = true := fun a => by have := hfl a; cases h : c a <;> rw [h] at this <;> first | (cases this; done) | rfl
  have hro : (l.map fun a => [c a]).map (List.map D.ro) = l.map fun a => [c a] := by
    simp only [List.map_map]
    apply List.map_congr_left
    intro a _
    have := hfl a
    cases h : c a <;> rw [h] at this <;> first | (cases this; done) | simp [h, D.ro]
  have hidx := idxF_ok (enc := fun a => [c a]) hi (.inl ⟨rfl, rfl⟩) (fun _ => rfl) (fun a => by simp [hcl a]) l p (g' := g') (n' := 0) (szs := fun _ => 0) (rows := fun _ _ => .dead) (fun a ha => by simpa [elT, rps] using hp a ha) hl
  refine h.inn (by simp) ?_
  unfold delFC delPost
  obtain ⟨H1, hH1⟩ : ∃ H1, H1 = H ++ [some (Obj.arr 1 0 fun _ _ => D.dead)] := ⟨_, rfl⟩
  rw [← hH1]
  have hid1 : id < H1.length := by rw [hH1]; simp; omega
  have hg : H1.getD id none = some (.arr 1 l.length (rowsD (l.map fun a => [c a]))) := by rw [hH1, getD_app hid]; exact hH
  have hset : ∀ o, (H1.set id o).getD id none = o := fun o => by rw [getD_set hid1, if_pos rfl]
  simp -dsimp only [go_sem, make_rows, ro_rows, Nat.reduceSub, Nat.reduceAdd, Nat.reduceLT, Nat.reduceLeDiff, Nat.reduceMul, Nat.reduceEqDiff, reduceCtorEq, reduceIte, Int.reduceToNat, Int.reduceLE, Int.reduceLT, Int.reduceNe, hH1.symm, hg, ro_sub_rows, hro]
  refine step1 hidx ?_
  simp -dsimp only [go_sem, make_rows, ro_rows, Nat.reduceSub, Nat.reduceAdd, Nat.reduceLT, Nat.reduceLeDiff, Nat.reduceMul, Nat.reduceEqDiff, reduceCtorEq, reduceIte, Int.reduceToNat, Int.reduceLE, Int.reduceLT, Int.reduceNe]
  rcases idxBy_cases p l with ⟨hm, hall⟩ | ⟨i0, hi0, hm, hp0, htake⟩
  · have e := filter_all p l hall
    rw [hm]
    simp -dsimp only [go_sem, make_rows, ro_rows, Nat.reduceSub, Nat.reduceAdd, Nat.reduceLT, Nat.reduceLeDiff, Nat.reduceMul, Nat.reduceEqDiff, reduceCtorEq, reduceIte, Int.reduceToNat, Int.reduceLE, Int.reduceLT, Int.reduceNe, ieq_t (show (-1 : Int) = -1 from rfl)]
    refine ⟨rowsD (l.map fun a => [c a]), set_same hg hid1, ?_, ?_⟩
    · rw [e]
    · rw [e, subAt_rows, List.drop_zero, List.take_of_length_le (by simp)]
  · rw [hm]
    have hi1 := inc64 (show i0 < 9223372036854775807 by omega)
    simp -dsimp only [go_sem, make_rows, ro_rows, Nat.reduceSub, Nat.reduceAdd, Nat.reduceLT, Nat.reduceLeDiff, Nat.reduceMul, Nat.reduceEqDiff, reduceCtorEq, reduceIte, Int.reduceToNat, Int.reduceLE, Int.reduceLT, Int.reduceNe, ieq_f (show ¬ (i0 : Int) = -1 by omega), hi1]
    refine loopI (fun k s => ∃ i j ls Hc, i < j ∧ j ≤ l.length ∧ k = l.length - j ∧ ls.length = l.length ∧ ls.take i = (l.take j).filter (fun a => !p a) ∧ ls.drop j = l.drop j ∧
      s = ⟨(.d (.own id [] l.length 0 l.length) :: .d (.fn g' []) :: .d .dead :: .d .dead :: .d .dead :: .d (.int .i64 (i : Int)) :: .d (.int .i64 (j : Int)) :: .d .dead :: .d .dead :: .d .dead :: .d .dead :: .d .dead :: .d .dead :: .d .dead :: .d .dead :: .d .dead :: .d .dead :: .d .dead :: .d .dead :: .d .dead :: .d .dead :: .d .dead :: .d .dead :: .d .dead :: .d .dead :: .d .dead :: .d .dead :: .d .dead :: .d .dead :: .d .dead :: .d .dead :: .d .dead :: .d .dead :: .d .dead :: .d .dead :: .d .dead :: .d .dead :: .d .dead :: .d .dead :: .d .dead :: .d .dead :: .d .dead :: []), Hc, up⟩ ∧ Hc = H1.set id (some (.arr 1 l.length (rowsD (ls.map fun a => [c a]))))) (l.length - (i0 + 1)) _ (Shift.forget ?_) ⟨i0, i0 + 1, l, H1, by omega, by omega, rfl, rfl, ?_, rfl, rfl, set_same hg hid1⟩ ?_
    · simp [Fgt]
    · rw [take_snoc l default hi0, List.filter_append, htake]
      simp only [List.filter_cons, hp0, Bool.not_true, Bool.false_eq_true, if_false, List.filter_nil, List.append_nil]
    rintro k s ⟨i, j, ls, Hc, hij, hj, rfl, hls, htk, hdr, rfl, rfl⟩
    unfold delFL
    by_cases hlt : j < l.length
    · have hc : ilt (j : Int) (l.length : Int) = true := ilt_t (by omega)
      have hj1 := inc64 (show j < 9223372036854775807 by omega)
      have hii := inc64 (show i < 9223372036854775807 by omega)
      have hx : ls.getD j default = l.getD j default := by
        have := congrArg (fun q => q.getD 0 default) hdr
        simpa [List.getD_eq_getElem?_getD] using this
      have hr0 : rowsD (ls.map fun a => [c a]) j 0 = c (l.getD j default) := by
        rw [row_at (enc := fun a => [c a]) (by omega : j < ls.length), hx]; rfl
      have hmem : l.getD j default ∈ l := by simp [List.getD_eq_getElem?_getD, hlt]
      have hpx := hp _ hmem
      have hf := hfl (l.getD j default)
      have hkeep : p (l.getD j default) = false → setAt (rowsD (ls.map fun a => [c a])) i 0 [c (l.getD j default)] = rowsD ((ls.set i (l.getD j default)).map fun a => [c a]) ∧
          (ls.set i (l.getD j default)).length = l.length ∧ (ls.set i (l.getD j default)).take (i + 1) = (l.take (j + 1)).filter (fun a => !p a) ∧ (ls.set i (l.getD j default)).drop (j + 1) = l.drop (j + 1) := by
        intro hpf
        refine ⟨?_, by simp [hls], ?_, ?_⟩
        · have hg2 : (ls.map fun a => [c a]).getD i [] = [c (ls.getD i default)] := by
            simp [List.getD_eq_getElem?_getD, show i < ls.length by omega]
          rw [setAt_rows _ _ _ _ (by simp; omega) (by rw [hg2]; simp), hg2, List.map_set]
          rfl
        · rw [take_snoc l default hlt, List.filter_append, ← htk]
          rw [take_snoc (ls.set i (l.getD j default)) default (by simp; omega)]
          simp only [List.filter_cons, hpf, Bool.not_false, if_true, List.filter_nil]
          rw [List.take_set_of_le (Nat.le_refl _)]
          simp [List.getD_eq_getElem?_getD, List.getElem?_set, show i < ls.length by omega]
        · rw [List.drop_set_of_lt (by omega)]
          have := congrArg (List.drop 1) hdr
          simpa [List.drop_drop] using this
      have hdrop : p (l.getD j default) = true → ls.take i = (l.take (j + 1)).filter (fun a => !p a) ∧ ls.drop (j + 1) = l.drop (j + 1) := by
        intro hpt
        refine ⟨?_, ?_⟩
        · rw [take_snoc l default hlt, List.filter_append, ← htk]
          simp only [List.filter_cons, hpt, Bool.not_true, Bool.false_eq_true, if_false, List.filter_nil, List.append_nil]
        · have := congrArg (List.drop 1) hdr
          simpa [List.drop_drop] using this
      generalize l.getD j default = x at hr0 hpx hf hkeep hdrop
      generalize c x = d at hr0 hpx hf hkeep
      cases d <;> first | (cases hf; done) | skip
      all_goals
        simp -dsimp only [go_sem, make_rows, ro_rows, Nat.reduceSub, Nat.reduceAdd, Nat.reduceLT, Nat.reduceLeDiff, Nat.reduceMul, Nat.reduceEqDiff, reduceCtorEq, reduceIte, Int.reduceToNat, Int.reduceLE, Int.reduceLT, Int.reduceNe, hc, hj1, hii, hset, hr0, List.set_set, kill_map, List.map_id', up_kill_none]
        repeat (refine And.intro (by omega) ?_)
        refine step1 hpx ?_
        simp -dsimp only [go_sem, make_rows, ro_rows, Nat.reduceSub, Nat.reduceAdd, Nat.reduceLT, Nat.reduceLeDiff, Nat.reduceMul, Nat.reduceEqDiff, reduceCtorEq, reduceIte, Int.reduceToNat, Int.reduceLE, Int.reduceLT, Int.reduceNe, hc, hj1, hii, hset, hr0, List.set_set, kill_map, List.map_id', up_kill_none]
        refine ⟨fun hpf => ?_, fun hpt => ?_⟩
        · repeat (refine And.intro (by omega) ?_)
          obtain ⟨k0, k1, k2, k3⟩ := hkeep (by simpa using hpf)
          rw [k0]
          refine next (l.length - (j + 1)) _ (by omega) (Shift.forget ?_) ⟨i + 1, j + 1, ls.set i x, _, by omega, by omega, rfl, k1, k2, k3, rfl, rfl⟩
          simp [Fgt]
        · obtain ⟨k1, k2⟩ := hdrop (by simpa using hpt)
          refine next (l.length - (j + 1)) _ (by omega) (Shift.forget ?_) ⟨i, j + 1, ls, _, by omega, by omega, rfl, hls, k1, k2, rfl, rfl⟩
          simp [Fgt]
    · have hc : ilt (j : Int) (l.length : Int) = false := ilt_f (by omega)
      have hj2 : j = l.length := by omega
      unfold delFR
      simp -dsimp only [go_sem, make_rows, ro_rows, Nat.reduceSub, Nat.reduceAdd, Nat.reduceLT, Nat.reduceLeDiff, Nat.reduceMul, Nat.reduceEqDiff, reduceCtorEq, reduceIte, Int.reduceToNat, Int.reduceLE, Int.reduceLT, Int.reduceNe, hc, hset, List.set_set]
      subst hj2
      rw [List.take_of_length_le (Nat.le_refl _)] at htk
      have hlen : (l.filter fun a => !p a).length = i := by rw [← htk, List.length_take]; omega
      refine ⟨by omega, by omega, by omega, by omega, by omega, by omega, _, rfl, ?_, ?_⟩
      · rw [hlen]
      · rw [hlen, sub_copyAt (Nat.le_refl _), subAt_rows, ← htk, List.drop_zero, List.map_take]
end
end Go.R
