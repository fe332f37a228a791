/- Functions that occur for many types: their code, and what it does, once for all. -/
import Derived.Test.YtgpicngmadkdoaaDoorRLift
set_option linter.unusedVariables false
set_option linter.unusedSimpArgs false
namespace Go.R
open Go.RowKit
set_option maxRecDepth 100000
attribute [local go_sem ↓] v_skip v_reg v_draw v_alt v_seq v_block v_exit v_ret v_loop o_nil o_g q_mv o_mv q_nil_ o_nil_ q_pick o_pick q_alloc o_alloc q_box o_box q_build o_build q_mkSl o_mkSl q_load o_load q_bin o_bin q_shift o_shift q_un o_un q_conv o_conv q_make o_make q_slice o_slice q_substr o_substr q_fieldAddr o_fieldAddr q_field o_field q_indexAddr o_indexAddr q_strIdx o_strIdx q_extract o_extract q_len o_len q_minmax o_minmax q_nilCheck o_nilCheck q_mkFn o_mkFn q_call o_call q_callF o_callF l_mkSl o_mkSlM l_store o_store l_append o_append l_copy o_copy l_clear o_clear l_callR o_callR v_cond callQ_eq
attribute [local go_sem] condv_t condv_f g_tt g_ff g_tf g_ft Norm_eq Opd.get putT List.length_cons List.length_nil List.length_append List.replicate List.cons_append List.nil_append List.append_assoc List.set List.set_cons_zero List.set_cons_succ List.getD_cons_zero List.getD_cons_succ List.getD_nil List.map_cons List.map_nil List.zipIdx_cons List.zipIdx_nil List.any_cons List.any_nil List.all_cons List.all_nil List.flatMap_cons List.flatMap_nil List.foldl_cons List.foldl_nil List.take_succ_cons List.take_zero List.take_nil List.drop_succ_cons List.drop_zero List.drop_nil List.flatten_cons List.flatten_nil List.length_map roL owL arrL List.range_succ List.range_zero List.append_nil binInt true_and and_true false_and and_false Bool.not_true Bool.not_false Bool.and_self Bool.true_and Bool.and_true Bool.false_and Bool.and_false Bool.or_false Bool.or_true Bool.false_or Bool.true_or Bool.false_eq_true false_implies true_implies implies_true forall_const if_true if_false beq_self_eq_true BEq.rfl decide_true decide_false decide_eq_true_eq eq_self Option.getD_none Option.getD_some Option.map_some Option.map_none Option.isNone_none Option.isNone_some Nat.le_refl Int.le_refl Nat.zero_add Nat.add_zero Nat.zero_le Nat.sub_zero Nat.zero_mul Nat.one_mul Nat.lt_one_iff Nat.zero_lt_one Int.toNat_natCast Int.toNat_zero Int.toNat_one Int.natCast_zero retPost inPost rets T.known T.cells T.one takeAll take_ regroup retD retH final nodeR nodeIn pathOk pathIn Obj.rows loadCell setList Heap.put Obj.put Heap.setNode Obj.setNode nodeSet setIn splitLast Heap.drop_ arrAt Heap.kill Obj.kill T.kill D.kill D.thru thruPath params T.param D.param paramCells cellP cellsP capsP rps D.ro T.back T.back1 D.back T.closed D.closed T.clean D.clean D.still view optInt optOk chunk isEq eqDs eqD source capIds D.flat bytesOfAt D.isByte D.byte rowsD_cons_zero subAt_rows shiftAt_rows  drop_mapE take_mapE List.take_length app_rows ro_ints ro_strs ro_bytes big rowsD_cons_succ S_add S_size strEq_S Int.natCast_add Int.cast_ofNat_Int List.mem_cons List.not_mem_nil false_or or_false true_or or_true forall_eq_or_imp forall_eq T.d.injEq T.agg.injEq T.tup.injEq D.int.injEq D.bool.injEq D.str.injEq List.cons.injEq Prod.mk.injEq Option.some.injEq
attribute [local go_sem low] condv_b g_b

section
variable {P : Program}

/-- An element, as it is loaded. -/
def elT (n : Option Nat) (cs : List D) : T := match n with
  | none => .d (cs.getD 0 .dead)
  | some _ => .agg cs
def Fits (n : Option Nat) (sz : Nat) : Prop := (n = none ∧ sz = 1) ∨ n = some sz
theorem range_row {cs : List D} {sz : Nat} (h : cs.length = sz) : ((List.range sz).map fun j => cs.getD j .dead) = cs := by
  subst h
  apply List.ext_getElem?
  intro i
  by_cases hi : i < cs.length
  · simp [hi]
  · simp [hi]
theorem row_at {α : Type} [Inhabited α] {enc : α → List D} {l : List α} {i : Nat} (h : i < l.length) : rowsD (l.map enc) i = fun f => (enc (l.getD i default)).getD f .dead := by
  funext f; exact row_get h
theorem load_rows {Fn : FnT} {ts : List T} {H : Heap} {x : Opd} {n : Option Nat} {sz : Nat} {cs : List D} {K : Heap → T → Prop} (hf : Fits n sz) (hl : cs.length = sz) (hx : x.get ts = .d (.rp sz (fun f => cs.getD f .dead) 0)) :
    quiet Fn ts H (.load n x) K = K [] (elT n cs) := by
  rw [q_load, hx]
  rcases hf with ⟨rfl, rfl⟩ | rfl
  · simp [elT]
  · simp only [elT, Option.getD_some, Nat.zero_add, Nat.le_refl, true_and]
    rw [range_row hl]
theorem param_closed {H : Heap} {d : D} (h : d.closed = true) : d.param H = some (d, True) := by cases d <;> first | rfl | cases h
theorem paramCells_closed {H : Heap} : ∀ {ds : List D}, ds.all D.closed = true → ∃ c : Prop, paramCells H ds = some (ds, c) ∧ c
  | [], _ => ⟨True, rfl, trivial⟩
  | d :: ds, h => by
    simp only [List.all_cons, Bool.and_eq_true] at h
    obtain ⟨c, e, hc⟩ := paramCells_closed (H := H) h.2
    exact ⟨True ∧ c, by simp only [paramCells, param_closed h.1, e], trivial, hc⟩
theorem params_closed {H : Heap} : ∀ {ts : List T}, ts.all T.closed = true → ∃ c : Prop, params H ts = some (ts, c) ∧ c
  | [], _ => ⟨True, rfl, trivial⟩
  | t :: ts, h => by
    simp only [List.all_cons, Bool.and_eq_true] at h
    obtain ⟨c, h1, h2⟩ := params_closed (H := H) h.2
    have ht : ∃ c : Prop, t.param H = some (t, c) ∧ c := by
      cases t with
      | d x => exact ⟨True, by simp only [T.param, param_closed (show x.closed = true from h.1)], trivial⟩
      | agg ds =>
        obtain ⟨c, e, hc⟩ := paramCells_closed (H := H) (show ds.all D.closed = true from h.1)
        exact ⟨c, by simp only [T.param, e], hc⟩
      | tup xs => cases h.1
    obtain ⟨c', e, hc'⟩ := ht
    exact ⟨c' ∧ c, by simp only [params, e, h1], hc', h2⟩
/-- The facts by which an element is loaded and handed on. -/
theorem elem_facts {n : Option Nat} {sz : Nat} {cs : List D} (hf : Fits n sz) (hl : cs.length = sz) (hcl : cs.all D.closed = true) :
    (n = none ∧ sz = 1 ∧ ∃ c, cs = [c] ∧ c.closed = true) ∨ (n = some sz) := by
  rcases hf with ⟨rfl, rfl⟩ | rfl
  · match cs, hl with
    | [c], _ => exact .inl ⟨rfl, rfl, c, rfl, by simpa using hcl⟩
  · exact .inr rfl
theorem callQ_closed {Fn : FnT} {H : Heap} {g : Nat} {args : List T} {K : Heap → T → Prop} (h : args.all T.closed = true) {Post : T → Heap → Prop} (hF : Fn g args Post) (hk : ∀ t N, Post t N → K N (t.back H.length)) : callQ Fn H g args K := by
  rw [callQ_eq]
  obtain ⟨c, h1, h2⟩ := params_closed (H := H) h
  rw [h1]
  exact ⟨h2, Post, hF, fun t N hp => ⟨.inl h, hk t N hp⟩⟩
theorem rps_closed : ∀ (n : Nat) (szs : Nat → Nat) (rows : Nat → Nat → D), (rps n szs rows).all T.closed = true
  | 0, _, _ => rfl
  | n + 1, szs, rows => by simp only [rps, List.all_cons, rps_closed n]; rfl
theorem elT_closed {n : Option Nat} {sz : Nat} {cs : List D} (hf : Fits n sz) (hl : cs.length = sz) (h : cs.all D.closed = true) : (elT n cs).closed = true := by
  rcases hf with ⟨rfl, rfl⟩ | rfl
  · match cs, hl with
    | [c], _ => simpa [elT, T.closed] using h
  · exact h

/-! ### slices.IndexFunc, ContainsFunc -/
def idxFL (sz : Nat) (n : Option Nat) : MC := (.seq (.reg [⟨(some 9), none, .bin .lss (.int .i64) (.t 8) (.t 7)⟩]) (.seq (.cond (.t 9) .skip (.exit 0)) (.seq (.block 1 (.seq (.reg [⟨(some 10), none, .mv (.t 8)⟩,
    ⟨(some 5), none, .mv (.t 10)⟩]) (.seq (.reg [⟨(some 11), none, .mv (.t 1)⟩,
    ⟨(some 12), none, .mv (.t 0)⟩,
    ⟨(some 13), none, .mv (.t 5)⟩,
    ⟨(some 14), none, .indexAddr sz (.t 12) (.t 13)⟩,
    ⟨(some 15), none, .load n (.t 14)⟩,
    ⟨(some 16), none, .callF (.t 11) [(.t 15)]⟩]) (.cond (.t 16) (.seq (.reg [⟨(some 17), none, .mv (.t 5)⟩,
    ⟨(some 4), none, .mv (.t 17)⟩]) .ret) .skip)))) (.reg [⟨(some 18), none, .bin .add (.int .i64) (.t 8) (.c (.d (.int .i64 (1))))⟩,
    ⟨(some 8), none, .mv (.t 18)⟩]))))
def idxFC (sz : Nat) (n : Option Nat) : MC := (.seq (.reg [⟨(some 4), none, .mv (.c (.d (.int .i64 (0))))⟩]) (.seq (.seq (.reg [⟨(some 6), none, .mv (.t 0)⟩,
    ⟨(some 7), none, .len false (.t 6)⟩,
    ⟨(some 8), none, .mv (.c (.d (.int .i64 (0))))⟩]) (.block 0 (.loop (idxFL sz n)))) (.seq (.reg [⟨(some 4), none, .mv (.c (.d (.int .i64 (-1))))⟩]) .ret)))
/-- The first place where p holds; -1: nowhere. -/
def idxBy {α : Type} (p : α → Bool) (l : List α) : Int := match l.findIdx? p with
  | some i => i
  | none => -1
/-- What is needed to use a function's code. -/
structure Prg (P : Program) (g ntmps : Nat) (mc : MC) (rvs : List RV) : Prop where
  mixed : P.follows .mixedOrders = true
  call : callOk P g = true
  code : ∃ byref fn, P.funcs[g]? = some fn ∧ fn.ntmps = ntmps ∧ (fn.body.bind (trCode P byref)) = some mc ∧ trRV P fn.results.toList = some rvs
theorem Prg.fn {g n : Nat} {mc : MC} {rvs : List RV} (h : Prg P g n mc rvs) {args : List T} {Post : T → Heap → Prop} (hl : args.length ≤ n)
    (k : ev (FnSem P) (InSem P) Shift mc ⟨args ++ List.replicate (n - args.length) (.d .dead), [], []⟩ (retPost rvs Post) (fun _ _ => False) (retPost rvs Post)) : FnSem P g args Post := by
  obtain ⟨byref, fn, h1, h2, h3, h4⟩ := h.code
  exact fn_of h.mixed h.call h1 h2 h3 h4 hl fun Fn In Sh hF hI hS => by subst hF hI hS; exact k
theorem Prg.inn {g n : Nat} {mc : MC} {rvs : List RV} (h : Prg P g n mc rvs) {args : List T} {H : Heap} {up : List (List T)} {Post : T → Heap → List (List T) → Prop} (hl : args.length ≤ n)
    (k : ev (FnSem P) (InSem P) Shift mc ⟨args ++ List.replicate (n - args.length) (.d .dead), H, up⟩ (inPost rvs Post) (fun _ _ => False) (inPost rvs Post)) : InSem P g args H up Post := by
  obtain ⟨byref, fn, h1, h2, h3, h4⟩ := h.code
  exact in_of h.mixed h.call h1 h2 h3 h4 hl fun Fn In Sh hF hI hS => by subst hF hI hS; exact k

theorem idxBy_eq {α : Type} (p : α → Bool) (l : List α) (x : α) {i : Nat} (hi : i ≤ l.length) (hno : ∀ j, j < i → p (l.getD j x) = false) (hend : i = l.length ∨ p (l.getD i x) = true) : idxBy p l = if i = l.length then -1 else (i : Int) := by
  unfold idxBy
  have hget : ∀ j, (h : j < l.length) → l.getD j x = l[j] := fun j h => by simp [List.getD_eq_getElem?_getD, h]
  rcases Nat.lt_or_ge i l.length with h | h
  · rw [if_neg (by omega)]
    have : l.findIdx? p = some i := by
      rw [List.findIdx?_eq_some_iff_getElem]
      refine ⟨h, ?_, fun j hj => ?_⟩
      · rcases hend with he | he
        · omega
        · rw [hget i h] at he; exact he
      · have := hno j hj
        rw [hget j (by omega)] at this
        simp [this]
    rw [this]
  · rw [if_pos (by omega)]
    have : l.findIdx? p = none := by
      rw [List.findIdx?_eq_none_iff]
      intro a ha
      obtain ⟨j, hj, rfl⟩ := List.getElem_of_mem ha
      have := hno j (by omega)
      rwa [hget j hj] at this
    rw [this]

theorem idxF_ok {g sz : Nat} {n : Option Nat} (h : Prg P g 19 (idxFC sz n) [.tmp 4]) (hf : Fits n sz) {α : Type} [Inhabited α] {enc : α → List D} (hE : ∀ a, (enc a).length = sz) (hcl : ∀ a, (enc a).all D.closed = true)
    (l : List α) (p : α → Bool) {g' n' : Nat} {szs : Nat → Nat} {rows : Nat → Nat → D} (hp : ∀ a ∈ l, FnSem P g' (elT n (enc a) :: rps n' szs rows) fun t N => t = .d (.bool (p a)) ∧ N = []) (hl : l.length < 9223372036854775807) :
    FnSem P g [.d (roL enc sz l), .d (.rfn g' n' szs rows)] fun t N => t = .d (.int .i64 (idxBy p l)) ∧ N = [] := by
  refine h.fn (by simp) ?_
  unfold idxFC
  simp -dsimp only [go_sem, make_rows, ro_rows, Nat.reduceSub, Nat.reduceAdd, Nat.reduceLT, Nat.reduceLeDiff, Nat.reduceMul, Nat.reduceEqDiff, reduceCtorEq, reduceIte, Int.reduceToNat, Int.reduceLE, Int.reduceLT, Int.reduceNe]
  refine loopI (fun k s => ∃ i, i ≤ l.length ∧ k = l.length - i ∧ (∀ j, j < i → p (l.getD j default) = false) ∧
    s = ⟨(.d (.sl false sz l.length (rowsD (l.map enc))) :: .d (.rfn g' n' szs rows) :: .d .dead :: .d .dead :: .d .dead :: .d .dead :: .d .dead :: .d (.int .i64 (l.length : Int)) :: .d (.int .i64 (i : Int)) :: .d .dead :: .d .dead :: .d .dead :: .d .dead :: .d .dead :: .d .dead :: .d .dead :: .d .dead :: .d .dead :: .d .dead :: []), [], []⟩) l.length _ (Shift.forget ?_) ⟨0, Nat.zero_le _, rfl, fun j hj => absurd hj (Nat.not_lt_zero _), rfl⟩ ?_
  · simp [Fgt]
  rintro k s ⟨i, hi, rfl, hno, rfl⟩
  unfold idxFL
  by_cases hlt : i < l.length
  · have hc : ilt (i : Int) (l.length : Int) = true := ilt_t (by omega)
    have hi1 := inc64 (show i < 9223372036854775807 by omega)
    have hra := row_at (enc := enc) hlt
    have hmem : l.getD i default ∈ l := by simp [List.getD_eq_getElem?_getD, hlt]
    have hpx := hp _ hmem
    have hno2 : ∀ b, p (l.getD i default) = b → (∀ j, j < i + 1 → p (l.getD j default) = false) ∨ b = true := by
      intro b hb
      cases b with
      | true => exact .inr rfl
      | false =>
        refine .inl fun j hj => ?_
        rcases Nat.lt_or_ge j i with h1 | h1
        · exact hno j h1
        · rw [show j = i by omega]; exact hb
    have hfound := idxBy_eq p l default hi hno
    obtain ⟨cr, hpr, hcr⟩ := params_closed (H := []) (rps_closed n' szs rows)
    have hrc := rps_closed n' szs rows
    have hxl := hE (l.getD i default)
    have hxc := hcl (l.getD i default)
    generalize l.getD i default = x at hra hpx hno2 hfound hxl hxc
    have hend : ∀ b, p x = b → (b = true → (i : Int) = idxBy p l) := by
      intro b hb h
      subst h
      rw [hfound (.inr hb), if_neg (by omega)]
    rcases elem_facts hf hxl hxc with ⟨rfl, rfl, c, hxe, hcc⟩ | rfl
    · have hr0 : rowsD (l.map enc) i 0 = c := by rw [hra, hxe]; rfl
      rw [hxe] at hpx
      cases c
      case' sl o _ _ _ => cases o
      all_goals first | (cases hcc; done) | skip
      all_goals
        simp -dsimp only [go_sem, make_rows, ro_rows, Nat.reduceSub, Nat.reduceAdd, Nat.reduceLT, Nat.reduceLeDiff, Nat.reduceMul, Nat.reduceEqDiff, reduceCtorEq, reduceIte, Int.reduceToNat, Int.reduceLE, Int.reduceLT, Int.reduceNe, hc, hi1, hr0, hpr, List.all_append, hrc]
        repeat (refine And.intro (by omega) ?_)
        (try refine ⟨hcr, ?_⟩)
        refine step1 hpx ?_
        simp -dsimp only [go_sem, make_rows, ro_rows, Nat.reduceSub, Nat.reduceAdd, Nat.reduceLT, Nat.reduceLeDiff, Nat.reduceMul, Nat.reduceEqDiff, reduceCtorEq, reduceIte, Int.reduceToNat, Int.reduceLE, Int.reduceLT, Int.reduceNe, hc, hi1, hr0, hpr, List.all_append, hrc]
        refine ⟨fun hpt => ?_, fun hpf => ?_⟩
        · exact hend true hpt rfl
        · refine next (l.length - (i + 1)) _ (by omega) (Shift.forget ?_) ⟨i + 1, by omega, rfl, (hno2 false hpf).resolve_right (by simp), rfl⟩
          simp [Fgt]
    · have hr0 : (List.range sz).map (fun j => rowsD (l.map enc) i j) = enc x := by rw [hra]; exact range_row hxl
      obtain ⟨cp, hpc, hcp⟩ := paramCells_closed (H := []) hxc
      simp -dsimp only [go_sem, make_rows, ro_rows, Nat.reduceSub, Nat.reduceAdd, Nat.reduceLT, Nat.reduceLeDiff, Nat.reduceMul, Nat.reduceEqDiff, reduceCtorEq, reduceIte, Int.reduceToNat, Int.reduceLE, Int.reduceLT, Int.reduceNe, hc, hi1, hr0, hpc, hpr, List.all_append, hrc, hxc]
      repeat (refine And.intro (by omega) ?_)
      (try refine ⟨⟨hcp, hcr⟩, ?_⟩)
      refine step1 hpx ?_
      simp -dsimp only [go_sem, make_rows, ro_rows, Nat.reduceSub, Nat.reduceAdd, Nat.reduceLT, Nat.reduceLeDiff, Nat.reduceMul, Nat.reduceEqDiff, reduceCtorEq, reduceIte, Int.reduceToNat, Int.reduceLE, Int.reduceLT, Int.reduceNe, hc, hi1, hr0, hpc, hpr, List.all_append, hrc, hxc]
      refine ⟨fun hpt => ?_, fun hpf => ?_⟩
      · exact hend true hpt rfl
      · refine next (l.length - (i + 1)) _ (by omega) (Shift.forget ?_) ⟨i + 1, by omega, rfl, (hno2 false hpf).resolve_right (by simp), rfl⟩
        simp [Fgt]
  · have hc : ilt (i : Int) (l.length : Int) = false := ilt_f (by omega)
    have hi2 : i = l.length := by omega
    simp -dsimp only [go_sem, make_rows, ro_rows, Nat.reduceSub, Nat.reduceAdd, Nat.reduceLT, Nat.reduceLeDiff, Nat.reduceMul, Nat.reduceEqDiff, reduceCtorEq, reduceIte, Int.reduceToNat, Int.reduceLE, Int.reduceLT, Int.reduceNe, hc]
    rw [idxBy_eq p l default hi hno (.inl hi2), if_pos hi2]

def conFC (gi : Nat) : MC := (.seq (.reg [⟨(some 4), none, .mv (.c (.d (.bool false)))⟩]) (.seq (.reg [⟨(some 5), none, .mv (.t 0)⟩,
    ⟨(some 6), none, .mv (.t 1)⟩,
    ⟨(some 7), none, .call gi [(.t 5), (.t 6)]⟩,
    ⟨(some 8), none, .bin .geq (.int .i64) (.t 7) (.c (.d (.int .i64 (0))))⟩,
    ⟨(some 4), none, .mv (.t 8)⟩]) .ret))
theorem idxBy_any {α : Type} (p : α → Bool) (l : List α) : ile 0 (idxBy p l) = l.any p := by
  unfold idxBy
  cases h : l.findIdx? p with
  | none =>
    rw [List.findIdx?_eq_none_iff] at h
    rw [show (match (none : Option Nat) with | some i => (i : Int) | none => -1) = -1 from rfl, ile_f (by omega)]
    symm
    rw [List.any_eq_false]
    intro a ha
    simp [h a ha]
  | some i =>
    rw [List.findIdx?_eq_some_iff_getElem] at h
    obtain ⟨h1, h2, _⟩ := h
    rw [show (match some i with | some i => (i : Int) | none => -1) = (i : Int) from rfl, ile_t (by omega)]
    symm
    rw [List.any_eq_true]
    exact ⟨_, List.getElem_mem h1, h2⟩
theorem conF_ok {g gi sz : Nat} {n : Option Nat} (h0 : Prg P g 9 (conFC gi) [.tmp 4]) (h : Prg P gi 19 (idxFC sz n) [.tmp 4]) (hf : Fits n sz) {α : Type} [Inhabited α] {enc : α → List D} (hE : ∀ a, (enc a).length = sz) (hcl : ∀ a, (enc a).all D.closed = true)
    (l : List α) (p : α → Bool) {g' n' : Nat} {szs : Nat → Nat} {rows : Nat → Nat → D} (hp : ∀ a ∈ l, FnSem P g' (elT n (enc a) :: rps n' szs rows) fun t N => t = .d (.bool (p a)) ∧ N = []) (hl : l.length < 9223372036854775807) :
    FnSem P g [.d (roL enc sz l), .d (.rfn g' n' szs rows)] fun t N => t = .d (.bool (l.any p)) ∧ N = [] := by
  have hi := idxF_ok h hf hE hcl l p hp hl
  refine h0.fn (by simp) ?_
  unfold conFC
  simp -dsimp only [go_sem, make_rows, ro_rows, Nat.reduceSub, Nat.reduceAdd, Nat.reduceLT, Nat.reduceLeDiff, Nat.reduceMul, Nat.reduceEqDiff, reduceCtorEq, reduceIte, Int.reduceToNat, Int.reduceLE, Int.reduceLT, Int.reduceNe]
  refine step1 hi ?_
  simp -dsimp only [go_sem, make_rows, ro_rows, Nat.reduceSub, Nat.reduceAdd, Nat.reduceLT, Nat.reduceLeDiff, Nat.reduceMul, Nat.reduceEqDiff, reduceCtorEq, reduceIte, Int.reduceToNat, Int.reduceLE, Int.reduceLT, Int.reduceNe]
  rw [idxBy_any]
end
end Go.R
