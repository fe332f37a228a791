/- The translator: code. -/
import Derived.Test.YtgpicngmadkdoaaDoorRDraw3
import Derived.KernelRfl
set_option linter.unusedVariables false
set_option linter.unusedSimpArgs false
namespace Go.R
open Go.RowKit

/-- Does an operation move trees? A slice's literal of one element whose type holds slices; an append of such a literal. -/
def madeHere (ops : List Oper) : Operand → Bool
  | .tmp n => ops.any fun o => o.dst == some n && (match o.op with | .buildSlice .. => true | _ => false)
  | _ => false
def holdsSl (P : Program) (t : TypeId) : Bool := match (slElem P t).bind (zeroD1 P true 8) with
  | some z => z.any D.isSl
  | none => false
def mvOf (P : Program) (ops : List Oper) (o : Oper) : Bool := match o.op with
  | .buildSlice t 1 _ => holdsSl P t
  | .call c => match c.callee, c.args.toList with
    | .builtin .append, [_, y] => madeHere ops y
    | _, _ => false
  | _ => false
def trGuard (ops : Array Oper) : Option (Nat × Bool) → Option (Option (Nat × Bool))
  | none => some none
  | some (j, b) => match (ops[j]?).bind (·.dst) with
    | some g => some (some (g, b))
    | none => none
def trMis (P : Program) (byref : FuncId → Bool) (ops : Array Oper) : List Oper → Option (List MI)
  | [] => some []
  | o :: r => match trOp P byref (mvOf P ops.toList o) o, trGuard ops o.guard, trMis P byref ops r with
    | some m, some g, some l => some (⟨o.dst, g, m⟩ :: l)
    | _, _, _ => none
def edgesOf (o : Oper) : List Nat := (o.after.toList.filter (Region.binds .any)).map (·.on)
def predOf (done : List (List Nat)) (o : Oper) : List Nat := ((edgesOf o).flatMap fun j => j :: done.getD j []).eraseDups
def predsOf : List (List Nat) → List Oper → List (List Nat)
  | done, [] => done
  | done, o :: r => predsOf (done ++ [predOf done o]) r
def depB (pl : List (List Nat)) (i j : Nat) : Bool := (pl.getD j []).contains i
def apartB (ops : Array Oper) (i j : Nat) : Bool := match ops[i]?, ops[j]? with
  | some x, some y => x.apart ops y
  | _, _ => true
def freeB (ops : Array Oper) (pl : List (List Nat)) (Ef : Nat → Bool) (listed : Array Bool) (i : Nat) : Bool :=
  (List.range ops.size).all fun j => j == i || listed.getD j true || depB pl i j || (apartB ops i j && Ef j)
def orderChk (ops : Array Oper) (pl : List (List Nat)) (Ef Pf Af : Nat → Bool) : Array Bool → List Nat → Bool
  | listed, [] => (Region.ready .any ops listed).isEmpty
  | listed, i :: r => (Region.ready .any ops listed).contains i && ((Pf i && freeB ops pl Ef listed i) || ((Af i && freeB ops pl (fun _ => true) listed i) || Region.ready .any ops listed == [i])) && orderChk ops pl Ef Pf Af (listed.setIfInBounds i true) r
/-- The order: reading operations first. -/
def mkOrder (ops : Array Oper) (pl : List (List Nat)) (Ef Pf Af : Nat → Bool) : Nat → Array Bool → List Nat
  | 0, _ => []
  | n + 1, listed => match (Region.ready .any ops listed).find? (fun i => (Pf i && freeB ops pl Ef listed i) || (Af i && freeB ops pl (fun _ => true) listed i)) with
    | some i => i :: mkOrder ops pl Ef Pf Af n (listed.setIfInBounds i true)
    | none => match Region.ready .any ops listed with
      | i :: _ => i :: mkOrder ops pl Ef Pf Af n (listed.setIfInBounds i true)
      | [] => []
def noSel (ops : Array Oper) : Bool := Region.noSelect ops
def trDraw (ops : Array Oper) (l : List MI) : Option (List MI) :=
  let pl := predsOf [] ops.toList
  let Ef : Nat → Bool := fun j => match l[j]? with | some m => isQuiet m.op | none => true
  let Pf : Nat → Bool := fun j => match l[j]? with | some m => isP m.op && isQuiet m.op | none => false
  let Af : Nat → Bool := fun j => match l[j]? with | some m => isA m.op && isQuiet m.op | none => false
  let ord := mkOrder ops pl Ef Pf Af ops.size (Array.replicate ops.size false)
  if orderChk ops pl Ef Pf Af (Array.replicate ops.size false) ord && (ord.length == ops.size) && Region.noSelect ops then ord.mapM (l[·]?) else none
def treeChk (ops : Array Oper) (pl : List (List Nat)) (Ef Pf Af : Nat → Bool) : Nat → Array Bool → List Nat → OT → Bool
  | fuel, listed, heads, .nil => heads.isEmpty && fuel == 0 && (Region.ready .any ops listed).isEmpty
  | 0, _, _, .one _ _ => false
  | m + 1, listed, heads, .one i r => heads.isEmpty && (Region.ready .any ops listed).contains i && ((Pf i && freeB ops pl Ef listed i) || ((Af i && freeB ops pl (fun _ => true) listed i) || Region.ready .any ops listed == [i])) && treeChk ops pl Ef Pf Af m (listed.setIfInBounds i true) [] r
  | 0, _, _, .alt _ _ _ => false
  | m + 1, listed, heads, .alt i r rest => (Region.ready .any ops listed).contains i && treeChk ops pl Ef Pf Af m (listed.setIfInBounds i true) [] r && treeChk ops pl Ef Pf Af (m + 1) listed (i :: heads) rest
  | _, listed, heads, .stop => !heads.isEmpty && (Region.ready .any ops listed).all (heads.contains ·)
/-- A tree of orders: reading operations first; else all that are ready, one by one. -/
def mkTree (ops : Array Oper) (pl : List (List Nat)) (Ef Pf Af : Nat → Bool) : Nat → Array Bool → OT
  | 0, _ => .nil
  | n + 1, listed => match (Region.ready .any ops listed).find? (fun i => (Pf i && freeB ops pl Ef listed i) || (Af i && freeB ops pl (fun _ => true) listed i)) with
    | some i => .one i (mkTree ops pl Ef Pf Af n (listed.setIfInBounds i true))
    | none => match Region.ready .any ops listed with
      | [] => .nil
      | [i] => .one i (mkTree ops pl Ef Pf Af n (listed.setIfInBounds i true))
      | l => l.foldr (fun i t => .alt i (mkTree ops pl Ef Pf Af n (listed.setIfInBounds i true)) t) .stop
def MC.len : MC → Nat
  | .seq a b => a.len + b.len
  | .alt a b => a.len + b.len
  | _ => 1
def trTree (ops : Array Oper) (l : List MI) : Option MC :=
  let pl := predsOf [] ops.toList
  let Ef : Nat → Bool := fun j => match l[j]? with | some m => isQuiet m.op | none => true
  let Pf : Nat → Bool := fun j => match l[j]? with | some m => isP m.op && isQuiet m.op | none => false
  let Af : Nat → Bool := fun j => match l[j]? with | some m => isA m.op && isQuiet m.op | none => false
  let t := mkTree ops pl Ef Pf Af ops.size (Array.replicate ops.size false)
  if treeChk ops pl Ef Pf Af ops.size (Array.replicate ops.size false) [] t && Region.noSelect ops then match treeMC l t with
    | some c => if c.len ≤ 400 then some c else none
    | none => none
  else none
def trCode (P : Program) (byref : FuncId → Bool) : Code → Option MC
  | .skip => some .skip
  | .region _ ops false => (trMis P byref ops ops.toList).map .reg
  | .region _ ops true => match trMis P byref ops ops.toList with
    | some l => match trDraw ops l with
      | some ms => some (.reg ms)
      | none => (trTree ops l).map .draw
    | none => none
  | .seq a b => match trCode P byref a, trCode P byref b with
    | some x, some y => some (.seq x y)
    | _, _ => none
  | .cond c a b => match trOpd 0 c, trCode P byref a, trCode P byref b with
    | some c, some x, some y => some (.cond c x y)
    | _, _, _ => none
  | .block id b => (trCode P byref b).map (.block id)
  | .loop b => (trCode P byref b).map .loop
  | .exit id => some (.exit id)
  | .ret => some .ret
  | _ => none
def trRV (P : Program) : List ResultVar → Option (List RV)
  | [] => some []
  | .tmp k :: r => (trRV P r).map (.tmp k :: ·)
  | .cell k t :: r => match loadN P t, trRV P r with
    | some n, some l => some (.cell k n :: l)
    | _, _ => none

section
variable {P : Program}
theorem trRV_ok : ∀ {l : List ResultVar} {m : List RV}, trRV P l = some m → F2 (RVOk P) l m
  | [], m, h => by injection h with h; subst h; exact .nil
  | .tmp k :: r, m, h => by
    simp only [trRV, Option.map_eq_some_iff] at h
    obtain ⟨l, h1, rfl⟩ := h
    exact .cons rfl (trRV_ok h1)
  | .cell k t :: r, m, h => by
    simp only [trRV] at h
    split at h
    · rename_i n l h1 h2
      injection h with h
      subst h
      exact .cons ⟨rfl, loadN_ok h1⟩ (trRV_ok h2)
    · cases h
theorem trMi_ok {byref : FuncId → Bool} {ops : Array Oper} {mv : Bool} {o : Oper} {m : MOp} {g : Option (Nat × Bool)} (h1 : trOp P byref mv o = some m) (h2 : trGuard ops o.guard = some g) : MiOk P ops o ⟨o.dst, g, m⟩ := by
  obtain ⟨q, l, _⟩ := trOp_ok h1
  refine ⟨rfl, ?_, q, l⟩
  unfold trGuard at h2
  split at h2
  · rename_i hg
    injection h2 with h2
    subst h2
    rw [hg]; trivial
  · rename_i j b hg
    split at h2
    · rename_i g' hg'
      injection h2 with h2
      subst h2
      rw [hg]
      exact ⟨rfl, hg'⟩
    · cases h2
theorem trMis_ok {byref : FuncId → Bool} {ops : Array Oper} : ∀ {l : List Oper} {mis : List MI} (j : Nat), trMis P byref ops l = some mis → (∀ (k : Nat) o, l[k]? = some o → ops[j + k]? = some o) →
    F2 (fun i mi => ∃ o, ops[i]? = some o ∧ MiOk P ops o mi) (List.range' j l.length) mis
  | [], mis, j, h, _ => by injection h with h; subst h; exact .nil
  | o :: r, mis, j, h, hl => by
    unfold trMis at h
    split at h
    · rename_i m g l h1 h2 h3
      injection h with h
      subst h
      refine .cons ⟨o, by simpa using hl 0 o rfl, trMi_ok h1 h2⟩ ?_
      exact trMis_ok (j + 1) h3 fun k o hk => by
        have := hl (k + 1) o (by simpa using hk)
        rw [show j + 1 + k = j + (k + 1) by omega]
        exact this
    · cases h

theorem predsOf_ok {ops : Array Oper} : ∀ {l : List Oper} {done : List (List Nat)}, (∀ (k : Nat) o, l[k]? = some o → ops[done.length + k]? = some o) →
    (∀ j k, k ∈ done.getD j [] → Dep ops .any k j) → ∀ j k, k ∈ (predsOf done l).getD j [] → Dep ops .any k j
  | [], done, _, hd, j, k, h => hd j k h
  | o :: r, done, hl, hd, j, k, h => by
    refine predsOf_ok (l := r) (done := done ++ [predOf done o]) (fun k o' hk => ?_) (fun j k hk => ?_) j k h
    · have := hl (k + 1) o' (by simpa using hk)
      rw [List.length_append, List.length_singleton, show done.length + 1 + k = done.length + (k + 1) by omega]
      exact this
    · rw [List.getD_eq_getElem?_getD] at hk
      rcases Nat.lt_trichotomy j done.length with hj | hj | hj
      · rw [List.getElem?_append_left hj] at hk
        exact hd j k (by rw [List.getD_eq_getElem?_getD]; exact hk)
      · subst hj
        rw [List.getElem?_append_right (Nat.le_refl _)] at hk
        simp only [Nat.sub_self, List.getElem?_cons_zero, Option.getD_some, predOf, List.mem_eraseDups, List.mem_flatMap, List.mem_cons] at hk
        obtain ⟨e, he, hk⟩ := hk
        simp only [edgesOf, List.mem_map, List.mem_filter] at he
        obtain ⟨ed, ⟨he1, he2⟩, he3⟩ := he
        have ho := hl 0 o rfl
        rw [Nat.add_zero] at ho
        have hin : ed ∈ o.after := by simpa using he1
        rcases hk with hk | hk
        · exact .one ho hin he2 (by rw [he3, hk])
        · exact .step ho hin he2 (by rw [he3]; exact hd e k hk)
      · rw [List.getElem?_eq_none (by simp; omega)] at hk
        simp at hk

theorem freeB_ok {ops : Array Oper} {listed : Array Bool} {i : Nat} (F : Nat → Bool) (hf : freeB ops (predsOf [] ops.toList) F listed i = true) : ∀ j oi oj, ops[i]? = some oi → ops[j]? = some oj → j ≠ i → listed.getD j true = false → ¬ Dep ops .any i j → oi.apart ops oj = true ∧ F j = true := by
  intro j oi oj hi hj hji hun hno
  have hlt : j < ops.size := (Array.getElem?_eq_some_iff.1 hj).1
  have := List.all_eq_true.1 hf j (by simpa using hlt)
  simp only [Bool.or_eq_true, beq_iff_eq, Bool.and_eq_true] at this
  rcases this with ((h | h) | h) | h
  · exact absurd h hji
  · rw [hun] at h; cases h
  · refine absurd ?_ hno
    exact predsOf_ok (ops := ops) (l := ops.toList) (done := []) (fun k o hk => by simpa using hk) (fun j k hk => by simp at hk) j i (by simpa [depB] using h)
  · refine ⟨?_, h.2⟩
    have h4 := h.1
    unfold apartB at h4
    rw [hi, hj] at h4
    exact h4

theorem orderChk_ok {ops : Array Oper} {Ef Pf Af : Nat → Bool} : ∀ {l : List Nat} {listed : Array Bool}, orderChk ops (predsOf [] ops.toList) Ef Pf Af listed l = true → OrderOk ops Ef Pf Af listed l
  | [], listed, h => by
    simp only [orderChk] at h
    exact List.isEmpty_iff.1 h
  | i :: r, listed, h => by
    simp only [orderChk, Bool.and_eq_true, Bool.or_eq_true, beq_iff_eq] at h
    obtain ⟨⟨h1, h2⟩, h3⟩ := h
    refine ⟨by simpa using h1, ?_, orderChk_ok h3⟩
    rcases h2 with ⟨hp, hf⟩ | ⟨hp, hf⟩ | h2
    · exact .inl ⟨hp, freeB_ok _ hf⟩
    · exact .inr (.inl ⟨hp, fun j oi oj a b c d e => (freeB_ok _ hf j oi oj a b c d e).1⟩)
    · exact .inr (.inr h2)

theorem trMis_get {byref : FuncId → Bool} {ops : Array Oper} : ∀ {l : List Oper} {mis : List MI}, trMis P byref ops l = some mis → mis.length = l.length ∧ ∀ (k : Nat) o m, l[k]? = some o → mis[k]? = some m →
    ∃ mo g, trOp P byref (mvOf P ops.toList o) o = some mo ∧ trGuard ops o.guard = some g ∧ m = ⟨o.dst, g, mo⟩
  | [], mis, h => by injection h with h; subst h; exact ⟨rfl, fun k o m h => by simp at h⟩
  | o :: r, mis, h => by
    unfold trMis at h
    split at h
    · rename_i mo g l h1 h2 h3
      injection h with h
      subst h
      obtain ⟨i1, i2⟩ := trMis_get h3
      refine ⟨by simp [i1], fun k o' m hk hm => ?_⟩
      cases k with
      | zero =>
        simp only [List.getElem?_cons_zero, Option.some.injEq] at hk hm
        subst hk; subst hm
        exact ⟨mo, g, h1, h2, rfl⟩
      | succ k => exact i2 k o' m (by simpa using hk) (by simpa using hm)
    · cases h

theorem mapM_F2 {R : Nat → MI → Prop} {l : List MI} : ∀ {ord : List Nat} {ms : List MI}, ord.mapM (l[·]?) = some ms → (∀ i m, l[i]? = some m → R i m) → F2 R ord ms
  | [], ms, h, _ => by simp at h; subst h; exact .nil
  | i :: r, ms, h, hR => by
    simp only [List.mapM_cons, Option.bind_eq_bind, Option.bind_eq_some_iff, Option.pure_def, Option.some.injEq] at h
    obtain ⟨m, h1, ms2, h2, rfl⟩ := h
    exact .cons (hR i m h1) (mapM_F2 h2 hR)

theorem trDraw_ok {byref : FuncId → Bool} (hm : P.follows .mixedOrders = true) {id : Nat} {ops : Array Oper} {l ms : List MI} (h1 : trMis P byref ops ops.toList = some l) (h2 : trDraw ops l = some ms) : DrawR P id ops ms := by
  unfold trDraw at h2
  simp only at h2
  split at h2
  · rename_i hc
    simp only [Bool.and_eq_true, beq_iff_eq] at hc
    obtain ⟨⟨hc1, hc2⟩, hc3⟩ := hc
    obtain ⟨hlen, hget⟩ := trMis_get h1
    intro G0 w0 n ups s a w K Q hst hr hk hQ
    have hF := mapM_F2 (R := MiOk2 P ops (fun j => match l[j]? with | some m => isQuiet m.op | none => true) (fun j => match l[j]? with | some m => isP m.op && isQuiet m.op | none => false) (fun j => match l[j]? with | some m => isA m.op && isQuiet m.op | none => false)) h2 (fun i m him => by
      have hil : i < ops.toList.length := by rw [← hlen]; exact (List.getElem?_eq_some_iff.1 him).1
      have hio : ops.toList[i]? = some (ops.toList[i]) := List.getElem?_eq_getElem hil
      obtain ⟨mo, g, e1, e2, e3⟩ := hget i _ m hio him
      refine ⟨ops.toList[i], by rw [← Array.getElem?_toList]; exact hio, by rw [e3]; exact trMi_ok e1 e2, fun hp => ?_, fun hp => ?_, fun he => ?_⟩
      · simp only [him] at hp
        simp only [Bool.and_eq_true] at hp
        refine ⟨hp.2, ?_⟩
        rw [e3] at hp ⊢
        exact (trOp_ok e1).2.2.1 hp.1
      · simp only [him] at hp
        simp only [Bool.and_eq_true] at hp
        refine ⟨hp.2, ?_⟩
        rw [e3] at hp ⊢
        exact (trOp_ok e1).2.2.2 hp.1
      · simp only [him] at he
        exact he)
    have hord := orderChk_ok hc1
    refine wp_mono (Q := fun e a w => match e with | .normal => Q .normal a w | _ => False) ?_ (fun e a w h => by cases e <;> first | exact h | exact h.elim)
    refine wp_region_any hm (wpAny_of_X (E := fun j => match l[j]? with | some m => isQuiet m.op | none => true) _ _ _ _ ?_)
    have hx : Ext w { w with drawn := w.drawn + 1 } := ⟨rfl, rfl, rfl, Nat.le_refl _, fun _ _ _ => rfl, fun b c t h => ⟨c, h, rfl⟩⟩
    have hcl : Closed .any ops (Array.replicate ops.size false) := by
      intro k o hk
      rw [Array.getD_eq_getD_getElem?, Array.getElem?_replicate] at hk
      split at hk <;> cases hk
    have := draw_any hst (Region.noSelect_spec hc3) (Q := fun e a w => match e with | .normal => Q .normal a w | _ => False) (fun _ _ _ h => h) hQ hF hcl hord (hr.ext hx) hk
    rw [hc2] at this
    exact this
  · cases h2

theorem treeChk_ok {ops : Array Oper} {Ef Pf Af : Nat → Bool} : ∀ (t : OT) {fuel : Nat} {listed : Array Bool} {heads : List Nat}, treeChk ops (predsOf [] ops.toList) Ef Pf Af fuel listed heads t = true → TreeOk ops Ef Pf Af fuel listed heads t := by
  intro t
  induction t with
  | nil =>
    intro fuel listed heads h
    simp only [treeChk, Bool.and_eq_true, beq_iff_eq, List.isEmpty_iff] at h
    exact ⟨h.1.1, h.1.2, h.2⟩
  | one i r ih =>
    intro fuel listed heads h
    cases fuel with
    | zero => simp [treeChk] at h
    | succ m =>
      simp only [treeChk, Bool.and_eq_true, Bool.or_eq_true, beq_iff_eq, List.isEmpty_iff] at h
      obtain ⟨⟨⟨h0, h1⟩, h2⟩, h3⟩ := h
      refine ⟨h0, m, rfl, by simpa using h1, ?_, ih h3⟩
      rcases h2 with ⟨hp, hf⟩ | ⟨hp, hf⟩ | h2
      · exact .inl ⟨hp, freeB_ok _ hf⟩
      · exact .inr (.inl ⟨hp, fun j oi oj a b c d e => (freeB_ok _ hf j oi oj a b c d e).1⟩)
      · exact .inr (.inr h2)
  | alt i r rest ih1 ih2 =>
    intro fuel listed heads h
    cases fuel with
    | zero => simp [treeChk] at h
    | succ m =>
      simp only [treeChk, Bool.and_eq_true] at h
      exact ⟨⟨m, rfl, by simpa using h.1.1, ih1 h.1.2⟩, ih2 h.2⟩
  | stop =>
    intro fuel listed heads h
    simp only [treeChk, Bool.and_eq_true, Bool.not_eq_true', List.all_eq_true] at h
    exact ⟨fun e => by rw [e] at h; simp at h, fun j hj => by simpa using h.2 j hj⟩

theorem trTree_ok {byref : FuncId → Bool} (hm : P.follows .mixedOrders = true) {id : Nat} {ops : Array Oper} {l : List MI} {mc : MC} (h1 : trMis P byref ops ops.toList = some l) (h2 : trTree ops l = some mc) : DrawM P id ops mc := by
  unfold trTree at h2
  simp only at h2
  split at h2
  · rename_i hc
    simp only [Bool.and_eq_true] at hc
    obtain ⟨hc1, hc3⟩ := hc
    split at h2
    · rename_i c hct
      split at h2
      · injection h2 with h2
        subst h2
        obtain ⟨hlen, hget⟩ := trMis_get h1
        intro G0 w0 n ups s a w K Kx Kr Q hst hr hk hQ
        have hl : ∀ i m, l[i]? = some m → MiOk2 P ops (fun j => match l[j]? with | some m => isQuiet m.op | none => true) (fun j => match l[j]? with | some m => isP m.op && isQuiet m.op | none => false) (fun j => match l[j]? with | some m => isA m.op && isQuiet m.op | none => false) i m := fun i m him => by
          have hil : i < ops.toList.length := by rw [← hlen]; exact (List.getElem?_eq_some_iff.1 him).1
          have hio : ops.toList[i]? = some (ops.toList[i]) := List.getElem?_eq_getElem hil
          obtain ⟨mo, g, e1, e2, e3⟩ := hget i _ m hio him
          refine ⟨ops.toList[i], by rw [← Array.getElem?_toList]; exact hio, by rw [e3]; exact trMi_ok e1 e2, fun hp => ?_, fun hp => ?_, fun he => ?_⟩
          · simp only [him] at hp
            simp only [Bool.and_eq_true] at hp
            refine ⟨hp.2, ?_⟩
            rw [e3] at hp ⊢
            exact (trOp_ok e1).2.2.1 hp.1
          · simp only [him] at hp
            simp only [Bool.and_eq_true] at hp
            refine ⟨hp.2, ?_⟩
            rw [e3] at hp ⊢
            exact (trOp_ok e1).2.2.2 hp.1
          · simp only [him] at he
            exact he
        refine wp_mono (Q := fun e a w => match e with | .normal => Q .normal a w | _ => False) ?_ (fun e a w h => by cases e <;> first | exact h | exact h.elim)
        refine wp_region_any hm (wpAny_of_X (E := fun j => match l[j]? with | some m => isQuiet m.op | none => true) _ _ _ _ ?_)
        have hx : Ext w { w with drawn := w.drawn + 1 } := ⟨rfl, rfl, rfl, Nat.le_refl _, fun _ _ _ => rfl, fun b c t h => ⟨c, h, rfl⟩⟩
        have hcl : Closed .any ops (Array.replicate ops.size false) := by
          intro k o hk
          rw [Array.getD_eq_getD_getElem?, Array.getElem?_replicate] at hk
          split at hk <;> cases hk
        exact tree_any hst (Region.noSelect_spec hc3) (Q := fun e a w => match e with | .normal => Q .normal a w | _ => False) (fun _ _ _ h => h) hQ hl _ _ _ _ _ _ _ _ hcl (treeChk_ok _ hc1) hct (hr.ext hx) hk (fun _ _ j hj => by cases hj)
      · cases h2
    · cases h2
  · cases h2

theorem trCode_ok {byref : FuncId → Bool} (hm : P.follows .mixedOrders = true) : ∀ {c : Code} {mc : MC}, trCode P byref c = some mc → CodeOk P c mc := by
  intro c
  induction c with
  | region id ops d =>
    intro mc h
    cases d with
    | false =>
      simp only [trCode, Option.map_eq_some_iff] at h
      obtain ⟨mis, hmm, rfl⟩ := h
      have := trMis_ok 0 hmm (fun k o hk => by rw [Nat.zero_add]; simpa using hk)
      show F2 _ (List.range ops.size) mis
      rw [List.range_eq_range']
      simpa using this
    | true =>
      simp only [trCode] at h
      split at h
      · rename_i l hl
        split at h
        · rename_i ms hms
          injection h with h
          subst h
          exact trDraw_ok hm hl hms
        · rw [Option.map_eq_some_iff] at h
          obtain ⟨ms, hms, rfl⟩ := h
          exact trTree_ok hm hl hms
      · cases h
  | skip => intro mc h; simp only [trCode] at h; injection h with h; subst h; trivial
  | seq a b iha ihb =>
    intro mc h
    simp only [trCode] at h
    split at h
    · rename_i x y h1 h2
      injection h with h
      subst h
      exact ⟨iha h1, ihb h2⟩
    · cases h
  | cond c a b iha ihb =>
    intro mc h
    simp only [trCode] at h
    split at h
    · rename_i c' x y h0 h1 h2
      injection h with h
      subst h
      exact ⟨trOpd_ok h0, iha h1, ihb h2⟩
    · cases h
  | block id b ih =>
    intro mc h
    simp only [trCode, Option.map_eq_some_iff] at h
    obtain ⟨x, hx, rfl⟩ := h
    exact ⟨rfl, ih hx⟩
  | loop b ih =>
    intro mc h
    simp only [trCode, Option.map_eq_some_iff] at h
    obtain ⟨x, hx, rfl⟩ := h
    exact ih hx
  | exit id => intro mc h; simp only [trCode] at h; injection h with h; subst h; exact rfl
  | ret => intro mc h; simp only [trCode] at h; injection h with h; subst h; trivial
  | _ => intro mc h; simp [trCode] at h
end
end Go.R
