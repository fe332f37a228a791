/- The translator: one operation. -/
import Derived.Test.YtgpicngmadkdoaaDoorRIn
set_option linter.unusedVariables false
set_option linter.unusedSimpArgs false
namespace Go.R
open Go.RowKit

def szOf (P : Program) (t : TypeId) : Option Nat := (P.info? t).map (·.size)
def slElem (P : Program) (t : TypeId) : Option TypeId := match P.underlying t with
  | some (.slice e) => some e
  | _ => none
def elemSz (P : Program) (t : TypeId) : Option Nat := (slElem P t).bind (szOf P)
def loadN (P : Program) (t : TypeId) : Option (Option Nat) := match P.underlying t with
  | some (.struct _) => (szOf P t).map some
  | some (.array _ _) => (szOf P t).map some
  | some _ => some none
  | none => none
def cat? : List (Option (List D)) → Option (List D)
  | [] => some []
  | some x :: r => (cat? r).map (x ++ ·)
  | none :: _ => none
def zeroD1 (P : Program) (own : Bool) : Nat → TypeId → Option (List D)
  | 0, _ => none
  | n + 1, t => match P.underlying t with
    | some (.int k) => some [.int k 0]
    | some .bool => some [.bool false]
    | some .string => some [.str ⟨#[]⟩]
    | some (.pointer _) => some [.nilp]
    | some (.slice e) => (szOf P e).map fun sz => [if own then .sl true sz 0 (fun _ _ => .dead) else .e0 sz]
    | some (.struct fs) => cat? (fs.toList.map fun f => zeroD1 P own n f.type)
    | _ => none
def zeroChk1 : D → Value → Bool
  | .int k n, .int k' n' => k == k' && n == n'
  | .bool b, .bool b' => b == b'
  | .str s, .string s' => decide (s = s')
  | .nilp, .pointer none => true
  | .sl true _ 0 _, .slice none 0 0 => true
  | .e0 _, .slice none 0 0 => true
  | _, _ => false
def zeroChk : List D → List Value → Bool
  | [], [] => true
  | d :: ds, v :: vs => zeroChk1 d v && zeroChk ds vs
  | _, _ => false
def zeroOf (P : Program) (own : Bool) (t : TypeId) : Option (List D) :=
  match zeroD1 P own 8 t with
  | some z => match (P.info? t).bind (·.zero) with
    | some v => if zeroChk z v.cells.toList then some z else none
    | none => none
  | none => none
def D.isSl : D → Bool
  | .sl .. => true
  | _ => false

section
variable {P : Program} {G : Gh} {H : Heap} {w : World}

theorem szOf_ok {t : TypeId} {n : Nat} (h : szOf P t = some n) : ∀ w, (sizeOf t).run P w = .ok n w := by
  intro w
  unfold szOf at h
  cases hi : P.info? t with
  | none => rw [hi] at h; cases h
  | some i =>
    rw [hi] at h
    injection h with h
    simp [sizeOf, typeInfo, hi, h]
theorem slElem_ok {t e : TypeId} (h : slElem P t = some e) : P.underlying t = some (.slice e) := by
  unfold slElem at h
  split at h
  · rename_i e' he
    injection h with h
    subst h
    exact he
  · cases h
theorem loadN_ok {t : TypeId} {n : Option Nat} (h : loadN P t = some n) : LoadOk P t n := by
  unfold loadN at h
  split at h
  · rename_i hu
    rw [Option.map_eq_some_iff] at h
    obtain ⟨m, hm, rfl⟩ := h
    exact ⟨fun w => by simp [isAgg, run_underlying hu], szOf_ok hm⟩
  · rename_i hu
    rw [Option.map_eq_some_iff] at h
    obtain ⟨m, hm, rfl⟩ := h
    exact ⟨fun w => by simp [isAgg, run_underlying hu], szOf_ok hm⟩
  · rename_i d h1 h2 hu
    injection h with h
    subst h
    intro w
    cases d <;> first | exact absurd rfl (h1 _) | exact absurd rfl (h2 _ _) | simp [isAgg, run_underlying hu] | exact (h1 _ hu).elim | exact (h2 _ _ hu).elim
  · cases h
theorem zeroChk1_ok {d : D} {v : Value} (h : zeroChk1 d v = true) : zeroD d v := by
  unfold zeroChk1 at h
  split at h
  · simp only [Bool.and_eq_true, beq_iff_eq] at h
    obtain ⟨rfl, rfl⟩ := h
    rfl
  · simp only [beq_iff_eq] at h
    subst h; rfl
  · simp only [decide_eq_true_eq] at h
    subst h; rfl
  · rfl
  · exact ⟨rfl, rfl, rfl⟩
  · rfl
  · cases h
theorem zeroChk_ok : ∀ {ds : List D} {vs : List Value}, zeroChk ds vs = true → vs.length = ds.length ∧ ∀ (k : Nat) (d : D) (u : Value), ds[k]? = some d → vs[k]? = some u → zeroD d u
  | [], [], _ => ⟨rfl, fun k d u h => by simp at h⟩
  | d :: ds, v :: vs, h => by
    simp only [zeroChk, Bool.and_eq_true] at h
    obtain ⟨h1, h2⟩ := zeroChk_ok h.2
    refine ⟨by simp [h1], fun k x u hx hu => ?_⟩
    cases k with
    | zero =>
      simp only [List.getElem?_cons_zero, Option.some.injEq] at hx hu
      subst hx; subst hu
      exact zeroChk1_ok h.1
    | succ k => exact h2 k x u (by simpa using hx) (by simpa using hu)
  | [], _ :: _, h => by cases h
  | _ :: _, [], h => by cases h
theorem zeroOf_ok {own : Bool} {t : TypeId} {z : List D} (h : zeroOf P own t = some z) : ∃ i zv, P.info? t = some i ∧ i.zero = some zv ∧ (∀ w, (zeroValue t).run P w = .ok zv w) ∧ CellsRel zeroD z zv.cells := by
  unfold zeroOf at h
  split at h
  · split at h
    · rename_i v hv
      split at h
      · rename_i hc
        injection h with h
        subst h
        cases hi : P.info? t with
        | none => rw [hi] at hv; cases hv
        | some i =>
          rw [hi] at hv
          have hz : i.zero = some v := hv
          obtain ⟨h1, h2⟩ := zeroChk_ok hc
          exact ⟨i, v, rfl, hz, fun w => by simp [zeroValue, typeInfo, hi, hz], by simpa using h1, fun k d u hd hu => h2 k d u hd (by simpa using hu)⟩
      · cases h
    · cases h
  · cases h
end

/-- An operand; 'sz': of a nil slice's elements. -/
def trOpd (sz : Nat) : Operand → Option Opd
  | .tmp n => some (.t n)
  | .const (.int k n) => some (.c (.d (.int k n)))
  | .const (.bool b) => some (.c (.d (.bool b)))
  | .const (.string s) => some (.c (.d (.str s)))
  | .const (.pointer none) => some (.c (.d .nilp))
  | .const (.slice none 0 0) => some (.c (.d (.e0 sz)))
  | .func f => some (.c (.d (.fn f [])))
  | _ => none
theorem trOpd_ok {sz : Nat} {x : Operand} {y : Opd} (h : trOpd sz x = some y) : OpdOk x y := by
  unfold trOpd at h
  split at h <;> first | (cases h; done) | skip
  all_goals injection h with h; subst h
  · rfl
  · exact fun G H w => ⟨rfl, rfl⟩
  · exact fun G H w => ⟨rfl, rfl⟩
  · exact fun G H w => ⟨rfl, rfl⟩
  · exact fun G H w => ⟨rfl, rfl⟩
  · exact fun G H w => ⟨rfl, none, rfl⟩
  · exact ⟨rfl, rfl⟩
def trOpds : List (Nat × Operand) → Option (List Opd)
  | [] => some []
  | (sz, x) :: r => match trOpd sz x, trOpds r with
    | some y, some ys => some (y :: ys)
    | _, _ => none
theorem trOpds_ok : ∀ {xs : List (Nat × Operand)} {ys : List Opd}, trOpds xs = some ys → F2 OpdOk (xs.map (·.2)) ys
  | [], ys, h => by injection h with h; subst h; exact .nil
  | (sz, x) :: r, ys, h => by
    unfold trOpds at h
    split at h
    · rename_i y ys' h1 h2
      injection h with h
      subst h
      exact .cons (trOpd_ok h1) (trOpds_ok h2)
    · cases h
def trOpt : Option Operand → Option (Option Opd)
  | none => some none
  | some x => (trOpd 0 x).map some
theorem trOpt_ok {x : Option Operand} {y : Option Opd} (h : trOpt x = some y) : OptOk x y := by
  cases x with
  | none => injection h with h; subst h; trivial
  | some x =>
    simp only [trOpt, Option.map_eq_some_iff] at h
    obtain ⟨y', h1, rfl⟩ := h
    exact trOpd_ok h1
/-- A call's arguments with the sizes of their types' elements. -/
def trArgs (P : Program) (c : Call) : Option (List Opd) := trOpds (c.args.toList.zipIdx.map fun x => (((c.argTypes[x.2]?).bind (elemSz P)).getD 0, x.1))
theorem zip_snd : ∀ (l : List Operand) (j : Nat) (f : Operand × Nat → Nat), ((l.zipIdx j).map fun x => (f x, x.1)).map (·.2) = l
  | [], _, _ => rfl
  | x :: l, j, f => by simp only [List.zipIdx_cons, List.map_cons]; rw [zip_snd l (j + 1) f]
theorem trArgs_ok {P : Program} {c : Call} {ys : List Opd} (h : trArgs P c = some ys) : F2 OpdOk c.args.toList ys := by
  have := trOpds_ok h
  rwa [zip_snd] at this
theorem callOk_run {P : Program} {w : World} {a : Act} {o : Oper} {c : Call} {g : FuncId} (h : callOk P g = true) (ho : o.op = .call c) (hc : c.callee = .value (.func g)) : (execOp a.eval o).run P w = .ok (.enter g (c.args.map a.eval)) w := by
  unfold callOk at h
  cases hf : P.funcs[g]? with
  | none => rw [hf] at h; cases h
  | some fn =>
    rw [hf] at h
    simp only [Bool.and_eq_true, bne_iff_ne, ne_eq] at h
    obtain ⟨h1, h2⟩ := h
    cases hb : fn.body with
    | none => rw [hb] at h1; cases h1
    | some b =>
      simp [execOp, ho, resolve, hc, Act.eval, Deferred.ofValue, invoke, callFunc, hf, h2, hb]
theorem callOk_runF {P : Program} {w : World} {a : Act} {o : Oper} {c : Call} {f : Operand} {vs : Array Value} {g : FuncId} (h : callOk P g = true) (ho : o.op = .call c) (hc : c.callee = .value f) (hv : a.eval f = .func (.func g) #[] vs) : (execOp a.eval o).run P w = .ok (.enter g (c.args.map a.eval ++ vs)) w := by
  unfold callOk at h
  cases hf : P.funcs[g]? with
  | none => rw [hf] at h; cases h
  | some fn =>
    rw [hf] at h
    simp only [Bool.and_eq_true, bne_iff_ne, ne_eq] at h
    obtain ⟨h1, h2⟩ := h
    cases hb : fn.body with
    | none => rw [hb] at h1; cases h1
    | some b =>
      simp [execOp, ho, resolve, hc, hv, Deferred.ofValue, invoke, callFunc, hf, h2, hb]
end Go.R
