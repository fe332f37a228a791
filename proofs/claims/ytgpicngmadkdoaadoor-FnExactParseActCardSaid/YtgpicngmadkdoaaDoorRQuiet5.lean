/- The operations that change no memory, continued: arithmetic, conversions, slices of slices, make. -/
import Derived.Test.YtgpicngmadkdoaaDoorRQuiet4
import Derived.Laws.StructEq
set_option linter.unusedVariables false
set_option linter.unusedSimpArgs false
namespace Go.R
open Go.RowKit

section
variable {P : Program} {G : Gh} {H : Heap} {w : World} {ts : List T} {a : Act} {x x2 : Operand} {y y2 : Opd}

theorem guard_int (b : BinOp) (t : TypeId) (x y : Operand) (k k2 : IntKind) (p q : Int) : (eqGuard b t x y (.int k p) (.int k2 q)).run P w = .ok () w := by
  cases b <;> simp [eqGuard]
theorem guard_bool (b : BinOp) (t : TypeId) (x y : Operand) (p q : Bool) : (eqGuard b t x y (.bool p) (.bool q)).run P w = .ok () w := by
  cases b <;> simp [eqGuard]
theorem guard_str (b : BinOp) (t : TypeId) (x y : Operand) (p q : ByteArray) : (eqGuard b t x y (.string p) (.string q)).run P w = .ok () w := by
  cases b <;> simp [eqGuard]

/-- What '==' of two values of a struct type gives. -/
def EqOk (P : Program) (t : TypeId) (ks : List BK) : Prop := ∀ (w : World) (xs ys : List D) (us vs : List Value) (r : Bool) (x y : Operand), eqDs ks xs ys = some r →
  F2 (fun d (u : Value) => d.RO w (fun _ => True) u) xs us → F2 (fun d (u : Value) => d.RO w (fun _ => True) u) ys vs →
  (∀ b, (eqGuard b t x y (.agg us.toArray) (.agg vs.toArray)).run P w = .ok () w) ∧ (Op.equal t (.agg us.toArray) (.agg vs.toArray)).run P w = .ok r w

def BinOk (P : Program) (t : TypeId) : BK → Prop
  | .int _ => True
  | .bool => P.underlying t = some .bool
  | .str => True
  | .agg ks => EqOk P t ks

theorem binInt_run {b : BinOp} {k : IntKind} {t : TypeId} {p q : Int} {d : D} (h : binInt b k p q = some d) : ∃ v, (∀ w', (binOp b t (.int k p) (.int k q)).run P w' = .ok v w') ∧ TR G H w (.d d) v := by
  cases b <;> simp only [binInt] at h <;> first | (cases h; done) | skip
  all_goals injection h with h; subst h
  case add => exact ⟨.int k (k.wrap (p + q)), fun w' => by simp [binOp, Op.intArith], rfl, by rw [iadd_eq]; rfl⟩
  case sub => exact ⟨.int k (k.wrap (p - q)), fun w' => by simp [binOp, Op.intArith], rfl, by rw [isub_eq]; rfl⟩
  case mul => exact ⟨.int k (k.wrap (p * q)), fun w' => by simp [binOp, Op.intArith], rfl, by rw [imul_eq]; rfl⟩
  case and => exact ⟨_, fun w' => by simp [binOp, Op.intBits, Go.bits], rfl, rfl⟩
  case or => exact ⟨_, fun w' => by simp [binOp, Op.intBits, Go.bits], rfl, rfl⟩
  case eql => exact ⟨.bool (p == q), fun w' => by simp [binOp, Op.intCmp], rfl, by rw [ieq_eq]; rfl⟩
  case neq => exact ⟨.bool (!(p == q)), fun w' => by simp [binOp, Op.intCmp, bne], rfl, by rw [ieq_eq]; rfl⟩
  case lss => exact ⟨.bool (decide (p < q)), fun w' => by simp [binOp, Op.intCmp], rfl, by rw [ilt_eq]; rfl⟩
  case leq => exact ⟨.bool (decide (p ≤ q)), fun w' => by simp [binOp, Op.intCmp], rfl, by rw [ile_eq]; rfl⟩
  case gtr => exact ⟨.bool (decide (q < p)), fun w' => by simp [binOp, Op.intCmp], rfl, by rw [ilt_eq]; rfl⟩
  case geq => exact ⟨.bool (decide (q ≤ p)), fun w' => by simp [binOp, Op.intCmp], rfl, by rw [ile_eq]; rfl⟩

theorem eqDs_ro {G : Gh} {H : Heap} : ∀ {ks : List BK} {xs ys : List D} {r : Bool} {us vs : List Value}, eqDs ks xs ys = some r →
    us.length = xs.length → (∀ (k : Nat) (x : D) (u : Value), xs[k]? = some x → us[k]? = some u → VR G H w x u) →
    vs.length = ys.length → (∀ (k : Nat) (x : D) (u : Value), ys[k]? = some x → vs[k]? = some u → VR G H w x u) →
    F2 (fun d (u : Value) => ∀ w', d.RO w' (fun _ => True) u) xs us ∧ F2 (fun d (u : Value) => ∀ w', d.RO w' (fun _ => True) u) ys vs
  | [], [], [], r, us, vs, h, h1, h2, h3, h4 => by
    have e1 : us = [] := List.eq_nil_of_length_eq_zero h1
    have e2 : vs = [] := List.eq_nil_of_length_eq_zero h3
    subst e1; subst e2
    exact ⟨.nil, .nil⟩
  | [], [], _ :: _, r, us, vs, h, _, _, _, _ => by simp [eqDs] at h
  | [], _ :: _, _, r, us, vs, h, _, _, _, _ => by simp [eqDs] at h
  | _ :: _, [], _, r, us, vs, h, _, _, _, _ => by simp [eqDs] at h
  | _ :: _, _ :: _, [], r, us, vs, h, _, _, _, _ => by simp [eqDs] at h
  | k :: ks, x :: xs, y :: ys, r, u :: us, v :: vs, h, h1, h2, h3, h4 => by
    simp only [eqDs] at h
    split at h
    · rename_i p q e1 e2
      obtain ⟨h5, h6⟩ := eqDs_ro (ks := ks) (xs := xs) (ys := ys) (us := us) (vs := vs) e2 (by simpa using h1) (fun k x u hx hu => h2 (k + 1) x u (by simpa using hx) (by simpa using hu))
        (by simpa using h3) (fun k x u hx hu => h4 (k + 1) x u (by simpa using hx) (by simpa using hu))
      have a1 := h2 0 x u rfl rfl
      have a2 := h4 0 y v rfl rfl
      unfold eqD at e1
      split at e1
      · exact ⟨.cons (fun _ => a1) h5, .cons (fun _ => a2) h6⟩
      · exact ⟨.cons (fun _ => a1) h5, .cons (fun _ => a2) h6⟩
      · exact ⟨.cons (fun _ => a1) h5, .cons (fun _ => a2) h6⟩
      · cases e1
    · cases h
  | _ :: _, _ :: _, _ :: _, r, [], _, h, h1, _, _, _ => by simp at h1
  | _ :: _, _ :: _, _ :: _, r, _ :: _, [], h, _, _, h3, _ => by simp at h3

theorem ext_bin {o : Oper} {b : BinOp} {t t2 : TypeId} {k : BK} {K : Heap → T → Prop} (Fn : FnT) (hh : HeapOk G H w) (ht : Temps G H w ts a.tmps) (ho : o.op = .binOp b t x x2 t2) (hx : OpdOk x y) (hx2 : OpdOk x2 y2)
    (hb : BinOk P t k) (hk : quiet Fn ts H (.bin b k y y2) K) : GivesA P G H w a o K := by
  have hv := get_ok hx ht
  have hv2 := get_ok hx2 ht
  simp only [quiet] at hk
  split at hk
  · rename_i k k1 p k2 q e1 e2
    rw [e1] at hv
    rw [e2] at hv2
    have ev : a.eval x = .int k1 p := hv.2
    have ev2 : a.eval x2 = .int k2 q := hv2.2
    split at hk
    · rename_i d hd
      obtain ⟨rfl, rfl, hk⟩ := hk
      obtain ⟨v, hr, htv⟩ := binInt_run (P := P) (G := G) (H := H) (w := w) (t := t) hd
      exact GivesA.val (v := v) (t := .d d) (fun w' => by simp [execOp, ho, ev, ev2, guard_int, hr]) htv hk
    · split at hk
      · obtain ⟨rfl, rfl, h0, hk⟩ := hk
        exact GivesA.val (v := .int _ _) (t := .d (.int _ _)) (fun w' => by simp [execOp, ho, ev, ev2, guard_int, binOp, Op.intDiv, h0]) ⟨rfl, rfl⟩ hk
      · obtain ⟨rfl, rfl, h0, hk⟩ := hk
        exact GivesA.val (v := .int _ _) (t := .d (.int _ _)) (fun w' => by simp [execOp, ho, ev, ev2, guard_int, binOp, Op.intDiv, h0]) ⟨rfl, rfl⟩ hk
      · exact hk.elim
  · rename_i p q e1 e2
    rw [e1] at hv
    rw [e2] at hv2
    have ev : a.eval x = .bool p := hv.2
    have ev2 : a.eval x2 = .bool q := hv2.2
    have hu : P.underlying t = some .bool := hb
    have hq : ∀ w, (Op.equal t (.bool p) (.bool q)).run P w = .ok (p == q) w := fun w => run_equalIn_bool' (P := P) w 9999 t p q hu
    split at hk
    · exact GivesA.val (v := .bool (p == q)) (t := .d (.bool _)) (fun w' => by simp [execOp, ho, ev, ev2, guard_bool, binOp, hq]) ⟨rfl, rfl⟩ hk
    · exact GivesA.val (v := .bool (!(p == q))) (t := .d (.bool _)) (fun w' => by simp [execOp, ho, ev, ev2, guard_bool, binOp, hq]) ⟨rfl, rfl⟩ hk
    · exact hk.elim
  · rename_i p q e1 e2
    rw [e1] at hv
    rw [e2] at hv2
    have ev : a.eval x = .string p := hv.2
    have ev2 : a.eval x2 = .string q := hv2.2
    split at hk
    · exact GivesA.val (v := .bool (strEq p q)) (t := .d (.bool _)) (fun w' => by simp [execOp, ho, ev, ev2, guard_str, binOp, Op.stringOp, strEq]) ⟨rfl, rfl⟩ hk
    · exact GivesA.val (v := .bool (!strEq p q)) (t := .d (.bool _)) (fun w' => by simp [execOp, ho, ev, ev2, guard_str, binOp, Op.stringOp, strEq]) ⟨rfl, rfl⟩ hk
    · obtain ⟨hs, hk⟩ := hk
      have hs' : ¬ ((p.size : Int) + q.size > IntKind.i64.max) := by
        show ¬ ((p.size : Int) + q.size > 2 ^ 63 - 1)
        omega
      have hs' : ¬ (((p.size + q.size : Nat) : Int) > IntKind.i64.max) := by
        show ¬ (((p.size + q.size : Nat) : Int) > 2 ^ 63 - 1)
        omega
      refine GivesA.val (v := .string (p ++ q)) (t := .d (.str _)) ?_ ⟨rfl, rfl⟩ hk
      intro w'; simp only [execOp, ho, ev, ev2, Sem.run_bind, guard_str, binOp, Op.stringOp, if_neg hs', Result.andThen_ok, Sem.run_pure]
    · exact hk.elim
  · rename_i ks xs ys e1 e2
    rw [e1] at hv
    rw [e2] at hv2
    obtain ⟨us, ev, hl, hc⟩ := hv
    obtain ⟨vs, ev2, hl2, hc2⟩ := hv2
    split at hk
    · rename_i r hr
      obtain ⟨f1, f2⟩ := eqDs_ro (G := G) (H := H) (w := w) hr hl (fun k x u hx hu => (hc k x u hx hu).2) hl2 (fun k x u hx hu => (hc2 k x u hx hu).2)
      have hge : ∀ w', (∀ b, (eqGuard b t x x2 (.agg us.toArray) (.agg vs.toArray)).run P w' = .ok () w') ∧ (Op.equal t (.agg us.toArray) (.agg vs.toArray)).run P w' = .ok r w' := fun w' =>
        hb w' xs ys us vs r x x2 hr (f1.imp fun d u h => h w') (f2.imp fun d u h => h w')
      split at hk
      · exact GivesA.val (v := .bool r) (t := .d (.bool _)) (fun w' => by simp [execOp, ho, ev, ev2, (hge w').1, binOp, (hge w').2]) ⟨rfl, rfl⟩ hk
      · exact GivesA.val (v := .bool (!r)) (t := .d (.bool _)) (fun w' => by simp [execOp, ho, ev, ev2, (hge w').1, binOp, (hge w').2]) ⟨rfl, rfl⟩ hk
      · exact hk.elim
    · exact hk.elim
  · exact hk.elim

theorem ext_shift {o : Oper} {b : BinOp} {t t2 : TypeId} {k k2 : IntKind} {K : Heap → T → Prop} (Fn : FnT) (hh : HeapOk G H w) (ht : Temps G H w ts a.tmps) (ho : o.op = .binOp b t x x2 t2) (hx : OpdOk x y) (hx2 : OpdOk x2 y2)
    (hk : quiet Fn ts H (.shift b k k2 y y2) K) : GivesA P G H w a o K := by
  have hv := get_ok hx ht
  have hv2 := get_ok hx2 ht
  simp only [quiet] at hk
  split at hk
  · rename_i k1 p k3 q e1 e2
    rw [e1] at hv
    rw [e2] at hv2
    have ev : a.eval x = .int k1 p := hv.2
    have ev2 : a.eval x2 = .int k3 q := hv2.2
    obtain ⟨rfl, rfl, h0, hk⟩ := hk
    have hn : ¬ q < 0 := by omega
    split at hk
    · exact GivesA.val (v := .int _ _) (t := .d (.int _ _)) (fun w' => by simp [execOp, ho, ev, ev2, guard_int, binOp, Op.shift, hn]) ⟨rfl, rfl⟩ hk
    · exact GivesA.val (v := .int _ _) (t := .d (.int _ _)) (fun w' => by simp [execOp, ho, ev, ev2, guard_int, binOp, Op.shift, hn]) ⟨rfl, rfl⟩ hk
    · exact hk.elim
  · exact hk.elim

theorem ext_un {o : Oper} {u : UnOp} {t : TypeId} {k : BK} {K : Heap → T → Prop} (Fn : FnT) (hh : HeapOk G H w) (ht : Temps G H w ts a.tmps) (ho : o.op = .unOp u t x) (hx : OpdOk x y)
    (hk : quiet Fn ts H (.un u k y) K) : GivesA P G H w a o K := by
  have hv := get_ok hx ht
  simp only [quiet] at hk
  split at hk
  · rename_i p e1
    rw [e1] at hv
    have ev : a.eval x = .bool p := hv.2
    exact GivesA.val (v := .bool (!p)) (t := .d (.bool _)) (fun w' => by simp [execOp, ho, ev, Op.unary]) ⟨rfl, rfl⟩ hk
  · rename_i k k1 p e1
    rw [e1] at hv
    have ev : a.eval x = .int k1 p := hv.2
    obtain ⟨rfl, hk⟩ := hk
    exact GivesA.val (v := .int _ _) (t := .d (.int _ _)) (fun w' => by simp [execOp, ho, ev, Op.unary, Op.intArith]) ⟨rfl, rfl⟩ hk
  · exact hk.elim
end
end Go.R
