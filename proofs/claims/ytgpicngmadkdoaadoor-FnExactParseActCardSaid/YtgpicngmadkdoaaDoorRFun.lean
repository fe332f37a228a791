/- Functions: from 'ev' of a body to a contract. -/
import Derived.Test.YtgpicngmadkdoaaDoorRCtl
set_option linter.unusedVariables false
set_option linter.unusedSimpArgs false
namespace Go.R
open Go.RowKit

inductive RV where
  | tmp (k : Nat)
  | cell (k : Nat) (n : Option Nat)
def rets (ts : List T) (H : Heap) : List RV → (List T → Prop) → Prop
  | [], K => K []
  | .tmp k :: r, K => rets ts H r fun l => K (ts.getD k (.d .dead) :: l)
  | .cell k n :: r, K => quiet (fun _ _ _ => False) ts H (.load n (.t k)) fun _ t => rets ts H r fun l => K (t :: l)
def final : List T → T
  | [t] => t
  | l => .tup l
def retD : Nat → List D → List Bool → List D
  | j, v :: vs, true :: ms => (match v with | .sl _ _ n _ => .own j [] n 0 n | x => x) :: retD (j + 1) vs ms
  | j, v :: vs, false :: ms => v :: retD j vs ms
  | _, _, _ => []
def retH : List D → List Bool → Heap
  | .sl _ sz n a :: vs, true :: ms => some (.arr sz n a) :: retH vs ms
  | _ :: vs, _ :: ms => retH vs ms
  | _, _ => []
def regroup : List T → List D → List T
  | .d _ :: ts, x :: xs => .d x :: regroup ts xs
  | .agg cs :: ts, xs => .agg (xs.take cs.length) :: regroup ts (xs.drop cs.length)
  | _, _ => []
/-- What a function gives back whose body has come to s. -/
def retPost (rvs : List RV) (Post : T → Heap → Prop) (s : St) : Prop :=
  rets s.ts s.H rvs fun l => (l.all T.known) = true ∧ match takeAll (l.flatMap T.cells) s.H with
    | some (vs, _, ms, ok) => ok ∧ Post (final (regroup l (retD 0 vs ms))) (retH vs ms)
    | none => False
def inPost (rvs : List RV) (Post : T → Heap → List (List T) → Prop) (s : St) : Prop :=
  rets s.ts s.H rvs fun l => (l.all T.known) = true ∧ Post (final l) s.H s.up

/-- One result. -/
def resOne (tmps : Array Value) : ResultVar → Sem Value
  | .tmp t => pure (tmps.getD t undef)
  | .cell a t => do loadVar t (← asAddr (tmps.getD a undef))
def packV (vs : Array Value) : Value := if h : vs.size = 1 then vs[0] else .tuple vs
theorem results_eq (fn : Func) (tmps : Array Value) : results fn tmps = (fn.results.mapM (resOne tmps) >>= fun vs => pure (packV vs)) := rfl

def RVOk (P : Program) : ResultVar → RV → Prop
  | .tmp t, .tmp k => t = k
  | .cell a t, .cell k n => a = k ∧ LoadOk P t n
  | _, _ => False

section
variable {P : Program} {G G0 G1 G' : Gh} {H H1 N E Hg : Heap} {w w0 w1 : World} {t : T} {v : Value} {s : St} {a : Act}

theorem F2.append {α β : Type} {R : α → β → Prop} {xs xs' : List α} {ys ys' : List β} (h : F2 R xs ys) (k : F2 R xs' ys') : F2 R (xs ++ xs') (ys ++ ys') := by
  induction h with
  | nil => exact k
  | cons h _ ih => exact .cons h ih

theorem rets_ok {rvs : List ResultVar} {rvs' : List RV} (h : F2 (RVOk P) rvs rvs') : ∀ {K : List T → Prop}, HeapOk G H w → Temps G H w s.ts a.tmps → rets s.ts H rvs' K →
    ∃ vs l, (rvs.mapM (resOne a.tmps)).run P w = .ok vs w ∧ F2 (TR G H w) l vs ∧ K l := by
  induction h with
  | nil => intro K hh ht hk; exact ⟨[], [], by simp, .nil, hk⟩
  | @cons r r' rs rs' hr _ ih =>
    intro K hh ht hk
    cases r with
    | tmp t =>
      cases r' with
      | cell k n => exact hr.elim
      | tmp k =>
        have e : t = k := hr
        subst e
        obtain ⟨vs, l, h1, h2, h3⟩ := ih hh ht hk
        refine ⟨a.tmps.getD t undef :: vs, s.ts.getD t (.d .dead) :: l, ?_, .cons (get_ok (x := .tmp t) (y := .t t) rfl ht) h2, h3⟩
        have h0 : (resOne a.tmps (.tmp t)).run P w = .ok (a.tmps.getD t undef) w := by simp [resOne]
        rw [List.mapM_cons, Sem.run_bind, h0, Result.andThen_ok, Sem.run_bind, h1]
        simp
    | cell x t =>
      cases r' with
      | tmp k => exact hr.elim
      | cell k n =>
        obtain ⟨rfl, hld⟩ := hr
        have hg := ext_load (P := P) (a := a) (o := { op := .load t (.tmp x), dst := none, guard := none, after := #[], type := 0, pos := default }) (x := .tmp x) (y := .t x) (t := t) (n := n) (fun _ _ _ => False) hh ht rfl rfl hld hk
        obtain ⟨v, t', hrunE, htr, hk2⟩ := hg
        have hrun := hrunE w (Wx.refl _ _)
        -- a load leaves the world as it is
        have hload : ∃ ad : Addr, a.tmps.getD x undef = .pointer (some ad) ∧ (loadVar t ad).run P w = .ok v w := by
          simp only [execOp, Instr.loadAt, Sem.run_bind] at hrun
          have he : a.eval (.tmp x) = a.tmps.getD x undef := rfl
          rw [he] at hrun
          have hv := get_ok (x := .tmp x) (y := .t x) rfl ht
          rw [he] at hv
          simp only [rets, quiet] at hk
          split at hk
          · rename_i e1
            rw [e1] at hv
            obtain ⟨_, ad, ea, _⟩ := hv.2
            rw [ea] at hrun ⊢
            simp only [Instr.sureAddr, Sem.run_pure, Result.andThen_ok] at hrun
            refine ⟨ad, rfl, ?_⟩
            cases hl : (loadVar t ad).run P w with
            | ok u w2 =>
              rw [hl] at hrun
              simp only [Result.andThen_ok, Sem.run_pure] at hrun
              injection hrun with h1 h2
              injection h1 with h1
              rw [h1, h2]
            | halt x w2 => rw [hl] at hrun; simp [Result.andThen] at hrun
          · rename_i e1
            rw [e1] at hv
            obtain ⟨_, b, o, _, ea, _⟩ := hv
            rw [ea] at hrun ⊢
            simp only [Instr.sureAddr, Sem.run_pure, Result.andThen_ok] at hrun
            refine ⟨_, rfl, ?_⟩
            cases hl : (loadVar t ⟨b, o + _, none⟩).run P w with
            | ok u w2 =>
              rw [hl] at hrun
              simp only [Result.andThen_ok, Sem.run_pure] at hrun
              injection hrun with h1 h2
              injection h1 with h1
              rw [h1, h2]
            | halt x w2 => rw [hl] at hrun; simp [Result.andThen] at hrun
          · exact hk.elim
        obtain ⟨ad, ea, hl⟩ := hload
        obtain ⟨vs, l, h1, h2, h3⟩ := ih hh ht hk2
        refine ⟨v :: vs, t' :: l, ?_, .cons htr h2, h3⟩
        have h0 : (resOne a.tmps (.cell x t)).run P w = .ok v w := by simp [resOne, ea, asAddr, hl]
        rw [List.mapM_cons, Sem.run_bind, h0, Result.andThen_ok, Sem.run_bind, h1]
        simp

/-- What is kept of a heap: the roots of rs, in this order. -/
def keepGh (G : Gh) (rs : List Nat) : Gh := ⟨fun j p => match rs[j]? with | some r => G.μ r p | none => none, G.ok, G.fr⟩

theorem keep_roots {rs : List Nat} (hh : HeapOk G Hg w) (hd : ∀ (j k r : Nat), rs[j]? = some r → rs[k]? = some r → j = k) (hN : N.length = rs.length)
    (ho : ∀ (j r : Nat), rs[j]? = some r → ∃ sz n a, N.getD j none = some (.arr sz n a) ∧ Hg.getD r none = some (.arr sz n a)) :
    HeapOk (keepGh G rs) N w ∧ (∀ {j p R}, Node N j p R → ∃ r, rs[j]? = some r ∧ Node Hg r p R ∧ (keepGh G rs).μ j p = G.μ r p) ∧ N.arrs := by
  have hnode : ∀ {j p R}, Node N j p R → ∃ r, rs[j]? = some r ∧ Node Hg r p R ∧ (keepGh G rs).μ j p = G.μ r p ∧ ∃ sz n a, Hg.getD r none = some (.arr sz n a) := by
    intro j p R h
    have hl := h.lt
    rw [hN] at hl
    have hr : rs[j]? = some rs[j] := List.getElem?_eq_getElem hl
    obtain ⟨sz, n, a, h1, h2⟩ := ho j _ hr
    obtain ⟨o, h3, h4⟩ := node_sub.1 h
    rw [h1] at h3
    injection h3 with h3
    subst h3
    refine ⟨_, hr, node_sub.2 ⟨_, h2, h4⟩, ?_, sz, n, a, h2⟩
    show (match rs[j]? with | some r => G.μ r p | none => none) = _
    rw [hr]
  refine ⟨⟨?_, ?_, ?_, fun h => hh.frLt h, fun h => hh.okFr h, ?_⟩, fun h => ?_, fun id cs h => ?_⟩
  · intro j p R h
    obtain ⟨r, hr, hn, hm, sz0, n0, a0, hob⟩ := hnode h
    have hk := hh.node hn
    unfold NodeOk at hk ⊢
    rw [hm]
    cases hg : G.μ r p with
    | none => rw [hg] at hk; exact hk
    | some bo =>
      rw [hg] at hk
      obtain ⟨c, t, hc, hs, hcell⟩ := hk
      refine ⟨c, t, hc, hs, fun i f hi hf => ?_⟩
      obtain ⟨u, hu, h1, h2⟩ := hcell i f hi hf
      refine ⟨u, hu, h1, ?_⟩
      have hpl := hh.plain (i := i) (f := f) hn (fun cs hcs => by rw [hob] at hcs; cases hcs) hi hf
      cases hd2 : R.at_ i f with
      | sl o sz n a =>
        rw [hd2] at h2
        cases o
        · exact h2
        · show inSl w ((keepGh G rs).μ j (p ++ [(i, f)])) sz n 0 n u
          have : (keepGh G rs).μ j (p ++ [(i, f)]) = G.μ r (p ++ [(i, f)]) := by
            show (match rs[j]? with | some r => G.μ r _ | none => none) = _
            rw [hr]
          rw [this]
          exact h2
      | own => rw [hd2] at hpl; cases hpl
      | ptr => rw [hd2] at hpl; cases hpl
      | rp => rw [hd2] at hpl; cases hpl
      | fn => rw [hd2] at hpl; cases hpl
      | _ => rw [hd2] at h2; exact h2
  · intro j p R b o j' p' R' o' h h' hb hb'
    obtain ⟨r, hr, hn, hm, _⟩ := hnode h
    obtain ⟨r', hr', hn', hm', _⟩ := hnode h'
    rw [hm] at hb
    rw [hm'] at hb'
    obtain ⟨e1, e2⟩ := hh.inj hn hn' hb hb'
    subst e1
    exact ⟨hd j j' r hr hr', e2⟩
  · intro j p R b o h hb
    obtain ⟨r, hr, hn, hm, _⟩ := hnode h
    rw [hm] at hb
    exact hh.apart hn hb
  · intro j p R i f h hbox hi hf
    obtain ⟨r, hr, hn, hm, sz0, n0, a0, hob⟩ := hnode h
    exact hh.plain hn (fun cs hcs => by rw [hob] at hcs; cases hcs) hi hf
  · obtain ⟨r, hr, hn, hm, _⟩ := hnode h
    exact ⟨r, hr, hn, hm⟩
  · have hl := getD_lt h
    rw [hN] at hl
    obtain ⟨sz, n, a, h1, _⟩ := ho id _ (List.getElem?_eq_getElem hl)
    rw [h1] at h
    cases h
end
end Go.R
