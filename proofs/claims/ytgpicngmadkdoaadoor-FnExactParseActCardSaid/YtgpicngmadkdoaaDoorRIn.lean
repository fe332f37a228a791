/- Functions that change what their caller has: contracts out of 'ev', and the call. -/
import Derived.Test.YtgpicngmadkdoaaDoorRFun2
set_option linter.unusedVariables false
set_option linter.unusedSimpArgs false
namespace Go.R
open Go.RowKit

section
variable {P : Program} {G G0 G1 G2 G' : Gh} {H H1 N E Hg : Heap} {w w0 w1 : World} {t : T} {v : Value} {s : St} {a : Act}

theorem final_tr {l : List T} {vs : List Value} (h : F2 (TR G H w) l vs) (hk : (l.all T.known) = true) : TR G H w (final l) (packV vs.toArray) := by
  match l, vs, h, hk with
  | [t], [v], .cons h _, hk => exact h
  | [], [], _, hk => exact ⟨[], by simp [packV], rfl, fun k x u h => by simp at h⟩
  | t :: t2 :: l, v :: v2 :: vs, h, hk =>
    have hg := h.get
    refine ⟨v :: v2 :: vs, ?_, hg.1.symm, fun k x u hx hu => ?_⟩
    · unfold packV
      rw [dif_neg (by simp)]
    · have hx2 := hg.2 k x u hx hu
      have hkx := List.all_eq_true.1 hk x (List.mem_of_getElem? hx)
      cases x with
      | d x => cases x <;> first | trivial | exact hx2
      | agg cs => exact hx2
      | tup ts => cases hkx

theorem in_ret {fn : Func} {rvs : List RV} {Post : T → Heap → List (List T) → Prop} {n : Nat} {ups : List (Array Value)} (hrv : F2 (RVOk P) fn.results.toList rvs) (hr : Rel G0 w0 n ups s a w) (hk : inPost rvs Post s) :
    ∃ v, (results fn a.tmps).run P w = .ok v w ∧ ∃ t G' H' up', Post t H' up' ∧ HeapOk G' H' w ∧ TR G' H' w t v ∧ F2 (Temps G' H' w) up' ups ∧ Fw G0 w0 G' w := by
  obtain ⟨G, hh, ht, hu, hf, _, _⟩ := hr
  obtain ⟨vs, l, hrun, hl, hkn, hk⟩ := rets_ok hrv hh ht hk
  have hrun2 : (fn.results.mapM (resOne a.tmps)).run P w = .ok vs.toArray w := by
    have : fn.results.mapM (resOne a.tmps) = (List.toArray <$> fn.results.toList.mapM (resOne a.tmps)) := Array.mapM_eq_mapM_toList
    rw [this]
    simp [hrun]
  exact ⟨packV vs.toArray, by rw [results_eq, Sem.run_bind, hrun2]; simp, final l, G, s.H, s.up, hk, hh, final_tr hl hkn, hu, hf⟩

/-- A body's 'ev' gives the function's contract in its caller's memory. -/
theorem inSem_of {g : Nat} (hco : callOk P g = true) {fn : Func} {c : Code} {mc : MC} {rvs : List RV} {args : List T} {up : List (List T)} {Post : T → Heap → List (List T) → Prop} (hf : P.funcs[g]? = some fn) (hb : fn.body = some c) (hc : CodeOk P c mc) (hrv : F2 (RVOk P) fn.results.toList rvs)
    (hn : args.length ≤ fn.ntmps)
    (h : ev (FnSem P) (InSem P) Shift mc ⟨args ++ List.replicate (fn.ntmps - args.length) (.d .dead), H, up⟩ (inPost rvs Post) (fun _ _ => False) (inPost rvs Post)) : InSem P g args H up Post := by
  refine ⟨hco, fun G w vs ups hst hh hargs hu => ?_⟩
  have hlen := hargs.get
  refine calls_of_wp hf hb ?_
  have hstart : Rel G w fn.ntmps ups ⟨args ++ List.replicate (fn.ntmps - args.length) (.d .dead), H, up⟩ { tmps := vs.toArray ++ Array.replicate (fn.ntmps - vs.toArray.size) undef, defers := [] } w := by
    refine ⟨G, hh, ⟨?_, fun i t hi => ?_⟩, hu, Fw.refl _ _, rfl, ?_⟩
    · simp [hlen.1]
    · by_cases hl : i < args.length
      · rw [List.getElem?_append_left hl] at hi
        have hl2 : i < vs.length := by rw [← hlen.1]; exact hl
        have := hlen.2 i t vs[i] hi (List.getElem?_eq_getElem hl2)
        rw [Array.getD_eq_getD_getElem?, Array.getElem?_append_left (by simpa using hl2)]
        simp [hl2]
        exact this
      · rw [List.getElem?_append_right (by omega)] at hi
        have : t = .d .dead := by
          rw [List.getElem?_replicate] at hi
          split at hi
          · injection hi with hi; exact hi.symm
          · cases hi
        rw [this]; trivial
    · simp; omega
  have hfin : ∀ (s : St) (a : Act) (w' : World), Rel G w fn.ntmps ups s a w' → inPost rvs Post s → a.defers = [] ∧ ∃ v, (results fn a.tmps).run P w' = .ok v w' ∧
      ∃ v2 t G' H' up', Ending.returned v = .returned v2 ∧ Post t H' up' ∧ HeapOk G' H' w' ∧ TR G' H' w' t v2 ∧ F2 (Temps G' H' w') up' ups ∧
      Wx w w' (fun b => ¬ G.fr b) ∧ (∀ b, G.ok b → G'.ok b) ∧ (∀ b, G'.ok b → G.ok b ∨ ¬ G.fr b) ∧ (∀ b, G.fr b → G'.fr b) := by
    intro s a w' h1 h2
    obtain ⟨v, hr, t, G', H', up', hp, e1, e2, e3, e4⟩ := in_ret hrv h1 h2
    obtain ⟨_, _, _, _, _, hd, _⟩ := h1
    exact ⟨hd, v, hr, v, t, G', H', up', rfl, hp, e1, e2, e3, e4.wx, e4.ok, e4.okNew, e4.fr⟩
  exact ev_ok hst mc c hc _ _ w _ _ _ _ hstart h (fun s a w' h1 h2 => hfin s a w' h1 h2) (fun _ _ _ _ _ h => h.elim) (fun s a w' h1 h2 => hfin s a w' h1 h2)

/-- A call that may change what is there. -/
theorem lw_callR {o : Oper} {f : Operand} {f' : Opd} {args : Array Operand} {args' : List Opd} (hf : OpdOk f f')
    (ho : ∀ (a : Act) (w : World) g vs, callOk P g = true → a.eval f = .func (.func g) #[] vs → (execOp a.eval o).run P w = .ok (.enter g (args.map a.eval ++ vs)) w) (hx : F2 OpdOk args.toList args') : LW P o (.callR f' args') := by
  intro G s w a ups K next Q hst hh ht hu hk hn
  have hargs := args_get ht hx
  have hv := get_ok hf ht
  simp only [loud] at hk
  split at hk
  · rename_i g caps e1
    rw [e1] at hv
    obtain ⟨_, vs, ev, hl, hc⟩ := hv
    obtain ⟨Post, hF, hpost⟩ := hk
    have hcall := hF.2 G w (args.toList.map a.eval ++ vs) (a.tmps :: ups) hst hh (hargs.append' (caps_ok hl hc)) (.cons ht hu)
    unfold Oper.wp
    rw [ho a w g _ hF.1 ev, Oper.upon_enter]
    have e2 : args.map a.eval ++ vs.toArray = (args.toList.map a.eval ++ vs).toArray := by rw [args_arr]; simp
    rw [e2]
    refine Calls.mono hcall fun e w' ⟨v, t, G', H', up', he, hp, h1, h2, h3, h4, h5, h6, h7⟩ => ?_
    subst he
    cases h3 with
    | @cons ts' _ up'' _ h31 h32 => exact hn v w' G' ⟨ts', H', up''⟩ t h1 h31 h32 (.inr h2) ⟨h4, h5, h6, h7⟩ (hpost t H' ts' up'' hp)
  · exact hk.elim
end
end Go.R
