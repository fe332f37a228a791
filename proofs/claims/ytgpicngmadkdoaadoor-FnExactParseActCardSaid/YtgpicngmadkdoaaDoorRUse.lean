/- For use: a function's contract from its compact code. -/
import Derived.Test.YtgpicngmadkdoaaDoorRTr3
set_option linter.unusedVariables false
namespace Go.R
open Go.RowKit

theorem fn_of {P : Program} {byref : FuncId → Bool} (hm : P.follows .mixedOrders = true) {g : Nat} (hco : callOk P g = true) {fn : Func} {mc : MC} {rvs : List RV} {n : Nat} {args : List T} {Post : T → Heap → Prop}
    (hf : P.funcs[g]? = some fn) (hn : fn.ntmps = n) (h1 : (fn.body.bind (trCode P byref)) = some mc) (h2 : trRV P fn.results.toList = some rvs) (hl : args.length ≤ n)
    (h : ∀ (Fn : FnT) (In : InT) (Sh : St → St → Prop), Fn = FnSem P → In = InSem P → Sh = Shift → ev Fn In Sh mc ⟨args ++ List.replicate (n - args.length) (.d .dead), [], []⟩ (retPost rvs Post) (fun _ _ => False) (retPost rvs Post)) : FnSem P g args Post := by
  rw [Option.bind_eq_some_iff] at h1
  obtain ⟨c, hb, hc⟩ := h1
  subst hn
  exact fnSem_of hco hf hb (trCode_ok hm hc) (trRV_ok h2) hl (h _ _ _ rfl rfl rfl)

theorem in_of {P : Program} {byref : FuncId → Bool} (hm : P.follows .mixedOrders = true) {g : Nat} (hco : callOk P g = true) {fn : Func} {mc : MC} {rvs : List RV} {n : Nat} {args : List T} {H : Heap} {up : List (List T)} {Post : T → Heap → List (List T) → Prop}
    (hf : P.funcs[g]? = some fn) (hn : fn.ntmps = n) (h1 : (fn.body.bind (trCode P byref)) = some mc) (h2 : trRV P fn.results.toList = some rvs) (hl : args.length ≤ n)
    (h : ∀ (Fn : FnT) (In : InT) (Sh : St → St → Prop), Fn = FnSem P → In = InSem P → Sh = Shift → ev Fn In Sh mc ⟨args ++ List.replicate (n - args.length) (.d .dead), H, up⟩ (inPost rvs Post) (fun _ _ => False) (inPost rvs Post)) : InSem P g args H up Post := by
  rw [Option.bind_eq_some_iff] at h1
  obtain ⟨c, hb, hc⟩ := h1
  subst hn
  exact inSem_of hco hf hb (trCode_ok hm hc) (trRV_ok h2) hl (h _ _ _ rfl rfl rfl)

/-- One call: its contract, and what comes behind it. -/
theorem stepF {P : Program} {g : Nat} {as : List T} {Post : T → Heap → Prop} {C : T → Heap → Prop} {u : Tag C} (h : FnSem P g as Post) (k : ∀ t N, Post t N → C t N) : ∃ Post, FnSem P g as Post ∧ After C u Post := ⟨Post, h, k⟩
theorem step1 {P : Program} {g : Nat} {as : List T} {t0 : T} {N0 : Heap} {C : T → Heap → Prop} {u : Tag C} (h : FnSem P g as fun t N => t = t0 ∧ N = N0) (k : C t0 N0) : ∃ Post, FnSem P g as Post ∧ After C u Post :=
  ⟨_, h, fun t N ⟨h1, h2⟩ => by rw [h1, h2]; exact k⟩
theorem stepR {P : Program} {g : Nat} {as : List T} {H : Heap} {up : List (List T)} {Post : T → Heap → List (List T) → Prop} {C : T → Heap → List T → List (List T) → Prop} {u : Tag C} (h : InSem P g as H up Post) (k : ∀ t H' ts' up', Post t H' (ts' :: up') → C t H' ts' up') : ∃ Post, InSem P g as H up Post ∧ AfterR C u Post := ⟨Post, h, k⟩
theorem FnSem.mono {P : Program} {g : Nat} {as : List T} {Post Post2 : T → Heap → Prop} (h : FnSem P g as Post) (k : ∀ t N, Post t N → Post2 t N) : FnSem P g as Post2 :=
  ⟨h.1, fun ok w vs h1 h2 h3 => (h.2 ok w vs h1 h2 h3).mono fun e w' ⟨v, t, N, G', he, hp, hr⟩ => ⟨v, t, N, G', he, k t N hp, hr⟩⟩

/-- Temporaries may be forgotten. -/
def Fgt : List T → List T → Prop
  | _, [] => True
  | [], _ :: _ => False
  | t :: ts, u :: us => (u = t ∨ u = .d .dead) ∧ Fgt ts us
theorem Fgt.get : ∀ {ts us : List T}, Fgt ts us → us.length ≤ ts.length ∧ ∀ (i : Nat) u, us[i]? = some u → ts[i]? = some u ∨ u = .d .dead
  | ts, [], _ => ⟨by simp, fun i u h => by simp at h⟩
  | [], _ :: _, h => h.elim
  | t :: ts, u :: us, h => by
    obtain ⟨h1, h2⟩ := h
    obtain ⟨i1, i2⟩ := Fgt.get h2
    refine ⟨by simp [i1], fun i x hx => ?_⟩
    cases i with
    | zero =>
      simp only [List.getElem?_cons_zero, Option.some.injEq] at hx ⊢
      subst hx
      rcases h1 with h1 | h1
      · exact .inl h1.symm
      · exact .inr h1
    | succ i => simpa using i2 i x (by simpa using hx)
theorem Shift.forget {ts us : List T} {H : Heap} {up : List (List T)} (h : Fgt ts us) : Shift ⟨ts, H, up⟩ ⟨us, H, up⟩ := by
  intro G0 w0 n ups a w hr
  obtain ⟨G, h1, h2, h3, h4⟩ := hr
  obtain ⟨i1, i2⟩ := h.get
  refine ⟨G, h1, ⟨Nat.le_trans i1 h2.len, fun i t hi => ?_⟩, h3, h4⟩
  rcases i2 i t hi with hx | hx
  · exact h2.val i t hx
  · rw [hx]; trivial
end Go.R
