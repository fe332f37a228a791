/- From a law's contract to its row. -/
import Derived.Test.YtgpicngmadkdoaaDoorRLift
import Derived.ProofKit
import Derived.OpenShut
import Derived.Deep.DeepHandedRow
import Derived.Lib.LaidTab
import Derived.Below
import Derived.ChangeSame
import Derived.WideKeyArgs
set_option linter.unusedVariables false
set_option linter.unusedSimpArgs false
namespace Go.R
open Go.RowKit Go.WideShapes Go.ChangeShapes Go.WideElems

section
variable {H : Type} {enc : TypeId × Value → H} {P : Program}

/-- A law's contract, as a call: it answers true, and below the heap's end all is as it was. -/
theorem law_calls {g : Nat} {ts : List T} {W : World} {args : Array Value} (h : FnSem P g ts fun t N => t = .d (.bool true) ∧ N = []) (hst : Stand P W) (ha : F2 (TR (startGh (fun b => b < W.heap.size) W.heap.size) [] W) ts args.toList) :
    Calls P g args W fun e w' => e = .returned (.bool true) ∧ Below W.heap.size W w' := by
  have := h.2 (fun b => b < W.heap.size) W args.toList hst (fun b hb => hb) ha
  refine Calls.mono this fun e w' ⟨v, t, N, G', he, ⟨ht, hN⟩, hr⟩ => ?_
  subst ht
  have hv := hr.val
  have e2 : v = .bool true := hv.2
  rw [he, e2]
  exact ⟨rfl, hr.wx.os, hr.wx.tape, hr.wx.output, hr.wx.size, fun k hk => hr.wx.same k hk (fun x => x)⟩

theorem trodAll_stays (hl : laidOutB P = true) {W W' : World} {sp : Nat → Bool} : ∀ {ts : List TypeId} {vs : List Value} {ds : List (DataW H)} {ps : List MemPlace}, (∀ t ∈ ts, P.readableRec t = true ∧ t < P.types.size) →
    DataW.TrodAll enc P W 0 (fun _ => true) true ts vs ds ps → (∀ x ∈ ps, W.sameAt W' x) → (∀ x ∈ ps, sp x.block = true) → DataW.TrodAll enc P W' 0 sp true ts vs ds ps
  | [], [], [], ps, _, h, _, _ => h
  | t :: ts, v :: vs, d :: ds, ps, ht, h, hs, hsp => by
    obtain ⟨p, q, h1, h2, rfl⟩ := h
    exact ⟨p, q, Trod_stays hl (ht t (by simp)).1 (ht t (by simp)).2 h1 (fun x hx => hs x (by simp [hx])) (fun x hx => hsp x (by simp [hx])),
      trodAll_stays hl (fun t h => ht t (by simp [h])) h2 (fun x hx => hs x (by simp [hx])) (fun x hx => hsp x (by simp [hx])), rfl⟩
  | [], _ :: _, _, _, _, h, _, _ => h.elim
  | [], [], _ :: _, _, _, h, _, _ => h.elim
  | _ :: _, [], _, _, _, h, _, _ => h.elim
  | _ :: _, _ :: _, [], _, _, h, _, _ => h.elim

/-- The row's last step: the law answered true, and nothing that was there has changed. -/
theorem law_post (hl : laidOutB P = true) {f : Func} {s : ChangeSpec} {apart fresh handsOn again : Bool} {W W' : World} {args : Array Value} {ds gs : List (DataW H)} {before : List MemPlace} {tb : TypeId}
    (hW : DataW.Whole enc P f.params.toList s.vars apart W args.toList ds gs before) (hb : Below W.heap.size W W') (hvars : s.vars = []) (hres : f.resultTypes = #[tb]) (htb : P.underlying tb = some .bool)
    (hp : ∀ t ∈ f.params.toList, P.readableRec t = true ∧ t < P.types.size)
    (h1 : (s.fn H (ds ++ gs)).results = [.lit (.bool true)]) (h2 : (s.fn H (ds ++ gs)).args = ds) (h3 : (s.fn H (ds ++ gs)).vars = []) :
    s.post enc P f apart fresh handsOn again W args (.bool true) W' := by
  have hlt : ∀ p ∈ before, p.block < W.heap.size := fun p hp => hW.lt p hp
  have hold : ∀ p ∈ before, (fun b => decide (b < W.heap.size)) p.block = true := fun p hp => by simpa using hlt p hp
  obtain ⟨p, q, hA, hV, hpq, hfz, hnd⟩ := id hW
  rw [hvars] at hV
  have hq : gs = [] ∧ q = [] := trodVars_none hV
  obtain ⟨hgs, hq⟩ := hq
  subst hgs; subst hq
  rw [List.append_nil] at hpq
  have hres2 : ∀ (b : Nat) (sp : Nat → Bool) (hd : Bool), DataW.TrodAll enc P W' b sp hd f.resultTypes.toList ((Value.bool true).resultList f.resultTypes.size) (s.fn H (ds ++ [])).results [] := by
    intro b sp hd
    rw [h1, hres]
    exact trodAll_mk1 (shut_bool htb true)
  have hargs : ∀ sp : Nat → Bool, (∀ p ∈ before, sp p.block = true) → DataW.TrodAll enc P W' 0 sp true f.params.toList args.toList (s.fn H (ds ++ [])).args p := by
    intro sp hsp
    rw [h2]
    exact trodAll_stays hl hp hA (fun x hx => hb.same (hlt x (by rw [hpq]; exact hx))) (fun x hx => hsp x (by rw [hpq]; exact hx))
  have hvars2 : ∀ sp : Nat → Bool, DataW.TrodVars enc P W' sp s.vars (s.fn H (ds ++ [])).vars [] := by
    intro sp
    rw [hvars, h3]
    exact rfl
  refine ⟨ds, [], before, [], p, [], hW, hres2 _ _ _, hargs _ hold, hvars2 _, World.keptBut_mono (fun x hx => ⟨hx, ?_⟩) (hb.frame (· ∈ before)), fun _ => ?_⟩
  · rw [hpq] at hx
    simpa using hx
  · refine ⟨ok_one hres rfl (okWide_bool_mk htb true), _, _, ([] ++ p) ++ [], ⟨[] ++ p, [], trodAll_append (hargs _ (fun _ _ => rfl)) (hres2 _ _ _), hvars2 _, rfl, ?_, ?_⟩, ?_⟩
    · intro b off hx
      have hin : MemPlace.cell b off ∈ before := by rw [hpq]; simpa using hx
      rw [hb.frozen (hlt _ hin)]
      exact hfz b off hin
    · intro ha
      have := hnd ha
      rw [hpq] at this
      simpa using this
    · intro x hx _
      rw [hpq]
      simpa using hx
end
end Go.R
