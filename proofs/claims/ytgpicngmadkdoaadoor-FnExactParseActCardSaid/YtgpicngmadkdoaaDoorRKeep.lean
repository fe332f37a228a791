/- Views of a state: roots renumbered, what is no longer needed forgotten. -/
import Derived.Test.YtgpicngmadkdoaaDoorRUse
set_option linter.unusedVariables false
set_option linter.unusedSimpArgs false
namespace Go.R
open Go.RowKit

/-- A value of the new state, with the old state's numbers. -/
def D.ren (σ : List Nat) : D → D
  | .own j p tot off len => .own (σ.getD j 0) p tot off len
  | .ptr j p tot i f => .ptr (σ.getD j 0) p tot i f
  | .fn g caps => .fn g (caps.map fun j => σ.getD j 0)
  | x => x
def D.inR (n : Nat) : D → Prop
  | .own j _ _ _ _ => j < n
  | .ptr j _ _ _ _ => j < n
  | .fn _ caps => ∀ j ∈ caps, j < n
  | _ => True
/-- 'new' is 'old' renumbered, or nothing. -/
def KeepD (σ : List Nat) (old new : D) : Prop := (old = new.ren σ ∧ new.inR σ.length) ∨ new = .dead
def KeepDs (σ : List Nat) : List D → List D → Prop
  | [], [] => True
  | x :: xs, y :: ys => KeepD σ x y ∧ KeepDs σ xs ys
  | _, _ => False
def KeepT (σ : List Nat) : T → T → Prop
  | _, .d .dead => True
  | .d x, .d y => KeepD σ x y
  | .agg xs, .agg ys => KeepDs σ xs ys
  | _, _ => False
def KeepTs (σ : List Nat) : List T → List T → Prop
  | _, [] => True
  | [], _ :: _ => False
  | t :: ts, u :: us => KeepT σ t u ∧ KeepTs σ ts us
def KeepO (σ : List Nat) : Option Obj → Option Obj → Prop
  | _, none => True
  | some (.arr sz n a), some (.arr sz' n' a') => sz = sz' ∧ n = n' ∧ a = a'
  | some (.box xs), some (.box ys) => KeepDs σ xs ys
  | _, _ => False
def KeepH (σ : List Nat) (H : Heap) : List Nat → Heap → Prop
  | [], [] => True
  | i :: r, o :: os => KeepO σ (H.getD i none) o ∧ KeepH σ H r os
  | _, _ => False
def KeepU (σ : List Nat) : List (List T) → List (List T) → Prop
  | [], [] => True
  | x :: xs, y :: ys => KeepTs σ x y ∧ KeepU σ xs ys
  | _, _ => False

section
variable {G : Gh} {H H' : Heap} {w : World} {σ : List Nat}

theorem KeepDs.get : ∀ {xs ys : List D}, KeepDs σ xs ys → xs.length = ys.length ∧ ∀ (k : Nat) x y, xs[k]? = some x → ys[k]? = some y → KeepD σ x y
  | [], [], _ => ⟨rfl, fun k x y h => by simp at h⟩
  | x :: xs, y :: ys, h => by
    obtain ⟨i1, i2⟩ := KeepDs.get h.2
    refine ⟨by simp [i1], fun k a b ha hb => ?_⟩
    cases k with
    | zero =>
      simp only [List.getElem?_cons_zero, Option.some.injEq] at ha hb
      subst ha; subst hb
      exact h.1
    | succ k => exact i2 k a b (by simpa using ha) (by simpa using hb)
  | [], _ :: _, h => h.elim
  | _ :: _, [], h => h.elim
theorem KeepH.get : ∀ {r : List Nat} {os : Heap}, KeepH σ H r os → r.length = os.length ∧ ∀ (j i : Nat) o, r[j]? = some i → os[j]? = some o → KeepO σ (H.getD i none) o
  | [], [], _ => ⟨rfl, fun k x y h => by simp at h⟩
  | x :: xs, y :: ys, h => by
    obtain ⟨i1, i2⟩ := KeepH.get h.2
    refine ⟨by simp [i1], fun k a b ha hb => ?_⟩
    cases k with
    | zero =>
      simp only [List.getElem?_cons_zero, Option.some.injEq] at ha hb
      subst ha; subst hb
      exact h.1
    | succ k => exact i2 k a b (by simpa using ha) (by simpa using hb)
  | [], _ :: _, h => h.elim
  | _ :: _, [], h => h.elim

theorem keepD_dead_or {x y : D} (h : KeepD σ x y) : y = .dead ∨ (x = y.ren σ ∧ y.inR σ.length) := by
  rcases h with h | h
  · exact .inr h
  · exact .inl h

/-- Where a node of the new heap comes from. -/
theorem keep_node (hk : KeepH σ H σ H') {j : Nat} {p : Path} {R' : Rows} (hN : Node H' j p R') :
    ∃ i R, σ[j]? = some i ∧ Node H i p R ∧ R.n = R'.n ∧ R.sz = R'.sz ∧ ((R = R' ∧ ∀ cs, H.getD i none = some (.box cs) → p ≠ []) ∨
      (p = [] ∧ ∃ cs cs', H.getD i none = some (.box cs) ∧ H'.getD j none = some (.box cs') ∧ KeepDs σ cs cs' ∧ R = (Obj.box cs).rows ∧ R' = (Obj.box cs').rows)) := by
  obtain ⟨hlen, hget⟩ := hk.get
  obtain ⟨o', ho', hs⟩ := node_sub.1 hN
  have hl : j < H'.length := getD_lt ho'
  have hjo : H'[j]? = some (some o') := by
    rw [List.getD_eq_getElem?_getD, List.getElem?_eq_getElem hl] at ho'
    simp only [Option.getD_some] at ho'
    rw [List.getElem?_eq_getElem hl, ho']
  have hi : σ[j]? = some (σ[j]'(by omega)) := List.getElem?_eq_getElem (by omega)
  generalize σ[j]'(by omega) = i at hi
  have ho := hget j i _ hi hjo
  cases hH : H.getD i none with
  | none =>
    rw [hH] at ho
    cases o' <;> exact ho.elim
  | some o =>
    rw [hH] at ho
    cases o with
    | arr sz n a =>
      cases o' with
      | box cs => exact ho.elim
      | arr sz' n' a' =>
        obtain ⟨rfl, rfl, rfl⟩ := ho
        exact ⟨i, R', hi, node_sub.2 ⟨_, hH, hs⟩, rfl, rfl, .inl ⟨rfl, fun cs hcs => by rw [hH] at hcs; cases hcs⟩⟩
    | box cs =>
      cases o' with
      | arr sz' n' a' => exact ho.elim
      | box cs' =>
        have hc := KeepDs.get (σ := σ) (xs := cs) (ys := cs') ho
        cases p with
        | nil =>
          have := Sub.nil.1 hs
          subst this
          exact ⟨i, (Obj.box cs).rows, hi, node_sub.2 ⟨_, hH, Sub.nil.2 rfl⟩, rfl, hc.1, .inr ⟨rfl, cs, cs', hH, ho', ho, rfl, rfl⟩⟩
        | cons x q =>
          obtain ⟨a, f⟩ := x
          obtain ⟨h1, h2, sz, n, b, hd, h3⟩ := Sub.cons.1 hs
          have hf : f < cs'.length := h2
          have hd' : cs'[f]? = some (.sl true sz n b) := by
            have : cs'.getD f .dead = .sl true sz n b := hd
            rw [List.getD_eq_getElem?_getD, List.getElem?_eq_getElem hf] at this
            rw [List.getElem?_eq_getElem hf]
            exact congrArg some this
          have hf2 : f < cs.length := by omega
          have hold : cs[f]? = some (.sl true sz n b) := by
            have := hc.2 f _ _ (List.getElem?_eq_getElem hf2) hd'
            rcases this with ⟨h, _⟩ | h
            · rw [List.getElem?_eq_getElem hf2, h]; rfl
            · cases h
          refine ⟨i, R', hi, node_sub.2 ⟨_, hH, Sub.cons.2 ⟨h1, hf2, sz, n, b, ?_, h3⟩⟩, rfl, rfl, .inl ⟨rfl, fun _ _ => by simp⟩⟩
          show cs.getD f .dead = _
          rw [List.getD_eq_getElem?_getD, hold]; rfl

theorem keep_mu {j i : Nat} (hi : σ[j]? = some i) (p : Path) : (keepGh G σ).μ j p = G.μ i p := by
  show (match σ[j]? with | some r => G.μ r p | none => none) = _
  rw [hi]
theorem sig_get {j : Nat} (h : j < σ.length) : σ[j]? = some (σ.getD j 0) := by
  rw [List.getD_eq_getElem?_getD, List.getElem?_eq_getElem h]; rfl

theorem keep_vr (hh : HeapOk G H w) (hk : KeepH σ H σ H') {x y : D} {v : Value} (hd : KeepD σ x y) (hv : VR G H w x v) : VR (keepGh G σ) H' w y v := by
  have hlen := hk.get.1
  have hptr : ∀ j p tot i f u, j < σ.length → ptrOk G H (σ.getD j 0) p tot i f u → ptrOk (keepGh G σ) H' j p tot i f u := by
    intro j p tot i f u hj ⟨h1, ad, e, h2⟩
    refine ⟨by omega, ad, e, fun R' hN hn hi => ?_⟩
    obtain ⟨i0, R, hi0, hNR, e1, e2, _⟩ := keep_node hk hN
    have : i0 = σ.getD j 0 := by rw [sig_get hj] at hi0; injection hi0 with hi0; exact hi0.symm
    subst this
    obtain ⟨b, o, hb, e3⟩ := h2 R hNR (e1.trans hn) hi
    exact ⟨b, o, by rw [keep_mu hi0]; exact hb, by rw [e3, e2]⟩
  rcases keepD_dead_or hd with rfl | ⟨rfl, hr⟩
  · trivial
  cases y with
  | own j p tot off len =>
    refine ⟨by have : j < σ.length := hr; omega, fun R' hN hn => ?_⟩
    obtain ⟨i0, R, hi0, hNR, e1, e2, _⟩ := keep_node hk hN
    have : i0 = σ.getD j 0 := by rw [sig_get hr] at hi0; injection hi0 with hi0; exact hi0.symm
    subst this
    rw [keep_mu hi0, ← e2]
    exact hv.2 R hNR (e1.trans hn)
  | ptr j p tot i f => exact hptr _ _ _ _ _ _ hr hv
  | fn g caps =>
    obtain ⟨vs, e, hl, hc⟩ := hv
    refine ⟨vs, e, by simpa using hl, fun k c u hck hu => ?_⟩
    exact hptr _ _ _ _ _ _ (hr c (List.mem_of_getElem? hck)) (hc k (σ.getD c 0) u (by rw [List.getElem?_map, hck]; rfl) hu)
  | _ => exact hv
theorem keep_tr (hh : HeapOk G H w) (hk : KeepH σ H σ H') {t u : T} {v : Value} (hd : KeepT σ t u) (hv : TR G H w t v) : TR (keepGh G σ) H' w u v := by
  cases u with
  | d y =>
    by_cases hy : y = .dead
    · subst hy; trivial
    have hd2 : ∃ x, t = .d x ∧ KeepD σ x y := by
      cases t with
      | d x => exact ⟨x, rfl, by cases y <;> first | exact hd | exact absurd rfl hy⟩
      | agg xs => cases y <;> first | exact hd.elim | exact absurd rfl hy
      | tup xs => cases y <;> first | exact hd.elim | exact absurd rfl hy
    obtain ⟨x, rfl, hd2⟩ := hd2
    have hx : v.oneCell' = true ∧ VR G H w x v := by
      cases x <;> first | exact hv | skip
      rcases hd2 with ⟨h, _⟩ | h
      · cases y <;> first | exact absurd rfl hy | cases h
      · exact absurd h hy
    have := keep_vr hh hk hd2 hx.2
    cases y <;> first | exact ⟨hx.1, this⟩ | exact absurd rfl hy
  | agg ys =>
    cases t with
    | d x => exact hd.elim
    | tup xs => exact hd.elim
    | agg xs =>
      obtain ⟨vs, e, hl, hc⟩ := hv
      have hg := KeepDs.get (σ := σ) (xs := xs) (ys := ys) hd
      refine ⟨vs, e, by rw [hl, hg.1], fun k y u hy hu => ?_⟩
      have hkl : k < xs.length := by rw [← hl]; exact (List.getElem?_eq_some_iff.1 hu).1
      obtain ⟨h1, h2⟩ := hc k _ u (List.getElem?_eq_getElem hkl) hu
      exact ⟨h1, keep_vr hh hk (hg.2 k _ y (List.getElem?_eq_getElem hkl) hy) h2⟩
  | tup ys => cases t <;> exact hd.elim
theorem KeepTs.get : ∀ {ts us : List T}, KeepTs σ ts us → us.length ≤ ts.length ∧ ∀ (i : Nat) u, us[i]? = some u → ∃ t, ts[i]? = some t ∧ KeepT σ t u
  | ts, [], _ => ⟨by simp, fun i u h => by simp at h⟩
  | [], _ :: _, h => h.elim
  | t :: ts, u :: us, h => by
    obtain ⟨i1, i2⟩ := KeepTs.get h.2
    refine ⟨by simp [i1], fun i x hx => ?_⟩
    cases i with
    | zero =>
      simp only [List.getElem?_cons_zero, Option.some.injEq] at hx
      subst hx
      exact ⟨t, rfl, h.1⟩
    | succ i => simpa using i2 i x (by simpa using hx)
theorem keep_temps (hh : HeapOk G H w) (hk : KeepH σ H σ H') {ts us : List T} {tmps : Array Value} (h : KeepTs σ ts us) (ht : Temps G H w ts tmps) : Temps (keepGh G σ) H' w us tmps := by
  obtain ⟨h1, h2⟩ := h.get
  refine ⟨Nat.le_trans h1 ht.len, fun i u hu => ?_⟩
  obtain ⟨t, hti, hkt⟩ := h2 i u hu
  exact keep_tr hh hk hkt (ht.val i t hti)
theorem keep_ups (hh : HeapOk G H w) (hk : KeepH σ H σ H') : ∀ {up up' : List (List T)} {ups : List (Array Value)}, KeepU σ up up' → F2 (Temps G H w) up ups → F2 (Temps (keepGh G σ) H' w) up' ups
  | [], [], ups, _, h => by cases h; exact .nil
  | x :: xs, y :: ys, ups, h, hf => by
    cases hf with
    | cons h1 h2 => exact .cons (keep_temps hh hk h.1 h1) (keep_ups hh hk h.2 h2)
  | [], _ :: _, _, h, _ => h.elim
  | _ :: _, [], _, h, _ => h.elim

theorem keep_heap (hh : HeapOk G H w) (hk : KeepH σ H σ H') (hσ : σ.Nodup) : HeapOk (keepGh G σ) H' w := by
  refine ⟨fun {j p R'} hN => ?_, fun {j p R' b o j' p' R2 o'} h h' hb hb' => ?_, fun {j p R' b o} h hb => ?_, fun h => hh.frLt h, fun h => hh.okFr h, fun {j p R' i f} h hbox hi hf => ?_⟩
  · obtain ⟨i, R, hi, hNR, e1, e2, hc⟩ := keep_node hk hN
    have hno := hh.node hNR
    unfold NodeOk at hno ⊢
    rw [keep_mu hi]
    cases hm : G.μ i p with
    | none => rw [hm] at hno; simp only at hno ⊢; omega
    | some bo =>
      rw [hm] at hno
      obtain ⟨c, ty, hcc, hsz, hcell⟩ := hno
      refine ⟨c, ty, hcc, by rw [← e1, ← e2]; exact hsz, fun a f ha hf => ?_⟩
      obtain ⟨u, hu, h1, h2⟩ := hcell a f (by omega) (by omega)
      refine ⟨u, by rw [← e2]; exact hu, h1, ?_⟩
      rcases hc with ⟨rfl, hnb⟩ | ⟨rfl, cs, cs', hb, hb', hkd, rfl, rfl⟩
      · have hpl := hh.plain hNR hnb ha hf
        cases hd : R.at_ a f with
        | sl o sz n x =>
          rw [hd] at h2
          cases o with
          | false => exact h2
          | true =>
            show inSl w ((keepGh G σ).μ j (p ++ [(a, f)])) sz n 0 n u
            rw [keep_mu hi]
            exact h2
        | own => rw [hd] at hpl; cases hpl
        | ptr => rw [hd] at hpl; cases hpl
        | rp => rw [hd] at hpl; cases hpl
        | fn => rw [hd] at hpl; cases hpl
        | rfn => rw [hd] at hpl; cases hpl
        | _ => rw [hd] at h2; exact h2
      · have hg := KeepDs.get (σ := σ) hkd
        have hf1 : f < cs'.length := hf
        have hf2 : f < cs.length := by omega
        have ea : (Obj.box cs).rows.at_ a f = cs[f] := by simp [Obj.rows, List.getD_eq_getElem?_getD, hf2]
        have eb : (Obj.box cs').rows.at_ a f = cs'[f] := by simp [Obj.rows, List.getD_eq_getElem?_getD, hf1]
        rw [ea] at h2
        rw [eb]
        have hkd1 := hg.2 f _ _ (List.getElem?_eq_getElem hf2) (List.getElem?_eq_getElem hf1)
        generalize cs[f] = x at h2 hkd1
        generalize cs'[f] = y at hkd1
        rcases keepD_dead_or hkd1 with rfl | ⟨rfl, hr⟩
        · trivial
        cases y with
        | sl o sz n z =>
          cases o with
          | false => exact h2
          | true =>
            show inSl w ((keepGh G σ).μ j ([] ++ [(a, f)])) sz n 0 n u
            rw [keep_mu hi]
            exact h2
        | own a1 b1 c1 d1 e1 => exact keep_vr hh hk (.inl ⟨rfl, hr⟩) h2
        | ptr a1 b1 c1 d1 e1 => exact keep_vr hh hk (.inl ⟨rfl, hr⟩) h2
        | fn g caps => exact keep_vr hh hk (.inl ⟨rfl, hr⟩) h2
        | _ => exact h2
  · obtain ⟨i, R, hi, hNR, _⟩ := keep_node hk h
    obtain ⟨i2, R2', hi2, hNR2, _⟩ := keep_node hk h'
    rw [keep_mu hi] at hb
    rw [keep_mu hi2] at hb'
    obtain ⟨e1, e2⟩ := hh.inj hNR hNR2 hb hb'
    subst e1
    refine ⟨?_, e2⟩
    have hj : j < σ.length := (List.getElem?_eq_some_iff.1 hi).1
    have hj' : j' < σ.length := (List.getElem?_eq_some_iff.1 hi2).1
    have e3 : σ[j] = σ[j'] := by
      rw [List.getElem?_eq_getElem hj] at hi
      rw [List.getElem?_eq_getElem hj'] at hi2
      injection hi with hi
      injection hi2 with hi2
      rw [hi, hi2]
    rcases Nat.lt_trichotomy j j' with h | h | h
    · exact absurd e3 ((List.pairwise_iff_getElem.1 hσ) j j' hj hj' h)
    · exact h
    · exact absurd e3.symm ((List.pairwise_iff_getElem.1 hσ) j' j hj' hj h)
  · obtain ⟨i, R, hi, hNR, _⟩ := keep_node hk h
    rw [keep_mu hi] at hb
    exact hh.apart hNR hb
  · obtain ⟨i, R, hi0, hNR, e1, e2, hc⟩ := keep_node hk h
    rcases hc with ⟨rfl, hnb⟩ | ⟨rfl, cs, cs', hb, hb', hkd, rfl, rfl⟩
    · exact hh.plain hNR hnb hi hf
    · exact absurd rfl (hbox cs' hb')

/-- Roots renumbered, what is not needed forgotten. -/
theorem Shift.keep (σ : List Nat) {ts ts' : List T} {up up' : List (List T)} (hσ : σ.Nodup) (hk : KeepH σ H σ H') (ht : KeepTs σ ts ts') (hu : KeepU σ up up') : Shift ⟨ts, H, up⟩ ⟨ts', H', up'⟩ := by
  intro G0 w0 n ups a w hr
  obtain ⟨G, hh, h2, h3, h4, h5, h6⟩ := hr
  exact ⟨keepGh G σ, keep_heap hh hk hσ, keep_temps hh hk ht h2, keep_ups hh hk hu h3, ⟨h4.wx, h4.ok, h4.okNew, h4.fr⟩, h5, h6⟩
theorem Shift.keep0 (σ : List Nat) {ts ts' : List T} (hσ : σ.Nodup) (hk : KeepH σ H σ H') (ht : KeepTs σ ts ts') : Shift ⟨ts, H, []⟩ ⟨ts', H', []⟩ := Shift.keep σ hσ hk ht trivial
end
end Go.R
