/- Functions: what is given back. -/
import Derived.Test.YtgpicngmadkdoaaDoorRFun
set_option linter.unusedVariables false
set_option linter.unusedSimpArgs false
namespace Go.R
open Go.RowKit

section
variable {P : Program} {G G0 G1 G2 G' : Gh} {H H1 N E Hg : Heap} {w w0 w1 : World} {t : T} {v : Value} {s : St} {a : Act}

/-- The cells of values, one behind the other. -/
def cellsOf (vs : List Value) : List Value := vs.flatMap fun v => v.cells.toList

theorem flat_rel {l : List T} {vs : List Value} (h : F2 (TR G H w) l vs) (hk : (l.all T.known) = true) : F2 (fun d (u : Value) => u.oneCell' = true ∧ VR G H w d u) (l.flatMap T.cells) (cellsOf vs) := by
  induction h with
  | nil => exact .nil
  | @cons t v l vs h _ ih =>
    simp only [List.all_cons, Bool.and_eq_true] at hk
    have hc := cells_ok h hk.1
    have key : ∀ (cs : List D) (us : List Value), us.length = cs.length → (∀ (k : Nat) (x : D) (u : Value), cs[k]? = some x → us[k]? = some u → u.oneCell' = true ∧ VR G H w x u) → F2 (fun d (u : Value) => u.oneCell' = true ∧ VR G H w d u) cs us := by
      intro cs
      induction cs with
      | nil => intro us hl _; cases us with
        | nil => exact .nil
        | cons u us => simp at hl
      | cons c cs ih =>
        intro us hl h
        cases us with
        | nil => simp at hl
        | cons u us => exact .cons (h 0 c u rfl rfl) (ih us (by simpa using hl) fun k x u hx hu => h (k + 1) x u (by simpa using hx) (by simpa using hu))
    show F2 _ (t.cells ++ l.flatMap T.cells) (v.cells.toList ++ cellsOf vs)
    exact (key _ _ hc.1 hc.2).append (ih hk.2)

inductive F4 (R : D → Value → Bool → Option Nat → Prop) : List D → List Value → List Bool → List (Option Nat) → Prop
  | nil : F4 R [] [] [] []
  | cons {d u m r ds us ms rs} (h : R d u m r) (t : F4 R ds us ms rs) : F4 R (d :: ds) (u :: us) (m :: ms) (r :: rs)
theorem F4.of {R : D → Value → Bool → Option Nat → Prop} : ∀ (ds : List D) (us : List Value) (ms : List Bool) (rs : List (Option Nat)), ds.length = us.length → ms.length = us.length → rs.length = us.length →
    (∀ (k : Nat) d u m r, ds[k]? = some d → us[k]? = some u → ms[k]? = some m → rs[k]? = some r → R d u m r) → F4 R ds us ms rs
  | [], [], [], [], _, _, _, _ => .nil
  | d :: ds, u :: us, m :: ms, r :: rs, h1, h2, h3, h => .cons (h 0 d u m r rfl rfl rfl rfl) (F4.of ds us ms rs (by simpa using h1) (by simpa using h2) (by simpa using h3) fun k d u m r a b c e => h (k + 1) d u m r (by simpa using a) (by simpa using b) (by simpa using c) (by simpa using e))
  | [], u :: us, _, _, h1, _, _, _ => by simp at h1
  | d :: ds, [], _, _, h1, _, _, _ => by simp at h1
  | [], [], m :: ms, _, _, h2, _, _ => by simp at h2
  | [], [], [], r :: rs, _, _, h3, _ => by simp at h3
  | d :: ds, u :: us, [], _, _, h2, _, _ => by simp at h2
  | d :: ds, u :: us, m :: ms, [], _, _, h3, _ => by simp at h3

theorem ret_roots {vs : List D} {us : List Value} {ms : List Bool} {rs : List (Option Nat)} (h : F4 (Took G' Hg w) vs us ms rs) :
    F2 (fun (o : Option Obj) r => ∃ sz n a, o = some (.arr sz n a) ∧ Hg.getD r none = some (.arr sz n a)) (retH vs ms) (rs.filterMap id) := by
  induction h with
  | nil => exact .nil
  | @cons d u m r ds us ms rs h _ ih =>
    cases r with
    | none =>
      obtain ⟨rfl, _, hn, _⟩ := h
      have : retH (d :: ds) (false :: ms) = retH ds ms := by cases d <;> rfl
      rw [this]
      simpa using ih
    | some r =>
      obtain ⟨rfl, sz, n, b, rfl, hg, _⟩ := h
      simp only [retH, List.filterMap_cons, id_eq]
      exact .cons ⟨sz, n, b, rfl, hg⟩ ih

theorem ret_cells {rsA : List Nat} {vs : List D} {us : List Value} {ms : List Bool} {rs : List (Option Nat)} (h : F4 (Took G' Hg w) vs us ms rs) : ∀ (j : Nat),
    (∀ i, i < (retH vs ms).length → N[j + i]? = (retH vs ms)[i]?) → (∀ i, i < (rs.filterMap id).length → rsA[j + i]? = (rs.filterMap id)[i]?) →
    F2 (fun d (u : Value) => VR (keepGh G' rsA) N w d u ∧ d.retOk = true) (retD j vs ms) us := by
  induction h with
  | nil => intro j _ _; exact .nil
  | @cons d u m r ds us ms rs h _ ih =>
    intro j hN hR
    cases r with
    | none =>
      obtain ⟨rfl, hp, hn, hv⟩ := h
      have e1 : retH (d :: ds) (false :: ms) = retH ds ms := by cases d <;> rfl
      rw [e1] at hN
      have e2 : retD j (d :: ds) (false :: ms) = d :: retD j ds ms := rfl
      rw [e2]
      refine .cons ⟨VR.plain_move (G := G') (G1 := keepGh G' rsA) (H1 := N) (Wx.refl w (fun _ => False)) (fun b hb => ⟨hb, fun k => k⟩) hp hv, by cases d <;> first | rfl | cases hp⟩ (ih j hN (by simpa using hR))
    | some r =>
      obtain ⟨rfl, sz, n, b, rfl, hg, hin⟩ := h
      have e2 : retD j (.sl true sz n b :: ds) (true :: ms) = .own j [] n 0 n :: retD (j + 1) ds ms := rfl
      rw [e2]
      have hN0 : N[j]? = some (some (.arr sz n b)) := by
        have := hN 0 (by simp [retH])
        simpa [retH] using this
      have hR0 : rsA[j]? = some r := by
        have := hR 0 (by simp)
        simpa using this
      refine .cons ⟨⟨(List.getElem?_eq_some_iff.1 hN0).1, fun R hR1 _ => ?_⟩, rfl⟩ (ih (j + 1) (fun i hi => ?_) (fun i hi => ?_))
      · obtain ⟨o, ho, hs⟩ := node_sub.1 hR1
        rw [List.getD_eq_getElem?_getD, hN0] at ho
        simp only [Option.getD_some] at ho
        injection ho with ho
        subst ho
        have := Sub.nil.1 hs
        subst this
        have hm : (keepGh G' rsA).μ j [] = G'.μ r [] := by
          show (match rsA[j]? with | some r => G'.μ r [] | none => none) = _
          rw [hR0]
        rw [hm]
        exact hin
      · have := hN (i + 1) (by simp [retH]; exact hi)
        rw [show j + 1 + i = j + (i + 1) by omega, this]
        simp [retH]
      · have := hR (i + 1) (by simp; exact hi)
        rw [show j + 1 + i = j + (i + 1) by omega, this]
        simp

theorem nodup_some : ∀ {rs : List (Option Nat)}, (∀ (k k' r : Nat), rs[k]? = some (some r) → rs[k']? = some (some r) → k = k') → ∀ (j k r : Nat), (rs.filterMap id)[j]? = some r → (rs.filterMap id)[k]? = some r → j = k
  | [], _, j, k, r, h, _ => by simp at h
  | none :: rs, hd, j, k, r, h, h' => nodup_some (rs := rs) (fun k k' r a b => by
      have := hd (k + 1) (k' + 1) r (by simpa using a) (by simpa using b)
      omega) j k r (by simpa using h) (by simpa using h')
  | some x :: rs, hd, j, k, r, h, h' => by
    have ih := nodup_some (rs := rs) (fun k k' r a b => by
      have := hd (k + 1) (k' + 1) r (by simpa using a) (by simpa using b)
      omega)
    have hno : ∀ (i : Nat), (rs.filterMap id)[i]? ≠ some x := by
      intro i hi
      have hm := List.mem_of_getElem? hi
      simp only [List.mem_filterMap, id_eq, exists_eq_right] at hm
      obtain ⟨k2, hk2⟩ := List.getElem?_of_mem hm
      have := hd 0 (k2 + 1) x rfl (by simpa using hk2)
      omega
    simp only [List.filterMap_cons, id_eq] at h h'
    cases j with
    | zero =>
      cases k with
      | zero => rfl
      | succ k =>
        simp only [List.getElem?_cons_zero, Option.some.injEq] at h
        subst h
        exact absurd (by simpa using h') (hno k)
    | succ j =>
      cases k with
      | zero =>
        simp only [List.getElem?_cons_zero, Option.some.injEq] at h'
        subst h'
        exact absurd (by simpa using h) (hno j)
      | succ k => rw [ih j k r (by simpa using h) (by simpa using h')]

theorem regroup_ok {l : List T} {vs : List Value} (h : F2 (TR G H w) l vs) (hk : (l.all T.known) = true) : ∀ {ds : List D}, F2 (fun d (u : Value) => VR G2 N w d u ∧ d.retOk = true) ds (cellsOf vs) →
    F2 (TR G2 N w) (regroup l ds) vs ∧ (∀ t ∈ regroup l ds, (match t with | .d x => x.retOk | .agg cs => cs.all D.retOk | .tup _ => false) = true) := by
  induction h with
  | nil => intro ds hd; cases hd; exact ⟨.nil, fun t ht => by cases ht⟩
  | @cons t v l vs h _ ih =>
    intro ds hd
    simp only [List.all_cons, Bool.and_eq_true] at hk
    cases t with
    | d x =>
      have h' : v.oneCell' = true := by
        cases x <;> first | exact h.1 | (have := hk.1; cases this)
      have hc : v.cells = #[v] := by
        cases v <;> first | rfl | (simp [Value.oneCell'] at h')
      have e : cellsOf (v :: vs) = v :: cellsOf vs := by simp [cellsOf, hc]
      rw [e] at hd
      cases hd with
      | @cons y _ ds _ h1 h2 =>
        obtain ⟨i1, i2⟩ := ih hk.2 h2
        refine ⟨.cons ?_ i1, fun t ht => ?_⟩
        · cases y <;> first | trivial | exact ⟨h', h1.1⟩
        · rcases List.mem_cons.1 ht with rfl | ht
          · exact h1.2
          · exact i2 t ht
    | agg cs =>
      obtain ⟨us, rfl, hl, hcell⟩ := h
      have e : cellsOf (Value.agg us.toArray :: vs) = us ++ cellsOf vs := by simp [cellsOf, Value.cells]
      rw [e] at hd
      have hsplit : ∀ (us : List Value) (rest : List Value) (ds : List D), F2 (fun d (u : Value) => VR G2 N w d u ∧ d.retOk = true) ds (us ++ rest) →
          F2 (fun d (u : Value) => VR G2 N w d u ∧ d.retOk = true) (ds.take us.length) us ∧ F2 (fun d (u : Value) => VR G2 N w d u ∧ d.retOk = true) (ds.drop us.length) rest := by
        intro us
        induction us with
        | nil => intro rest ds h; exact ⟨by simp; exact .nil, by simpa using h⟩
        | cons u us ih =>
          intro rest ds h
          cases h with
          | cons h1 h2 =>
            obtain ⟨a1, a2⟩ := ih rest _ h2
            exact ⟨by simpa using .cons h1 a1, by simpa using a2⟩
      obtain ⟨a1, a2⟩ := hsplit us _ ds hd
      rw [hl] at a1 a2
      obtain ⟨i1, i2⟩ := ih hk.2 a2
      have ag := a1.get
      refine ⟨.cons ⟨us, rfl, ag.1.symm, fun k x u hx hu => ?_⟩ i1, fun t ht => ?_⟩
      · have hkl : k < cs.length := by rw [← hl]; exact (List.getElem?_eq_some_iff.1 hu).1
        exact ⟨(hcell k _ u (List.getElem?_eq_getElem hkl) hu).1, (ag.2 k x u hx hu).1⟩
      · rcases List.mem_cons.1 ht with rfl | ht
        · show (ds.take cs.length).all D.retOk = true
          rw [List.all_eq_true]
          intro d hdm
          obtain ⟨k, hk⟩ := List.getElem?_of_mem hdm
          have hkl : k < us.length := by rw [← ag.1]; exact (List.getElem?_eq_some_iff.1 hk).1
          exact (ag.2 k d _ hk (List.getElem?_eq_getElem hkl)).2
        · exact i2 t ht
    | tup ts => have := hk.1; cases this

theorem final_ok {l : List T} {vs : List Value} (h : F2 (TR G H w) l vs) (hr : ∀ t ∈ l, (match t with | .d x => x.retOk | .agg cs => cs.all D.retOk | .tup _ => false) = true) : TR G H w (final l) (packV vs.toArray) ∧ (final l).retOk = true := by
  have hlen := h.get.1
  match l, vs, h, hr with
  | [t], [v], .cons h _, hr =>
    refine ⟨h, ?_⟩
    have := hr t (by simp)
    cases t <;> first | exact this | cases this
  | [], [], _, hr => exact ⟨⟨[], by simp [packV], rfl, fun k x u h => by simp at h⟩, rfl⟩
  | t :: t2 :: l, v :: v2 :: vs, h, hr =>
    have hg := h.get
    refine ⟨⟨v :: v2 :: vs, ?_, hg.1.symm, fun k x u hx hu => ?_⟩, ?_⟩
    · unfold packV
      rw [dif_neg (by simp)]
    · have hx2 := hg.2 k x u hx hu
      have hrx := hr x (List.mem_of_getElem? hx)
      cases x with
      | d x => cases x <;> first | trivial | exact hx2
      | agg cs => exact hx2
      | tup ts => cases hrx
    · show ((t :: t2 :: l).all fun t => match t with | .d x => x.retOk | .agg cs => cs.all D.retOk | .tup _ => false) = true
      rw [List.all_eq_true]
      exact hr

theorem ret_ok {ok : Nat → Prop} {fn : Func} {rvs : List RV} {Post : T → Heap → Prop} {n : Nat} (hrv : F2 (RVOk P) fn.results.toList rvs) (hr : Rel (startGh ok w0.heap.size) w0 n [] s a w) (hk : retPost rvs Post s) :
    ∃ v, (results fn a.tmps).run P w = .ok v w ∧ ∃ t N G', Post t N ∧ RetOk ok w0 N t v G' w := by
  obtain ⟨G, hh, ht, _, hf, _, _⟩ := hr
  obtain ⟨vs, l, hrun, hl, hkn, hk⟩ := rets_ok hrv hh ht hk
  have hrun2 : (fn.results.mapM (resOne a.tmps)).run P w = .ok vs.toArray w := by
    have : fn.results.mapM (resOne a.tmps) = (List.toArray <$> fn.results.toList.mapM (resOne a.tmps)) := Array.mapM_eq_mapM_toList
    rw [this]
    simp [hrun]
  refine ⟨packV vs.toArray, by rw [results_eq, Sem.run_bind, hrun2]; simp, ?_⟩
  split at hk
  · rename_i ds E ms ok2 etake
    obtain ⟨hok2, hpost⟩ := hk
    have hfl := (flat_rel hl hkn).get
    obtain ⟨G', Hg, rs, hT⟩ := takeAll_ok P a (l.flatMap T.cells) (us := cellsOf vs) hh (Less.refl s.H) (fun _ h => h.elim) hfl.1.symm (fun k x u hx hu => (hfl.2 k x u hx hu).2) etake hok2
    have h4 : F4 (Took G' Hg w) ds (cellsOf vs) ms rs := F4.of _ _ _ _ hT.lv hT.lm hT.lr hT.item
    have hroots := (ret_roots h4).get
    obtain ⟨k1, k2, k3⟩ := keep_roots (N := retH ds ms) (rs := rs.filterMap id) hT.res.heap (nodup_some hT.dis) hroots.1 (fun j r hj => by
      have hlt : j < (retH ds ms).length := by rw [hroots.1]; exact (List.getElem?_eq_some_iff.1 hj).1
      obtain ⟨sz, n, b, h1, h2⟩ := hroots.2 j _ r (List.getElem?_eq_getElem hlt) hj
      exact ⟨sz, n, b, by rw [List.getD_eq_getElem?_getD, List.getElem?_eq_getElem hlt, h1]; rfl, h2⟩)
    have hcells := ret_cells (N := retH ds ms) (rsA := rs.filterMap id) h4 0 (fun i _ => by rw [Nat.zero_add]) (fun i _ => by rw [Nat.zero_add])
    obtain ⟨r1, r2⟩ := regroup_ok hl hkn hcells
    obtain ⟨f1, f2⟩ := final_ok r1 r2
    have hfw := hf.trans hT.res.fw
    have hfr : ∀ b, b < w0.heap.size → G'.fr b := fun b hb => hfw.fr b hb
    refine ⟨_, _, keepGh G' (rs.filterMap id), hpost, ⟨hfw.wx.mono (fun b hb hn => hn hb), hfw.ok, fun b hb => ?_, k1, fun {id p R b o} hn hm => ?_, f1, f2, k3⟩⟩
    · rcases hfw.okNew b hb with h | h
      · exact .inl h
      · exact .inr (by
          rcases Nat.lt_or_ge b w0.heap.size with h2 | h2
          · exact absurd h2 h
          · exact h2)
    · have hap := k1.apart hn hm
      rcases Nat.lt_or_ge b w0.heap.size with h2 | h2
      · exact absurd (hfr b h2) hap
      · exact h2
  · exact hk.elim

/-- A body's 'ev' gives the function's contract. -/
theorem fnSem_of {g : Nat} (hco : callOk P g = true) {fn : Func} {c : Code} {mc : MC} {rvs : List RV} {args : List T} {Post : T → Heap → Prop} (hf : P.funcs[g]? = some fn) (hb : fn.body = some c) (hc : CodeOk P c mc) (hrv : F2 (RVOk P) fn.results.toList rvs)
    (hn : args.length ≤ fn.ntmps)
    (h : ev (FnSem P) (InSem P) Shift mc ⟨args ++ List.replicate (fn.ntmps - args.length) (.d .dead), [], []⟩ (retPost rvs Post) (fun _ _ => False) (retPost rvs Post)) : FnSem P g args Post := by
  refine ⟨hco, fun ok w vs hst hok hargs => ?_⟩
  have hlen := hargs.get
  refine calls_of_wp hf hb ?_
  have hstart : Rel (startGh ok w.heap.size) w fn.ntmps [] ⟨args ++ List.replicate (fn.ntmps - args.length) (.d .dead), [], []⟩ { tmps := vs.toArray ++ Array.replicate (fn.ntmps - vs.toArray.size) undef, defers := [] } w := by
    refine ⟨startGh ok w.heap.size, ⟨fun {id p R} hn => ?_, fun {id p R b o id' p' R' o'} hn => ?_, fun {id p R b o} hn => ?_, fun h => h, fun h => hok _ h, fun {id p R i f} hn => ?_⟩, ⟨?_, fun i t hi => ?_⟩, .nil, Fw.refl _ _, rfl, ?_⟩
    · exact absurd hn.lt (Nat.not_lt_zero _)
    · exact absurd hn.lt (Nat.not_lt_zero _)
    · exact absurd hn.lt (Nat.not_lt_zero _)
    · exact absurd hn.lt (Nat.not_lt_zero _)
    · simp [hlen.1]
    · by_cases hl : i < args.length
      · rw [List.getElem?_append_left hl] at hi
        have hl2 : i < vs.length := by rw [← hlen.1]; exact hl
        have := hlen.2 i t vs[i] hi (List.getElem?_eq_getElem hl2)
        rw [Array.getD_eq_getD_getElem?, Array.getElem?_append_left (by simpa using hl2)]
        simp [hl2]
        exact this
      · rw [List.getElem?_append_right (by omega)] at hi
        have : t = .d .dead := by
          rw [List.getElem?_replicate] at hi
          split at hi
          · injection hi with hi; exact hi.symm
          · cases hi
        rw [this]; trivial
    · simp; omega
  refine ev_ok (fun w' hx => hst.wx hx fun b hb hn => hn hb) mc c hc _ _ w _ _ _ _ hstart h (fun s a w' h1 h2 => ?_) (fun _ _ _ _ _ h => h.elim) (fun s a w' h1 h2 => ?_)
  · obtain ⟨v, hr, t, N, G', hp, hret⟩ := ret_ok hrv h1 h2
    obtain ⟨_, _, _, _, _, hd, _⟩ := h1
    exact ⟨hd, v, hr, v, t, N, G', rfl, hp, hret⟩
  · obtain ⟨v, hr, t, N, G', hp, hret⟩ := ret_ok hrv h1 h2
    obtain ⟨_, _, _, _, _, hd, _⟩ := h1
    exact ⟨hd, v, hr, v, t, N, G', rfl, hp, hret⟩
end
end Go.R
