/- A call's arguments, as the callee has them; and the call. -/
import Derived.Test.YtgpicngmadkdoaaDoorRCall
set_option linter.unusedVariables false
set_option linter.unusedSimpArgs false
namespace Go.R
open Go.RowKit

section
variable {P : Program} {G G1 G2 G' : Gh} {H H1 H2 N E : Heap} {w w1 w2 : World} {t : T} {v : Value} {s : St} {a : Act}

theorem RO.ro {ok : Nat → Prop} (d : D) : ∀ {u : Value}, d.RO w ok u → d.ro.RO w ok u := by
  induction d with
  | sl o sz n b ih =>
    intro u h
    obtain ⟨_, A, cap, e, hc, hcell⟩ := h
    refine ⟨rfl, A, cap, e, hc, fun hn => ?_⟩
    obtain ⟨bb, off, hA, hok, hcc⟩ := hcell hn
    refine ⟨bb, off, hA, hok, fun i f hi hf => ?_⟩
    obtain ⟨u', h1, h2, h3⟩ := hcc i f hi hf
    exact ⟨u', h1, h2, ih i f h3⟩
  | own => intro u h; exact h.elim
  | ptr => intro u h; exact h.elim
  | rp => intro u h; exact h.elim
  | fn => intro u h; exact h.elim
  | rfn => intro u h; exact h.elim
  | _ => intro u h; exact h

/-- A cell's tree, for somebody who only reads. -/
theorem ro_cell (hh : HeapOk G H w) (d : D) : ∀ {id : Nat} {p : Path} {i f : Nat} {u : Value} {R : Rows}, Node H id p R → i < R.n → f < R.sz → R.at_ i f = d → CellOk G H w id p i f d u →
    d.ro.RO w (fun b => b < w.heap.size) u := by
  have hokall : ∀ b, G.ok b → b < w.heap.size := fun b h => hh.frLt (hh.okFr h)
  induction d with
  | sl o sz n b ih =>
    intro id p i f u R hN hi hf hd hc
    cases o with
    | false => exact RO.ro (.sl false sz n b) (RO.mono hokall _ hc.2)
    | true =>
      obtain ⟨ob, ho, hs⟩ := node_sub.1 hN
      have hN2 : Node H id (p ++ [(i, f)]) ⟨sz, n, b⟩ := node_sub.2 ⟨ob, ho, hs.app (Sub.cons.2 ⟨hi, hf, sz, n, b, hd, Sub.nil.2 rfl⟩)⟩
      have hin : inSl w (G.μ id (p ++ [(i, f)])) sz n 0 n u := hc.2
      have hno := hh.node hN2
      unfold inSl at hin
      unfold NodeOk at hno
      cases hm : G.μ id (p ++ [(i, f)]) with
      | none =>
        rw [hm] at hin
        obtain ⟨h0, _, _, A, e⟩ := hin
        subst h0
        exact ⟨rfl, A, 0, e, Nat.le_refl _, fun h => absurd h (Nat.lt_irrefl _)⟩
      | some bo =>
        obtain ⟨bb, oo⟩ := bo
        rw [hm] at hin hno
        obtain ⟨A, cap, e, h1, h2, h3, h4⟩ := hin
        obtain ⟨c, ty, hcc, hsz, hcell⟩ := hno
        refine ⟨rfl, A, cap, e, by omega, fun hn => ⟨bb, oo, ?_, lt_of_heap hcc, fun i' f' hi' hf' => ?_⟩⟩
        · rcases h4 with h4 | h4
          · omega
          · rw [h4]; simp
        · obtain ⟨u', hu', hcu⟩ := hcell i' f' hi' hf'
          exact ⟨u', by simp [World.cell?, hcc, hu'], hcu.1, ih i' f' hN2 hi' hf' rfl hcu⟩
  | own => intro id p i f u R _ _ _ _ _; trivial
  | ptr => intro id p i f u R _ _ _ _ _; trivial
  | rp => intro id p i f u R _ _ _ _ _; trivial
  | fn => intro id p i f u R _ _ _ _ _; trivial
  | rfn => intro id p i f u R _ _ _ _ _; trivial
  | _ => intro id p i f u R _ _ _ _ hc; exact hc.2

theorem own_ro (hh : HeapOk G H w) {id : Nat} {p : Path} {off len : Nat} {R : Rows} (hN : Node H id p R) (hl : off + len ≤ R.n) (hv : VR G H w (.own id p R.n off len) v) :
    (D.sl false R.sz len fun i f => (subAt off len R.at_ i f).ro).RO w (fun b => b < w.heap.size) v := by
  have hin := hv.2 R hN rfl
  have hno := hh.node hN
  unfold inSl at hin
  unfold NodeOk at hno
  cases hm : G.μ id p with
  | none =>
    rw [hm] at hin
    obtain ⟨_, _, h0, A, e⟩ := hin
    subst h0
    exact ⟨rfl, A, 0, e, Nat.le_refl _, fun h => absurd h (Nat.lt_irrefl _)⟩
  | some bo =>
    obtain ⟨b, o⟩ := bo
    rw [hm] at hin hno
    obtain ⟨A, cap, e, h1, h2, h3, h4⟩ := hin
    obtain ⟨cc, ty, hcc, hsz, hcell⟩ := hno
    refine ⟨rfl, A, cap, e, by omega, fun hn => ⟨b, o + off * R.sz, ?_, lt_of_heap hcc, fun i f hi hf => ?_⟩⟩
    · rcases h4 with h4 | h4
      · omega
      · exact h4
    · obtain ⟨u, hu, hcu⟩ := hcell (off + i) f (by omega) hf
      refine ⟨u, ?_, hcu.1, ?_⟩
      · rw [show o + off * R.sz + i * R.sz + f = o + (off + i) * R.sz + f by rw [Nat.add_mul]; omega]
        simp [World.cell?, hcc, hu]
      · simp only
        rw [subAt_eq off len R.at_ f hi]
        exact ro_cell hh _ hN (by omega) hf rfl hcu

theorem cellP_ok (hh : HeapOk G H w) {id : Nat} {p : Path} {i f : Nat} {u : Value} {R : Rows} (hN : Node H id p R) (hi : i < R.n) (hf : f < R.sz) (hc : CellOk G H w id p i f (R.at_ i f) u) (hok : (cellP H (R.at_ i f)).2) :
    (cellP H (R.at_ i f)).1.RO w (fun b => b < w.heap.size) u := by
  have hro := ro_cell hh _ hN hi hf rfl hc
  have h2 := hc.2
  cases hd : R.at_ i f with
  | own j q tot off len =>
    rw [hd] at hok h2
    simp only [cellP] at hok ⊢
    cases hR : nodeR H j q with
    | none => trivial
    | some R2 =>
      rw [hR] at hok
      obtain ⟨hp, rfl, hl⟩ := hok
      exact own_ro hh ⟨hR, hp⟩ hl h2
  | _ => rw [hd] at hro; exact hro

theorem cellsP_get : ∀ (cs : List D) (f : Nat) (d : D), cs[f]? = some d → (cellsP H cs).2 → (cellsP H cs).1[f]? = some (cellP H d).1 ∧ (cellP H d).2
  | [], f, d, h, _ => by simp at h
  | x :: xs, 0, d, h, hc => by
    simp only [List.getElem?_cons_zero, Option.some.injEq] at h
    subst h
    exact ⟨rfl, hc.1⟩
  | x :: xs, f + 1, d, h, hc => cellsP_get xs f d (by simpa using h) hc.2

theorem ptr_ro (hh : HeapOk G H w) {id : Nat} {p : Path} {tot i f : Nat} {R : Rows} {row : Nat → D} (hN : Node H id p R) (hn : R.n = tot) (hi : i < tot) (hv : VR G H w (.ptr id p tot i f) v)
    (hrow : ∀ f' u, f' < R.sz → CellOk G H w id p i f' (R.at_ i f') u → (row f').RO w (fun b => b < w.heap.size) u) : VR (startGh (fun b => b < w.heap.size) w.heap.size) [] w (.rp R.sz row f) v := by
  obtain ⟨b, o, ev, hcell⟩ := ptr_cells hh hv hN hn hi
  refine ⟨b, o + i * R.sz, ?_, ev, fun f' hf => ?_⟩
  · obtain ⟨_, ad, _, hv⟩ := hv
    obtain ⟨b', o', hm, _⟩ := hv R hN hn hi
    have hno := hh.node hN
    unfold NodeOk at hno
    rw [hm] at hno
    obtain ⟨c, t, hc, _⟩ := hno
    have : b = b' := by
      rename_i h1
      have e1 : (Value.pointer (some ad)) = .pointer (some ⟨b, o + i * R.sz + f, none⟩) := by rw [← ev]; symm; assumption
      injection e1 with e1
      injection e1 with e1
      have e2 : ad = ⟨b', o' + i * R.sz + f, none⟩ := by assumption
      rw [e2] at e1
      injection e1 with e1 _ _
      exact e1.symm
    rw [this]
    exact lt_of_heap hc
  · obtain ⟨u, hu, hc⟩ := hcell f' hf
    exact ⟨u, hu, hc.1, hrow f' u hf hc⟩

theorem box_ro (hh : HeapOk G H w) {id : Nat} {cs : List D} {tot i f : Nat} (hbox : H.getD id none = some (.box cs)) (hc : tot = 1 ∧ i = 0 ∧ (cellsP H cs).2) (hv : VR G H w (.ptr id [] tot i f) v) :
    VR (startGh (fun b => b < w.heap.size) w.heap.size) [] w (.rp cs.length (fun f' => (cellsP H cs).1.getD f' .dead) f) v := by
  obtain ⟨rfl, rfl, hcs⟩ := hc
  have hN : Node H id [] (Obj.box cs).rows := node_sub.2 ⟨_, hbox, Sub.nil.2 rfl⟩
  refine ptr_ro hh hN rfl (Nat.lt_succ_self 0) hv (fun f' u hf hcell => ?_)
  have hf2 : f' < cs.length := hf
  obtain ⟨h1, h2⟩ := cellsP_get cs f' _ (List.getElem?_eq_getElem hf2) hcs
  have hd : (Obj.box cs).rows.at_ 0 f' = cs[f'] := by simp [Obj.rows, List.getD_eq_getElem?_getD, hf2]
  rw [List.getD_eq_getElem?_getD, h1]
  have := cellP_ok hh hN (Nat.lt_succ_self 0) hf hcell (by rw [hd]; exact h2)
  rw [hd] at this
  exact this
theorem capsP_get : ∀ {caps : List Nat} {l : List (Nat × (Nat → D))} {ok : Prop}, capsP H caps = some (l, ok) → ok → l.length = caps.length ∧ ∀ (k c : Nat), caps[k]? = some c → ∃ bs, H.getD c none = some (.box bs) ∧ (cellsP H bs).2 ∧ l[k]? = some (bs.length, fun f' => (cellsP H bs).1.getD f' .dead)
  | [], l, ok, h, _ => by
    simp only [capsP] at h
    injection h with h
    injection h with h1 _
    subst h1
    exact ⟨rfl, fun k c h => by simp at h⟩
  | c :: cs, l, ok, h, hok => by
    unfold capsP at h
    split at h
    · rename_i bs l' ok' h1 h2
      injection h with h
      injection h with e1 e2
      subst e1; subst e2
      obtain ⟨i1, i2⟩ := capsP_get h2 hok.2
      refine ⟨by simp [i1], fun k x hk => ?_⟩
      cases k with
      | zero =>
        simp only [List.getElem?_cons_zero, Option.some.injEq] at hk
        subst hk
        exact ⟨bs, h1, hok.1, rfl⟩
      | succ k => exact i2 k x (by simpa using hk)
    · cases h
theorem fn_ro (hh : HeapOk G H w) {g : Nat} {caps : List Nat} {l : List (Nat × (Nat → D))} {ok : Prop} (hc : capsP H caps = some (l, ok)) (hok : ok) (hv : VR G H w (.fn g caps) v) :
    VR (startGh (fun b => b < w.heap.size) w.heap.size) [] w (.rfn g caps.length (fun k => (l.map (·.1)).getD k 0) (fun k => (l.map (·.2)).getD k fun _ => .dead)) v := by
  obtain ⟨vs, e, hl, hcell⟩ := hv
  obtain ⟨h1, h2⟩ := capsP_get hc hok
  refine ⟨vs, e, hl, fun k u hu => ?_⟩
  have hkl : k < caps.length := by rw [← hl]; exact (List.getElem?_eq_some_iff.1 hu).1
  obtain ⟨bs, hb, hcs, hlk⟩ := h2 k _ (List.getElem?_eq_getElem hkl)
  have := box_ro (tot := 1) (i := 0) (f := 0) hh hb ⟨rfl, rfl, hcs⟩ (hcell k _ u (List.getElem?_eq_getElem hkl) hu)
  obtain ⟨b, o, hb2, e2, hc2⟩ := this
  have es : (l.map (·.1)).getD k 0 = bs.length := by simp [List.getD_eq_getElem?_getD, hlk]
  have er : ((l.map (·.2)).getD k fun _ => .dead) = fun f' => (cellsP H bs).1.getD f' .dead := by simp [List.getD_eq_getElem?_getD, hlk]
  refine ⟨b, o, hb2, by rw [e2, Nat.add_zero], fun f' hf => ?_⟩
  have hf2 : f' < (l.map (·.1)).getD k 0 := hf
  rw [es] at hf2
  show ∃ x, w.cell? ⟨b, o + f', none⟩ = some x ∧ x.oneCell' = true ∧ D.RO w _ ((l.map (fun y => y.2)).getD k (fun _ => D.dead) f') x
  rw [er]
  exact hc2 f' hf2

theorem param_ok (hh : HeapOk G H w) {d d' : D} {c : Prop} (hp : d.param H = some (d', c)) (hc : c) (hv : VR G H w d v) : VR (startGh (fun b => b < w.heap.size) w.heap.size) [] w d' v := by
  have hokall : ∀ b, G.ok b → b < w.heap.size := fun b h => hh.frLt (hh.okFr h)
  have hnode : ∀ {id p tot i f}, d = .ptr id p tot i f → (match nodeR H id p with
        | some R => some (D.rp R.sz (fun f' => (R.at_ i f').ro) f, pathOk H id p ∧ R.n = tot ∧ i < tot)
        | none => none) = some (d', c) → VR (startGh (fun b => b < w.heap.size) w.heap.size) [] w d' v := by
    intro id p tot i f ed hq
    subst ed
    split at hq
    · rename_i R hR
      injection hq with hq
      injection hq with e1 e2
      subst e1; subst e2
      obtain ⟨hpo, hn, hi⟩ := hc
      exact ptr_ro hh ⟨hR, hpo⟩ hn hi hv (fun f' u hf hcell => ro_cell hh _ ⟨hR, hpo⟩ (by omega) hf rfl hcell)
    · cases hq
  cases d with
  | own id p tot off len =>
    simp only [D.param] at hp
    split at hp
    · rename_i R hR
      injection hp with hp
      injection hp with e1 e2
      subst e1; subst e2
      obtain ⟨hpo, rfl, hl⟩ := hc
      exact own_ro hh ⟨hR, hpo⟩ hl hv
    · cases hp
  | ptr id p tot i f =>
    by_cases hbx : ∃ cs, H.getD id none = some (.box cs) ∧ p = []
    · obtain ⟨cs, hbox, rfl⟩ := hbx
      have hp2 : some (D.rp cs.length (fun f' => (cellsP H cs).1.getD f' .dead) f, tot = 1 ∧ i = 0 ∧ (cellsP H cs).2) = some (d', c) := by
        rw [← hp]; unfold D.param; simp only; rw [hbox]
      injection hp2 with hp2
      injection hp2 with e1 e2
      subst e1; subst e2
      exact box_ro hh hbox hc hv
    · refine hnode rfl ?_
      rw [← hp]
      unfold D.param
      simp only
      cases hb : H.getD id none with
      | none => rfl
      | some o =>
        cases o with
        | arr => rfl
        | box cs =>
          cases p with
          | nil => exact absurd ⟨cs, hb, rfl⟩ hbx
          | cons x p => rfl
  | fn g caps =>
    simp only [D.param] at hp
    split at hp
    · rename_i l ok hl
      injection hp with hp
      injection hp with e1 e2
      subst e1; subst e2
      exact fn_ro hh hl hc hv
    · cases hp
  | rfn g n szs rows =>
    simp only [D.param] at hp
    injection hp with hp
    injection hp with e1 e2
    subst e1
    obtain ⟨vs, e, hl, hcell⟩ := hv
    refine ⟨vs, e, hl, fun k u hu => ?_⟩
    obtain ⟨b, o, hb, e2, hc2⟩ := hcell k u hu
    refine ⟨b, o, hokall b hb, e2, fun f' hf => ?_⟩
    obtain ⟨x, h1, h2, h3⟩ := hc2 f' hf
    exact ⟨x, h1, h2, RO.mono hokall _ h3⟩
  | rp sz row f =>
    simp only [D.param] at hp
    injection hp with hp
    injection hp with e1 e2
    subst e1
    obtain ⟨b, o, hb, e, hcell⟩ := hv
    refine ⟨b, o, hokall b hb, e, fun f' hf => ?_⟩
    obtain ⟨u, h1, h2, h3⟩ := hcell f' hf
    exact ⟨u, h1, h2, RO.mono hokall _ h3⟩
  | _ =>
    simp only [D.param] at hp
    injection hp with hp
    injection hp with e1 e2
    subst e1
    exact RO.mono hokall _ hv

theorem closed_ok {d : D} (hc : d.closed = true) (hv : VR G H w d v) : VR (startGh G.ok w.heap.size) [] w d v := by
  cases d with
  | own => cases hc
  | ptr => cases hc
  | fn => cases hc
  | sl o sz n a => exact hv
  | _ => exact hv
theorem closed_param {d d' : D} {c : Prop} (hc : d.closed = true) (hp : d.param H = some (d', c)) : d' = d := by
  cases d with
  | own => cases hc
  | ptr => cases hc
  | fn => cases hc
  | _ => simp only [D.param] at hp; injection hp with hp; injection hp with e1 _; exact e1.symm

theorem paramCells_ok {Q : D → D → Prop} : ∀ {cs ds : List D} {c : Prop}, paramCells H cs = some (ds, c) → c → (∀ x y c, x ∈ cs → x.param H = some (y, c) → c → Q x y) → F2 Q cs ds
  | [], ds, c, h, _, _ => by
    simp only [paramCells] at h
    injection h with h
    injection h with h1 _
    rw [← h1]; exact .nil
  | x :: xs, ds, c, h, hc, hq => by
    unfold paramCells at h
    split at h
    · rename_i y a ys b h1 h2
      injection h with h
      injection h with e1 e2
      subst e1; subst e2
      exact .cons (hq x y a (by simp) h1 hc.1) (paramCells_ok h2 hc.2 fun x y c hx => hq x y c (by simp [hx]))
    · cases h
theorem F2.get {α β : Type} {R : α → β → Prop} {xs : List α} {ys : List β} (h : F2 R xs ys) : xs.length = ys.length ∧ ∀ (k : Nat) x y, xs[k]? = some x → ys[k]? = some y → R x y := by
  induction h with
  | nil => exact ⟨rfl, fun k x y h => by simp at h⟩
  | cons h _ ih =>
    refine ⟨by simp [ih.1], fun k x y hx hy => ?_⟩
    cases k with
    | zero =>
      simp only [List.getElem?_cons_zero, Option.some.injEq] at hx hy
      subst hx; subst hy
      exact h
    | succ k => exact ih.2 k x y (by simpa using hx) (by simpa using hy)

/-- One argument: 'G2': as the callee has it. -/
theorem arg_ok {t' : T} {c : Prop} (G2 : Gh) (hQ : ∀ x y c u, x ∈ t.cells → x.param H = some (y, c) → c → VR G H w x u → VR G2 [] w y u) (hp : t.param H = some (t', c)) (hc : c) (hv : TR G H w t v) : TR G2 [] w t' v := by
  cases t with
  | d x =>
    simp only [T.param] at hp
    cases h1 : x.param H with
    | none => rw [h1] at hp; cases hp
    | some r =>
      obtain ⟨y, b⟩ := r
      rw [h1] at hp
      simp only at hp
      injection hp with hp
      injection hp with e1 e2
      subst e1; subst e2
      by_cases hx : x = .dead
      · subst hx
        simp only [D.param] at h1
        injection h1 with h1
        injection h1 with h1 _
        subst h1
        trivial
      · have hv2 : v.oneCell' = true ∧ VR G H w x v := by cases x <;> first | exact hv | exact absurd rfl hx
        have := hQ x y _ v (by simp [T.cells]) h1 hc hv2.2
        cases y <;> first | trivial | exact ⟨hv2.1, this⟩
  | agg cs =>
    simp only [T.param] at hp
    cases h1 : paramCells H cs with
    | none => rw [h1] at hp; cases hp
    | some r =>
      obtain ⟨ds, b⟩ := r
      rw [h1] at hp
      simp only at hp
      injection hp with hp
      injection hp with e1 e2
      subst e1; subst e2
      have hf := (paramCells_ok (Q := fun x y => x ∈ cs ∧ ∃ c, x.param H = some (y, c) ∧ c) h1 hc (fun x y c hx hp hc => ⟨hx, c, hp, hc⟩)).get
      obtain ⟨vs, e, hl, hcell⟩ := hv
      refine ⟨vs, e, by rw [hl, hf.1], fun k y u hy hu => ?_⟩
      have hkl : k < cs.length := by rw [hf.1]; exact (List.getElem?_eq_some_iff.1 hy).1
      obtain ⟨hx, c', hp', hc'⟩ := hf.2 k _ y (List.getElem?_eq_getElem hkl) hy
      obtain ⟨h2, h3⟩ := hcell k _ u (List.getElem?_eq_getElem hkl) hu
      exact ⟨h2, hQ _ y c' u (by simp [T.cells]) hp' hc' h3⟩
  | tup ts => cases hp

theorem params_ok (G2 : Gh) : ∀ {ts as : List T} {vs : List Value} {c : Prop}, (∀ t x y c u, t ∈ ts → x ∈ t.cells → x.param H = some (y, c) → c → VR G H w x u → VR G2 [] w y u) →
    params H ts = some (as, c) → c → F2 (TR G H w) ts vs → F2 (TR G2 [] w) as vs
  | [], as, vs, c, _, h, _, hf => by
    simp only [params] at h
    injection h with h
    injection h with h1 _
    subst h1
    cases hf
    exact .nil
  | t :: ts, as, vs, c, hQ, h, hc, hf => by
    unfold params at h
    split at h
    · rename_i y a ys b h1 h2
      injection h with h
      injection h with e1 e2
      subst e1; subst e2
      cases hf with
      | cons hv ht => exact .cons (arg_ok G2 (fun x y c u hx => hQ t x y c u (by simp) hx) h1 hc.1 hv) (params_ok G2 (fun t x y c u h => hQ t x y c u (by simp [h])) h2 hc.2 ht)
    · cases h

theorem args_get {xs : List Operand} {ys : List Opd} {ts : List T} (ht : Temps G H w ts a.tmps) (h : F2 OpdOk xs ys) : F2 (TR G H w) (ys.map (·.get ts)) (xs.map a.eval) := by
  induction h with
  | nil => exact .nil
  | cons h _ ih => exact .cons (get_ok h ht) ih

/-- A call that keeps memory as it is. -/
theorem gives_callQ {o : Oper} {g : Nat} {vs : List Value} {K : Heap → T → Prop} {next : Act → World → Prop} {Q : Exit → Act → World → Prop} {ts : List T}
    (hst : Stand P w) (hh : HeapOk G H w) (ho : callOk P g = true → (execOp a.eval o).run P w = .ok (.enter g vs.toArray) w) (hargs : F2 (TR G H w) ts vs)
    (hk : callQ (FnSem P) H g ts K) (hn : ∀ v w1 G1 N t, QRes G H w N t v G1 w1 → K N t → next (a.put o.dst v) w1) : o.wp P a w next Q := by
  unfold callQ at hk
  split at hk
  · rename_i as c hp
    obtain ⟨hc, Post, hF, hpost⟩ := hk
    by_cases hcl : ts.all T.closed = true
    · have hpar := params_ok (startGh G.ok w.heap.size) (fun t x y c u ht hx hp hc hv => by
        have h1 := List.all_eq_true.1 hcl t ht
        have h2 : x.closed = true := by
          cases t with
          | d z => simp only [T.cells, List.mem_singleton] at hx; subst hx; exact h1
          | agg cs => exact List.all_eq_true.1 h1 x hx
          | tup ts => cases h1
        rw [closed_param h2 hp]
        exact closed_ok h2 hv) hp hc hargs
      have hcall := hF.2 G.ok w _ hst (fun b h => hh.frLt (hh.okFr h)) hpar
      unfold Oper.wp
      rw [ho hF.1, Oper.upon_enter]
      refine Calls.mono hcall fun e w' ⟨v, t, N, G', he, hp2, hr⟩ => ?_
      subst he
      obtain ⟨_, hk2⟩ := hpost t N hp2
      exact hn v w' _ N _ (call_merge (cl := True) hh hr (.inl ⟨trivial, rfl⟩) (fun _ => rfl)) hk2
    · have hpar := params_ok (startGh (fun b => b < w.heap.size) w.heap.size) (fun t x y c u ht hx hp hc hv => param_ok hh hp hc hv) hp hc hargs
      have hcall := hF.2 (fun b => b < w.heap.size) w _ hst (fun b h => h) hpar
      unfold Oper.wp
      rw [ho hF.1, Oper.upon_enter]
      refine Calls.mono hcall fun e w' ⟨v, t, N, G', he, hp2, hr⟩ => ?_
      subst he
      obtain ⟨h1, hk2⟩ := hpost t N hp2
      exact hn v w' _ N _ (call_merge (cl := False) hh hr (.inr (h1.resolve_left hcl)) (fun h => h.elim)) hk2
  · exact hk.elim
theorem args_arr (args : Array Operand) : args.map a.eval = (args.toList.map a.eval).toArray := by
  apply Array.ext'
  simp
theorem gives_call {o : Oper} {g : Nat} {args : Array Operand} {args' : List Opd} {K : Heap → T → Prop} {next : Act → World → Prop} {Q : Exit → Act → World → Prop} {ts : List T}
    (hst : Stand P w) (hh : HeapOk G H w) (ht : Temps G H w ts a.tmps) (ho : callOk P g = true → (execOp a.eval o).run P w = .ok (.enter g (args.map a.eval)) w) (hx : F2 OpdOk args.toList args')
    (hk : quiet (FnSem P) ts H (.call g args') K) (hn : ∀ v w1 G1 N t, QRes G H w N t v G1 w1 → K N t → next (a.put o.dst v) w1) : o.wp P a w next Q :=
  gives_callQ hst hh (fun h => by rw [ho h, args_arr]) (args_get ht hx) hk hn

theorem F2.append' {α β : Type} {R : α → β → Prop} {xs xs' : List α} {ys ys' : List β} (h : F2 R xs ys) (k : F2 R xs' ys') : F2 R (xs ++ xs') (ys ++ ys') := by
  induction h with
  | nil => exact k
  | cons h _ ih => exact .cons h ih
theorem rps_ok : ∀ (n : Nat) {szs : Nat → Nat} {rows : Nat → Nat → D} {vs : List Value}, vs.length = n → (∀ (k : Nat) (u : Value), vs[k]? = some u →
      ∃ b o, G.ok b ∧ u = .pointer (some ⟨b, o, none⟩) ∧ ∀ f', f' < szs k → ∃ x, w.cell? ⟨b, o + f', none⟩ = some x ∧ x.oneCell' = true ∧ (rows k f').RO w G.ok x) → F2 (TR G H w) (rps n szs rows) vs
  | 0, szs, rows, vs, hl, _ => by
    cases vs with
    | nil => exact .nil
    | cons v vs => simp at hl
  | n + 1, szs, rows, vs, hl, h => by
    cases vs with
    | nil => simp at hl
    | cons v vs =>
      refine .cons ?_ (rps_ok n (by simpa using hl) fun k u hu => h (k + 1) u (by simpa using hu))
      obtain ⟨b, o, h1, h2, h3⟩ := h 0 v rfl
      subst h2
      exact ⟨rfl, b, o, h1, rfl, h3⟩
theorem caps_ok : ∀ {caps : List Nat} {vs : List Value}, vs.length = caps.length → (∀ (k c : Nat) (u : Value), caps[k]? = some c → vs[k]? = some u → ptrOk G H c [] 1 0 0 u) → F2 (TR G H w) (caps.map fun c => .d (.ptr c [] 1 0 0)) vs
  | [], vs, hl, _ => by
    cases vs with
    | nil => exact .nil
    | cons v vs => simp at hl
  | c :: cs, vs, hl, h => by
    cases vs with
    | nil => simp at hl
    | cons v vs =>
      refine .cons ?_ (caps_ok (by simpa using hl) fun k c u hc hu => h (k + 1) c u (by simpa using hc) (by simpa using hu))
      have := h 0 c v rfl rfl
      refine ⟨?_, this⟩
      obtain ⟨_, ad, e, _⟩ := this
      rw [e]; rfl
/-- A call of a function value by somebody who only reads. -/
theorem gives_callF {o : Oper} {f : Operand} {f' : Opd} {args : Array Operand} {args' : List Opd} {K : Heap → T → Prop} {next : Act → World → Prop} {Q : Exit → Act → World → Prop} {ts : List T}
    (hst : Stand P w) (hh : HeapOk G H w) (ht : Temps G H w ts a.tmps) (hf : OpdOk f f')
    (ho : ∀ g vs, callOk P g = true → a.eval f = .func (.func g) #[] vs → (execOp a.eval o).run P w = .ok (.enter g (args.map a.eval ++ vs)) w) (hx : F2 OpdOk args.toList args')
    (hk : quiet (FnSem P) ts H (.callF f' args') K) (hn : ∀ v w1 G1 N t, QRes G H w N t v G1 w1 → K N t → next (a.put o.dst v) w1) : o.wp P a w next Q := by
  have hargs := args_get ht hx
  have hv := get_ok hf ht
  simp only [quiet] at hk
  split at hk
  · rename_i g n szs rows e1
    rw [e1] at hv
    obtain ⟨_, vs, ev, hl, hc⟩ := hv
    refine gives_callQ (vs := args.toList.map a.eval ++ vs) hst hh (fun h => ?_) (hargs.append' (rps_ok n hl hc)) hk hn
    rw [ho g _ h ev, args_arr]; simp
  · rename_i g caps e1
    rw [e1] at hv
    obtain ⟨_, vs, ev, hl, hc⟩ := hv
    refine gives_callQ (vs := args.toList.map a.eval ++ vs) hst hh (fun h => ?_) (hargs.append' (caps_ok hl hc)) hk hn
    rw [ho g _ h ev, args_arr]; simp
  · exact hk.elim

/-- A function's contract in its caller's own memory. -/
def InSem (P : Program) (g : Nat) (args : List T) (H : Heap) (up : List (List T)) (Post : T → Heap → List (List T) → Prop) : Prop :=
  callOk P g = true ∧ ∀ (G : Gh) (w : World) (vs : List Value) (ups : List (Array Value)), (∀ w', Wx w w' (fun b => ¬ G.fr b) → Stand P w') → HeapOk G H w → F2 (TR G H w) args vs → F2 (Temps G H w) up ups →
    Calls P g vs.toArray w fun e w' => ∃ v t G' H' up', e = .returned v ∧ Post t H' up' ∧ HeapOk G' H' w' ∧ TR G' H' w' t v ∧ F2 (Temps G' H' w') up' ups ∧
      Wx w w' (fun b => ¬ G.fr b) ∧ (∀ b, G.ok b → G'.ok b) ∧ (∀ b, G'.ok b → G.ok b ∨ ¬ G.fr b) ∧ (∀ b, G.fr b → G'.fr b)
end
end Go.R
