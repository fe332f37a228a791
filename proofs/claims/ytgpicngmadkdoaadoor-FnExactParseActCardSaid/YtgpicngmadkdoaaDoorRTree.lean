/- Trees of rows: what a node is after a change. -/
import Derived.Test.YtgpicngmadkdoaaDoorRQuiet7
set_option linter.unusedVariables false
set_option linter.unusedSimpArgs false
namespace Go.R

/-- What a cell may become beside a change: itself, nothing known, or a tree whose inner part has changed. -/
def CellLe (d d' : D) : Prop := d' = d ∨ d' = .dead ∨ ∃ sz n b b', d = .sl true sz n b ∧ d' = .sl true sz n b'
theorem CellLe.refl (d : D) : CellLe d d := .inl rfl
theorem CellLe.trans {d d1 d2 : D} (h : CellLe d d1) (k : CellLe d1 d2) : CellLe d d2 := by
  rcases h with rfl | rfl | ⟨sz, n, b, b', rfl, rfl⟩
  · exact k
  · rcases k with rfl | rfl | ⟨_, _, _, _, h, _⟩
    · exact .inr (.inl rfl)
    · exact .inr (.inl rfl)
    · cases h
  · rcases k with rfl | rfl | ⟨_, _, _, b2, h, rfl⟩
    · exact .inr (.inr ⟨_, _, _, _, rfl, rfl⟩)
    · exact .inr (.inl rfl)
    · injection h with _ h1 h2 h3; subst h1; subst h2; exact .inr (.inr ⟨_, _, _, _, rfl, rfl⟩)
structure RowsLe (R R1 : Rows) : Prop where
  n : R1.n = R.n
  sz : R1.sz = R.sz
  cell : ∀ i f, i < R1.n → f < R1.sz → CellLe (R.at_ i f) (R1.at_ i f)
theorem RowsLe.refl (R : Rows) : RowsLe R R := ⟨rfl, rfl, fun _ _ _ _ => .refl _⟩
theorem RowsLe.trans {R R1 R2 : Rows} (h : RowsLe R R1) (k : RowsLe R1 R2) : RowsLe R R2 :=
  ⟨k.n.trans h.n, k.sz.trans h.sz, fun i f hi hf => (h.cell i f (by rw [← k.n]; exact hi) (by rw [← k.sz]; exact hf)).trans (k.cell i f hi hf)⟩

/-- R1 is the node at path p of R. -/
def Sub (p : Path) (R R1 : Rows) : Prop := nodeIn p R = some R1 ∧ pathIn p R
theorem Sub.nil {R R1 : Rows} : Sub [] R R1 ↔ R1 = R := by
  unfold Sub nodeIn pathIn
  exact ⟨fun h => by injection h.1 with h; exact h.symm, fun h => ⟨by rw [h], trivial⟩⟩
theorem Sub.cons {i f : Nat} {p : Path} {R R1 : Rows} : Sub ((i, f) :: p) R R1 ↔ i < R.n ∧ f < R.sz ∧ ∃ sz n b, R.at_ i f = .sl true sz n b ∧ Sub p ⟨sz, n, b⟩ R1 := by
  constructor
  · intro h
    obtain ⟨h1, h2, h3, h4⟩ := h
    refine ⟨h2, h3, ?_⟩
    unfold nodeIn at h1
    cases hd : R.at_ i f with
    | sl o sz n b =>
      rw [hd] at h1 h4
      cases o
      · cases h1
      · exact ⟨sz, n, b, rfl, h1, h4⟩
    | _ => rw [hd] at h1; cases h1
  · intro ⟨h1, h2, sz, n, b, hd, h3, h4⟩
    unfold Sub nodeIn pathIn
    rw [hd]
    exact ⟨h3, h1, h2, h4⟩
theorem Sub.app {p q : Path} : ∀ {R R1 R2 : Rows}, Sub p R R1 → Sub q R1 R2 → Sub (p ++ q) R R2 := by
  induction p with
  | nil => intro R R1 R2 h k; rw [Sub.nil] at h; subst h; exact k
  | cons x p ih =>
    obtain ⟨i, f⟩ := x
    intro R R1 R2 h k
    rw [Sub.cons] at h
    obtain ⟨h1, h2, sz, n, b, hd, h3⟩ := h
    rw [List.cons_append, Sub.cons]
    exact ⟨h1, h2, sz, n, b, hd, ih h3 k⟩
theorem Sub.split {p q : Path} : ∀ {R R2 : Rows}, Sub (p ++ q) R R2 → ∃ R1, Sub p R R1 ∧ Sub q R1 R2 := by
  induction p with
  | nil => intro R R2 h; exact ⟨R, Sub.nil.2 rfl, h⟩
  | cons x p ih =>
    obtain ⟨i, f⟩ := x
    intro R R2 h
    rw [List.cons_append, Sub.cons] at h
    obtain ⟨h1, h2, sz, n, b, hd, h3⟩ := h
    obtain ⟨R1, h4, h5⟩ := ih h3
    exact ⟨R1, Sub.cons.2 ⟨h1, h2, sz, n, b, hd, h4⟩, h5⟩
theorem Sub.uniq {p : Path} {R R1 R2 : Rows} (h : Sub p R R1) (k : Sub p R R2) : R1 = R2 := by
  have := h.1.symm.trans k.1
  injection this
theorem node_sub {H : Heap} {id : Nat} {p : Path} {R1 : Rows} : Node H id p R1 ↔ ∃ o, H.getD id none = some o ∧ Sub p o.rows R1 := by
  unfold Node nodeR pathOk Sub
  cases H.getD id none with
  | none => simp
  | some o => simp
theorem Node.uniq {H : Heap} {id : Nat} {p : Path} {R R1 : Rows} (h : Node H id p R) (k : Node H id p R1) : R = R1 := by
  have := h.1.symm.trans k.1
  injection this

/-- Nodes of rows that are alike, cell by cell, up to dead cells. -/
theorem Sub.le {p : Path} : ∀ {R R' R1' : Rows}, R'.n = R.n → R'.sz = R.sz → (∀ i f, i < R.n → f < R.sz → R'.at_ i f = R.at_ i f ∨ R'.at_ i f = .dead) → Sub p R' R1' → ∃ R1, Sub p R R1 ∧ RowsLe R1 R1' := by
  intro R R' R1' hn hs hc h
  cases p with
  | nil =>
    rw [Sub.nil] at h
    subst h
    exact ⟨R, Sub.nil.2 rfl, hn, hs, fun i f hi hf => by
      rcases hc i f (by omega) (by omega) with h | h
      · exact .inl h
      · exact .inr (.inl h)⟩
  | cons x q =>
    obtain ⟨j, g⟩ := x
    rw [Sub.cons] at h
    obtain ⟨h1, h2, sz, n, b, hd, h3⟩ := h
    rcases hc j g (by omega) (by omega) with h | h
    · exact ⟨R1', Sub.cons.2 ⟨by omega, by omega, sz, n, b, by rw [← h]; exact hd, h3⟩, .refl _⟩
    · rw [h] at hd; cases hd

theorem setAt_one {a : Nat → Nat → D} {j g i' f' : Nat} {v : D} : setAt a j g [v] i' f' = if i' = j ∧ f' = g then v else a i' f' := by
  unfold setAt
  by_cases h1 : i' = j
  · by_cases h2 : f' = g
    · subst h1; subst h2; simp
    · rw [if_pos h1, if_neg (by simp; omega), if_neg (fun h => h2 h.2), h1]
  · rw [if_neg h1, if_neg (fun h => h1 h.1)]
theorem setAt_get {a : Nat → Nat → D} {i f i' f' : Nat} {vs : List D} : setAt a i f vs i' f' = if i' = i ∧ f ≤ f' ∧ f' < f + vs.length then vs.getD (f' - f) .dead else a i' f' := by
  unfold setAt
  by_cases h1 : i' = i
  · subst h1
    by_cases h2 : f ≤ f' ∧ f' < f + vs.length
    · rw [if_pos rfl, if_pos h2, if_pos ⟨rfl, h2⟩]
    · rw [if_pos rfl, if_neg h2, if_neg (fun h => h2 h.2)]
  · rw [if_neg h1, if_neg (fun h => h1 h.1)]

/-- What is at path p' behind a change of the cells (i, f..) of the node at p. -/
inductive PutAt (p : Path) (i f : Nat) (vs : List D) (R : Rows) (p' : Path) (R1 : Rows) : Prop
  | new (k : Nat) (q : Path) (sz n : Nat) (b : Nat → Nat → D) (hp : p' = p ++ (i, f + k) :: q) (hv : vs[k]? = some (.sl true sz n b)) (hs : Sub q ⟨sz, n, b⟩ R1)
  | old (hp : ∀ k q, k < vs.length → p' ≠ p ++ (i, f + k) :: q) (R0 : Rows) (hs : Sub p' R R0) (hn : R1.n = R0.n) (hz : R1.sz = R0.sz)
    (hc : ∀ i' f', i' < R1.n → f' < R1.sz → (p' = p ∧ i' = i ∧ f ≤ f' ∧ f' < f + vs.length → R1.at_ i' f' = vs.getD (f' - f) .dead) ∧ (¬ (p' = p ∧ i' = i ∧ f ≤ f' ∧ f' < f + vs.length) → CellLe (R0.at_ i' f') (R1.at_ i' f')))

theorem putAt_in {i f : Nat} {vs : List D} : ∀ {p : Path} {sz n : Nat} {a : Nat → Nat → D} {R : Rows} {p' : Path} {R1 : Rows}, Sub p ⟨sz, n, a⟩ R → Sub p' ⟨sz, n, setIn p a i f vs⟩ R1 → PutAt p i f vs ⟨sz, n, a⟩ p' R1
  | [], sz, n, a, R, p', R1, hR, h => by
    simp only [setIn] at h
    cases p' with
    | nil =>
      rw [Sub.nil] at h
      subst h
      refine .old (fun k q _ => by simp) ⟨sz, n, a⟩ (Sub.nil.2 rfl) rfl rfl fun i' f' hi hf => ⟨fun hc => ?_, fun hc => ?_⟩
      · show setAt a i f vs i' f' = _
        rw [setAt_get, if_pos hc.2]
      · show CellLe _ (setAt a i f vs i' f')
        rw [setAt_get, if_neg (fun h => hc ⟨rfl, h⟩)]
        exact .refl _
    | cons x q =>
      obtain ⟨j, g⟩ := x
      rw [Sub.cons] at h
      obtain ⟨h1, h2, sz2, n2, b, hd, h3⟩ := h
      simp only [setAt_get] at hd
      by_cases hc : j = i ∧ f ≤ g ∧ g < f + vs.length
      · rw [if_pos hc] at hd
        obtain ⟨rfl, h4, h5⟩ := hc
        refine .new (g - f) q sz2 n2 b (by simp; omega) ?_ h3
        rw [List.getD_eq_getElem?_getD, List.getElem?_eq_getElem (by omega)] at hd
        rw [List.getElem?_eq_getElem (by omega)]
        exact congrArg some hd
      · rw [if_neg hc] at hd
        refine .old (fun k q' hk e => ?_) R1 (Sub.cons.2 ⟨h1, h2, sz2, n2, b, hd, h3⟩) rfl rfl fun i' f' _ _ => ⟨fun h => by simp at h, fun _ => .refl _⟩
        simp only [List.nil_append, List.cons.injEq, Prod.mk.injEq] at e
        exact hc ⟨e.1.1, by omega, by omega⟩
  | (j, h) :: p, sz, n, a, R, p', R1, hR, h0 => by
    rw [Sub.cons] at hR
    obtain ⟨hj, hh, sz2, n2, b, hd, hR⟩ := hR
    simp only at hj hh hd
    simp only [setIn, hd] at h0
    cases p' with
    | nil =>
      rw [Sub.nil] at h0
      subst h0
      refine .old (fun k q _ => by simp) ⟨sz, n, a⟩ (Sub.nil.2 rfl) rfl rfl fun i' f' hi hf => ⟨fun hc => by simp at hc, fun _ => ?_⟩
      show CellLe _ (setAt a j h _ i' f')
      rw [setAt_one]
      by_cases hc : i' = j ∧ f' = h
      · rw [if_pos hc, hc.1, hc.2]
        exact .inr (.inr ⟨_, _, _, _, hd, rfl⟩)
      · rw [if_neg hc]
        exact .refl _
    | cons x q =>
      obtain ⟨j', h'⟩ := x
      rw [Sub.cons] at h0
      obtain ⟨h1, h2, sz3, n3, b3, hd3, h3⟩ := h0
      simp only [setAt_one] at hd3
      by_cases hc : j' = j ∧ h' = h
      · rw [if_pos hc] at hd3
        injection hd3 with _ e1 e2 e3
        subst e1; subst e2; subst e3
        obtain ⟨rfl, rfl⟩ := hc
        cases putAt_in hR h3 with
        | new k q' sz4 n4 b4 hp hv hs => exact .new k q' sz4 n4 b4 (by rw [hp]; rfl) hv hs
        | old hp R0 hs hn hz hc =>
          refine .old (fun k q' hk e => hp k q' hk (by simpa using e)) R0 (Sub.cons.2 ⟨hj, hh, _, _, b, hd, hs⟩) hn hz fun i' f' hi hf => ⟨fun e => (hc i' f' hi hf).1 ⟨by simpa using e.1, e.2⟩, fun e => (hc i' f' hi hf).2 (fun e2 => e ⟨by rw [e2.1], e2.2⟩)⟩
      · rw [if_neg hc] at hd3
        refine .old (fun k q' hk e => ?_) R1 (Sub.cons.2 ⟨h1, h2, _, _, _, hd3, h3⟩) rfl rfl fun i' f' _ _ => ⟨fun e => ?_, fun _ => .refl _⟩
        · simp only [List.cons_append, List.cons.injEq, Prod.mk.injEq] at e
          exact hc e.1
        · simp only [List.cons.injEq, Prod.mk.injEq] at e
          exact absurd e.1.1 hc

theorem box_getD {cs : List D} {g f' : Nat} {v : D} (hg : g < cs.length) : (cs.set g v).getD f' .dead = if f' = g then v else cs.getD f' .dead := by
  simp only [List.getD_eq_getElem?_getD, List.getElem?_set]
  by_cases h : g = f'
  · subst h; simp [hg]
  · rw [if_neg h, if_neg (fun e => h e.symm)]
theorem setList_getD {cs vs : List D} {f f' : Nat} (h : f + vs.length ≤ cs.length) : (setList cs f vs).getD f' .dead = if f ≤ f' ∧ f' < f + vs.length then vs.getD (f' - f) .dead else cs.getD f' .dead := by
  simp only [List.getD_eq_getElem?_getD]
  rw [setList_get _ _ _ _ h]
  split <;> rfl

theorem putAt_obj {o : Obj} {p p' : Path} {i f : Nat} {vs : List D} {R R1 : Rows} (hR : Sub p o.rows R) (hi : i < R.n) (hf : f + vs.length ≤ R.sz) (h : Sub p' (o.put p i f vs).rows R1) : PutAt p i f vs o.rows p' R1 := by
  cases o with
  | arr sz n a => exact putAt_in hR h
  | box cs =>
    cases p with
    | nil =>
      rw [Sub.nil] at hR
      subst hR
      simp only [Obj.rows] at hi hf
      have hi0 : i = 0 := by omega
      subst hi0
      simp only [Obj.put, Obj.rows, setList_length] at h
      cases p' with
      | nil =>
        rw [Sub.nil] at h
        subst h
        refine .old (fun k q _ => by simp) (Obj.box cs).rows (Sub.nil.2 rfl) rfl rfl fun i' f' hi' hf' => ⟨fun hc => ?_, fun hc => ?_⟩
        · show (setList cs f vs).getD f' .dead = _
          rw [setList_getD hf, if_pos hc.2.2]
        · show CellLe (cs.getD f' .dead) ((setList cs f vs).getD f' .dead)
          simp only at hi'
          rw [setList_getD hf, if_neg (fun h => hc ⟨rfl, by omega, h⟩)]
          exact .refl _
      | cons x q =>
        obtain ⟨j, g⟩ := x
        rw [Sub.cons] at h
        obtain ⟨h1, h2, sz2, n2, b, hd, h3⟩ := h
        simp only at h1 h2 hd
        rw [setList_getD hf] at hd
        by_cases hc : f ≤ g ∧ g < f + vs.length
        · rw [if_pos hc] at hd
          refine .new (g - f) q sz2 n2 b (by simp; omega) ?_ h3
          rw [List.getD_eq_getElem?_getD, List.getElem?_eq_getElem (by omega)] at hd
          rw [List.getElem?_eq_getElem (by omega)]
          exact congrArg some hd
        · rw [if_neg hc] at hd
          refine .old (fun k q' hk e => ?_) R1 (Sub.cons.2 ⟨h1, h2, sz2, n2, b, hd, h3⟩) rfl rfl fun i' f' _ _ => ⟨fun h => by simp at h, fun _ => .refl _⟩
          simp only [List.nil_append, List.cons.injEq, Prod.mk.injEq] at e
          exact hc ⟨by omega, by omega⟩
    | cons x p =>
      obtain ⟨j, g⟩ := x
      rw [Sub.cons] at hR
      obtain ⟨hj, hg, sz2, n2, b, hd, hR⟩ := hR
      simp only [Obj.rows] at hj hg hd
      simp only [Obj.put, hd, Obj.rows, List.length_set] at h
      cases p' with
      | nil =>
        rw [Sub.nil] at h
        subst h
        refine .old (fun k q _ => by simp) (Obj.box cs).rows (Sub.nil.2 rfl) rfl rfl fun i' f' hi' hf' => ⟨fun hc => by simp at hc, fun hc => ?_⟩
        show CellLe (cs.getD f' .dead) ((cs.set g _).getD f' .dead)
        rw [box_getD hg]
        by_cases hc : f' = g
        · rw [if_pos hc, hc]
          exact .inr (.inr ⟨_, _, _, _, hd, rfl⟩)
        · rw [if_neg hc]
          exact .refl _
      | cons x q =>
        obtain ⟨j', h'⟩ := x
        rw [Sub.cons] at h
        obtain ⟨h1, h2, sz3, n3, b3, hd3, h3⟩ := h
        simp only at h1 h2 hd3
        rw [box_getD hg] at hd3
        have hjj : j' = j := by omega
        by_cases hc : h' = g
        · rw [if_pos hc] at hd3
          injection hd3 with _ e1 e2 e3
          subst e1; subst e2; subst e3; subst hc; subst hjj
          cases putAt_in hR h3 with
          | new k q' sz4 n4 b4 hp hv hs => exact .new k q' sz4 n4 b4 (by rw [hp]; rfl) hv hs
          | old hp R0 hs hn hz hc =>
            refine .old (fun k q' hk e => hp k q' hk (by simpa using e)) R0 (Sub.cons.2 ⟨hj, hg, _, _, b, hd, hs⟩) hn hz fun i' f' hi hf => ⟨fun e => (hc i' f' hi hf).1 ⟨by simpa using e.1, e.2⟩, fun e => (hc i' f' hi hf).2 (fun e2 => e ⟨by rw [e2.1], e2.2⟩)⟩
        · rw [if_neg hc] at hd3
          refine .old (fun k q' hk e => ?_) R1 (Sub.cons.2 ⟨h1, h2, _, _, _, hd3, h3⟩) rfl rfl fun i' f' _ _ => ⟨fun e => ?_, fun _ => .refl _⟩
          · simp only [List.cons_append, List.cons.injEq, Prod.mk.injEq] at e
            exact hc e.1.2
          · simp only [List.cons.injEq, Prod.mk.injEq] at e
            exact absurd e.1.1.2 hc
end Go.R
