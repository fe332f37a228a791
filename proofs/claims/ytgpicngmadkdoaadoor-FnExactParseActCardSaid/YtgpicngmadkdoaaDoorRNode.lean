/- Nodes of a heap behind a change. -/
import Derived.Test.YtgpicngmadkdoaaDoorRTree
set_option linter.unusedVariables false
set_option linter.unusedSimpArgs false
namespace Go.R

theorem getD_set {H : Heap} {id id' : Nat} {o : Option Obj} (h : id < H.length) : (H.set id o).getD id' none = if id' = id then o else H.getD id' none := by
  simp only [List.getD_eq_getElem?_getD, List.getElem?_set]
  by_cases e : id = id'
  · subst e; simp [h]
  · rw [if_neg e, if_neg (fun x => e x.symm)]
theorem getD_lt {H : Heap} {id : Nat} {o : Obj} (h : H.getD id none = some o) : id < H.length := by
  rcases Nat.lt_or_ge id H.length with hl | hl
  · exact hl
  · simp [List.getD_eq_getElem?_getD, List.getElem?_eq_none hl] at h
theorem put_length (H : Heap) (id : Nat) (p : Path) (i f : Nat) (vs : List D) : (H.put id p i f vs).length = H.length := by
  unfold Heap.put
  split <;> simp
theorem kill_length (H : Heap) (q : D → Bool) : (H.kill q).length = H.length := by simp [Heap.kill]
theorem kill_getD (H : Heap) (q : D → Bool) (id : Nat) : (H.kill q).getD id none = (H.getD id none).map (Obj.kill q) := by
  simp only [Heap.kill, List.getD_eq_getElem?_getD, List.getElem?_map]
  cases H[id]? with
  | none => rfl
  | some o => cases o <;> rfl

/-- What is at (id', p') behind a change of the cells (i, f..) of the node (id, p). -/
inductive PutN (H : Heap) (id : Nat) (p : Path) (i f : Nat) (vs : List D) (id' : Nat) (p' : Path) (R1 : Rows) : Prop
  | new (k : Nat) (q : Path) (sz n : Nat) (b : Nat → Nat → D) (hid : id' = id) (hp : p' = p ++ (i, f + k) :: q) (hv : vs[k]? = some (.sl true sz n b)) (hs : Sub q ⟨sz, n, b⟩ R1)
  | old (hp : ∀ k q, k < vs.length → ¬ (id' = id ∧ p' = p ++ (i, f + k) :: q)) (R0 : Rows) (hs : Node H id' p' R0) (hn : R1.n = R0.n) (hz : R1.sz = R0.sz)
    (hc : ∀ i' f', i' < R1.n → f' < R1.sz → (id' = id ∧ p' = p ∧ i' = i ∧ f ≤ f' ∧ f' < f + vs.length → R1.at_ i' f' = vs.getD (f' - f) .dead) ∧ (¬ (id' = id ∧ p' = p ∧ i' = i ∧ f ≤ f' ∧ f' < f + vs.length) → CellLe (R0.at_ i' f') (R1.at_ i' f')))

theorem node_put {H : Heap} {id : Nat} {p : Path} {i f : Nat} {vs : List D} {R : Rows} (hR : Node H id p R) (hi : i < R.n) (hf : f + vs.length ≤ R.sz) {id' : Nat} {p' : Path} {R1 : Rows}
    (h : Node (H.put id p i f vs) id' p' R1) : PutN H id p i f vs id' p' R1 := by
  obtain ⟨o, ho, hs⟩ := node_sub.1 hR
  obtain ⟨o1, ho1, hs1⟩ := node_sub.1 h
  unfold Heap.put at ho1
  rw [ho] at ho1
  simp only at ho1
  rw [getD_set (getD_lt ho)] at ho1
  by_cases e : id' = id
  · subst e
    rw [if_pos rfl] at ho1
    injection ho1 with ho1
    subst ho1
    cases putAt_obj hs hi hf hs1 with
    | new k q sz n b hp hv hs2 => exact .new k q sz n b rfl hp hv hs2
    | old hp R0 hs2 hn hz hc =>
      exact .old (fun k q hk e => hp k q hk e.2) R0 (node_sub.2 ⟨o, ho, hs2⟩) hn hz fun i' f' hi hf => ⟨fun e => (hc i' f' hi hf).1 e.2, fun e => (hc i' f' hi hf).2 (fun e2 => e ⟨rfl, e2⟩)⟩
  · rw [if_neg e] at ho1
    exact .old (fun k q hk e2 => e e2.1) R1 (node_sub.2 ⟨o1, ho1, hs1⟩) rfl rfl fun i' f' _ _ => ⟨fun e2 => absurd e2.1 e, fun _ => .refl _⟩
theorem put_box {H : Heap} {id : Nat} {p : Path} {i f : Nat} {vs : List D} {id' : Nat} {cs : List D} (h : H.getD id' none = some (.box cs)) : ∃ cs', (H.put id p i f vs).getD id' none = some (.box cs') := by
  unfold Heap.put
  cases ho : H.getD id none with
  | none => exact ⟨cs, h⟩
  | some o =>
    simp only
    rw [getD_set (getD_lt ho)]
    by_cases e : id' = id
    · subst e
      rw [if_pos rfl]
      rw [h] at ho
      injection ho with ho
      subst ho
      cases p with
      | nil => exact ⟨_, rfl⟩
      | cons x q =>
        obtain ⟨j, g⟩ := x
        simp only [Obj.put]
        split <;> exact ⟨_, rfl⟩
    · rw [if_neg e]; exact ⟨cs, h⟩

theorem splitLast_none {p : Path} (h : splitLast p = none) : p = [] := by
  cases p with
  | nil => rfl
  | cons x p =>
    unfold splitLast at h
    cases p with
    | nil => cases h
    | cons y p =>
      simp only at h
      cases hs : splitLast (y :: p) with
      | none => exact absurd (splitLast_none hs) (by simp)
      | some z => rw [hs] at h; cases h
theorem splitLast_some : ∀ {p q : Path} {i f : Nat}, splitLast p = some (q, i, f) → p = q ++ [(i, f)]
  | [], _, _, _, h => by cases h
  | [x], q, i, f, h => by
    simp only [splitLast] at h
    injection h with h
    injection h with h1 h2
    subst h1
    rw [← h2]; rfl
  | x :: y :: p, q, i, f, h => by
    simp only [splitLast] at h
    cases hs : splitLast (y :: p) with
    | none => rw [hs] at h; cases h
    | some z =>
      obtain ⟨q', i', f'⟩ := z
      have := splitLast_some hs
      rw [hs] at h
      simp only at h
      injection h with h
      injection h with h1 h2
      injection h2 with h2 h3
      subst h1; subst h2; subst h3
      rw [this]; rfl

theorem drop_length (H : Heap) (id : Nat) (p : Path) : (H.drop_ id p).length = H.length := by
  unfold Heap.drop_
  split
  · simp
  · exact put_length ..
theorem node_drop {H : Heap} {id : Nat} {p : Path} {R : Rows} (hR : Node H id p R) {id' : Nat} {p' : Path} {R1 : Rows} (h : Node (H.drop_ id p) id' p' R1) :
    (∀ q, ¬ (id' = id ∧ p' = p ++ q)) ∧ ∃ R0, Node H id' p' R0 ∧ RowsLe R0 R1 := by
  unfold Heap.drop_ at h
  split at h
  · rename_i e
    have := splitLast_none e
    subst this
    obtain ⟨o1, ho1, hs1⟩ := node_sub.1 h
    rw [getD_set hR.lt] at ho1
    by_cases e : id' = id
    · rw [if_pos e] at ho1; cases ho1
    · rw [if_neg e] at ho1
      exact ⟨fun q e2 => e e2.1, R1, node_sub.2 ⟨o1, ho1, hs1⟩, .refl _⟩
  · rename_i q i f e
    have := splitLast_some e
    subst this
    obtain ⟨o, ho, hs⟩ := node_sub.1 hR
    obtain ⟨Rq, h1, h2⟩ := hs.split
    rw [Sub.cons] at h2
    obtain ⟨hi, hf, _⟩ := h2
    cases node_put (vs := [.dead]) (node_sub.2 ⟨o, ho, h1⟩) hi (by simp; omega) h with
    | new k q' sz n b hid hp hv hs => cases k <;> simp at hv
    | old hp R0 hs hn hz hc =>
      refine ⟨fun q' e2 => hp 0 q' (by simp) ⟨e2.1, by rw [e2.2]; simp⟩, R0, hs, hn, hz, fun i' f' hi hf => ?_⟩
      by_cases hcc : id' = id ∧ p' = q ∧ i' = i ∧ f ≤ f' ∧ f' < f + [D.dead].length
      · have := (hc i' f' hi hf).1 hcc
        have h0 : f' - f = 0 := by have := hcc.2.2.2.2; simp at this; omega
        rw [h0] at this
        exact .inr (.inl this)
      · exact (hc i' f' hi hf).2 hcc
theorem drop_box {H : Heap} {id : Nat} {p : Path} {id' : Nat} {cs : List D} (h : H.getD id' none = some (.box cs)) : (p = [] ∧ id' = id) ∨ ∃ cs', (H.drop_ id p).getD id' none = some (.box cs') := by
  unfold Heap.drop_
  split
  · rename_i e
    have := splitLast_none e
    subst this
    by_cases e : id' = id
    · exact .inl ⟨rfl, e⟩
    · right
      refine ⟨cs, ?_⟩
      rcases Nat.lt_or_ge id H.length with hl | hl
      · rw [getD_set hl, if_neg e]; exact h
      · rw [List.set_eq_of_length_le hl]; exact h
  · exact .inr (put_box h)

theorem node_kill {H : Heap} {q : D → Bool} (hq : ∀ o sz n b, q (.sl o sz n b) = false) {id : Nat} {p : Path} {R1 : Rows} (h : Node (H.kill q) id p R1) :
    ∃ R0, Node H id p R0 ∧ RowsLe R0 R1 ∧ ((∃ cs, H.getD id none = some (.box cs)) → p = [] → ∀ i f, i < R1.n → f < R1.sz → R1.at_ i f = .dead ∨ q (R1.at_ i f) = false) := by
  obtain ⟨o1, ho1, hs1⟩ := node_sub.1 h
  rw [kill_getD] at ho1
  cases ho : H.getD id none with
  | none => rw [ho] at ho1; cases ho1
  | some o =>
    rw [ho] at ho1
    injection ho1 with ho1
    cases o with
    | arr sz n a =>
      simp only [Obj.kill] at ho1
      subst ho1
      exact ⟨R1, node_sub.2 ⟨_, ho, hs1⟩, .refl _, fun hb _ => by obtain ⟨cs, hb⟩ := hb; cases hb⟩
    | box cs =>
      simp only [Obj.kill] at ho1
      subst ho1
      have hg : ∀ f, f < cs.length → (cs.map (D.kill q)).getD f .dead = (cs.getD f .dead).kill q := by
        intro f hf
        simp [List.getD_eq_getElem?_getD, List.getElem?_map, List.getElem?_eq_getElem hf]
      obtain ⟨R0, h1, h2⟩ := Sub.le (R := (Obj.box cs).rows) (R' := (Obj.box (cs.map (D.kill q))).rows) rfl (by simp [Obj.rows]) (fun i f hi hf => by
        show (cs.map (D.kill q)).getD f .dead = cs.getD f .dead ∨ (cs.map (D.kill q)).getD f .dead = .dead
        rw [hg f hf]
        unfold D.kill
        split
        · exact .inr rfl
        · exact .inl rfl) hs1
      refine ⟨R0, node_sub.2 ⟨_, ho, h1⟩, h2, fun _ hp i f hi hf => ?_⟩
      subst hp
      rw [Sub.nil] at hs1
      subst hs1
      simp only [Obj.rows, List.length_map] at hi hf ⊢
      rw [hg f hf]
      unfold D.kill
      split
      · exact .inl rfl
      · rename_i hne; exact .inr (by simpa using hne)

/-- E is G's heap without the roots of rs. -/
structure Less (E Hg : Heap) (rs : Nat → Prop) : Prop where
  len : E.length = Hg.length
  same : ∀ id, ¬ rs id → E.getD id none = Hg.getD id none
  none_ : ∀ id, rs id → E.getD id none = none
theorem Less.refl (H : Heap) : Less H H (fun _ => False) := ⟨rfl, fun _ _ => rfl, fun _ h => h.elim⟩
theorem Less.node {E Hg : Heap} {rs : Nat → Prop} (h : Less E Hg rs) {id : Nat} {p : Path} {R : Rows} : Node E id p R ↔ Node Hg id p R ∧ ¬ rs id := by
  rw [node_sub, node_sub]
  constructor
  · intro ⟨o, ho, hs⟩
    have : ¬ rs id := fun hr => by rw [h.none_ id hr] at ho; cases ho
    exact ⟨⟨o, by rw [← h.same id this]; exact ho, hs⟩, this⟩
  · intro ⟨⟨o, ho, hs⟩, hr⟩
    exact ⟨o, by rw [h.same id hr]; exact ho, hs⟩
theorem Less.drop {E Hg : Heap} {rs : Nat → Prop} (h : Less E Hg rs) {id : Nat} {p : Path} (hid : id < E.length) (hr : ¬ rs id) : Less (E.drop_ id p) (Hg.drop_ id p) rs := by
  have hl2 : id < Hg.length := by rw [← h.len]; exact hid
  refine ⟨by rw [drop_length, drop_length, h.len], fun id' hr' => ?_, fun id' hr' => ?_⟩
  · unfold Heap.drop_
    split
    · rw [getD_set hid, getD_set hl2]
      split
      · rfl
      · exact h.same id' hr'
    · unfold Heap.put
      rw [h.same id hr]
      cases ho : Hg.getD id none with
      | none => exact h.same id' hr'
      | some o =>
        simp only
        rw [getD_set hid, getD_set hl2]
        split
        · rfl
        · exact h.same id' hr'
  · have hne : id' ≠ id := fun e => hr (e ▸ hr')
    unfold Heap.drop_
    split
    · rw [getD_set hid, if_neg hne]
      exact h.none_ id' hr'
    · unfold Heap.put
      split
      · rw [getD_set hid, if_neg hne]
        exact h.none_ id' hr'
      · exact h.none_ id' hr'
theorem Less.push {E Hg : Heap} {rs : Nat → Prop} (h : Less E Hg rs) (hlt : ∀ id, rs id → id < E.length) (o : Obj) : Less (E ++ [none]) (Hg ++ [some o]) (fun id => rs id ∨ id = E.length) := by
  refine ⟨by simp [h.len], fun id hr => ?_, fun id hr => ?_⟩
  · rcases Nat.lt_or_ge id E.length with hl | hl
    · rw [getD_app hl, getD_app (by rw [← h.len]; exact hl)]
      exact h.same id (fun x => hr (.inl x))
    · have hne : id ≠ E.length := fun e => hr (.inr e)
      rw [getD_app2 hl, getD_app2 (by rw [← h.len]; exact hl)]
      obtain ⟨k, hk⟩ : ∃ k, id - E.length = k + 1 := ⟨id - E.length - 1, by omega⟩
      rw [hk, show id - Hg.length = k + 1 by rw [← h.len]; exact hk]
      simp
  · rcases hr with hr | hr
    · rw [getD_app (hlt id hr)]
      exact h.none_ id hr
    · subst hr
      rw [getD_app2 (Nat.le_refl _)]
      simp
end Go.R
