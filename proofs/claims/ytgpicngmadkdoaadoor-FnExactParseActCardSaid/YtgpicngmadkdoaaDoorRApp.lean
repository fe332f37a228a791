/- What is appended: a new root, of old cells and new. -/
import Derived.Test.YtgpicngmadkdoaaDoorRLoud2
set_option linter.unusedVariables false
set_option linter.unusedSimpArgs false
namespace Go.R
open Go.RowKit

section
variable {P : Program} {G G1 G2 : Gh} {H H1 H2 N E : Heap} {w w1 w2 : World} {q q2 : D → Bool} {s : St} {a : Act} {x x2 : Operand} {y y2 : Opd}

def appGh (G : Gh) (H : Heap) (id : Nat) (p : Path) (off len : Nat) (j : Option Nat) (m1 : Option (Nat × Nat)) : Gh :=
  ⟨fun id' p' => if id' = H.length then (match p' with | [] => m1 | (i, f) :: r => if i < len then G.μ id (p ++ (off + i, f) :: r) else (match j with | some j0 => G.μ j0 ((i - len, f) :: r) | none => none)) else G.μ id' p', G.ok, G.fr⟩

theorem append_root {id : Nat} {p : Path} {R : Rows} {off len n : Nat} {at2 : Nat → Nat → D} {j : Option Nat} {m1 : Option (Nat × Nat)}
    (hh : HeapOk G H w) (hN : Node H id p R) (hb : ∀ cs, H.getD id none = some (.box cs) → p ≠ []) (hl : off + len ≤ R.n)
    (hE : Less E H (fun i => j = some i)) (hidj : j ≠ some id) (hj : ∀ j0, j = some j0 → H.getD j0 none = some (.arr R.sz n at2))
    (hmem : match m1 with
      | none => len + n = 0
      | some (b1, o1) => ∃ c1 t, w1.heap[b1]? = some (.cells c1 t (0, 0)) ∧ o1 + (len + n) * R.sz ≤ c1.size ∧
          (∀ i f, i < len → f < R.sz → ∃ b o u, G.μ id p = some (b, o) ∧ w.cell? ⟨b, o + (off + i) * R.sz + f, none⟩ = some u ∧ c1[o1 + i * R.sz + f]? = some u) ∧
          (∀ i f, i < n → f < R.sz → ∃ u, c1[o1 + (len + i) * R.sz + f]? = some u ∧ CellOk G H w (j.getD 0) [] i f (at2 i f) u))
    (hplace : ∀ b1 o1, m1 = some (b1, o1) → (∃ o, G.μ id p = some (b1, o)) ∨ w.heap.size ≤ b1) (hwx : Wx w w1 (fun b' => ∃ o, G.μ id p = some (b', o)))
    (hnew : ∀ i f, i < n → f < R.sz → (at2 i f).isPlain = true ∧ (j = none → ∀ sz n b, at2 i f ≠ .sl true sz n b)) :
    LRes G H w noKill (appGh G H id p off len j m1) (E.drop_ id p ++ [some (.arr R.sz (len + n) (appendAt len (shiftAt off R.at_) at2))]) w1 := by
  generalize hG1 : appGh G H id p off len j m1 = G1
  have hEl := hE.len
  have hμo : ∀ id' p', id' ≠ H.length → G1.μ id' p' = G.μ id' p' := fun id' p' h => by rw [← hG1]; exact if_neg h
  have hμ0 : G1.μ H.length [] = m1 := by rw [← hG1]; exact if_pos rfl
  have hμ1 : ∀ i f r, i < len → G1.μ H.length ((i, f) :: r) = G.μ id (p ++ (off + i, f) :: r) := fun i f r h => by rw [← hG1]; exact (if_pos rfl).trans (if_pos h)
  have hμ2 : ∀ i f r j0, ¬ i < len → j = some j0 → G1.μ H.length ((i, f) :: r) = G.μ j0 ((i - len, f) :: r) := fun i f r j0 h e => by rw [← hG1]; refine (if_pos rfl).trans ((if_neg h).trans ?_); rw [e]
  have hokq : G1.ok = G.ok := by rw [← hG1]; rfl
  have hfrq : G1.fr = G.fr := by rw [← hG1]; rfl
  have hdl : (E.drop_ id p).length = H.length := by rw [drop_length, hEl]
  have hidE : ¬ j = some id := hidj
  have hNE : Node E id p R := hE.node.2 ⟨hN, hidE⟩
  have hok : ∀ b, G.ok b → G1.ok b ∧ ¬ ∃ o, G.μ id p = some (b, o) := fun b hb => ⟨by rw [hokq]; exact hb, fun ⟨o, ho⟩ => hh.apart hN ho (hh.okFr hb)⟩
  generalize hHf : E.drop_ id p ++ [some (.arr R.sz (len + n) (appendAt len (shiftAt off R.at_) at2))] = Hf
  have hnewN : ∀ {p' R1}, Node Hf H.length p' R1 → Sub p' ⟨R.sz, len + n, appendAt len (shiftAt off R.at_) at2⟩ R1 := by
    intro p' R1 h
    obtain ⟨o, ho, hs⟩ := node_sub.1 h
    rw [← hHf, getD_app2 (by rw [hdl]; exact Nat.le_refl _), hdl] at ho
    simp only [Nat.sub_self, List.getD_cons_zero] at ho
    injection ho with ho
    subst ho
    exact hs
  have hsub : ∀ {i f r R1}, Sub ((i, f) :: r) ⟨R.sz, len + n, appendAt len (shiftAt off R.at_) at2⟩ R1 → (i < len ∧ Node H id (p ++ (off + i, f) :: r) R1) ∨ (¬ i < len ∧ ∃ j0, j = some j0 ∧ Node H j0 ((i - len, f) :: r) R1) := by
    intro i f r R1 h
    rw [Sub.cons] at h
    obtain ⟨h1, h2, sz, m, b, hd, h3⟩ := h
    simp only [appendAt, shiftAt_eq] at h1 h2 hd
    by_cases hi : i < len
    · rw [if_pos hi] at hd
      obtain ⟨o, ho, hs⟩ := node_sub.1 hN
      exact .inl ⟨hi, node_sub.2 ⟨o, ho, hs.app (Sub.cons.2 ⟨by omega, h2, sz, m, b, hd, h3⟩)⟩⟩
    · rw [if_neg hi] at hd
      right
      refine ⟨hi, ?_⟩
      cases hjj : j with
      | none => exact absurd hd ((hnew (i - len) f (by omega) h2).2 hjj sz m b)
      | some j0 => exact ⟨j0, rfl, node_sub.2 ⟨_, hj j0 hjj, Sub.cons.2 ⟨by show i - len < n; omega, h2, sz, m, b, hd, h3⟩⟩⟩
  have hold : ∀ {id' p' R1}, id' ≠ H.length → Node Hf id' p' R1 → (∀ r, ¬ (id' = id ∧ p' = p ++ r)) ∧ j ≠ some id' ∧ ∃ R0, Node H id' p' R0 ∧ RowsLe R0 R1 := by
    intro id' p' R1 hne h
    have hlt := h.lt
    rw [← hHf] at hlt h
    simp only [List.length_append, List.length_cons, List.length_nil, hdl] at hlt
    obtain ⟨h1, R0, h2, h3⟩ := node_drop hNE ((Node.app (by rw [hdl]; omega)).1 h)
    obtain ⟨h4, h5⟩ := hE.node.1 h2
    exact ⟨h1, h5, R0, h4, h3⟩
  have hmv : ∀ d v, VR G H w d v → VR G1 Hf w1 d v := fun d v hv =>
    VR.move hwx hok (by rw [← hHf]; simp [hdl]) (fun id' p' tot R1 _ hl' hn' e => by
      obtain ⟨_, _, R0, h2, h3⟩ := hold (by omega) hn'
      exact ⟨R0, h2, by rw [← e, h3.n], h3.sz.symm, hμo _ _ (by omega)⟩) hv
  -- a source for each node
  have hsrc : ∀ {id' p' R1}, Node Hf id' p' R1 → (id' = H.length ∧ p' = []) ∨ ∃ id0 p0 R0, Node H id0 p0 R0 ∧ G1.μ id' p' = G.μ id0 p0 ∧ (id0, p0) ≠ (id, p) ∧
      ((id' = H.length ∧ id0 = id ∧ ∃ i f r, i < len ∧ p' = (i, f) :: r ∧ p0 = p ++ (off + i, f) :: r) ∨ (id' = H.length ∧ j = some id0 ∧ ∃ i f r, ¬ i < len ∧ p' = (i, f) :: r ∧ p0 = (i - len, f) :: r) ∨
       (id' ≠ H.length ∧ id0 = id' ∧ p0 = p' ∧ j ≠ some id' ∧ ∀ r, ¬ (id' = id ∧ p' = p ++ r))) := by
    intro id' p' R1 h
    by_cases e : id' = H.length
    · subst e
      cases p' with
      | nil => exact .inl ⟨rfl, rfl⟩
      | cons x r =>
        obtain ⟨i, f⟩ := x
        right
        rcases hsub (hnewN h) with ⟨hi, h2⟩ | ⟨hi, j0, ej, h2⟩
        · exact ⟨id, _, R1, h2, hμ1 i f r hi, fun e => by simp at e, .inl ⟨rfl, rfl, i, f, r, hi, rfl, rfl⟩⟩
        · exact ⟨j0, _, R1, h2, hμ2 i f r j0 hi ej, fun e => hidj (by rw [ej]; injection e with e; rw [e]), .inr (.inl ⟨rfl, ej, i, f, r, hi, rfl, rfl⟩)⟩
    · obtain ⟨h1, h5, R0, h2, h3⟩ := hold e h
      exact .inr ⟨id', p', R0, h2, hμo _ _ e, fun e => h1 [] (by injection e with e1 e2; exact ⟨e1, by simpa using e2⟩), .inr (.inr ⟨e, rfl, rfl, h5, h1⟩)⟩
  have hother : ∀ {id0 p0 R0 b o c t}, Node H id0 p0 R0 → (id0, p0) ≠ (id, p) → G.μ id0 p0 = some (b, o) → w.heap[b]? = some (.cells c t (0, 0)) → w1.heap[b]? = some (.cells c t (0, 0)) := by
    intro id0 p0 R0 b o c t h0 hne hm hc
    rw [hwx.same b (lt_of_heap hc)]
    · exact hc
    · intro ⟨o', ho'⟩
      obtain ⟨e1, e2⟩ := hh.inj h0 hN hm ho'
      exact hne (by rw [e1, e2])
  refine ⟨hwx.mono (fun b _ ⟨o, ho⟩ => hh.apart hN ho), fun b h => by rw [hokq]; exact h, fun b h => by rw [hokq] at h; exact .inl h, fun b h => by rw [hfrq]; exact h, by rw [← hHf]; simp [hdl],
    ⟨?_, ?_, ?_, fun {b} h => by rw [hfrq] at h; exact Nat.lt_of_lt_of_le (hh.frLt h) hwx.size, fun {b} h => by rw [hokq] at h; rw [hfrq]; exact hh.okFr h, ?_⟩, fun d v hv _ => hmv d v hv⟩
  · -- node
    intro id' p' R1 h
    by_cases e : id' = H.length
    · subst e
      cases p' with
      | nil =>
        have := Sub.nil.1 (hnewN h)
        subst this
        unfold NodeOk
        rw [hμ0]
        cases hm : m1 with
        | none => rw [hm] at hmem; exact hmem
        | some bo =>
          obtain ⟨b1, o1⟩ := bo
          rw [hm] at hmem
          obtain ⟨c1, t, hc1, hs1, holdc, hnewc⟩ := hmem
          refine ⟨c1, t, hc1, hs1, fun i f hi hf => ?_⟩
          simp only at hi hf
          show ∃ u, c1[o1 + i * R.sz + f]? = some u ∧ CellOk G1 Hf w1 H.length [] i f (if i < len then shiftAt off R.at_ i f else at2 (i - len) f) u
          by_cases hil : i < len
          · obtain ⟨b, o, u, hm0, hcu, hu⟩ := holdc i f hil hf
            rw [if_pos hil, shiftAt_eq]
            have hno := hh.node hN
            unfold NodeOk at hno
            rw [hm0] at hno
            obtain ⟨c, t0, hc, hs, hcell⟩ := hno
            obtain ⟨u', hu', hcok⟩ := hcell (off + i) f (by omega) hf
            have : u' = u := by
              simp [World.cell?, hc, hu'] at hcu
              exact hcu
            subst this
            have hpl := hh.plain (i := off + i) (f := f) hN hb (by omega) hf
            refine ⟨u', hu, hcok.1, ?_⟩
            have h2 := hcok.2
            cases hd : R.at_ (off + i) f with
            | sl ow sz m bb =>
              rw [hd] at h2
              cases ow
              · exact hmv _ _ h2
              · show inSl w1 (G1.μ H.length ([] ++ [(i, f)])) sz m 0 m u'
                rw [List.nil_append, hμ1 i f [] hil]
                exact inSl.wx hwx h2
            | _ => rw [hd] at h2; exact hmv _ _ h2
          · obtain ⟨u, hu, hcok⟩ := hnewc (i - len) f (by omega) hf
            rw [show len + (i - len) = i by omega] at hu
            rw [if_neg hil]
            refine ⟨u, hu, hcok.1, ?_⟩
            have h2 := hcok.2
            cases hd : at2 (i - len) f with
            | sl ow sz m bb =>
              rw [hd] at h2
              cases ow
              · exact hmv _ _ h2
              · cases hjj : j with
                | none => exact absurd hd ((hnew (i - len) f (by omega) hf).2 hjj sz m bb)
                | some j0 =>
                  rw [hjj] at h2
                  show inSl w1 (G1.μ H.length ([] ++ [(i, f)])) sz m 0 m u
                  rw [List.nil_append, hμ2 i f [] j0 hil hjj]
                  exact inSl.wx hwx h2
            | _ => rw [hd] at h2; exact hmv _ _ h2
      | cons x r =>
        obtain ⟨i0, f0⟩ := x
        rcases hsub (hnewN h) with ⟨hi, hs⟩ | ⟨hi, j0, ej, hs⟩
        · refine NodeOk.src (off := 0) hwx hok (hh.node hs) (by rw [hμ1 i0 f0 r hi]; simp) rfl (by omega) (fun b o c t hm hc => ⟨c, hother hs (by simp) hm hc, rfl, fun i f hi2 hf2 => .inl ⟨?_, rfl, fun sz n b _ _ => ?_, fun _ _ v hv => hmv _ v hv⟩⟩)
          · rw [Nat.zero_add]; exact .refl _
          · rw [List.cons_append, hμ1 i0 f0 _ hi, Nat.zero_add, List.append_assoc, List.cons_append]
        · refine NodeOk.src (off := 0) hwx hok (hh.node hs) (by rw [hμ2 i0 f0 r j0 hi ej]; simp) rfl (by omega) (fun b o c t hm hc => ⟨c, hother hs (fun e => hidj (by rw [ej]; injection e with e; rw [e])) hm hc, rfl, fun i f hi2 hf2 => .inl ⟨?_, rfl, fun sz n b _ _ => ?_, fun _ _ v hv => hmv _ v hv⟩⟩)
          · rw [Nat.zero_add]; exact .refl _
          · rw [List.cons_append, hμ2 i0 f0 _ j0 hi ej, Nat.zero_add, List.cons_append]
    · obtain ⟨h1, h5, R0, h2, h3⟩ := hold e h
      refine NodeOk.src (off := 0) hwx hok (hh.node h2) (by rw [hμo _ _ e]; simp) h3.sz (by rw [h3.n]; omega) (fun b o c t hm hc => ⟨c, hother h2 (fun e => h1 [] (by injection e with e1 e2; exact ⟨e1, by simpa using e2⟩)) hm hc, rfl, fun i f hi hf => .inl ⟨?_, rfl, fun sz n b _ _ => ?_, fun _ _ v hv => hmv _ v hv⟩⟩)
      · rw [Nat.zero_add]; exact h3.cell i f hi hf
      · rw [hμo _ _ e, Nat.zero_add]
  · -- inj
    have hroot : ∀ {b o o2 id2 p2 R2}, m1 = some (b, o) → Node Hf id2 p2 R2 → G1.μ id2 p2 = some (b, o2) → id2 = H.length ∧ p2 = [] := by
      intro b o o2 id2 p2 R2 hm1 h2 hb2
      rcases hsrc h2 with h | ⟨i2, q2, S2, hn2, hm2, hne2, _⟩
      · exact h
      · exfalso
        rw [hm2] at hb2
        rcases hplace b o hm1 with ⟨o', ho'⟩ | hge
        · obtain ⟨e1, e2⟩ := hh.inj hn2 hN hb2 ho'
          exact hne2 (by rw [e1, e2])
        · have := hh.node hn2
          unfold NodeOk at this
          rw [hb2] at this
          obtain ⟨c, t, hc, _⟩ := this
          have := lt_of_heap hc
          omega
    intro id1 p1 R1 b o1 id2 p2 R2 o2 h1 h2 hb1 hb2
    rcases hsrc h1 with ⟨e1, e2⟩ | ⟨i1, q1, S1, hn1, hm1, _, hc1⟩
    · rw [e1, e2, hμ0] at hb1
      obtain ⟨e3, e4⟩ := hroot hb1 h2 hb2
      exact ⟨e1.trans e3.symm, e2.trans e4.symm⟩
    · rcases hsrc h2 with ⟨e1, e2⟩ | ⟨i2, q2, S2, hn2, hm2, _, hc2⟩
      · rw [e1, e2, hμ0] at hb2
        obtain ⟨e3, e4⟩ := hroot hb2 h1 hb1
        exact ⟨e3.trans e1.symm, e4.trans e2.symm⟩
      · rw [hm1] at hb1
        rw [hm2] at hb2
        obtain ⟨e1, e2⟩ := hh.inj hn1 hn2 hb1 hb2
        subst e1; subst e2
        rcases hc1 with ⟨a1, a2, i, f, r, a3, a4, a5⟩ | ⟨a1, a2, i, f, r, a3, a4, a5⟩ | ⟨a1, a2, a3, a4, a5⟩ <;> rcases hc2 with ⟨c1, c2, i', f', r', c3, c4, c5⟩ | ⟨c1, c2, i', f', r', c3, c4, c5⟩ | ⟨c1, c2, c3, c4, c5⟩
        · refine ⟨a1.trans c1.symm, ?_⟩
          rw [a5] at c5
          have := List.append_cancel_left c5
          simp only [List.cons.injEq, Prod.mk.injEq] at this
          rw [a4, c4, this.2, this.1.2, show i = i' by omega]
        · exact absurd (by rw [c2, a2]) hidj
        · exact absurd ⟨by rw [← c2, a2], by rw [← c3, a5]⟩ (c5 _)
        · exact absurd (by rw [a2, c2]) hidj
        · refine ⟨a1.trans c1.symm, ?_⟩
          rw [a5] at c5
          simp only [List.cons.injEq, Prod.mk.injEq] at c5
          rw [a4, c4, c5.2, c5.1.2, show i = i' by omega]
        · exact absurd (by rw [a2, c2]) c4
        · exact absurd ⟨by rw [← a2, c2], by rw [← a3, c5]⟩ (a5 _)
        · exact absurd (by rw [c2, a2]) a4
        · exact ⟨a2.symm.trans c2, a3.symm.trans c3⟩
  · -- apart
    intro id1 p1 R1 b o1 h1 hb1
    rw [hfrq]
    rcases hsrc h1 with ⟨e1, e2⟩ | ⟨i1, q1, S1, hn1, hm1, _, _⟩
    · rw [e1, e2, hμ0] at hb1
      rcases hplace b o1 hb1 with ⟨o', ho'⟩ | hge
      · exact hh.apart hN ho'
      · intro hfr
        have := hh.frLt hfr
        omega
    · rw [hm1] at hb1
      exact hh.apart hn1 hb1
  · -- plain
    intro id' p' R1 i f h hbox hi hf
    by_cases e : id' = H.length
    · subst e
      cases p' with
      | nil =>
        have := Sub.nil.1 (hnewN h)
        subst this
        simp only at hi hf
        show (if i < len then shiftAt off R.at_ i f else at2 (i - len) f).isPlain = true
        by_cases hil : i < len
        · rw [if_pos hil, shiftAt_eq]
          exact hh.plain hN hb (by omega) hf
        · rw [if_neg hil]
          exact (hnew (i - len) f (by omega) hf).1
      | cons x r =>
        obtain ⟨i0, f0⟩ := x
        rcases hsub (hnewN h) with ⟨_, hs⟩ | ⟨_, j0, ej, hs⟩
        · exact hh.plain hs (fun _ _ => by simp) hi hf
        · exact hh.plain hs (fun _ _ => by simp) hi hf
    · obtain ⟨h1, h5, R0, h2, h3⟩ := hold e h
      have hlt : id' < H.length := h2.lt
      have hp0 : (R0.at_ i f).isPlain = true := by
        refine hh.plain h2 (fun cs hcs => ?_) (by rw [← h3.n]; exact hi) (by rw [← h3.sz]; exact hf)
        rcases drop_box (H := E) (p := p) (id := id) (by rw [hE.same id' h5]; exact hcs) with ⟨e1, e2⟩ | ⟨cs', e1⟩
        · exact absurd ⟨e2, by rw [e1]; rfl⟩ (h1 p')
        · exact hbox cs' (by rw [← hHf, getD_app (by rw [hdl]; exact hlt)]; exact e1)
      rcases h3.cell i f hi hf with e1 | e1 | ⟨_, _, _, _, _, e1⟩
      · rw [e1]; exact hp0
      · rw [e1]; rfl
      · rw [e1]; rfl
end
end Go.R
