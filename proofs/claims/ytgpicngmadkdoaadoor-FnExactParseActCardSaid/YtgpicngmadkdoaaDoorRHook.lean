/- Cells are written: values that stay, or trees that were roots. -/
import Derived.Test.YtgpicngmadkdoaaDoorRStep
set_option linter.unusedVariables false
set_option linter.unusedSimpArgs false
namespace Go.R
open Go.RowKit

section
variable {G G1 G2 : Gh} {H H1 H2 N : Heap} {w w1 w2 : World} {q q2 : D → Bool}

/-- What is put into cell k: a value that stays (none), or the tree of root r (some r). -/
def Put1 (G : Gh) (H : Heap) (w : World) (id : Nat) (d : D) (u : Value) (r : Option Nat) : Prop := u.oneCell' = true ∧ match r with
  | none => d.isPlain = true ∧ (∀ sz n b, d ≠ .sl true sz n b) ∧ VR G H w d u
  | some r => r ≠ id ∧ ∃ sz n b, d = .sl true sz n b ∧ H.getD r none = some (.arr sz n b) ∧ inSl w (G.μ r []) sz n 0 n u

open Classical in
noncomputable def hookGh (G : Gh) (id : Nat) (p : Path) (i f : Nat) (rs : List (Option Nat)) : Gh :=
  ⟨fun id' p' => if h : id' = id ∧ ∃ k r q, p' = p ++ (i, f + k) :: q ∧ rs[k]? = some (some r) then G.μ h.2.choose_spec.choose h.2.choose_spec.choose_spec.choose else G.μ id' p', G.ok, G.fr⟩

theorem path_inj {p q q' : Path} {i f k k' : Nat} (h : p ++ (i, f + k) :: q = p ++ (i, f + k') :: q') : k = k' ∧ q = q' := by
  have := List.append_cancel_left h
  simp only [List.cons.injEq, Prod.mk.injEq] at this
  exact ⟨by omega, this.2⟩
theorem hookGh_new {id : Nat} {p q : Path} {i f k r : Nat} {rs : List (Option Nat)} (h : rs[k]? = some (some r)) : (hookGh G id p i f rs).μ id (p ++ (i, f + k) :: q) = G.μ r q := by
  have hh : id = id ∧ ∃ k' r q', p ++ (i, f + k) :: q = p ++ (i, f + k') :: q' ∧ rs[k']? = some (some r) := ⟨rfl, k, r, q, rfl, h⟩
  refine Eq.trans (dif_pos hh) ?_
  have aux : ∀ (k' r' : Nat) (q' : Path), (p ++ (i, f + k) :: q = p ++ (i, f + k') :: q' ∧ rs[k']? = some (some r')) → G.μ r' q' = G.μ r q := by
    intro k' r' q' ⟨e1, e3⟩
    obtain ⟨e1, e2⟩ := path_inj e1
    rw [← e1, h] at e3
    injection e3 with e3
    injection e3 with e3
    rw [← e2, ← e3]
  exact aux _ _ _ hh.2.choose_spec.choose_spec.choose_spec
theorem hookGh_old {id id' : Nat} {p p' : Path} {i f : Nat} {rs : List (Option Nat)} (h : ¬ (id' = id ∧ ∃ k r q, p' = p ++ (i, f + k) :: q ∧ rs[k]? = some (some r))) : (hookGh G id p i f rs).μ id' p' = G.μ id' p' := dif_neg h

theorem cell_idx {i i' f f' k sz : Nat} (hf' : f' < sz) (hf : f + k < sz) (h : i' * sz + f' = i * sz + (f + k)) : i' = i ∧ f' = f + k := by
  have h0 : 0 < sz := by omega
  have e1 : (i' * sz + f') / sz = i' := by rw [Nat.mul_comm, Nat.mul_add_div h0, Nat.div_eq_of_lt hf']; simp
  have e2 : (i * sz + (f + k)) / sz = i := by rw [Nat.mul_comm, Nat.mul_add_div h0, Nat.div_eq_of_lt hf]; simp
  rw [h, e2] at e1
  refine ⟨e1.symm, ?_⟩
  subst e1
  omega

/-- E: the heap H without the roots that are put. -/
theorem hook {E : Heap} {id : Nat} {p : Path} {i f : Nat} {R : Rows} {vs : List D} {us : List Value} {rs : List (Option Nat)} {b o : Nat} {c c1 : Array Value} {t : TypeId}
    (hh : HeapOk G H w) (hE : Less E H (fun id => some id ∈ rs)) (hN : Node H id p R) (hi : i < R.n) (hf : f + vs.length ≤ R.sz)
    (hlu : us.length = vs.length) (hlr : rs.length = vs.length) (hv : ∀ (k : Nat) (d : D) (u : Value) (r : Option Nat), vs[k]? = some d → us[k]? = some u → rs[k]? = some r → Put1 G H w id d u r)
    (hd : ∀ (k k' r : Nat), rs[k]? = some (some r) → rs[k']? = some (some r) → k = k')
    (hμ : G.μ id p = some (b, o)) (hc : w.heap[b]? = some (.cells c t (0, 0))) (hx : Wx w w1 (fun b' => b' = b)) (hc1 : w1.heap[b]? = some (.cells c1 t (0, 0)))
    (hcc : c1.size = c.size) (hcell : ∀ j, c1[j]? = if o + i * R.sz + f ≤ j ∧ j < o + i * R.sz + f + vs.length then us[j - (o + i * R.sz + f)]? else c[j]?)
    (hq : ∀ o sz n b, q (.sl o sz n b) = false)
    (hqm : ∀ d id' p' tot, d.Ment id' p' tot → id' = id → (∃ k r r', p' = p ++ (i, f + k) :: r' ∧ rs[k]? = some (some r)) → q d = true) :
    LRes G H w q (hookGh G id p i f rs) ((E.kill q).put id p i f vs) w1 := by
  have hchok : ∀ b', G.ok b' → (hookGh G id p i f rs).ok b' ∧ ¬ (b' = b) := fun b' hb => ⟨hb, fun e => hh.apart hN hμ (e ▸ hh.okFr hb)⟩
  have hidrs : ¬ some id ∈ rs := by
    intro h
    obtain ⟨k, hk⟩ := List.getElem?_of_mem h
    have hkl : k < rs.length := (List.getElem?_eq_some_iff.1 hk).1
    have := hv k _ _ _ (List.getElem?_eq_getElem (by omega)) (List.getElem?_eq_getElem (by omega)) hk
    exact this.2.1 rfl
  -- the node in the heap that is changed
  have hNE : Node E id p R := hE.node.2 ⟨hN, hidrs⟩
  have hNK : ∃ RK, Node (E.kill q) id p RK ∧ RK.n = R.n ∧ RK.sz = R.sz := by
    obtain ⟨o', ho', hs'⟩ := node_sub.1 hNE
    cases o' with
    | arr sz n a => exact ⟨R, node_sub.2 ⟨.arr sz n a, by rw [kill_getD, ho']; rfl, hs'⟩, rfl, rfl⟩
    | box cs =>
      have hbox : (E.kill q).getD id none = some (.box (cs.map (D.kill q))) := by rw [kill_getD, ho']; rfl
      cases p with
      | nil =>
        have := Sub.nil.1 hs'
        subst this
        exact ⟨_, node_sub.2 ⟨_, hbox, Sub.nil.2 rfl⟩, rfl, by simp [Obj.rows]⟩
      | cons x p =>
        obtain ⟨j, g⟩ := x
        rw [Sub.cons] at hs'
        obtain ⟨h1, h2, sz, n, bb, h3, h4⟩ := hs'
        simp only [Obj.rows] at h1 h2 h3
        refine ⟨R, node_sub.2 ⟨_, hbox, Sub.cons.2 ⟨h1, by simpa [Obj.rows] using h2, sz, n, bb, ?_, h4⟩⟩, rfl, rfl⟩
        simp only [Obj.rows, List.getD_eq_getElem?_getD, List.getElem?_map] at h3 ⊢
        rw [List.getElem?_eq_getElem h2] at h3 ⊢
        simp only [Option.getD_some, Option.map_some] at h3 ⊢
        rw [h3]
        simp [D.kill, hq]
  obtain ⟨RK, hNK, hKn, hKs⟩ := hNK
  -- what a node is now
  have hcase : ∀ {id' p' R1}, Node ((E.kill q).put id p i f vs) id' p' R1 →
      (∃ k r r', id' = id ∧ p' = p ++ (i, f + k) :: r' ∧ k < vs.length ∧ rs[k]? = some (some r) ∧ r ≠ id ∧ (∃ sz n b, H.getD r none = some (.arr sz n b)) ∧ Node H r r' R1 ∧ (hookGh G id p i f rs).μ id' p' = G.μ r r') ∨
      (¬ some id' ∈ rs ∧ (¬ (id' = id ∧ ∃ k r q, p' = p ++ (i, f + k) :: q ∧ rs[k]? = some (some r))) ∧ (∀ k q, k < vs.length → ¬ (id' = id ∧ p' = p ++ (i, f + k) :: q)) ∧ ∃ R0, Node H id' p' R0 ∧ R1.n = R0.n ∧ R1.sz = R0.sz ∧
        ∀ i' f', i' < R1.n → f' < R1.sz → (id' = id ∧ p' = p ∧ i' = i ∧ f ≤ f' ∧ f' < f + vs.length → R1.at_ i' f' = vs.getD (f' - f) .dead) ∧
          (¬ (id' = id ∧ p' = p ∧ i' = i ∧ f ≤ f' ∧ f' < f + vs.length) → CellLe (R0.at_ i' f') (R1.at_ i' f') ∧
            ((∃ cs, H.getD id' none = some (.box cs)) → p' = [] → R1.at_ i' f' = R0.at_ i' f' → R1.at_ i' f' = .dead ∨ q (R1.at_ i' f') = false))) := by
    intro id' p' R1 h
    cases node_put (vs := vs) hNK (by rw [hKn]; exact hi) (by rw [hKs]; exact hf) h with
    | new k r' sz n bb hid hp hvk hs =>
      left
      have hkl : k < vs.length := (List.getElem?_eq_some_iff.1 hvk).1
      obtain ⟨rk, hrk⟩ : ∃ rk, rs[k]? = some rk := ⟨_, List.getElem?_eq_getElem (by omega)⟩
      have hput := hv k _ _ _ hvk (List.getElem?_eq_getElem (by omega)) hrk
      cases rk with
      | none => exact absurd rfl (hput.2.2.1 sz n bb)
      | some r =>
        obtain ⟨hne, sz', n', b', e, hg, _⟩ := hput.2
        injection e with _ e1 e2 e3
        subst e1; subst e2; subst e3
        refine ⟨k, r, r', hid, hp, hkl, hrk, hne, ⟨_, _, _, hg⟩, node_sub.2 ⟨_, hg, hs⟩, ?_⟩
        rw [hid, hp, hookGh_new hrk]
    | old hp R0 hs hn hz hcl =>
      right
      obtain ⟨R00, h1, h2, h3⟩ := node_kill hq hs
      obtain ⟨h4, h5⟩ := hE.node.1 h1
      refine ⟨h5, fun ⟨e, k, r, q', e2, e3⟩ => ?_, fun k r' hk e => hp k r' hk e, R00, h4, by rw [hn, h2.n], by rw [hz, h2.sz], fun i' f' hi' hf' => ⟨(hcl i' f' hi' hf').1, fun hno => ?_⟩⟩
      · have hkl : k < rs.length := (List.getElem?_eq_some_iff.1 e3).1
        exact hp k q' (by omega) ⟨e, e2⟩
      · have hle := (hcl i' f' hi' hf').2 hno
        refine ⟨(h2.cell i' f' (by rw [← hn]; exact hi') (by rw [← hz]; exact hf')).trans hle, fun hb hp0 he => ?_⟩
        rcases hle with e | e | ⟨sz, n, b1, b2, e1, e2⟩
        · rw [e]
          refine h3 ?_ hp0 i' f' (by rw [← hn]; exact hi') (by rw [← hz]; exact hf')
          obtain ⟨cs, hb⟩ := hb
          exact ⟨cs, by rw [hE.same id' h5]; exact hb⟩
        · exact .inl e
        · right; rw [e2]; exact hq _ _ _ _
  have hmv : ∀ d v, VR G H w d v → q d = false → VR (hookGh G id p i f rs) ((E.kill q).put id p i f vs) w1 d v := by
    intro d v hdv hqd
    refine VR.move hx hchok (by rw [put_length, kill_length, hE.len]; exact Nat.le_refl _) (fun id' p' tot R1 hm hl hn e => ?_) hdv
    rcases hcase hn with ⟨k, r, r', e1, e2, hkl, hrk, _⟩ | ⟨h1, h2, _, R0, h3, h4, h5, _⟩
    · rw [hqm d id' p' tot hm e1 ⟨k, r, r', e2, hrk⟩] at hqd
      cases hqd
    · exact ⟨R0, h3, by rw [← h4]; exact e, h5.symm, hookGh_old h2⟩
  refine ⟨hx.mono (fun b' _ e => by rw [e]; exact hh.apart hN hμ), fun _ h => h, fun _ h => .inl h, fun _ h => h, by rw [put_length, kill_length, hE.len]; exact Nat.le_refl _, ⟨?_, ?_, ?_, ?_, fun h => hh.okFr h, ?_⟩, hmv⟩
  · -- node
    intro id' p' R1 h
    rcases hcase h with ⟨k, r, r', e1, e2, hkl, hrk, hne, ⟨sz, n, ab, harr⟩, hn, hm⟩ | ⟨h1, h2, hpk, R0, h3, h4, h5, hcl⟩
    · refine NodeOk.src (off := 0) hx hchok (hh.node hn) (by rw [hm]; simp) rfl (by omega) (fun b2 o2 c2 t2 hm2 hc2 => ?_)
      have hb : b2 ≠ b := by
        intro e
        subst e
        exact hne (hh.inj hn hN hm2 hμ).1
      refine ⟨c2, ?_, rfl, fun i2 f2 hi2 hf2 => .inl ⟨by rw [Nat.zero_add]; exact .refl _, rfl, fun sz2 n2 bb _ _ => ?_, fun _ hns v hv2 => ?_⟩⟩
      · rw [hx.same b2 (lt_of_heap hc2) hb]
        exact hc2
      · rw [e1, e2, List.append_assoc, List.cons_append, hookGh_new hrk, Nat.zero_add]
      · have hpl := hh.plain (i := i2) (f := f2) hn (fun cs hcs => by rw [harr] at hcs; cases hcs) hi2 hf2
        rw [Nat.zero_add] at hv2 ⊢
        exact VR.plain_move hx hchok hpl hv2
    · have hmo := hookGh_old (G := G) h2
      have hmu : ∀ i2 f2, ¬ (id' = id ∧ p' = p ∧ i2 = i ∧ f ≤ f2 ∧ f2 < f + vs.length) → (hookGh G id p i f rs).μ id' (p' ++ [(i2, f2)]) = G.μ id' (p' ++ [(0 + i2, f2)]) := by
        intro i2 f2 hin
        rw [Nat.zero_add]
        apply hookGh_old
        intro ⟨e1, k, r, r', e2, e3⟩
        have hkl : k < rs.length := (List.getElem?_eq_some_iff.1 e3).1
        rcases List.eq_nil_or_concat r' with h0 | ⟨r2, x, h0⟩
        · subst h0
          have := List.append_inj' e2 rfl
          simp only [List.cons.injEq, Prod.mk.injEq, and_true] at this
          exact hin ⟨e1, this.1, this.2.1, by omega, by omega⟩
        · rw [h0, List.concat_eq_append, ← List.cons_append, ← List.append_assoc] at e2
          exact hpk k r2 (by omega) ⟨e1, (List.append_inj' e2 rfl).1⟩
      have hkeep : ∀ i2 f2, i2 < R1.n → f2 < R1.sz → ¬ (id' = id ∧ p' = p ∧ i2 = i ∧ f ≤ f2 ∧ f2 < f + vs.length) → R1.at_ i2 f2 = R0.at_ (0 + i2) f2 → (∀ sz n b, R0.at_ (0 + i2) f2 ≠ .sl true sz n b) →
          ∀ v, VR G H w (R0.at_ (0 + i2) f2) v → VR (hookGh G id p i f rs) ((E.kill q).put id p i f vs) w1 (R0.at_ (0 + i2) f2) v := by
        intro i2 f2 hi2 hf2 hin he _ v hv2
        rw [Nat.zero_add] at he hv2 ⊢
        by_cases hbox : (∃ cs, H.getD id' none = some (.box cs)) ∧ p' = []
        · rcases ((hcl i2 f2 hi2 hf2).2 hin).2 hbox.1 hbox.2 he with hdead | hqd
          · rw [he] at hdead
            rw [hdead]; trivial
          · rw [he] at hqd
            exact hmv _ v hv2 hqd
        · have hpl := hh.plain (i := i2) (f := f2) h3 (fun cs hcs hp0 => hbox ⟨⟨cs, hcs⟩, hp0⟩) (by rw [← h4]; exact hi2) (by rw [← h5]; exact hf2)
          exact VR.plain_move hx hchok hpl hv2
      refine NodeOk.src (off := 0) hx hchok (hh.node h3) (by rw [hmo]; simp) h5 (by omega) (fun b2 o2 c2 t2 hm2 hc2 => ?_)
      by_cases hb : b2 = b
      · subst hb
        obtain ⟨ei, ep⟩ := hh.inj h3 hN hm2 hμ
        subst ei; subst ep
        have hRR := Node.uniq h3 hN
        subst hRR
        rw [hc] at hc2
        injection hc2 with hc2
        injection hc2 with hc2 hc3
        subst hc2; subst hc3
        rw [hμ] at hm2
        injection hm2 with hm2
        injection hm2 with _ hm2
        subst hm2
        refine ⟨c1, hc1, hcc, fun i2 f2 hi2 hf2 => ?_⟩
        by_cases hin : i2 = i ∧ f ≤ f2 ∧ f2 < f + vs.length
        · right
          obtain ⟨e1, e2, e3⟩ := hin
          subst e1
          have hk : f2 - f < vs.length := by omega
          have hval := (hcl i2 f2 hi2 hf2).1 ⟨rfl, rfl, rfl, e2, e3⟩
          have hvk : vs[f2 - f]? = some (vs[f2 - f]) := List.getElem?_eq_getElem hk
          have huk : us[f2 - f]? = some (us[f2 - f]'(by omega)) := List.getElem?_eq_getElem (by omega)
          have hrk : rs[f2 - f]? = some (rs[f2 - f]'(by omega)) := List.getElem?_eq_getElem (by omega)
          have hput := hv _ _ _ _ hvk huk hrk
          refine ⟨us[f2 - f]'(by omega), ?_, hput.1, ?_⟩
          · rw [hcell, Nat.zero_add, if_pos (by omega), ← huk]
            congr 1
            omega
          · have hd2 : R1.at_ i2 f2 = vs[f2 - f] := by
              rw [hval, List.getD_eq_getElem?_getD, hvk]; rfl
            rw [hd2]
            cases hrr : rs[f2 - f]'(by omega) with
            | none =>
              rw [hrr] at hput
              obtain ⟨_, hp1, hp2, hp3⟩ := hput
              have := VR.plain_move (G1 := hookGh G id' p' i2 f rs) (H1 := (E.kill q).put id' p' i2 f vs) hx hchok hp1 hp3
              cases hdd : vs[f2 - f] with
              | sl ow sz n bb =>
                rw [hdd] at this hp2
                cases ow
                · exact this
                · exact absurd rfl (hp2 sz n bb)
              | _ => rw [hdd] at this; exact this
            | some r =>
              rw [hrr] at hput hrk
              obtain ⟨_, hne, sz, n, bb, e4, hg, hin⟩ := hput
              rw [e4]
              show inSl w1 ((hookGh G id' p' i2 f rs).μ id' (p' ++ [(i2, f2)])) sz n 0 n _
              have := hookGh_new (G := G) (id := id') (p := p') (q := []) (i := i2) (f := f) hrk
              rw [show f + (f2 - f) = f2 by omega] at this
              rw [this]
              exact inSl.wx hx hin
        · left
          have hin2 : ¬ (id' = id' ∧ p' = p' ∧ i2 = i ∧ f ≤ f2 ∧ f2 < f + vs.length) := fun h => hin h.2.2
          refine ⟨by rw [Nat.zero_add]; exact ((hcl i2 f2 hi2 hf2).2 hin2).1, ?_, fun _ _ _ _ _ => hmu i2 f2 hin2, hkeep i2 f2 hi2 hf2 hin2⟩
          rw [hcell, if_neg]
          intro hj
          rw [Nat.zero_add] at hj
          apply hin
          obtain ⟨e1, e2⟩ := cell_idx (i := i) (i' := i2) (f := f) (f' := f2) (k := i2 * R0.sz + f2 - (i * R0.sz + f)) (sz := R0.sz) (by rw [← h5]; exact hf2) (by omega) (by omega)
          exact ⟨e1, by omega, by omega⟩
      · have hin2 : ∀ i2 f2, ¬ (id' = id ∧ p' = p ∧ i2 = i ∧ f ≤ f2 ∧ f2 < f + vs.length) := by
          intro i2 f2 ⟨e1, e2, _⟩
          apply hb
          rw [e1, e2, hμ] at hm2
          injection hm2 with hm2
          injection hm2 with hm2 _
          exact hm2.symm
        refine ⟨c2, by rw [hx.same b2 (lt_of_heap hc2) hb]; exact hc2, rfl, fun i2 f2 hi2 hf2 => .inl ⟨?_, rfl, fun _ _ _ _ _ => hmu i2 f2 (hin2 i2 f2), hkeep i2 f2 hi2 hf2 (hin2 i2 f2)⟩⟩
        rw [Nat.zero_add]
        exact ((hcl i2 f2 hi2 hf2).2 (hin2 i2 f2)).1
  · -- inj
    intro id1 p1 R1 b1 o1 id2 p2 R2 o2 h1 h2 hb1 hb2
    rcases hcase h1 with ⟨k, r, r', e1, e2, hkl, hrk, hne, _, hn, hm⟩ | ⟨h1, h2', hpk, R0, h3, h4, h5, hcl⟩ <;>
    rcases hcase h2 with ⟨k', s, s', f1, f2, gkl, grk, gne, _, gn, gm⟩ | ⟨g1, g2, gpk, S0, g3, g4, g5, gcl⟩
    · rw [hm] at hb1
      rw [gm] at hb2
      obtain ⟨x1, x2⟩ := hh.inj hn gn hb1 hb2
      subst x1; subst x2
      have := hd k k' r hrk grk
      subst this
      exact ⟨e1.trans f1.symm, e2.trans f2.symm⟩
    · rw [hm] at hb1
      rw [hookGh_old g2] at hb2
      obtain ⟨x1, x2⟩ := hh.inj hn g3 hb1 hb2
      exact absurd (List.mem_of_getElem? hrk) (x1 ▸ g1)
    · rw [gm] at hb2
      rw [hookGh_old h2'] at hb1
      obtain ⟨x1, x2⟩ := hh.inj h3 gn hb1 hb2
      exact absurd (List.mem_of_getElem? grk) (x1 ▸ h1)
    · rw [hookGh_old h2'] at hb1
      rw [hookGh_old g2] at hb2
      exact hh.inj h3 g3 hb1 hb2
  · intro id1 p1 R1 b1 o1 h1 hb1
    rcases hcase h1 with ⟨k, r, r', e1, e2, hkl, hrk, hne, _, hn, hm⟩ | ⟨h1, h2', hpk, R0, h3, h4, h5, hcl⟩
    · rw [hm] at hb1
      exact hh.apart hn hb1
    · rw [hookGh_old h2'] at hb1
      exact hh.apart h3 hb1
  · intro b1 hb1
    exact Nat.lt_of_lt_of_le (hh.frLt hb1) hx.size
  · -- plain
    intro id1 p1 R1 i1 f1 h1 hbox hi1 hf1
    rcases hcase h1 with ⟨k, r, r', e1, e2, hkl, hrk, hne, ⟨sz, n, ab, harr⟩, hn, hm⟩ | ⟨h1, h2', hpk, R0, h3, h4, h5, hcl⟩
    · exact hh.plain hn (fun cs hcs => by rw [harr] at hcs; cases hcs) hi1 hf1
    · by_cases hin : id1 = id ∧ p1 = p ∧ i1 = i ∧ f ≤ f1 ∧ f1 < f + vs.length
      · have hval := (hcl i1 f1 hi1 hf1).1 hin
        have hk : f1 - f < vs.length := by omega
        have hvk : vs[f1 - f]? = some (vs[f1 - f]) := List.getElem?_eq_getElem hk
        have hput := hv _ _ _ _ hvk (List.getElem?_eq_getElem (by omega)) (List.getElem?_eq_getElem (by omega))
        rw [hval, List.getD_eq_getElem?_getD, hvk]
        simp only [Option.getD_some]
        cases hrr : rs[f1 - f]'(by omega) with
        | none => rw [hrr] at hput; exact hput.2.1
        | some r =>
          rw [hrr] at hput
          obtain ⟨_, _, _, _, _, e4, _⟩ := hput
          rw [e4]; rfl
      · have hp0 : (R0.at_ i1 f1).isPlain = true := by
          refine hh.plain h3 (fun cs hcs => ?_) (by rw [← h4]; exact hi1) (by rw [← h5]; exact hf1)
          obtain ⟨cs', hcs'⟩ := put_box (id := id) (p := p) (i := i) (f := f) (vs := vs) (H := E.kill q) (id' := id1) (cs := cs.map (D.kill q)) (by rw [kill_getD, hE.same id1 h1, hcs]; rfl)
          exact hbox cs' hcs'
        rcases ((hcl i1 f1 hi1 hf1).2 hin).1 with e1 | e1 | ⟨_, _, _, _, _, e1⟩
        · rw [e1]; exact hp0
        · rw [e1]; rfl
        · rw [e1]; rfl
end
end Go.R
