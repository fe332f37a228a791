/- Steps of the state: what changes, and what stays true of the temporaries. -/
import Derived.Test.YtgpicngmadkdoaaDoorRNode
set_option linter.unusedVariables false
set_option linter.unusedSimpArgs false
namespace Go.R
open Go.RowKit

structure LRes (G : Gh) (H : Heap) (w : World) (q : D → Bool) (G1 : Gh) (H1 : Heap) (w1 : World) : Prop where
  wx : Wx w w1 (fun b => ¬ G.fr b)
  ok : ∀ b, G.ok b → G1.ok b
  okNew : ∀ b, G1.ok b → G.ok b ∨ ¬ G.fr b
  fr : ∀ b, G.fr b → G1.fr b
  len : H.length ≤ H1.length
  heap : HeapOk G1 H1 w1
  mv : ∀ d v, VR G H w d v → q d = false → VR G1 H1 w1 d v

def noKill : D → Bool := fun _ => false

section
variable {G G1 G2 : Gh} {H H1 H2 N : Heap} {w w1 w2 : World} {q q2 : D → Bool}

theorem LRes.refl (hh : HeapOk G H w) : LRes G H w noKill G H w := ⟨Wx.refl _ _, fun _ h => h, fun _ h => .inl h, fun _ h => h, Nat.le_refl _, hh, fun _ _ h _ => h⟩
theorem LRes.trans (h : LRes G H w q G1 H1 w1) (k : LRes G1 H1 w1 q2 G2 H2 w2) : LRes G H w (fun d => q d || q2 d) G2 H2 w2 :=
  ⟨(h.wx.trans k.wx).mono (fun b _ hb => by rcases hb with hb | hb; exact hb; exact fun x => hb (h.fr b x)), fun b x => k.ok b (h.ok b x),
   fun b x => by
    rcases k.okNew b x with x | x
    · exact h.okNew b x
    · exact .inr fun y => x (h.fr b y), fun b x => k.fr b (h.fr b x), Nat.le_trans h.len k.len, k.heap,
   fun d v hv hq => by rw [Bool.or_eq_false_iff] at hq; exact k.mv d v (h.mv d v hv hq.1) hq.2⟩
theorem LRes.weaken (h : LRes G H w q G1 H1 w1) (hq : ∀ d, q2 d = false → q d = false) : LRes G H w q2 G1 H1 w1 := ⟨h.wx, h.ok, h.okNew, h.fr, h.len, h.heap, fun d v hv k => h.mv d v hv (hq d k)⟩
theorem LRes.of_q {t : T} {v : Value} (hh : HeapOk G H w) (h : QRes G H w N t v G1 w1) : LRes G H w noKill G1 (H ++ N) w1 :=
  ⟨h.wx.mono (fun _ _ k => k.elim), h.ok, fun b x => by
    rcases h.okNew b x with x | x
    · exact .inl x
    · exact .inr fun y => by have := hh.frLt y; omega, h.fr, by simp, h.heap, fun d v hv _ => VR.move h.wx (fun b hb => ⟨h.ok b hb, fun k => k⟩) (by simp) (fun id p tot R1 _ hl hn e => ⟨R1, (Node.app hl).1 hn, e, rfl, h.μ id p hl⟩) hv⟩

theorem D.kill_dead {q : D → Bool} {d : D} : d.kill q = .dead ∨ (d.kill q = d ∧ q d = false) := by
  unfold D.kill
  split
  · exact .inl rfl
  · rename_i h; exact .inr ⟨rfl, by simpa using h⟩

theorem LRes.cell (h : LRes G H w q G1 H1 w1) {d : D} {v : Value} (hv : VR G H w d v) : VR G1 H1 w1 (d.kill q) v := by
  rcases D.kill_dead (q := q) (d := d) with e | ⟨e, hq⟩
  · rw [e]; trivial
  · rw [e]; exact h.mv d v hv hq

theorem LRes.val (h : LRes G H w q G1 H1 w1) {t : T} {v : Value} (ht : TR G H w t v) : TR G1 H1 w1 (t.kill q) v := by
  cases t with
  | d x =>
    show TR G1 H1 w1 (.d (x.kill q)) v
    rcases D.kill_dead (q := q) (d := x) with e | ⟨e, hq⟩
    · rw [e]; trivial
    · rw [e]
      cases x <;> first | trivial | exact ⟨ht.1, h.mv _ v ht.2 hq⟩
  | agg cs =>
    obtain ⟨vs, e, hl, hc⟩ := ht
    refine ⟨vs, e, by simpa using hl, fun k x u hx hu => ?_⟩
    simp only [List.getElem?_map, Option.map_eq_some_iff] at hx
    obtain ⟨y, hy, rfl⟩ := hx
    obtain ⟨h1, h2⟩ := hc k y u hy hu
    exact ⟨h1, h.cell h2⟩
  | tup ts =>
    obtain ⟨vs, e, hl, hc⟩ := ht
    refine ⟨vs, e, by simpa using hl, fun k x u hx hu => ?_⟩
    simp only [List.getElem?_map, Option.map_eq_some_iff] at hx
    obtain ⟨y, hy, rfl⟩ := hx
    have hm := hc k y u hy hu
    cases y with
    | d y =>
      rcases D.kill_dead (q := q) (d := y) with e | ⟨e, hq⟩
      · simp only [e]
      · simp only [e]
        cases y <;> first | trivial | exact ⟨hm.1, h.mv _ u hm.2 hq⟩
    | agg cs =>
      obtain ⟨us, e2, hl2, hc2⟩ := hm
      refine ⟨us, e2, by simpa using hl2, fun j y z hy hz => ?_⟩
      simp only [List.getElem?_map, Option.map_eq_some_iff] at hy
      obtain ⟨y', hy', rfl⟩ := hy
      obtain ⟨h1, h2⟩ := hc2 j y' z hy' hz
      exact ⟨h1, h.cell h2⟩
    | tup _ => exact hm.elim
theorem T.kill_no (t : T) : t.kill noKill = t := by
  have hd : ∀ d : D, d.kill noKill = d := fun d => rfl
  have hm : ∀ cs : List D, cs.map (D.kill noKill) = cs := fun cs => by
    rw [show (D.kill noKill) = id from funext hd]; simp
  cases t with
  | d x => rfl
  | agg cs => show T.agg _ = _; rw [hm]
  | tup ts =>
    show T.tup _ = _
    congr 1
    have : (fun t : T => match t with | .d x => T.d (x.kill noKill) | .agg cs => .agg (cs.map (D.kill noKill)) | t => t) = id := by
      funext t
      cases t with
      | d x => rfl
      | agg cs => show T.agg _ = _; rw [hm]; rfl
      | tup ts => rfl
    exact (congrArg (fun f => ts.map f) this).trans (List.map_id ts)
theorem LRes.val0 (h : LRes G H w noKill G1 H1 w1) {t : T} {v : Value} (ht : TR G H w t v) : TR G1 H1 w1 t v := by
  have := h.val ht
  rwa [T.kill_no] at this

/-- A node whose cells come from a node that was there. -/
theorem NodeOk.src {ch : Nat → Prop} (hx : Wx w w1 ch) (hok : ∀ b, G.ok b → G1.ok b ∧ ¬ ch b) {id0 id : Nat} {p0 p : Path} {R0 R1 : Rows} {off : Nat}
    (h0 : NodeOk G H w id0 p0 R0) (hμ : G1.μ id p = (G.μ id0 p0).map fun x => (x.1, x.2 + off * R0.sz)) (hsz : R1.sz = R0.sz) (hn : off + R1.n ≤ R0.n)
    (hch : ∀ b o c t, G.μ id0 p0 = some (b, o) → w.heap[b]? = some (.cells c t (0, 0)) → ∃ c1, w1.heap[b]? = some (.cells c1 t (0, 0)) ∧ c1.size = c.size ∧
      ∀ i f, i < R1.n → f < R1.sz → (CellLe (R0.at_ (off + i) f) (R1.at_ i f) ∧ c1[o + (off + i) * R0.sz + f]? = c[o + (off + i) * R0.sz + f]? ∧
        (∀ sz n b, R0.at_ (off + i) f = .sl true sz n b → R1.at_ i f ≠ .dead → G1.μ id (p ++ [(i, f)]) = G.μ id0 (p0 ++ [(off + i, f)])) ∧
        (R1.at_ i f = R0.at_ (off + i) f → (∀ sz n b, R0.at_ (off + i) f ≠ .sl true sz n b) → ∀ v, VR G H w (R0.at_ (off + i) f) v → VR G1 H1 w1 (R0.at_ (off + i) f) v)) ∨
        ∃ u, c1[o + (off + i) * R0.sz + f]? = some u ∧ CellOk G1 H1 w1 id p i f (R1.at_ i f) u) :
    NodeOk G1 H1 w1 id p R1 := by
  unfold NodeOk at h0 ⊢
  rw [hμ]
  cases hm : G.μ id0 p0 with
  | none =>
    rw [hm] at h0
    simp only at h0
    simp only [Option.map_none]
    omega
  | some bo =>
    obtain ⟨b, o⟩ := bo
    rw [hm] at h0
    obtain ⟨c, t, hc, hs, hcell⟩ := h0
    obtain ⟨c1, hc1, hs1, hcc⟩ := hch b o c t hm hc
    simp only [Option.map_some]
    have hle : (off + R1.n) * R0.sz ≤ R0.n * R0.sz := Nat.mul_le_mul_right _ hn
    refine ⟨c1, t, hc1, by rw [hs1, hsz]; rw [Nat.add_mul] at hle; omega, fun i f hi hf => ?_⟩
    have hidx : o + off * R0.sz + i * R1.sz + f = o + (off + i) * R0.sz + f := by rw [hsz, Nat.add_mul]; omega
    rw [hidx]
    rcases hcc i f hi hf with ⟨hle, he, ht1, ht2⟩ | h
    · obtain ⟨u, hu, h1, h2⟩ := hcell (off + i) f (by omega) (by omega)
      refine ⟨u, by rw [he]; exact hu, h1, ?_⟩
      rcases hle with e | e | ⟨sz, n, b1, b2, e1, e2⟩
      · rw [e]
        cases hd : R0.at_ (off + i) f with
        | sl ow sz n b1 =>
          rw [hd] at h2
          cases ow
          · have := ht2 e (by rw [hd]; intro _ _ _ h; cases h) u (by rw [hd]; exact h2)
            rw [hd] at this
            exact this
          · show inSl w1 (G1.μ id (p ++ [(i, f)])) sz n 0 n u
            rw [ht1 sz n b1 hd (by rw [e, hd]; intro h; cases h)]
            exact inSl.wx hx h2
        | _ =>
          have := ht2 e (by rw [hd]; intro _ _ _ h; cases h) u (by rw [hd] at h2 ⊢; exact h2)
          rw [hd] at this
          exact this
      · rw [e]; trivial
      · rw [e2]
        rw [e1] at h2
        show inSl w1 (G1.μ id (p ++ [(i, f)])) sz n 0 n u
        rw [ht1 sz n b1 e1 (by rw [e2]; intro h; cases h)]
        exact inSl.wx hx h2
    · exact h

theorem VR.of_RO {d : D} {v : Value} (hp : d.isPlain = true) (h : VR G H w d v) : d.RO w G.ok v := by
  cases d <;> first | exact h | cases hp
theorem VR.plain_move {ch : Nat → Prop} (hx : Wx w w1 ch) (hok : ∀ b, G.ok b → G1.ok b ∧ ¬ ch b) {d : D} {v : Value} (hp : d.isPlain = true) (h : VR G H w d v) : VR G1 H1 w1 d v := by
  have := (VR.of_RO hp h).wx hx hok
  cases d <;> first | exact this | cases hp

/-- Ghost: a node's tree becomes a root of its own. -/
def unhookGh (G : Gh) (H : Heap) (id : Nat) (p : Path) (sz off : Nat) : Gh :=
  ⟨fun id' p' => if id' = H.length then (match p' with | [] => (G.μ id p).map fun x => (x.1, x.2 + off * sz) | (i, f) :: r => G.μ id (p ++ (off + i, f) :: r)) else G.μ id' p', G.ok, G.fr⟩

theorem shiftAt_eq (off : Nat) (a : Nat → Nat → D) (i f : Nat) : shiftAt off a i f = a (off + i) f := by
  cases off with
  | zero => simp [shiftAt]
  | succ n => rfl

theorem subAt_eq (off len : Nat) (a : Nat → Nat → D) {i : Nat} (f : Nat) (h : i < len) : subAt off len a i f = a (off + i) f := if_pos h

theorem unhook {id : Nat} {p : Path} {R : Rows} {off len : Nat} (hh : HeapOk G H w) (hN : Node H id p R) (hb : ∀ cs, H.getD id none = some (.box cs) → p ≠ []) (hl : off + len ≤ R.n) :
    LRes G H w noKill (unhookGh G H id p R.sz off) (H.drop_ id p ++ [some (.arr R.sz len (subAt off len R.at_))]) w ∧
    ∀ v, VR G H w (.own id p R.n off len) v → VR (unhookGh G H id p R.sz off) (H.drop_ id p ++ [some (.arr R.sz len (subAt off len R.at_))]) w (.own H.length [] len 0 len) v := by
  generalize hG1 : unhookGh G H id p R.sz off = G1
  have hμo : ∀ id' p', id' ≠ H.length → G1.μ id' p' = G.μ id' p' := fun id' p' h => by rw [← hG1]; exact if_neg h
  have hμ0 : G1.μ H.length [] = (G.μ id p).map fun x => (x.1, x.2 + off * R.sz) := by rw [← hG1]; exact if_pos rfl
  have hμ1 : ∀ i f r, G1.μ H.length ((i, f) :: r) = G.μ id (p ++ (off + i, f) :: r) := fun i f r => by rw [← hG1]; exact if_pos rfl
  have hokq : G1.ok = G.ok := by rw [← hG1]; rfl
  have hfrq : G1.fr = G.fr := by rw [← hG1]; rfl
  have hdl := drop_length H id p
  -- the nodes
  have hnew : ∀ {p' R1}, Node (H.drop_ id p ++ [some (.arr R.sz len (subAt off len R.at_))]) H.length p' R1 → Sub p' ⟨R.sz, len, subAt off len R.at_⟩ R1 := by
    intro p' R1 h
    obtain ⟨o, ho, hs⟩ := node_sub.1 h
    rw [getD_app2 (by rw [hdl]; exact Nat.le_refl _), hdl] at ho
    simp only [Nat.sub_self, List.getD_cons_zero] at ho
    injection ho with ho
    subst ho
    exact hs
  have hsub : ∀ {i f r R1}, Sub ((i, f) :: r) ⟨R.sz, len, subAt off len R.at_⟩ R1 → Node H id (p ++ (off + i, f) :: r) R1 := by
    intro i f r R1 h
    rw [Sub.cons] at h
    obtain ⟨h1, h2, sz, n, b, hd, h3⟩ := h
    simp only [subAt_eq off len R.at_ f h1] at h1 h2 hd
    obtain ⟨o, ho, hs⟩ := node_sub.1 hN
    exact node_sub.2 ⟨o, ho, hs.app (Sub.cons.2 ⟨by omega, h2, sz, n, b, hd, h3⟩)⟩
  have hold : ∀ {id' p' R1}, id' ≠ H.length → Node (H.drop_ id p ++ [some (.arr R.sz len (subAt off len R.at_))]) id' p' R1 → (∀ r, ¬ (id' = id ∧ p' = p ++ r)) ∧ ∃ R0, Node H id' p' R0 ∧ RowsLe R0 R1 := by
    intro id' p' R1 hne h
    have hlt := h.lt
    simp only [List.length_append, List.length_cons, List.length_nil, hdl] at hlt
    exact node_drop hN ((Node.app (by rw [hdl]; omega)).1 h)
  -- a source for each node
  have hsrc : ∀ {id' p' R1}, Node (H.drop_ id p ++ [some (.arr R.sz len (subAt off len R.at_))]) id' p' R1 → ∃ id0 p0 R0 k, Node H id0 p0 R0 ∧ G1.μ id' p' = (G.μ id0 p0).map (fun x => (x.1, x.2 + k)) ∧
      ((id' = H.length ∧ id0 = id ∧ ((p' = [] ∧ p0 = p) ∨ ∃ i f r, p' = (i, f) :: r ∧ p0 = p ++ (off + i, f) :: r)) ∨ (id' ≠ H.length ∧ id0 = id' ∧ p0 = p' ∧ ∀ r, ¬ (id' = id ∧ p' = p ++ r))) := by
    intro id' p' R1 h
    by_cases e : id' = H.length
    · subst e
      cases p' with
      | nil => exact ⟨id, p, R, _, hN, hμ0, .inl ⟨rfl, rfl, .inl ⟨rfl, rfl⟩⟩⟩
      | cons x r =>
        obtain ⟨i, f⟩ := x
        refine ⟨id, _, R1, 0, hsub (hnew h), ?_, .inl ⟨rfl, rfl, .inr ⟨i, f, r, rfl, rfl⟩⟩⟩
        rw [hμ1]; simp
    · obtain ⟨h1, R0, h2, h3⟩ := hold e h
      exact ⟨id', p', R0, 0, h2, by rw [hμo _ _ e]; simp, .inr ⟨e, rfl, rfl, h1⟩⟩
  have hmv : ∀ d v, VR G H w d v → VR G1 (H.drop_ id p ++ [some (.arr R.sz len (subAt off len R.at_))]) w d v := fun d v hv =>
    VR.move (Wx.refl w (fun _ => False)) (fun b hb => ⟨by rw [hokq]; exact hb, fun k => k⟩) (by simp [hdl]) (fun id' p' tot R1 _ hl' hn' e => by
      obtain ⟨_, R0, h2, h3⟩ := hold (by omega) hn'
      exact ⟨R0, h2, by rw [← e, h3.n], h3.sz.symm, hμo _ _ (by omega)⟩) hv
  refine ⟨⟨Wx.refl _ _, fun b h => by rw [hokq]; exact h, fun b h => by rw [hokq] at h; exact .inl h, fun b h => by rw [hfrq]; exact h, by simp [hdl], ⟨?_, ?_, ?_, ?_, fun h => by rw [hokq] at h; rw [hfrq]; exact hh.okFr h, ?_⟩, fun d v hv _ => hmv d v hv⟩, ?_⟩
  · -- node
    intro id' p' R1 h
    by_cases e : id' = H.length
    · subst e
      cases p' with
      | nil =>
        have := Sub.nil.1 (hnew h)
        subst this
        refine NodeOk.src (off := off) (Wx.refl w (fun _ => False)) (fun b hb => ⟨by rw [hokq]; exact hb, fun k => k⟩) (hh.node hN) hμ0 rfl hl (fun b o c t _ hc => ⟨c, hc, rfl, fun i f hi hf => .inl ⟨?_, rfl, fun sz n b _ _ => ?_, fun _ _ v hv => hmv _ v hv⟩⟩)
        · show CellLe _ (subAt off len R.at_ i f)
          rw [subAt_eq off len R.at_ f hi]; exact .refl _
        · exact hμ1 i f []
      | cons x r =>
        obtain ⟨i0, f0⟩ := x
        have hs := hsub (hnew h)
        refine NodeOk.src (off := 0) (Wx.refl w (fun _ => False)) (fun b hb => ⟨by rw [hokq]; exact hb, fun k => k⟩) (hh.node hs) (by rw [hμ1]; simp) rfl (by omega) (fun b o c t _ hc => ⟨c, hc, rfl, fun i f hi hf => .inl ⟨?_, rfl, fun sz n b _ _ => ?_, fun _ _ v hv => hmv _ v hv⟩⟩)
        · rw [Nat.zero_add]; exact .refl _
        · rw [List.cons_append, hμ1, Nat.zero_add, List.append_assoc, List.cons_append]
    · obtain ⟨h1, R0, h2, h3⟩ := hold e h
      refine NodeOk.src (off := 0) (Wx.refl w (fun _ => False)) (fun b hb => ⟨by rw [hokq]; exact hb, fun k => k⟩) (hh.node h2) (by rw [hμo _ _ e]; simp) h3.sz (by rw [h3.n]; omega) (fun b o c t _ hc => ⟨c, hc, rfl, fun i f hi hf => .inl ⟨?_, rfl, fun sz n b _ _ => ?_, fun _ _ v hv => hmv _ v hv⟩⟩)
      · rw [Nat.zero_add]; exact h3.cell i f hi hf
      · rw [hμo _ _ e, Nat.zero_add]
  · -- inj
    intro id1 p1 R1 b o1 id2 p2 R2 o2 h1 h2 hb1 hb2
    obtain ⟨i1, q1, S1, k1, hn1, hm1, hc1⟩ := hsrc h1
    obtain ⟨i2, q2, S2, k2, hn2, hm2, hc2⟩ := hsrc h2
    rw [hb1] at hm1
    rw [hb2] at hm2
    cases hg1 : G.μ i1 q1 with
    | none => rw [hg1] at hm1; cases hm1
    | some x1 =>
      cases hg2 : G.μ i2 q2 with
      | none => rw [hg2] at hm2; cases hm2
      | some x2 =>
        rw [hg1] at hm1
        rw [hg2] at hm2
        obtain ⟨b1, oo1⟩ := x1
        obtain ⟨b2, oo2⟩ := x2
        simp only [Option.map_some, Option.some.injEq, Prod.mk.injEq] at hm1 hm2
        rw [← hm1.1] at hg1
        rw [← hm2.1] at hg2
        obtain ⟨e1, e2⟩ := hh.inj hn1 hn2 hg1 hg2
        subst e1; subst e2
        rcases hc1 with ⟨a1, a2, a3⟩ | ⟨a1, a2, a3, a4⟩ <;> rcases hc2 with ⟨c1, c2, c3⟩ | ⟨c1, c2, c3, c4⟩
        · refine ⟨a1.trans c1.symm, ?_⟩
          rcases a3 with ⟨a3, a4⟩ | ⟨x, y, r, a3, a4⟩ <;> rcases c3 with ⟨c3, c4⟩ | ⟨x', y', r', c3, c4⟩
          · rw [a3, c3]
          · rw [a4] at c4; simp at c4
          · rw [c4] at a4; simp at a4
          · rw [a4] at c4
            have := List.append_cancel_left c4
            simp only [List.cons.injEq, Prod.mk.injEq] at this
            rw [a3, c3, this.2, this.1.2, show x = x' by omega]
        · exfalso
          rcases a3 with ⟨a3, a4⟩ | ⟨x, y, r, a3, a4⟩
          · exact c4 [] ⟨by rw [← c2, a2], by rw [← c3, a4]; simp⟩
          · exact c4 _ ⟨by rw [← c2, a2], by rw [← c3, a4]⟩
        · exfalso
          rcases c3 with ⟨c3, c4⟩ | ⟨x, y, r, c3, c4⟩
          · exact a4 [] ⟨by rw [← a2, c2], by rw [← a3, c4]; simp⟩
          · exact a4 _ ⟨by rw [← a2, c2], by rw [← a3, c4]⟩
        · exact ⟨a2.symm.trans c2, a3.symm.trans c3⟩
  · -- apart
    intro id1 p1 R1 b o1 h1 hb1
    obtain ⟨i1, q1, S1, k1, hn1, hm1, hc1⟩ := hsrc h1
    rw [hb1] at hm1
    cases hg1 : G.μ i1 q1 with
    | none => rw [hg1] at hm1; cases hm1
    | some x1 =>
      rw [hg1] at hm1
      obtain ⟨b1, oo1⟩ := x1
      simp only [Option.map_some, Option.some.injEq, Prod.mk.injEq] at hm1
      rw [← hm1.1] at hg1
      rw [hfrq]
      exact hh.apart hn1 hg1
  · intro b hb
    rw [hfrq] at hb
    exact hh.frLt hb
  · -- plain
    intro id' p' R1 i f h hbox hi hf
    by_cases e : id' = H.length
    · subst e
      cases p' with
      | nil =>
        have := Sub.nil.1 (hnew h)
        subst this
        show (subAt off len R.at_ i f).isPlain = true
        have hi' : i < len := hi
        rw [subAt_eq off len R.at_ f hi']
        exact hh.plain hN hb (by omega) hf
      | cons x r =>
        obtain ⟨i0, f0⟩ := x
        exact hh.plain (hsub (hnew h)) (fun _ _ => by simp) hi hf
    · obtain ⟨h1, R0, h2, h3⟩ := hold e h
      have hlt : id' < H.length := h2.lt
      have hp0 : (R0.at_ i f).isPlain = true := by
        refine hh.plain h2 (fun cs hcs => ?_) (by rw [← h3.n]; exact hi) (by rw [← h3.sz]; exact hf)
        rcases drop_box (p := p) (id := id) hcs with ⟨e1, e2⟩ | ⟨cs', e1⟩
        · exact absurd ⟨e2, by rw [e1]; rfl⟩ (h1 p')
        · exact hbox cs' (by rw [getD_app (by rw [hdl]; exact hlt)]; exact e1)
      rcases h3.cell i f hi hf with e1 | e1 | ⟨_, _, _, _, _, e1⟩
      · rw [e1]; exact hp0
      · rw [e1]; rfl
      · rw [e1]; rfl
  · -- the handle
    intro v hv
    refine ⟨by simp [hdl], fun R1 hR1 hn1 => ?_⟩
    have := Sub.nil.1 (hnew hR1)
    subst this
    have hin := hv.2 R hN rfl
    rw [hμ0]
    show inSl w _ R.sz len 0 len v
    unfold inSl at hin ⊢
    cases hm : G.μ id p with
    | none =>
      rw [hm] at hin
      obtain ⟨h1, h2, h3, A, e⟩ := hin
      exact ⟨h3, rfl, h3, A, e⟩
    | some bo =>
      obtain ⟨b, o⟩ := bo
      rw [hm] at hin
      obtain ⟨A, cap, e, h1, h2, h3, h4⟩ := hin
      refine ⟨A, cap, e, by omega, by omega, ?_, ?_⟩
      · show Has w b (o + off * R.sz + (0 + cap) * R.sz)
        rw [show o + off * R.sz + (0 + cap) * R.sz = o + (off + cap) * R.sz by rw [Nat.add_mul off cap, Nat.zero_add, Nat.add_assoc]]
        exact h3
      · rcases h4 with h4 | h4
        · exact .inl h4
        · right; rw [h4]; simp
end
end Go.R
