/- Several rows of a node are written: copy, clear. -/
import Derived.Test.YtgpicngmadkdoaaDoorRLoud3
import Derived.Lib.SliceRun
set_option linter.unusedVariables false
set_option linter.unusedSimpArgs false
namespace Go.R
open Go.RowKit

section
variable {P : Program} {G G1 G2 : Gh} {H H1 H2 N E : Heap} {w w1 w2 : World} {q q2 : D → Bool} {s : St} {a : Act} {x x2 : Operand} {y y2 : Opd}

theorem sub_set {b : Nat → Nat → D} : ∀ {p : Path} {sz n : Nat} {a : Nat → Nat → D} {R : Rows}, Sub p ⟨sz, n, a⟩ R → Sub p ⟨sz, n, nodeSet p a b⟩ ⟨R.sz, R.n, b⟩
  | [], sz, n, a, R, h => by
    have := Sub.nil.1 h
    subst this
    exact Sub.nil.2 rfl
  | (j, g) :: p, sz, n, a, R, h => by
    rw [Sub.cons] at h
    obtain ⟨h1, h2, sz2, n2, c, e, h3⟩ := h
    simp only at h1 h2 e
    refine Sub.cons.2 ⟨h1, h2, sz2, n2, nodeSet p c b, ?_, sub_set h3⟩
    simp only [nodeSet, e]
    rw [setAt_get, if_pos ⟨rfl, Nat.le_refl _, by simp⟩]
    simp
theorem nodeSet_self : ∀ {p : Path} {sz n : Nat} {a : Nat → Nat → D} {R : Rows}, Sub p ⟨sz, n, a⟩ R → nodeSet p a R.at_ = a
  | [], sz, n, a, R, h => by
    have := Sub.nil.1 h
    subst this
    rfl
  | (j, g) :: p, sz, n, a, R, h => by
    rw [Sub.cons] at h
    obtain ⟨h1, h2, sz2, n2, c, e, h3⟩ := h
    simp only at e
    simp only [nodeSet, e, nodeSet_self h3]
    funext i f
    rw [setAt_get]
    split
    · rename_i hc
      obtain ⟨rfl, hc1, hc2⟩ := hc
      simp only [List.length_cons, List.length_nil] at hc2
      obtain rfl : f = g := by omega
      simp [e]
    · rfl
theorem nodeSet_put {b : Nat → Nat → D} {i f : Nat} {vs : List D} : ∀ {p : Path} {sz n : Nat} {a : Nat → Nat → D} {R : Rows}, Sub p ⟨sz, n, a⟩ R → setIn p (nodeSet p a b) i f vs = nodeSet p a (setAt b i f vs)
  | [], sz, n, a, R, h => rfl
  | (j, g) :: p, sz, n, a, R, h => by
    rw [Sub.cons] at h
    obtain ⟨h1, h2, sz2, n2, c, e, h3⟩ := h
    simp only at e
    have e2 : setAt a j g [.sl true sz2 n2 (nodeSet p c b)] j g = .sl true sz2 n2 (nodeSet p c b) := by
      rw [setAt_get, if_pos ⟨rfl, Nat.le_refl _, by simp⟩]; simp
    simp only [nodeSet, e, setIn, e2, nodeSet_put h3]
    funext i' f'
    simp only [setAt_get, List.length_cons, List.length_nil]
    split
    · rfl
    · rfl
theorem node_setNode {id : Nat} {p : Path} {R : Rows} {b : Nat → Nat → D} (hN : Node H id p R) (harr : arrAt H id p) : Node (H.setNode id p b) id p ⟨R.sz, R.n, b⟩ := by
  obtain ⟨o, ho, hs⟩ := node_sub.1 hN
  refine node_sub.2 ⟨o.setNode p b, ?_, ?_⟩
  · unfold Heap.setNode
    rw [ho]
    simp only
    rw [getD_set (getD_lt ho), if_pos rfl]
  · cases o with
    | arr sz n a => exact sub_set hs
    | box cs =>
      cases p with
      | nil =>
        unfold arrAt at harr
        rw [ho] at harr
        exact harr.elim
      | cons x p =>
        obtain ⟨j, g⟩ := x
        rw [Sub.cons] at hs
        obtain ⟨h1, h2, sz2, n2, c, e, h3⟩ := hs
        simp only [Obj.rows] at h1 h2 e
        simp only [Obj.setNode, e]
        refine Sub.cons.2 ⟨h1, by simpa [Obj.rows] using h2, sz2, n2, nodeSet p c b, ?_, sub_set h3⟩
        simp [Obj.rows, List.getD_eq_getElem?_getD, h2]
theorem setNode_self {id : Nat} {p : Path} {R : Rows} (hN : Node H id p R) (harr : arrAt H id p) : H.setNode id p R.at_ = H := by
  obtain ⟨o, ho, hs⟩ := node_sub.1 hN
  have hl := getD_lt ho
  have hset : ∀ o', o' = o → H.set id (some o') = H := by
    intro o' e
    subst e
    apply list_ext_getD (by simp)
    intro id'
    rw [getD_set hl]
    split
    · rename_i e; subst e; exact ho.symm
    · rfl
  unfold Heap.setNode
  rw [ho]
  refine hset _ ?_
  cases o with
  | arr sz n a => simp only [Obj.setNode]; rw [nodeSet_self hs]
  | box cs =>
    cases p with
    | nil => rfl
    | cons x p =>
      obtain ⟨j, g⟩ := x
      rw [Sub.cons] at hs
      obtain ⟨h1, h2, sz2, n2, c, e, h3⟩ := hs
      simp only [Obj.rows] at h1 h2 e
      simp only [Obj.setNode, e, nodeSet_self h3]
      congr 1
      apply List.ext_getElem (by simp)
      intro k hk1 hk2
      rw [List.getElem_set]
      split
      · rename_i e2
        subst e2
        rw [List.getD_eq_getElem?_getD, List.getElem?_eq_getElem hk2] at e
        exact e.symm
      · rfl
theorem setNode_put {id : Nat} {p : Path} {R : Rows} {b : Nat → Nat → D} {i f : Nat} {vs : List D} (hN : Node H id p R) (harr : arrAt H id p) : (H.setNode id p b).put id p i f vs = H.setNode id p (setAt b i f vs) := by
  obtain ⟨o, ho, hs⟩ := node_sub.1 hN
  have hl := getD_lt ho
  unfold Heap.setNode Heap.put
  rw [ho]
  simp only
  rw [getD_set hl, if_pos rfl]
  simp only [List.set_set]
  congr 2
  cases o with
  | arr sz n a => simp only [Obj.setNode, Obj.put]; rw [nodeSet_put hs]
  | box cs =>
    cases p with
    | nil =>
      unfold arrAt at harr
      rw [ho] at harr
      exact harr.elim
    | cons x p =>
      obtain ⟨j, g⟩ := x
      rw [Sub.cons] at hs
      obtain ⟨h1, h2, sz2, n2, c, e, h3⟩ := hs
      simp only [Obj.rows] at h1 h2 e
      have e2 : (cs.set g (.sl true sz2 n2 (nodeSet p c b))).getD g .dead = .sl true sz2 n2 (nodeSet p c b) := by simp [List.getD_eq_getElem?_getD, h2]
      simp only [Obj.setNode, e, Obj.put, e2, nodeSet_put h3, List.set_set]
theorem arrAt_setNode {id : Nat} {p : Path} {b : Nat → Nat → D} (harr : arrAt H id p) : arrAt (H.setNode id p b) id p := by
  cases p with
  | cons x p => trivial
  | nil =>
    unfold arrAt at harr ⊢
    unfold Heap.setNode
    cases ho : H.getD id none with
    | none => simp only; rw [ho]; trivial
    | some o =>
      simp only
      rw [getD_set (getD_lt ho), if_pos rfl]
      rw [ho] at harr
      cases o with
      | box cs => exact harr.elim
      | arr sz n a => trivial
theorem copyAt_succ {sz off k : Nat} {a b : Nat → Nat → D} : setAt (copyAt sz a off k b) (off + k) 0 ((List.range sz).map (b k)) = copyAt sz a off (k + 1) b := by
  funext i f
  rw [setAt_get]
  simp only [List.length_map, List.length_range, Nat.zero_le, true_and, Nat.zero_add, Nat.sub_zero]
  unfold copyAt
  by_cases h : i = off + k ∧ f < sz
  · obtain ⟨rfl, hf⟩ := h
    rw [if_pos ⟨rfl, hf⟩, if_pos ⟨by omega, by omega, hf⟩]
    simp [List.getD_eq_getElem?_getD, hf]
  · rw [if_neg h]
    by_cases h2 : off ≤ i ∧ i < off + k ∧ f < sz
    · rw [if_pos h2, if_pos ⟨h2.1, by omega, h2.2.2⟩]
    · rw [if_neg h2, if_neg (fun h3 => h2 ⟨h3.1, by rcases Nat.lt_or_ge i (off + k) with h4 | h4; exact h4; exact absurd ⟨by omega, h3.2.2⟩ h, h3.2.2⟩)]
theorem copyAt_zero {sz off : Nat} {a b : Nat → Nat → D} : copyAt sz a off 0 b = a := by
  funext i f
  unfold copyAt
  rw [if_neg (by omega)]

def segN (c : Array Value) (base : Nat) (us : Nat → List Value) (k : Nat) : Array Value :=
  (c.toList.take base ++ ((List.range k).map us).flatten ++ c.toList.drop (base + ((List.range k).map us).flatten.length)).toArray
theorem flat_len {us : Nat → List Value} {sz : Nat} : ∀ k, (∀ j, j < k → (us j).length = sz) → ((List.range k).map us).flatten.length = k * sz
  | 0, _ => by simp
  | k + 1, h => by
    rw [List.range_succ, List.map_append, List.flatten_append, List.length_append, flat_len k (fun j hj => h j (by omega))]
    simp [h k (by omega), Nat.succ_mul]

theorem rows_ok {id : Nat} {p : Path} {R : Rows} {b o off len : Nat} {c : Array Value} {t : TypeId} {bs : Nat → Nat → D} {us : Nat → List Value}
    (hh : HeapOk G H w) (hN : Node H id p R) (harr : arrAt H id p) (hμ : G.μ id p = some (b, o)) (hc : w.heap[b]? = some (.cells c t (0, 0))) (hsz : o + R.n * R.sz ≤ c.size) (hle : off + len ≤ R.n)
    (hl : ∀ k, k < len → (us k).length = R.sz)
    (hv : ∀ k, k < len → ∀ f u, (us k)[f]? = some u → u.oneCell' = true ∧ (bs k f).isPlain = true ∧ (∀ sz n b, bs k f ≠ .sl true sz n b) ∧ VR G H w (bs k f) u) :
    ∀ k, k ≤ len → ∃ G1, LRes G H w noKill G1 (H.setNode id p (copyAt R.sz R.at_ off k bs)) (w.setRow b (segN c (o + off * R.sz) us k)) ∧ G1.μ id p = some (b, o)
  | 0, _ => by
    refine ⟨G, ?_, hμ⟩
    rw [copyAt_zero, setNode_self hN harr]
    have : segN c (o + off * R.sz) us 0 = c := by simp [segN]
    rw [this, setRow_self w b c t (0, 0) hc]
    exact LRes.refl hh
  | k + 1, hk => by
    obtain ⟨G1, h1, hμ1⟩ := rows_ok hh hN harr hμ hc hsz hle hl hv k (by omega)
    have hmul : (off + k) * R.sz + R.sz ≤ R.n * R.sz := by rw [← Nat.succ_mul]; exact Nat.mul_le_mul_right _ (by omega)
    have hmul0 : off * R.sz + k * R.sz = (off + k) * R.sz := (Nat.add_mul _ _ _).symm
    have hfl : ((List.range k).map us).flatten.length = k * R.sz := flat_len k fun j hj => hl j (by omega)
    have hfl1 : ((List.range (k + 1)).map us).flatten.length = (k + 1) * R.sz := flat_len (k + 1) fun j hj => hl j (by omega)
    have hsk : ∀ j, j ≤ k + 1 → ((List.range j).map us).flatten.length = j * R.sz → j * R.sz ≤ (k + 1) * R.sz → (segN c (o + off * R.sz) us j).size = c.size := by
      intro j _ hj hj2
      rw [Nat.succ_mul] at hj2
      simp only [segN, List.size_toArray, List.length_append, List.length_take, List.length_drop, Array.length_toList, hj]
      omega
    have hs0 := hsk k (by omega) hfl (by rw [Nat.succ_mul]; omega)
    have hs1 := hsk (k + 1) (Nat.le_refl _) hfl1 (Nat.le_refl _)
    have hN1 := node_setNode (b := copyAt R.sz R.at_ off k bs) hN harr
    have hheap := setRow_heap w b c (segN c (o + off * R.sz) us k) t (0, 0) hc
    have hheap1 := setRow_heap w b c (segN c (o + off * R.sz) us (k + 1)) t (0, 0) hc
    have hno : ∀ z : Option Nat, z ∈ List.replicate R.sz (none : Option Nat) → z = none := fun z hz => (List.mem_replicate.1 hz).2
    have hhook := hook (q := noKill) (us := us k) (rs := List.replicate R.sz none) (E := H.setNode id p (copyAt R.sz R.at_ off k bs)) (w1 := w.setRow b (segN c (o + off * R.sz) us (k + 1)))
      (c := segN c (o + off * R.sz) us k) (c1 := segN c (o + off * R.sz) us (k + 1)) (vs := (List.range R.sz).map (bs k)) (f := 0) (i := off + k) h1.heap
      (by
        have : (fun id => some id ∈ List.replicate R.sz (none : Option Nat)) = fun _ => False := by
          funext id
          simp only [eq_iff_iff, iff_false]
          intro h
          cases hno _ h
        rw [this]
        exact Less.refl _) hN1 (by show off + k < R.n; omega) (by simp) (by simp [hl k (by omega)]) (by simp)
      (fun j d u r hd hu hr => by
        have hr0 := hno r (List.mem_of_getElem? hr)
        subst hr0
        simp only [List.getElem?_map, Option.map_eq_some_iff] at hd
        obtain ⟨f, hf, rfl⟩ := hd
        obtain ⟨_, rfl⟩ := List.getElem?_eq_some_iff.1 hf
        simp only [List.getElem_range]
        obtain ⟨a1, a2, a3, a4⟩ := hv k (by omega) j u hu
        exact ⟨a1, a2, a3, h1.mv _ _ a4 rfl⟩)
      (fun j j' r hj _ => by cases hno _ (List.mem_of_getElem? hj)) hμ1 hheap
      (by
        have := setRow_wx (c1 := segN c (o + off * R.sz) us (k + 1)) hheap (by rw [hs0, hs1])
        rwa [setRow_setRow] at this) hheap1 (by rw [hs0, hs1])
      (fun j => by
        have g0 := seg_get c.toList (o + off * R.sz) ((List.range k).map us).flatten j (by rw [hfl, Array.length_toList]; omega)
        have g1 := seg_get c.toList (o + off * R.sz) ((List.range (k + 1)).map us).flatten j (by rw [hfl1, Array.length_toList, Nat.succ_mul]; omega)
        have e0 : (segN c (o + off * R.sz) us k)[j]? = _ := (by unfold segN; rw [List.getElem?_toArray] : (segN c (o + off * R.sz) us k)[j]? = _).trans g0
        have e1 : (segN c (o + off * R.sz) us (k + 1))[j]? = _ := (by unfold segN; rw [List.getElem?_toArray] : (segN c (o + off * R.sz) us (k + 1))[j]? = _).trans g1
        rw [e0, e1, hfl, hfl1, List.length_map, List.length_range, Nat.succ_mul, List.range_succ, List.map_append, List.flatten_append]
        simp only [Nat.add_zero, List.map_cons, List.map_nil, List.flatten_cons, List.flatten_nil, List.append_nil]
        by_cases ha : o + (off + k) * R.sz ≤ j ∧ j < o + (off + k) * R.sz + R.sz
        · rw [if_pos ha, if_pos (by omega), List.getElem?_append_right (by rw [hfl]; omega), hfl]
          congr 1
          omega
        · rw [if_neg ha]
          by_cases hb : o + off * R.sz ≤ j ∧ j < o + off * R.sz + k * R.sz
          · rw [if_pos hb, if_pos (by omega), List.getElem?_append_left (by rw [hfl]; omega)]
          · rw [if_neg hb, if_neg (by omega)])
      (fun _ _ _ _ => rfl) (fun d id' p' tot hm e1 hex => by
        obtain ⟨j, r, r', _, hr⟩ := hex
        cases hno _ (List.mem_of_getElem? hr))
    have hkn : (H.setNode id p (copyAt R.sz R.at_ off k bs)).kill noKill = H.setNode id p (copyAt R.sz R.at_ off k bs) :=
      kill_same h1.heap (Less.refl _) (fun _ _ _ _ => rfl) (fun _ _ _ => rfl)
    rw [hkn, setNode_put hN harr, copyAt_succ] at hhook
    refine ⟨_, (h1.trans hhook).weaken (fun _ _ => rfl), ?_⟩
    refine (hookGh_old ?_).trans hμ1
    intro ⟨_, j, r, _, _, hr⟩
    cases hno _ (List.mem_of_getElem? hr)

/-- A handle whose cells are there. -/
theorem own_at {id : Nat} {p : Path} {tot off len : Nat} {R : Rows} {v : Value} (hh : HeapOk G H w) (hv : VR G H w (.own id p tot off len) v) (hN : Node H id p R) (hn : R.n = tot) (hle : off + len ≤ tot) :
    (len = 0 ∧ ∃ A cap, v = .slice A 0 cap) ∨ (0 < len ∧ ∃ b o c t cap, G.μ id p = some (b, o) ∧ w.heap[b]? = some (.cells c t (0, 0)) ∧ o + R.n * R.sz ≤ c.size ∧ v = .slice (some ⟨b, o + off * R.sz, none⟩) len cap) := by
  have hin := hv.2 R hN hn
  have hno := hh.node hN
  unfold inSl at hin
  unfold NodeOk at hno
  cases hm : G.μ id p with
  | none =>
    rw [hm] at hin
    obtain ⟨_, _, h3, A, e⟩ := hin
    exact .inl ⟨h3, A, 0, e⟩
  | some bo =>
    obtain ⟨b, o⟩ := bo
    rw [hm] at hin hno
    obtain ⟨A, cap, e, h1, h2, h3, h4⟩ := hin
    rcases Nat.eq_zero_or_pos len with h0 | h0
    · exact .inl ⟨h0, A, cap, by rw [e, h0]⟩
    · obtain ⟨c, t, hc, hs, _⟩ := hno
      refine .inr ⟨h0, b, o, c, t, cap, rfl, hc, hs, ?_⟩
      rcases h4 with h4 | h4
      · omega
      · rw [e, h4]

theorem zeroCells_list (zc : Array Value) : ∀ n, (Builtin.zeroCells zc n).toList = ((List.range n).map fun _ => zc.toList).flatten
  | 0 => by simp [Builtin.zeroCells]
  | n + 1 => by
    have ih := zeroCells_list zc n
    simp only [Builtin.zeroCells, Array.toList_map, Array.toList_range] at ih ⊢
    rw [Nat.succ_mul, List.range_add, List.map_append, ih, List.range_succ, List.map_append, List.flatten_append]
    congr 1
    simp only [List.map_map, List.map_cons, List.map_nil, List.flatten_cons, List.flatten_nil, List.append_nil]
    apply List.ext_getElem (by simp)
    intro i h1 h2
    simp only [List.length_map, List.length_range] at h1
    simp only [List.getElem_map, List.getElem_range, Function.comp, Array.getElem_toList]
    rw [Nat.mul_comm, Nat.mul_add_mod, Nat.mod_eq_of_lt h1]
    simp [h1]
theorem flat_plain {d : D} (h : d.flat = true) : d.isPlain = true ∧ ∀ sz n b, d ≠ .sl true sz n b := by
  cases d <;> first | (cases h; done) | exact ⟨rfl, fun _ _ _ e => nomatch e⟩
theorem zeroD_VR {d : D} {v : Value} (hf : d.flat = true) (h : zeroD d v) : VR G H w d v := by
  cases d <;> first | (cases hf; done) | exact h

theorem gives_clear {o : Oper} {t e : TypeId} {sz : Nat} {zv : Value} {z : List D} {K : St → T → Prop} (In : InT) (hh : HeapOk G s.H w) (ht : Temps G s.H w s.ts a.tmps)
    (ho : o.op = .call { callee := .builtin .clear, args := #[x], argTypes := #[t] }) (hx : OpdOk x y) (hu : P.underlying t = some (.slice e)) (hz : ∀ w, (zeroValue e).run P w = .ok zv w)
    (hzd : CellsRel zeroD z zv.cells) (hfl : z.all D.flat = true) (hzs : z.length = sz) (hk : loud In s (.clear sz z y) K) : LGives P G s w a o K := by
  have hv := get_ok hx ht
  simp only [loud] at hk
  split at hk
  · rename_i id p tot off len e1
    rw [e1] at hv
    split at hk
    · rename_i R hR
      obtain ⟨hp, hRs, hn, hle, harr, hk⟩ := hk
      have hN : Node s.H id p R := ⟨hR, hp⟩
      rcases own_at hh hv.2 hN hn hle with ⟨h0, A, cap, ev⟩ | ⟨h0, b, ob, c, ct, cap, hμ, hc, hcs, ev⟩
      · have hrun : (execOp a.eval o).run P w = .ok (.value (.tuple #[])) w := by
          cases A <;> simp [execOp, ho, resolve, invoke, builtin, Builtin.clear_, run_underlying hu, ev]
        subst h0
        rw [copyAt_zero, setNode_self hN harr] at hk
        exact ⟨_, w, G, noKill, s.H, .tup [], hrun, LRes.refl hh, ⟨[], rfl, rfl, fun k x u h => by simp at h⟩, by rw [map_kill_no, up_kill_no]; exact hk⟩
      · have hzl : zv.cells.toList.length = sz := by rw [Array.length_toList, hzd.1, hzs]
        obtain ⟨G1, hres, _⟩ := rows_ok (bs := fun _ f => z.getD f .dead) (us := fun _ => zv.cells.toList) (len := len) (off := off) hh hN harr hμ hc hcs (by omega) (fun k _ => by rw [hzl, hRs]) (fun k _ f u hu2 => by
          have hf : f < z.length := by rw [hzs, ← hzl]; exact (List.getElem?_eq_some_iff.1 hu2).1
          have hd := hzd.2 f z[f] u (List.getElem?_eq_getElem hf) (by rw [← Array.getElem?_toList]; exact hu2)
          have hflat := List.all_eq_true.1 hfl z[f] (List.getElem_mem hf)
          have e : z.getD f .dead = z[f] := by rw [List.getD_eq_getElem?_getD, List.getElem?_eq_getElem hf]; rfl
          simp only [e]
          exact ⟨hd.one, (flat_plain hflat).1, (flat_plain hflat).2, zeroD_VR hflat hd⟩) len (Nat.le_refl _)
        have hone : ∀ v ∈ (Builtin.zeroCells zv.cells len).toList, v.oneCell' = true := by
          intro v hm
          rw [zeroCells_list] at hm
          simp only [List.mem_flatten, List.mem_map] at hm
          obtain ⟨l, ⟨_, _, rfl⟩, hm⟩ := hm
          obtain ⟨f, hf⟩ := List.getElem?_of_mem hm
          have hfl2 : f < z.length := by rw [hzs, ← hzl]; exact (List.getElem?_eq_some_iff.1 hf).1
          exact (hzd.2 f z[f] v (List.getElem?_eq_getElem hfl2) (by rw [← Array.getElem?_toList]; exact hf)).one
        have hfl3 := flat_len (us := fun _ => zv.cells.toList) (sz := sz) len (fun _ _ => hzl)
        have hst := run_storeCells_at P b (ob + off * R.sz) ct (Builtin.zeroCells zv.cells len).toList 0 c w hc (by
          rw [zeroCells_list, hfl3, Nat.add_zero, hRs]
          have : off * R.sz + len * R.sz ≤ R.n * R.sz := by rw [← Nat.add_mul]; exact Nat.mul_le_mul_right _ (by omega)
          rw [hRs] at this hcs
          omega) hone
        rw [Nat.add_zero, zeroCells_list] at hst
        have hrun : (execOp a.eval o).run P w = .ok (.value (.tuple #[])) (w.setRow b (segN c (ob + off * R.sz) (fun _ => zv.cells.toList) len)) := by
          obtain ⟨m, rfl⟩ : ∃ m, len = m + 1 := ⟨len - 1, by omega⟩
          simp only [execOp, ho, resolve, invoke, builtin, Builtin.clear_, ev, List.map_toArray, List.map_cons, List.map_nil]
          simp [run_underlying hu, hz, zeroCells_list, ev]
          rw [hst]
          rfl
        refine ⟨_, _, G1, noKill, _, .tup [], hrun, hres, ⟨[], rfl, rfl, fun k x u h => by simp at h⟩, ?_⟩
        rw [map_kill_no, up_kill_no, hRs]
        exact hk
    · exact hk.elim
  · exact hk.elim
end
end Go.R
