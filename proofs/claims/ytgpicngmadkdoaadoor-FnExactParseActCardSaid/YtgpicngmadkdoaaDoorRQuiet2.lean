/- The operations that change no memory, continued: structs and slices that are built. -/
import Derived.Test.YtgpicngmadkdoaaDoorRQuiet
set_option linter.unusedVariables false
set_option linter.unusedSimpArgs false
namespace Go.R
open Go.RowKit

inductive F2 {α β : Type} (R : α → β → Prop) : List α → List β → Prop
  | nil : F2 R [] []
  | cons {x y xs ys} (h : R x y) (t : F2 R xs ys) : F2 R (x :: xs) (y :: ys)
theorem F2.imp {α β : Type} {R S : α → β → Prop} {xs : List α} {ys : List β} (h : F2 R xs ys) (hi : ∀ x y, R x y → S x y) : F2 S xs ys := by
  induction h with
  | nil => exact .nil
  | cons h _ ih => exact .cons (hi _ _ h) ih

theorem setList_length : ∀ (vs cs : List D) (f : Nat), (setList cs f vs).length = cs.length
  | [], cs, f => rfl
  | v :: vs, cs, f => by rw [setList, setList_length vs]; simp
theorem setList_get : ∀ (vs cs : List D) (f k : Nat), f + vs.length ≤ cs.length → (setList cs f vs)[k]? = if f ≤ k ∧ k < f + vs.length then vs[k - f]? else cs[k]?
  | [], cs, f, k, h => by simp only [setList, List.length_nil]; rw [if_neg (by omega)]
  | v :: vs, cs, f, k, h => by
    simp only [List.length_cons] at h ⊢
    rw [setList, setList_get vs _ (f + 1) k (by simp; omega)]
    by_cases h1 : f + 1 ≤ k ∧ k < f + 1 + vs.length
    · rw [if_pos h1, if_pos (by omega)]
      obtain ⟨j, hj⟩ : ∃ j, k - f = j + 1 := ⟨k - f - 1, by omega⟩
      rw [hj, List.getElem?_cons_succ]
      congr 1
      omega
    · rw [if_neg h1, List.getElem?_set]
      by_cases h2 : f = k
      · subst h2
        rw [if_pos rfl, if_pos (by omega), if_pos (by omega)]
        simp
      · rw [if_neg h2, if_neg (by omega)]
theorem fold_set (off : Nat) : ∀ (vs : List Value) (j : Nat) (cells : Array Value), off + j + vs.length ≤ cells.size →
    ((vs.zipIdx j).foldl (fun cs (x : Value × Nat) => cs.setIfInBounds (off + x.2) x.1) cells).size = cells.size ∧
    ∀ k, ((vs.zipIdx j).foldl (fun cs (x : Value × Nat) => cs.setIfInBounds (off + x.2) x.1) cells)[k]? = if off + j ≤ k ∧ k < off + j + vs.length then vs[k - (off + j)]? else cells[k]?
  | [], j, cells, h => ⟨rfl, fun k => by simp only [List.zipIdx_nil, List.foldl_nil, List.length_nil]; rw [if_neg (by omega)]⟩
  | v :: vs, j, cells, h => by
    simp only [List.length_cons] at h
    have ih := fold_set off vs (j + 1) (cells.setIfInBounds (off + j) v) (by simp; omega)
    rw [List.zipIdx_cons, List.foldl_cons]
    refine ⟨by rw [ih.1]; simp, fun k => ?_⟩
    rw [ih.2 k]
    simp only [List.length_cons]
    by_cases h1 : off + (j + 1) ≤ k ∧ k < off + (j + 1) + vs.length
    · rw [if_pos h1, if_pos (by omega)]
      obtain ⟨i, hi⟩ : ∃ i, k - (off + j) = i + 1 := ⟨k - (off + j) - 1, by omega⟩
      rw [hi, List.getElem?_cons_succ]
      congr 1
      omega
    · rw [if_neg h1, Array.getElem?_setIfInBounds]
      by_cases h2 : off + j = k
      · subst h2
        rw [if_pos rfl, if_pos (by omega), if_pos (by omega)]
        simp
      · rw [if_neg h2, if_neg (by omega)]

def CellsRel (Q : D → Value → Prop) (cs : List D) (us : Array Value) : Prop := us.size = cs.length ∧ ∀ (k : Nat) (d : D) (u : Value), cs[k]? = some d → us[k]? = some u → Q d u

theorem fill_rel {Q : D → Value → Prop} {place : Nat → Option (Nat × Nat)} {ps : List (Nat × Value)} {ps' : List (Nat × List D)} {n : Nat}
    (h : F2 (fun p p' => ∃ size, place p.1 = some (p'.1, size) ∧ CellsRel Q p'.2 p.2.cells ∧ p'.2.length = size ∧ p'.1 + size ≤ n) ps ps') :
    ∀ {cells : Array Value} {cs : List D}, CellsRel Q cs cells → cs.length = n → ∃ r, Instr.fill place cells ps = some r ∧ CellsRel Q (ps'.foldl (fun cs p => setList cs p.1 p.2) cs) r := by
  induction h with
  | nil => exact fun hc _ => ⟨_, rfl, hc⟩
  | @cons p p' xs ys hh ht ih =>
    intro cells cs hc hn
    obtain ⟨size, hp, hv, hl, hb⟩ := hh
    have hsz : p.2.cells.size = size := hv.1.trans hl
    have hf := fold_set p'.1 p.2.cells.toList 0 cells (by simp only [Array.length_toList, Nat.add_zero]; rw [hsz, hc.1, hn]; exact hb)
    have harr : p.2.cells.zipIdx.foldl (fun cs x => cs.setIfInBounds (p'.1 + x.2) x.1) cells = (p.2.cells.toList.zipIdx 0).foldl (fun cs x => cs.setIfInBounds (p'.1 + x.2) x.1) cells := by
      rw [← Array.foldl_toList]
      simp
    have hc' : CellsRel Q (setList cs p'.1 p'.2) ((p.2.cells.toList.zipIdx 0).foldl (fun cs x => cs.setIfInBounds (p'.1 + x.2) x.1) cells) := by
      refine ⟨by rw [hf.1, hc.1, setList_length], fun k d u hd hu => ?_⟩
      rw [hf.2 k] at hu
      rw [setList_get _ _ _ _ (by omega)] at hd
      simp only [Nat.add_zero, Array.length_toList, hsz] at hu
      rw [hl] at hd
      by_cases h1 : p'.1 ≤ k ∧ k < p'.1 + size
      · rw [if_pos h1] at hd hu
        exact hv.2 _ d u hd (by simpa using hu)
      · rw [if_neg h1] at hd hu
        exact hc.2 k d u hd hu
    obtain ⟨r, hr, hq⟩ := ih hc' (by rw [setList_length]; exact hn)
    refine ⟨r, ?_, hq⟩
    obtain ⟨i, v⟩ := p
    simp only at hp hsz harr
    unfold Instr.fill
    rw [hp]
    simp only
    rw [if_neg (by simp [hsz]; rw [hc.1, hn]; exact hb)]
    rw [← hr, harr]

section
variable {P : Program} {G : Gh} {H : Heap} {w : World} {ts : List T} {a : Act} {x : Operand} {y : Opd}

theorem VR.z {d : D} {u : Value} (h1 : u.oneCell' = true) (h : VR G H w d u) : ZOk G H w d u := by
  refine ⟨h1, ?_⟩
  cases d with
  | sl o sz n b =>
    cases o
    · exact h
    · exact absurd h.1 (by decide)
  | _ => exact h
theorem cells_rel {t : T} {v : Value} (h : TR G H w t v) (hk : t.known = true) : CellsRel (fun d u => u.oneCell' = true ∧ VR G H w d u) t.cells v.cells := by
  have := cells_ok h hk
  refine ⟨by simpa using this.1, fun k d u hd hu => this.2 k d u hd (by simpa using hu)⟩

theorem gives_box {o : Oper} {e : TypeId} {K : Heap → T → Prop} (Fn : FnT) (hh : HeapOk G H w) (ht : Temps G H w ts a.tmps) (ho : o.op = .box e x) (hx : OpdOk x y)
    (hk : quiet Fn ts H (.box y) K) : Gives P G H w a o K := by
  obtain ⟨hkn, hk⟩ := hk
  have hc := cells_rel (get_ok hx ht) hkn
  refine ⟨.pointer (some ⟨w.heap.size, 0, none⟩), w.alloc (.cells (a.eval x).cells e), _, _, _, ?_, QRes.alloc hh (.box (y.get ts).cells) (a.eval x).cells e ?_ ?_ ?_ ?_, hk⟩
  · simp [execOp, ho, Instr.box, newVar, newRow]
  · simp [Obj.rows, hc.1]
  · intro i f hi hf
    simp only [Obj.rows] at hi hf ⊢
    have e0 : i = 0 := by omega
    subst e0
    have hfz : f < (a.eval x).cells.size := by rw [hc.1]; exact hf
    refine ⟨(a.eval x).cells[f], by rw [Nat.zero_mul, Nat.zero_add]; exact Array.getElem?_eq_getElem hfz, ?_⟩
    have : (y.get ts).cells[f]? = some (y.get ts).cells[f] := List.getElem?_eq_getElem hf
    rw [List.getD_eq_getElem?_getD, this]
    obtain ⟨h1, h2⟩ := hc.2 f _ _ this (Array.getElem?_eq_getElem hfz)
    exact VR.z h1 h2
  · intro hb
    exact absurd rfl (hb _)
  · refine ⟨rfl, by simp, _, rfl, fun R hR hn hi => ⟨w.heap.size, 0, ?_, by simp [show ‹Nat› = ‹Nat› from rfl]⟩⟩
    show (if H.length = H.length then _ else _) = _
    simp

/-- The parts of a struct that is built, on both sides. -/
def PartsOk (places : Array (Nat × Nat)) : List (Nat × Operand) → List (Nat × Nat × Opd) → Prop
  | [], [] => True
  | (i, x) :: r, (off, size, y) :: r' => places[i]? = some (off, size) ∧ OpdOk x y ∧ PartsOk places r r'
  | _, _ => False

theorem ext_build {o : Oper} {t : TypeId} {parts : Array (Nat × Operand)} {parts' : List (Nat × Nat × Opd)} {z : List D} {zv : Value} {fields : Array Field} {places : Array (Nat × Nat)} {K : Heap → T → Prop} (Fn : FnT)
    (hh : HeapOk G H w) (ht : Temps G H w ts a.tmps) (ho : o.op = .build t parts)
    (hz : ∀ w, (zeroValue t).run P w = .ok zv w) (hzc : CellsRel zeroD z zv.cells) (hze : ∀ d ∈ z, ∀ o sz n b, d ≠ .sl o sz n b) (hu : P.underlying t = some (.struct fields))
    (hpl : ∀ w, (fields.mapM fun f => do pure (f.offset, ← sizeOf f.type) : Sem _).run P w = .ok places w) (hps : PartsOk places parts.toList parts') (hfit : ∀ p ∈ parts', p.1 + p.2.1 ≤ z.length)
    (hk : quiet Fn ts H (.build z parts') K) : GivesA P G H w a o K := by
  obtain ⟨hall, hk⟩ := hk
  have hQ : CellsRel (fun d u => u.oneCell' = true ∧ VR G H w d u) z zv.cells := by
    refine ⟨hzc.1, fun k d u hd hu => ?_⟩
    have h0 := hzc.2 k d u hd hu
    have h1 := (h0.z (G := G) (H := H) (w := w))
    refine ⟨h1.1, ?_⟩
    have h2 := h1.2
    cases d with
    | sl o sz n b => exact absurd rfl (hze _ (List.mem_of_getElem? hd) o sz n b)
    | _ => exact h2
  have hF : ∀ (l : List (Nat × Operand)) (l' : List (Nat × Nat × Opd)), PartsOk places l l' → (∀ p ∈ l', p.1 + p.2.1 ≤ z.length) → (l'.all fun p => (p.2.2.get ts).known && (p.2.2.get ts).cells.length == p.2.1) = true →
      F2 (fun p p' => ∃ size, places[p.1]? = some (p'.1, size) ∧ CellsRel (fun d u => u.oneCell' = true ∧ VR G H w d u) p'.2 p.2.cells ∧ p'.2.length = size ∧ p'.1 + size ≤ z.length)
        (l.map fun (i, x) => (i, a.eval x)) (l'.map fun p => (p.1, (p.2.2.get ts).cells)) := by
    intro l
    induction l with
    | nil =>
      intro l' hp _ _
      cases l' with
      | nil => exact .nil
      | cons q l' => exact hp.elim
    | cons q l ih =>
      intro l' hp hf hal
      cases l' with
      | nil => exact hp.elim
      | cons q' l' =>
        obtain ⟨i, x⟩ := q
        obtain ⟨off, size, y⟩ := q'
        obtain ⟨h1, h2, h3⟩ := hp
        simp only [List.all_cons, Bool.and_eq_true, beq_iff_eq] at hal
        obtain ⟨⟨hkn, hlen⟩, hal⟩ := hal
        refine .cons ⟨size, h1, cells_rel (get_ok h2 ht) hkn, hlen, ?_⟩ (ih l' h3 (fun p hp => hf p (List.mem_cons_of_mem _ hp)) hal)
        exact hf _ List.mem_cons_self
  obtain ⟨r, hr, hq⟩ := fill_rel (hF parts.toList parts' hps hfit hall) hQ rfl
  refine GivesA.val (v := .agg r) ?_ ?_ hk
  · intro w'
    have hr' : Instr.fill (places[·]?) zv.cells (parts.map fun (i, x) => (i, a.eval x)).toList = some r := by
      rw [← hr]; simp
    simp only [execOp, ho, Instr.build, Sem.run_bind, hz, Result.andThen_ok, run_underlying hu, hpl, hr', Sem.run_pure]
  · have hfold : parts'.foldl (fun cs p => setList cs p.1 (p.2.2.get ts).cells) z = (parts'.map fun p => (p.1, (p.2.2.get ts).cells)).foldl (fun cs p => setList cs p.1 p.2) z := by
      rw [List.foldl_map]
    refine ⟨r.toList, by simp, by rw [hfold]; simpa using hq.1, fun k x u hx hu => ?_⟩
    rw [hfold] at hx
    exact hq.2 k x u hx (by simpa using hu)
end
end Go.R
