/- The operations that change no memory, continued: slices that are built, loads, places. -/
import Derived.Test.YtgpicngmadkdoaaDoorRQuiet2
set_option linter.unusedVariables false
set_option linter.unusedSimpArgs false
namespace Go.R
open Go.RowKit

theorem rep_get (z : List D) : ∀ (n k : Nat), k < n * z.length → (List.replicate n z).flatten[k]? = z[k % z.length]?
  | 0, k, h => by simp at h
  | n + 1, k, h => by
    rw [List.replicate_succ, List.flatten_cons]
    rcases Nat.lt_or_ge k z.length with hk | hk
    · rw [List.getElem?_append_left hk, Nat.mod_eq_of_lt hk]
    · have hz : 0 < z.length := by
        rcases Nat.eq_zero_or_pos z.length with h0 | h0
        · rw [h0] at h; simp at h
        · exact h0
      rw [List.getElem?_append_right hk, rep_get z n (k - z.length) (by rw [Nat.succ_mul] at h; omega)]
      rw [Nat.mod_eq_sub_mod hk]
theorem rep_length (z : List D) (n : Nat) : (List.replicate n z).flatten.length = n * z.length := by simp

theorem nodeIn_app : ∀ (p q : Path) (R : Rows), nodeIn (p ++ q) R = (nodeIn p R).bind (nodeIn q)
  | [], q, R => rfl
  | (i, f) :: p, q, R => by
    simp only [List.cons_append, nodeIn]
    cases R.at_ i f with
    | sl o sz n a =>
      cases o
      · rfl
      · exact nodeIn_app p q _
    | _ => rfl
theorem nodeR_app (H : Heap) (id : Nat) (p q : Path) : nodeR H id (p ++ q) = (nodeR H id p).bind (nodeIn q) := by
  unfold nodeR
  cases H.getD id none with
  | none => rfl
  | some o => exact nodeIn_app p q _

section
variable {P : Program} {G : Gh} {H : Heap} {w : World} {ts : List T} {a : Act} {x x2 : Operand} {y y2 : Opd}

theorem gives_nil {o : Oper} {sz : Nat} {K : Heap → T → Prop} (hh : HeapOk G H w) (ho : o.op = .assign (.const (.slice none 0 0)) ∨ o.op = .move (.const (.slice none 0 0)))
    (hk : K [some (.arr sz 0 fun _ _ => .dead)] (.d (.own H.length [] 0 0 0))) : Gives P G H w a o K := by
  have hrun : (execOp a.eval o).run P w = .ok (.value (.slice none 0 0)) w := by
    rcases ho with e | e <;> simp [execOp, e, Act.eval]
  have hnode : ∀ {id p R}, H.length ≤ id → Node (H ++ [some (.arr sz 0 fun _ _ => .dead)]) id p R → id = H.length ∧ p = [] ∧ R = ⟨sz, 0, fun _ _ => .dead⟩ := by
    intro id p R hl hn
    have hlt := hn.lt
    have e : id = H.length := by simp at hlt; omega
    subst e
    obtain ⟨h1, h2⟩ := hn
    unfold nodeR at h1
    rw [getD_app2 (Nat.le_refl _)] at h1
    simp only [Nat.sub_self, List.getD_cons_zero] at h1
    cases p with
    | nil => injection h1 with h1; exact ⟨rfl, rfl, h1.symm⟩
    | cons q p => obtain ⟨i, f⟩ := q; simp [nodeIn, Obj.rows] at h1
  let G1 : Gh := ⟨fun id p => if id = H.length then none else G.μ id p, G.ok, G.fr⟩
  have hμ : ∀ id p, id < H.length → G1.μ id p = G.μ id p := fun id p hl => if_neg (by omega)
  have hμn : ∀ p, G1.μ H.length p = none := fun p => if_pos rfl
  refine ⟨.slice none 0 0, w, G1, _, _, hrun, ⟨Wx.refl _ _, hμ, fun _ h => h, fun _ h => .inl h, fun _ h => h, ⟨?_, ?_, ?_, fun h => hh.frLt h, fun h => hh.okFr h, ?_⟩, ?_, ?_⟩, hk⟩
  · intro id p R hn
    rcases Nat.lt_or_ge id H.length with hl | hl
    · have hk := hh.node ((Node.app hl).1 hn)
      unfold NodeOk at hk ⊢
      rw [hμ _ _ hl]
      cases hm : G.μ id p with
      | none => rw [hm] at hk; exact hk
      | some bo =>
        rw [hm] at hk
        obtain ⟨c', t', hc', hs, hcell⟩ := hk
        refine ⟨c', t', hc', hs, fun i f hi hf => ?_⟩
        obtain ⟨u, hu, hcu⟩ := hcell i f hi hf
        exact ⟨u, hu, CellOk.move (G := G) (G1 := G1) (Wx.refl _ (fun _ => False)) (fun b hb => ⟨hb, fun k => k⟩) (by simp) (hμ _ _ hl)
          (fun id p tot R1 _ hl hn e => ⟨R1, (Node.app hl).1 hn, e, rfl, hμ id p hl⟩) hcu⟩
    · obtain ⟨rfl, rfl, rfl⟩ := hnode hl hn
      unfold NodeOk
      rw [hμn]
  · intro id p R b o1 id' p' R' o2 hn hn' hb hb'
    rcases Nat.lt_or_ge id H.length with hl | hl
    · rcases Nat.lt_or_ge id' H.length with hl' | hl'
      · rw [hμ _ _ hl] at hb
        rw [hμ _ _ hl'] at hb'
        exact hh.inj ((Node.app hl).1 hn) ((Node.app hl').1 hn') hb hb'
      · obtain ⟨rfl, _, _⟩ := hnode hl' hn'
        rw [hμn] at hb'; cases hb'
    · obtain ⟨rfl, _, _⟩ := hnode hl hn
      rw [hμn] at hb; cases hb
  · intro id p R b o1 hn hb
    rcases Nat.lt_or_ge id H.length with hl | hl
    · rw [hμ _ _ hl] at hb
      exact hh.apart ((Node.app hl).1 hn) hb
    · obtain ⟨rfl, _, _⟩ := hnode hl hn
      rw [hμn] at hb; cases hb
  · intro id p R i f hn hbox hi hf
    rcases Nat.lt_or_ge id H.length with hl | hl
    · exact hh.plain ((Node.app hl).1 hn) (fun cs hcs => hbox cs (by rw [getD_app hl]; exact hcs)) hi hf
    · obtain ⟨rfl, rfl, rfl⟩ := hnode hl hn
      exact absurd hi (Nat.not_lt_zero _)
  · intro id p R b o1 hl hn hb
    obtain ⟨rfl, _, _⟩ := hnode hl hn
    rw [hμn] at hb; cases hb
  · refine ⟨rfl, by simp, fun R hR hn => ?_⟩
    rw [hμn]
    exact ⟨rfl, rfl, rfl, none, rfl⟩

/-- The parts of a slice that is built, on both sides. -/
def SlParts : List (Nat × Operand) → List (Nat × Opd) → Prop
  | [], [] => True
  | (i, x) :: r, (j, y) :: r' => i = j ∧ OpdOk x y ∧ SlParts r r'
  | _, _ => False

theorem D.still.plain {d : D} (h : d.still = true) : d.isPlain = true := by
  cases d <;> first | rfl | cases h

theorem chunk_get (sz : Nat) : ∀ (n : Nat) (l : List D) (i f : Nat), i < n → f < sz → rowsD (chunk sz n l) i f = l.getD (i * sz + f) .dead
  | 0, _, i, _, h, _ => absurd h (Nat.not_lt_zero _)
  | n + 1, l, 0, f, _, hf => by
    simp [rowsD, chunk, List.getD_eq_getElem?_getD, List.getElem?_take, if_pos hf]
  | n + 1, l, i + 1, f, h, hf => by
    have := chunk_get sz n (l.drop sz) i f (by omega) hf
    simp only [rowsD, chunk, List.getD_cons_succ] at this ⊢
    rw [this]
    simp only [List.getD_eq_getElem?_getD, List.getElem?_drop]
    rw [Nat.add_mul, Nat.one_mul]
    congr 2; omega

theorem gives_mkSl {o : Oper} {t e : TypeId} {len sz : Nat} {parts : Array (Nat × Operand)} {parts' : List (Nat × Opd)} {z : List D} {zv : Value} {K : Heap → T → Prop} (Fn : FnT)
    (hh : HeapOk G H w) (ht : Temps G H w ts a.tmps) (ho : o.op = .buildSlice t len parts)
    (hu : P.underlying t = some (.slice e)) (hsz : ∀ w, (sizeOf e).run P w = .ok sz w) (hsz0 : 0 < sz) (hfit : len * sz ≤ 2 ^ 24)
    (hz : ∀ w, (zeroValue e).run P w = .ok zv w) (hzc : CellsRel zeroD z zv.cells) (hzl : z.length = sz) (hps : SlParts parts.toList parts')
    (hk : quiet Fn ts H (.mkSl false sz z len parts') K) : Gives P G H w a o K := by
  obtain ⟨hall, hk⟩ := hk
  let Q : D → Value → Prop := fun d u => ZOk G H w d u ∧ d.isPlain = true
  have hzs : zv.cells.size = sz := by rw [hzc.1, hzl]
  let zc : Array Value := (Array.range (len * sz)).map (zv.cells[· % zv.cells.size]!)
  have hQ : CellsRel Q (List.replicate len z).flatten zc := by
    refine ⟨by simp [zc, hzl], fun k d u hd hu => ?_⟩
    have hkl : k < len * sz := by
      have := (List.getElem?_eq_some_iff.1 hd).1
      rw [rep_length, hzl] at this
      exact this
    rw [rep_get z len k (by rw [hzl]; exact hkl)] at hd
    have hm : k % sz < sz := Nat.mod_lt _ hsz0
    have hu' : zv.cells[k % z.length]? = some u := by
      have : zc[k]? = some (zv.cells[k % zv.cells.size]!) := by
        simp [zc, hkl]
      rw [this] at hu
      injection hu with hu
      rw [← hu, hzs, hzl, getElem!_pos zv.cells (k % sz) (by rw [hzs]; exact hm)]
      exact Array.getElem?_eq_getElem (by rw [hzs]; exact hm)
    have h0 := hzc.2 _ d u hd hu'
    exact ⟨h0.z, h0.plain⟩
  have hlen : (List.replicate len z).flatten.length = len * sz := by rw [rep_length, hzl]
  have hF : ∀ (l : List (Nat × Operand)) (l' : List (Nat × Opd)), SlParts l l' →
      (l'.all fun p => decide (p.1 < len) && ((p.2.get ts).known && ((p.2.get ts).cells.length == sz && (p.2.get ts).cells.all D.still))) = true →
      F2 (fun p p' => ∃ size, (fun i => some (i * sz, sz)) p.1 = some (p'.1, size) ∧ CellsRel Q p'.2 p.2.cells ∧ p'.2.length = size ∧ p'.1 + size ≤ len * sz)
        (l.map fun (i, x) => (i, a.eval x)) (l'.map fun p => (p.1 * sz, (p.2.get ts).cells)) := by
    intro l
    induction l with
    | nil =>
      intro l' hp _
      cases l' with
      | nil => exact .nil
      | cons q l' => exact hp.elim
    | cons q l ih =>
      intro l' hp hal
      cases l' with
      | nil => exact hp.elim
      | cons q' l' =>
        obtain ⟨i, x⟩ := q
        obtain ⟨j, y⟩ := q'
        obtain ⟨rfl, h2, h3⟩ := hp
        simp only [List.all_cons, Bool.and_eq_true, beq_iff_eq, decide_eq_true_eq] at hal
        obtain ⟨⟨hlt, hkn, hl1, hst⟩, hal⟩ := hal
        have hc := cells_rel (get_ok h2 ht) hkn
        refine .cons ⟨sz, rfl, ⟨hc.1, fun k d u hd hu => ?_⟩, hl1, ?_⟩ (ih l' h3 hal)
        · obtain ⟨h5, h6⟩ := hc.2 k d u hd hu
          exact ⟨VR.z h5 h6, D.still.plain (List.all_eq_true.1 hst _ (List.mem_of_getElem? hd))⟩
        · show i * sz + sz ≤ len * sz
          rw [← Nat.succ_mul]
          exact Nat.mul_le_mul_right _ hlt
  obtain ⟨r, hr, hq⟩ := fill_rel (place := fun i => some (i * sz, sz)) (hF parts.toList parts' hps hall) hQ hlen
  have hfold : parts'.foldl (fun cs p => setList cs (p.1 * sz) (p.2.get ts).cells) (List.replicate len z).flatten = (parts'.map fun p => (p.1 * sz, (p.2.get ts).cells)).foldl (fun cs p => setList cs p.1 p.2) (List.replicate len z).flatten := by
    rw [List.foldl_map]
  have hfl : ∀ (l : List (Nat × List D)) (cs : List D), (l.foldl (fun cs p => setList cs p.1 p.2) cs).length = cs.length := by
    intro l
    induction l with
    | nil => exact fun _ => rfl
    | cons q l ih => intro cs; rw [List.foldl_cons, ih, setList_length]
  have hrs : r.size = len * sz := by rw [hq.1, hfl, hlen]
  refine ⟨.slice (some ⟨w.heap.size, 0, none⟩) len len, w.alloc (.cells r e), _, _, _, ?_, QRes.alloc hh _ r e ?_ ?_ ?_ ?_, hk⟩
  · have hr' : Instr.fill (fun i => some (i * sz, sz)) zc (parts.map fun (i, x) => (i, a.eval x)).toList = some r := by
      rw [← hr]; simp
    have h24 : ¬ len * sz > 2 ^ 24 := by omega
    have hzz : ∀ zz : Array Value, len * sz = 0 → zc = (Array.range (len * sz)).map (zz[· % zz.size]!) := by
      intro zz h0
      simp [zc, h0]
    by_cases h0 : len * sz = 0
    · rw [hzz #[] h0] at hr'
      simp only [execOp, ho, Instr.buildSlice, Sem.run_bind, run_underlying hu, Result.andThen_ok, hsz, Sem.run_ite, if_neg h24, if_pos h0, Sem.run_pure, hr']
      simp [newRow]
    · simp only [execOp, ho, Instr.buildSlice, Sem.run_bind, run_underlying hu, Result.andThen_ok, hsz, Sem.run_ite, if_neg h24, if_neg h0, Sem.run_pure, hz]
      rw [show (Array.range (len * sz)).map (zv.cells[· % zv.cells.size]!) = zc from rfl, hr']
      simp [newRow]
  · simp only [Obj.rows]; omega
  · intro i f hi hf
    simp only [Obj.rows] at hi hf ⊢
    have hlt : i * sz + f < len * sz := by
      have : i * sz + sz ≤ len * sz := by rw [← Nat.succ_mul]; exact Nat.mul_le_mul_right _ hi
      omega
    refine ⟨r[i * sz + f]'(by omega), Array.getElem?_eq_getElem (by omega), ?_⟩
    rw [hfold, chunk_get sz len _ i f hi hf, List.getD_eq_getElem?_getD]
    have hl2 : i * sz + f < ((parts'.map fun p => (p.1 * sz, (p.2.get ts).cells)).foldl (fun cs p => setList cs p.1 p.2) (List.replicate len z).flatten).length := by rw [hfl, hlen]; exact hlt
    rw [List.getElem?_eq_getElem hl2]
    exact (hq.2 (i * sz + f) _ _ (List.getElem?_eq_getElem hl2) (Array.getElem?_eq_getElem (by omega))).1
  · intro _ i f hi hf
    simp only [Obj.rows] at hi hf ⊢
    have hlt : i * sz + f < len * sz := by
      have : i * sz + sz ≤ len * sz := by rw [← Nat.succ_mul]; exact Nat.mul_le_mul_right _ hi
      omega
    rw [hfold, chunk_get sz len _ i f hi hf, List.getD_eq_getElem?_getD]
    have hl2 : i * sz + f < ((parts'.map fun p => (p.1 * sz, (p.2.get ts).cells)).foldl (fun cs p => setList cs p.1 p.2) (List.replicate len z).flatten).length := by rw [hfl, hlen]; exact hlt
    rw [List.getElem?_eq_getElem hl2]
    exact (hq.2 (i * sz + f) _ _ (List.getElem?_eq_getElem hl2) (Array.getElem?_eq_getElem (by omega))).2
  · refine ⟨rfl, by simp, fun R hR hn => ?_⟩
    have hμ : (G.plus H.length w.heap.size).μ H.length [] = some (w.heap.size, 0) := by
      show (if H.length = H.length then _ else _) = _
      simp
    have hRs : R = ⟨sz, len, rowsD (chunk sz len (parts'.foldl (fun cs p => setList cs (p.1 * sz) (p.2.get ts).cells) (List.replicate len z).flatten))⟩ := by
      have h1 := hR.1
      unfold nodeR at h1
      rw [getD_app2 (Nat.le_refl _)] at h1
      simp only [Nat.sub_self, List.getD_cons_zero, nodeIn, Obj.rows] at h1
      injection h1 with h1
      exact h1.symm
    rw [hμ, hRs]
    refine ⟨_, len, rfl, by omega, by omega, ⟨r, e, ?_, by simp only [Nat.zero_add]; omega⟩, .inr (by simp)⟩
    show (w.heap.push _)[w.heap.size]? = _
    simp
end
end Go.R
