/- The operations that change no memory: the machine gives what 'quiet' tells. -/
import Derived.Test.YtgpicngmadkdoaaDoorRRel
set_option linter.unusedVariables false
set_option linter.unusedSimpArgs false
namespace Go.R
open Go.RowKit

structure QRes (G : Gh) (H : Heap) (w : World) (N : Heap) (t : T) (v : Value) (G1 : Gh) (w1 : World) : Prop where
  wx : Wx w w1 (fun _ => False)
  μ : ∀ id p, id < H.length → G1.μ id p = G.μ id p
  ok : ∀ b, G.ok b → G1.ok b
  okNew : ∀ b, G1.ok b → G.ok b ∨ w.heap.size ≤ b
  fr : ∀ b, G.fr b → G1.fr b
  heap : HeapOk G1 (H ++ N) w1
  fresh : ∀ {id p R b o}, H.length ≤ id → Node (H ++ N) id p R → G1.μ id p = some (b, o) → w.heap.size ≤ b
  val : TR G1 (H ++ N) w1 t v

section
variable {G G1 : Gh} {H N : Heap} {w w1 : World} {t x : T} {v u : Value}

theorem QRes.same (hh : HeapOk G H w) (ht : TR G H w t v) : QRes G H w [] t v G w :=
  ⟨Wx.refl _ _, fun _ _ _ => rfl, fun _ h => h, fun _ h => .inl h, fun _ h => h, by simpa using hh, fun {id p R b o} hl hn _ => by
    have := hn.lt
    simp at this
    omega, by simpa using ht⟩
theorem QRes.old (h : QRes G H w N t v G1 w1) (hx : TR G H w x u) : TR G1 (H ++ N) w1 x u :=
  TR.move h.wx (fun b hb => ⟨h.ok b hb, fun k => k⟩) (by simp) (fun id p tot R1 _ hl hn e => ⟨R1, (Node.app hl).1 hn, e, rfl, h.μ id p hl⟩) hx

/-- A new block's cell: a value that is there, or an empty slice of its own. -/
def ZOk (G : Gh) (H : Heap) (w : World) (d : D) (u : Value) : Prop := u.oneCell' = true ∧ match d with
  | .sl true _ n _ => n = 0 ∧ ∃ A, u = .slice A 0 0
  | d => VR G H w d u

def Gh.plus (G : Gh) (n b : Nat) : Gh := ⟨fun id p => if id = n then (if p = [] then some (b, 0) else none) else G.μ id p, G.ok, G.fr⟩

theorem nodeIn_zero {R : Rows} (hz : ∀ i f, i < R.n → f < R.sz → ∀ sz n a, R.at_ i f = .sl true sz n a → n = 0) :
    ∀ {p : Path} {R1 : Rows}, p ≠ [] → nodeIn p R = some R1 → pathIn p R → R1.n = 0
  | [], _, h, _, _ => (h rfl).elim
  | (i, f) :: q, R1, _, h, hp => by
    obtain ⟨hi, hf, hm⟩ := hp
    unfold nodeIn at h
    cases hd : R.at_ i f with
    | sl o sz n a =>
      rw [hd] at h hm
      cases o
      · cases h
      · have hn := hz i f hi hf sz n a hd
        cases q with
        | nil => simp only [nodeIn] at h; injection h with h; rw [← h]; exact hn
        | cons y q =>
          obtain ⟨j, g⟩ := y
          obtain ⟨hj, _⟩ := hm
          simp only at hj
          omega
    | _ => rw [hd] at h; cases h

theorem QRes.alloc (hh : HeapOk G H w) (o : Obj) (c : Array Value) (ty : TypeId) (hsz : o.rows.n * o.rows.sz ≤ c.size)
    (hc : ∀ i f, i < o.rows.n → f < o.rows.sz → ∃ u, c[i * o.rows.sz + f]? = some u ∧ ZOk G H w (o.rows.at_ i f) u)
    (hp : (∀ cs, o ≠ .box cs) → ∀ i f, i < o.rows.n → f < o.rows.sz → (o.rows.at_ i f).isPlain = true)
    (hv : TR (G.plus H.length w.heap.size) (H ++ [some o]) (w.alloc (.cells c ty)) t v) :
    QRes G H w [some o] t v (G.plus H.length w.heap.size) (w.alloc (.cells c ty)) := by
  have hx : Wx w (w.alloc (.cells c ty)) (fun _ => False) :=
    ⟨rfl, rfl, rfl, by simp, fun b hb _ => Below.heap_alloc _ _ _ hb, fun b c' t' h => ⟨c', by rw [Below.heap_alloc _ _ _ (lt_of_heap h)]; exact h, rfl⟩⟩
  have hnew : (w.alloc (.cells c ty)).heap[w.heap.size]? = some (.cells c ty (0, 0)) := by
    show (w.heap.push _)[w.heap.size]? = _
    simp
  have hget : ∀ id, H.length ≤ id → (H ++ [some o]).getD id none = if id = H.length then some o else none := by
    intro id hl
    rw [getD_app2 hl]
    by_cases e : id = H.length
    · simp [e]
    · have : id - H.length ≠ 0 := by omega
      obtain ⟨k, hk⟩ : ∃ k, id - H.length = k + 1 := ⟨id - H.length - 1, by omega⟩
      simp [e, hk]
  have hzero : ∀ i f, i < o.rows.n → f < o.rows.sz → ∀ sz n a, o.rows.at_ i f = .sl true sz n a → n = 0 := by
    intro i f hi hf sz n a e
    obtain ⟨u, _, hz⟩ := hc i f hi hf
    rw [e] at hz
    exact hz.2.1
  have hnode : ∀ {id p R}, H.length ≤ id → Node (H ++ [some o]) id p R → id = H.length ∧ nodeIn p o.rows = some R ∧ pathIn p o.rows := by
    intro id p R hl hn
    have hlt := hn.lt
    have e : id = H.length := by simp at hlt; omega
    subst e
    obtain ⟨h1, h2⟩ := hn
    unfold nodeR at h1
    unfold pathOk at h2
    rw [hget _ (Nat.le_refl _), if_pos rfl] at h1 h2
    exact ⟨rfl, h1, h2⟩
  have hμ : ∀ id p, id < H.length → (G.plus H.length w.heap.size).μ id p = G.μ id p := by
    intro id p hl
    show (if id = H.length then _ else _) = _
    rw [if_neg (by omega)]
  have hμn : ∀ p, (G.plus H.length w.heap.size).μ H.length p = if p = [] then some (w.heap.size, 0) else none := by
    intro p
    show (if H.length = H.length then _ else _) = _
    rw [if_pos rfl]
  have hblk : ∀ {id p R b o'}, Node H id p R → G.μ id p = some (b, o') → b < w.heap.size := by
    intro id p R b o' hn hb
    have := hh.node hn
    unfold NodeOk at this
    rw [hb] at this
    obtain ⟨c', t', hc', _⟩ := this
    exact lt_of_heap hc'
  refine ⟨hx, hμ, fun _ h => h, fun _ h => .inl h, fun _ h => h, ⟨?_, ?_, ?_, ?_, fun h => hh.okFr h, ?_⟩, ?_, hv⟩
  · intro id p R hn
    rcases Nat.lt_or_ge id H.length with hl | hl
    · have hn' := (Node.app hl).1 hn
      have hk := hh.node hn'
      unfold NodeOk at hk ⊢
      rw [hμ _ _ hl]
      cases hm : G.μ id p with
      | none => rw [hm] at hk; exact hk
      | some bo =>
        rw [hm] at hk
        obtain ⟨c', t', hc', hs, hcell⟩ := hk
        refine ⟨c', t', by rw [Below.heap_alloc _ _ _ (lt_of_heap hc')]; exact hc', hs, fun i f hi hf => ?_⟩
        obtain ⟨u, hu, hcu⟩ := hcell i f hi hf
        exact ⟨u, hu, CellOk.move (G := G) (G1 := G.plus H.length w.heap.size) hx (fun b hb => ⟨hb, fun k => k⟩) (by simp) (hμ _ _ hl)
          (fun id p tot R1 _ hl hn e => ⟨R1, (Node.app hl).1 hn, e, rfl, hμ id p hl⟩) hcu⟩
    · obtain ⟨rfl, h1, h2⟩ := hnode hl hn
      unfold NodeOk
      rw [hμn]
      by_cases hpn : p = []
      · subst hpn
        rw [if_pos rfl]
        simp only [nodeIn] at h1
        injection h1 with h1
        subst h1
        refine ⟨c, ty, hnew, by omega, fun i f hi hf => ?_⟩
        obtain ⟨u, hu, h3, h4⟩ := hc i f hi hf
        refine ⟨u, by simpa using hu, h3, ?_⟩
        have hmv : ∀ d, VR G H w d u → VR (G.plus H.length w.heap.size) (H ++ [some o]) (w.alloc (.cells c ty)) d u := fun d hd =>
          VR.move (G := G) (G1 := G.plus H.length w.heap.size) hx (fun b hb => ⟨hb, fun k => k⟩) (by simp) (fun id p tot R1 _ hl hn e => ⟨R1, (Node.app hl).1 hn, e, rfl, hμ id p hl⟩) hd
        cases hd : o.rows.at_ i f with
        | sl oo sz n a =>
          rw [hd] at h4
          cases oo
          · exact hmv _ h4
          · obtain ⟨hn0, A, hA⟩ := h4
            show inSl _ ((G.plus H.length w.heap.size).μ H.length ([] ++ [(i, f)])) sz n 0 n u
            rw [hμn, if_neg (by simp)]
            exact ⟨hn0, rfl, hn0, A, hA⟩
        | _ => rw [hd] at h4; exact hmv _ h4
      · rw [if_neg hpn]
        exact nodeIn_zero hzero hpn h1 h2
  · intro id p R b o1 id' p' R' o2 hn hn' hb hb'
    rcases Nat.lt_or_ge id H.length with hl | hl <;> rcases Nat.lt_or_ge id' H.length with hl' | hl'
    · rw [hμ _ _ hl] at hb
      rw [hμ _ _ hl'] at hb'
      exact hh.inj ((Node.app hl).1 hn) ((Node.app hl').1 hn') hb hb'
    · obtain ⟨rfl, _, _⟩ := hnode hl' hn'
      rw [hμ _ _ hl] at hb
      rw [hμn] at hb'
      have h1 := hblk ((Node.app hl).1 hn) hb
      by_cases hpn : p' = []
      · rw [if_pos hpn] at hb'; injection hb' with hb'; injection hb' with h2 _; omega
      · rw [if_neg hpn] at hb'; cases hb'
    · obtain ⟨rfl, _, _⟩ := hnode hl hn
      rw [hμn] at hb
      rw [hμ _ _ hl'] at hb'
      have h1 := hblk ((Node.app hl').1 hn') hb'
      by_cases hpn : p = []
      · rw [if_pos hpn] at hb; injection hb with hb; injection hb with h2 _; omega
      · rw [if_neg hpn] at hb; cases hb
    · obtain ⟨rfl, _, _⟩ := hnode hl hn
      obtain ⟨rfl, _, _⟩ := hnode hl' hn'
      rw [hμn] at hb hb'
      by_cases hpn : p = [] <;> by_cases hpn' : p' = []
      · exact ⟨rfl, hpn.trans hpn'.symm⟩
      · rw [if_neg hpn'] at hb'; cases hb'
      · rw [if_neg hpn] at hb; cases hb
      · rw [if_neg hpn] at hb; cases hb
  · intro id p R b o1 hn hb
    rcases Nat.lt_or_ge id H.length with hl | hl
    · rw [hμ _ _ hl] at hb
      exact hh.apart ((Node.app hl).1 hn) hb
    · obtain ⟨rfl, _, _⟩ := hnode hl hn
      rw [hμn] at hb
      by_cases hpn : p = []
      · rw [if_pos hpn] at hb
        injection hb with hb; injection hb with h2 _
        subst h2
        exact fun hk => Nat.lt_irrefl _ (hh.frLt hk)
      · rw [if_neg hpn] at hb; cases hb
  · intro b hb
    have := hh.frLt hb
    simp
    omega
  · intro id p R i f hn hbox hi hf
    rcases Nat.lt_or_ge id H.length with hl | hl
    · exact hh.plain ((Node.app hl).1 hn) (fun cs hcs => hbox cs (by rw [getD_app hl]; exact hcs)) hi hf
    · obtain ⟨rfl, h1, h2⟩ := hnode hl hn
      by_cases hpn : p = []
      · subst hpn
        simp only [nodeIn] at h1
        injection h1 with h1
        subst h1
        refine hp (fun cs e => ?_) i f hi hf
        exact hbox cs (by rw [hget _ (Nat.le_refl _), if_pos rfl, e]) rfl
      · have := nodeIn_zero hzero hpn h1 h2
        omega
  · intro id p R b o1 hl hn hb
    obtain ⟨rfl, _, _⟩ := hnode hl hn
    rw [hμn] at hb
    by_cases hpn : p = []
    · rw [if_pos hpn] at hb
      injection hb with hb; injection hb with h2 _
      omega
    · rw [if_neg hpn] at hb; cases hb
end

/-! ### operands -/
def OpdOk : Operand → Opd → Prop
  | .tmp n, .t m => n = m
  | .const v, .c x => ∀ G H w, TR G H w x v
  | .func f, .c (.d (.fn g caps)) => f = g ∧ caps = []
  | _, _ => False
structure Temps (G : Gh) (H : Heap) (w : World) (ts : List T) (tmps : Array Value) : Prop where
  len : ts.length ≤ tmps.size
  val : ∀ (i : Nat) (t : T), ts[i]? = some t → TR G H w t (tmps.getD i undef)

section
variable {P : Program} {G : Gh} {H : Heap} {w : World} {ts : List T} {a : Act} {x : Operand} {y : Opd}

theorem get_ok (h : OpdOk x y) (ht : Temps G H w ts a.tmps) : TR G H w (y.get ts) (a.eval x) := by
  cases x with
  | tmp n =>
    cases y with
    | t m =>
      have e : n = m := h
      subst e
      show TR G H w (ts.getD n (.d .dead)) (a.tmps.getD n undef)
      rw [List.getD_eq_getElem?_getD]
      cases hx : ts[n]? with
      | none => trivial
      | some t => exact ht.val n t hx
    | c x => exact h.elim
  | const v =>
    cases y with
    | t m => exact h.elim
    | c x => exact h G H w
  | global g => cases y <;> exact h.elim
  | func f =>
    cases y with
    | t m => exact h.elim
    | c x =>
      cases x with
      | d x =>
        cases x <;> first | exact h.elim | skip
        obtain ⟨rfl, rfl⟩ := h
        exact ⟨rfl, [], rfl, rfl, fun k c u hk => by simp at hk⟩
      | _ => exact h.elim

theorem cells_ok {t : T} {v : Value} (h : TR G H w t v) (hk : t.known = true) : v.cells.toList.length = t.cells.length ∧
    ∀ (k : Nat) (x : D) (u : Value), t.cells[k]? = some x → v.cells.toList[k]? = some u → u.oneCell' = true ∧ VR G H w x u := by
  cases t with
  | d x =>
    have h' : v.oneCell' = true ∧ VR G H w x v := by cases x <;> first | exact h | (cases hk)
    have hc : v.cells = #[v] := by
      cases v <;> first | rfl | (simp [Value.oneCell'] at h')
    refine ⟨by rw [hc]; rfl, fun k y u hy hu => ?_⟩
    rw [hc] at hu
    cases k with
    | zero =>
      simp only [T.cells, List.getElem?_cons_zero, Option.some.injEq] at hy hu
      subst hy; subst hu
      exact h'
    | succ k => simp [T.cells] at hy
  | agg cs =>
    obtain ⟨vs, rfl, hl, hc⟩ := h
    exact ⟨by simpa [Value.cells, T.cells] using hl, fun k y u hy hu => hc k y u hy (by simpa [Value.cells] using hu)⟩
  | tup ts => cases hk

/-- What the machine does where 'quiet' tells N and t. -/
def Gives (P : Program) (G : Gh) (H : Heap) (w : World) (a : Act) (o : Oper) (K : Heap → T → Prop) : Prop :=
  ∃ v w1 G1 N t, (execOp a.eval o).run P w = .ok (.value v) w1 ∧ QRes G H w N t v G1 w1 ∧ K N t

theorem Gives.val {o : Oper} {K : Heap → T → Prop} {v : Value} {t : T} (hh : HeapOk G H w) (hr : (execOp a.eval o).run P w = .ok (.value v) w) (ht : TR G H w t v) (hk : K [] t) : Gives P G H w a o K :=
  ⟨v, w, G, [], t, hr, QRes.same hh ht, hk⟩

/-- w' has all that w has, as it was. -/
def Ext (w w' : World) : Prop := Wx w w' (fun _ => False)
theorem Temps.ext {G : Gh} {H : Heap} {w w' : World} {ts : List T} {tmps : Array Value} (hx : Ext w w') (h : Temps G H w ts tmps) : Temps G H w' ts tmps :=
  ⟨h.len, fun i t hi => TR.move hx (fun b hb => ⟨hb, fun k => k⟩) (Nat.le_refl _) (fun id p tot R1 _ _ hn e => ⟨R1, hn, e, rfl, rfl⟩) (h.val i t hi)⟩
/-- An operation that only reads: the same value in every world that has all that is there. -/
def GivesE (P : Program) (G : Gh) (H : Heap) (w : World) (a : Act) (o : Oper) (K : Heap → T → Prop) : Prop :=
  ∃ v t, (∀ w', Ext w w' → (execOp a.eval o).run P w' = .ok (.value v) w') ∧ TR G H w t v ∧ K [] t
theorem GivesE.val {o : Oper} {K : Heap → T → Prop} {v : Value} {t : T} (hr : ∀ w', Ext w w' → (execOp a.eval o).run P w' = .ok (.value v) w') (ht : TR G H w t v) (hk : K [] t) : GivesE P G H w a o K := ⟨v, t, hr, ht, hk⟩
/-- An operation that looks at no memory. -/
def GivesA (P : Program) (G : Gh) (H : Heap) (w : World) (a : Act) (o : Oper) (K : Heap → T → Prop) : Prop :=
  ∃ v t, (∀ w', (execOp a.eval o).run P w' = .ok (.value v) w') ∧ TR G H w t v ∧ K [] t
theorem GivesA.val {o : Oper} {K : Heap → T → Prop} {v : Value} {t : T} (hr : ∀ w', (execOp a.eval o).run P w' = .ok (.value v) w') (ht : TR G H w t v) (hk : K [] t) : GivesA P G H w a o K := ⟨v, t, hr, ht, hk⟩
theorem GivesA.e {o : Oper} {K : Heap → T → Prop} (h : GivesA P G H w a o K) : GivesE P G H w a o K := by
  obtain ⟨v, t, h1, h2, h3⟩ := h
  exact ⟨v, t, fun w' _ => h1 w', h2, h3⟩
theorem GivesE.gives {o : Oper} {K : Heap → T → Prop} (hh : HeapOk G H w) (h : GivesE P G H w a o K) : Gives P G H w a o K := by
  obtain ⟨v, t, h1, h2, h3⟩ := h
  exact Gives.val hh (h1 w (Wx.refl _ _)) h2 h3

theorem ext_mv {o : Oper} {K : Heap → T → Prop} (hh : HeapOk G H w) (ht : Temps G H w ts a.tmps) (ho : o.op = .move x ∨ o.op = .assign x) (hx : OpdOk x y) (hk : K [] (y.get ts)) : GivesA P G H w a o K := by
  refine GivesA.val (v := a.eval x) ?_ (get_ok hx ht) hk
  rcases ho with e | e <;> simp [execOp, e]

theorem ext_pick {o : Oper} {c b d : Operand} {c' b' d' : Opd} {K : Heap → T → Prop} (Fn : FnT) (hh : HeapOk G H w) (ht : Temps G H w ts a.tmps) (ho : o.op = .pick c b d)
    (hc : OpdOk c c') (hb : OpdOk b b') (hd : OpdOk d d') (hk : quiet Fn ts H (.pick c' b' d') K) : GivesA P G H w a o K := by
  have h1 := get_ok hc ht
  simp only [quiet] at hk
  split at hk
  · rename_i e
    rw [e] at h1
    obtain ⟨_, h1⟩ := h1
    have h1 : a.eval c = .bool true := h1
    exact GivesA.val (v := a.eval b) (fun w' => by simp [execOp, ho, h1, asBool]) (get_ok hb ht) hk
  · rename_i e
    rw [e] at h1
    obtain ⟨_, h1⟩ := h1
    have h1 : a.eval c = .bool false := h1
    exact GivesA.val (v := a.eval d) (fun w' => by simp [execOp, ho, h1, asBool]) (get_ok hd ht) hk
  · exact hk.elim

/-- A zero value's cells. -/
def zeroD : D → Value → Prop
  | .int k n, v => v = .int k n
  | .bool b, v => v = .bool b
  | .str s, v => v = .string s
  | .nilp, v => v = .pointer none
  | .sl o _ n _, v => o = true ∧ n = 0 ∧ v = .slice none 0 0
  | .e0 _, v => v = .slice none 0 0
  | _, _ => False
theorem zeroD.one {d : D} {v : Value} (h : zeroD d v) : v.oneCell' = true := by
  cases d <;> first | exact h.elim | (simp only [zeroD] at h; first | (subst h; rfl) | (obtain ⟨_, _, rfl⟩ := h; rfl))
theorem zeroD.z {d : D} {v : Value} (h : zeroD d v) : ZOk G H w d v := by
  refine ⟨h.one, ?_⟩
  cases d with
  | sl o sz n b =>
    obtain ⟨rfl, rfl, rfl⟩ := h
    exact ⟨rfl, none, rfl⟩
  | e0 sz => exact ⟨none, h⟩
  | _ => first | exact h.elim | exact h
theorem zeroD.plain {d : D} {v : Value} (h : zeroD d v) : d.isPlain = true := by
  cases d <;> first | exact h.elim | rfl

theorem gives_alloc {o : Oper} {e : TypeId} {zv : Value} {z : List D} {K : Heap → T → Prop} (hh : HeapOk G H w) (ho : o.op = .alloc e)
    (hz : ∀ w, (zeroValue e).run P w = .ok zv w) (hl : zv.cells.size = z.length) (hc : ∀ (k : Nat) (d : D) (u : Value), z[k]? = some d → zv.cells[k]? = some u → zeroD d u)
    (hk : K [some (.box z)] (.d (.ptr H.length [] 1 0 0))) : Gives P G H w a o K := by
  refine ⟨.pointer (some ⟨w.heap.size, 0, none⟩), w.alloc (.cells zv.cells e), _, _, _, ?_, QRes.alloc hh (.box z) zv.cells e ?_ ?_ ?_ ?_, hk⟩
  · simp [execOp, ho, Instr.alloc, hz, newVar, newRow]
  · simp [Obj.rows, hl]
  · intro i f hi hf
    simp only [Obj.rows] at hi hf ⊢
    have e0 : i = 0 := by omega
    subst e0
    have hfz : f < zv.cells.size := by omega
    refine ⟨zv.cells[f], by simp [hfz], ?_⟩
    have : z[f]? = some z[f] := List.getElem?_eq_getElem hf
    rw [List.getD_eq_getElem?_getD, this]
    exact (hc f _ _ this (by simp [hfz])).z
  · intro hb
    exact absurd rfl (hb z)
  · refine ⟨rfl, by simp, _, rfl, fun R hR hn hi => ⟨w.heap.size, 0, ?_, by simp [show ‹Nat› = ‹Nat› from rfl]⟩⟩
    show (if H.length = H.length then _ else _) = _
    simp
end
end Go.R
