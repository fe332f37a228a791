/- Calls: what a function's contract says, and what it gives at a call. -/
import Derived.Test.YtgpicngmadkdoaaDoorRLoud3
import Derived.Lib.LaidTab
import Derived.Lib.ItoaNum
set_option linter.unusedVariables false
set_option linter.unusedSimpArgs false
namespace Go.R
open Go.RowKit

def startGh (ok : Nat → Prop) (n : Nat) : Gh := ⟨fun _ _ => none, ok, fun b => b < n⟩

def D.retOk : D → Bool
  | .ptr .. => false
  | .fn .. => false
  | .rfn .. => false
  | _ => true
def T.retOk : T → Bool
  | .d x => x.retOk
  | .agg cs => cs.all D.retOk
  | .tup ts => ts.all fun t => match t with | .d x => x.retOk | .agg cs => cs.all D.retOk | .tup _ => false
def Heap.arrs (N : Heap) : Prop := ∀ id cs, N.getD id none ≠ some (.box cs)

/-- What a call that keeps memory as it is leaves behind. -/
structure RetOk (ok : Nat → Prop) (w : World) (N : Heap) (t : T) (v : Value) (G' : Gh) (w' : World) : Prop where
  wx : Wx w w' (fun _ => False)
  okm : ∀ b, ok b → G'.ok b
  okNew : ∀ b, G'.ok b → ok b ∨ w.heap.size ≤ b
  heap : HeapOk G' N w'
  fresh : ∀ {id p R b o}, Node N id p R → G'.μ id p = some (b, o) → w.heap.size ≤ b
  val : TR G' N w' t v
  ret : t.retOk = true
  arrs : N.arrs

/-- What the library's own variables hold, where the program has them. -/
def Stand (P : Program) (w : World) : Prop :=
  (∀ g, P.globalNamed "internal/strconv.uint64pow10" = some g → Lib.TabIs P w "internal/strconv.uint64pow10" .u64 Lib.pow10Tab) ∧
  (∀ g, P.globalNamed "internal/bytealg.MaxLen" = some g → ∃ m, w.cell? ⟨g, 0, none⟩ = some (.int .i64 m))
theorem Stand.wx {P : Program} {w w' : World} {ch : Nat → Prop} (h : Stand P w) (hx : Wx w w' ch) (hc : ∀ b, b < w.heap.size → ¬ ch b) : Stand P w' := by
  refine ⟨fun g hg => ?_, fun g hg => ?_⟩
  · have h2 := h.1 g hg
    unfold Lib.TabIs World.var? at h2 ⊢
    rw [hg] at h2 ⊢
    simp only [Option.bind_some] at h2 ⊢
    have hlt : g < w.heap.size := by
      rcases Nat.lt_or_ge g w.heap.size with hl | hl
      · exact hl
      · rw [Array.getElem?_eq_none hl] at h2; cases h2
    rw [hx.same g hlt (hc g hlt)]
    exact h2
  · obtain ⟨m, h2⟩ := h.2 g hg
    exact ⟨m, hx.cell (hc g (World.block_lt_of_cell? w _ h2)) h2⟩

def callOk (P : Program) (g : FuncId) : Bool := match P.funcs[g]? with
  | some fn => fn.body.isSome && fn.name != "runtime.NumGoroutine"
  | none => false
/-- A function's contract: it changes nothing that was there, and gives what Post tells. -/
def FnSem (P : Program) (g : Nat) (args : List T) (Post : T → Heap → Prop) : Prop :=
  callOk P g = true ∧ ∀ (ok : Nat → Prop) (w : World) (vs : List Value), Stand P w → (∀ b, ok b → b < w.heap.size) → F2 (TR (startGh ok w.heap.size) [] w) args vs →
    Calls P g vs.toArray w fun e w' => ∃ v t N G', e = .returned v ∧ Post t N ∧ RetOk ok w N t v G' w'

section
variable {P : Program} {G G1 G2 G' : Gh} {H H1 H2 N E : Heap} {w w1 w2 : World} {t : T} {v : Value}

theorem RO.clean {d : D} {ok ok2 : Nat → Prop} (hc : d.clean) (h : d.RO w ok v) : d.RO w ok2 v := by
  cases d with
  | sl o sz n a =>
    have := hc.1
    have h1 := h.1
    rw [this] at h1
    cases h1
  | _ => exact h
theorem RO.mono {ok ok2 : Nat → Prop} (hok : ∀ b, ok b → ok2 b) (d : D) : ∀ {v : Value}, d.RO w ok v → d.RO w ok2 v := by
  intro v h
  exact D.RO.wx (Wx.refl w (fun _ => False)) (fun b hb => ⟨hok b hb, fun k => k⟩) d h

def callGh (G : Gh) (n : Nat) (G' : Gh) (cl : Prop) : Gh := ⟨fun id p => if id < n then G.μ id p else G'.μ (id - n) p, fun b => G.ok b ∨ (cl ∧ G'.ok b), fun b => G.fr b ∨ (cl ∧ G'.ok b)⟩

theorem node_shift {id : Nat} {p : Path} {R : Rows} (hl : H.length ≤ id) : Node (H ++ N) id p R ↔ Node N (id - H.length) p R := by
  rw [node_sub, node_sub, getD_app2 hl]

/-- The caller's state behind a call that keeps memory as it is. -/
theorem call_merge {ok : Nat → Prop} {cl : Prop} (hh : HeapOk G H w) (hr : RetOk ok w N t v G' w1) (hcl : (cl ∧ ok = G.ok) ∨ (t.clean ∧ ∀ o, o ∈ N → Obj.clean o)) (hcl2 : cl → ok = G.ok) :
    QRes G H w N (t.back H.length) v (callGh G H.length G' cl) w1 := by
  generalize hG1 : callGh G H.length G' cl = G1
  have hμ : ∀ id p, id < H.length → G1.μ id p = G.μ id p := fun id p h => by rw [← hG1]; exact if_pos h
  have hμ2 : ∀ id p, H.length ≤ id → G1.μ id p = G'.μ (id - H.length) p := fun id p h => by rw [← hG1]; exact if_neg (by omega)
  have hok1 : ∀ b, G1.ok b ↔ (G.ok b ∨ (cl ∧ G'.ok b)) := fun b => by rw [← hG1]; exact Iff.rfl
  have hfr1 : ∀ b, G1.fr b ↔ (G.fr b ∨ (cl ∧ G'.ok b)) := fun b => by rw [← hG1]; exact Iff.rfl
  have hokok : ∀ b, G.ok b → G1.ok b ∧ ¬ False := fun b h => ⟨(hok1 b).2 (.inl h), fun k => k⟩
  have hmv : ∀ d u, VR G H w d u → VR G1 (H ++ N) w1 d u := fun d u hv =>
    VR.move hr.wx hokok (by simp) (fun id p tot R1 _ hl hn e => ⟨R1, (Node.app hl).1 hn, e, rfl, hμ id p hl⟩) hv
  have hblk : ∀ {id p R b o}, Node H id p R → G.μ id p = some (b, o) → b < w.heap.size := by
    intro id p R b o hn hm
    have := hh.node hn
    unfold NodeOk at this
    rw [hm] at this
    obtain ⟨c, ty, hc, _⟩ := this
    exact lt_of_heap hc
  -- a callee's value, seen by the caller
  have hro : ∀ (d : D) (u : Value), (cl ∨ d.clean) → d.RO w1 G'.ok u → d.RO w1 G1.ok u := by
    intro d u hc h
    rcases hc with hc | hc
    · exact RO.mono (fun b hb => (hok1 b).2 (.inr ⟨hc, hb⟩)) d h
    · exact RO.clean hc h
  have hback : ∀ (d : D) (u : Value), (cl ∨ d.clean) → d.retOk = true → VR G' N w1 d u → VR G1 (H ++ N) w1 (d.back H.length) u := by
    intro d u hc hret h
    cases d with
    | own j p tot off len =>
      refine ⟨by have := h.1; simp; omega, fun R hR hn => ?_⟩
      have := (node_shift (by omega)).1 hR
      rw [show H.length + j - H.length = j by omega] at this
      have h2 := h.2 R this hn
      rw [hμ2 _ _ (by omega), show H.length + j - H.length = j by omega]
      exact h2
    | ptr => cases hret
    | fn => cases hret
    | rfn => cases hret
    | rp sz row f =>
      rcases hc with hc | hc
      · obtain ⟨b, o, hb, e, hcell⟩ := h
        refine ⟨b, o, (hok1 b).2 (.inr ⟨hc, hb⟩), e, fun f' hf => ?_⟩
        obtain ⟨u', h1, h2, h3⟩ := hcell f' hf
        exact ⟨u', h1, h2, hro _ _ (.inl hc) h3⟩
      · exact hc.elim
    | _ => exact hro _ _ hc h
  refine ⟨hr.wx, hμ, fun b h => (hok1 b).2 (.inl h), fun b h => ?_, fun b h => (hfr1 b).2 (.inl h), ⟨?_, ?_, ?_, ?_, ?_, ?_⟩, ?_, ?_⟩
  · rcases (hok1 b).1 h with h | ⟨h1, h2⟩
    · exact .inl h
    · rcases hr.okNew b h2 with h3 | h3
      · rw [hcl2 h1] at h3; exact .inl h3
      · exact .inr h3
  · -- node
    intro id p R hn
    rcases Nat.lt_or_ge id H.length with hl | hl
    · have hn0 := (Node.app hl).1 hn
      have hk := hh.node hn0
      unfold NodeOk at hk ⊢
      rw [hμ _ _ hl]
      cases hm : G.μ id p with
      | none => rw [hm] at hk; exact hk
      | some bo =>
        rw [hm] at hk
        obtain ⟨c, ty, hc, hs, hcell⟩ := hk
        refine ⟨c, ty, by rw [hr.wx.same _ (lt_of_heap hc) (fun k => k)]; exact hc, hs, fun i f hi hf => ?_⟩
        obtain ⟨u, hu, hcu⟩ := hcell i f hi hf
        exact ⟨u, hu, CellOk.move (G := G) (G1 := G1) hr.wx hokok (by simp) (hμ _ _ hl) (fun id p tot R1 _ hl hn e => ⟨R1, (Node.app hl).1 hn, e, rfl, hμ id p hl⟩) hcu⟩
    · have hn0 := (node_shift hl).1 hn
      have hk := hr.heap.node hn0
      unfold NodeOk at hk ⊢
      rw [hμ2 _ _ hl]
      cases hm : G'.μ (id - H.length) p with
      | none => rw [hm] at hk; exact hk
      | some bo =>
        rw [hm] at hk
        obtain ⟨c, ty, hc, hs, hcell⟩ := hk
        refine ⟨c, ty, hc, hs, fun i f hi hf => ?_⟩
        obtain ⟨u, hu, h1, h2⟩ := hcell i f hi hf
        refine ⟨u, hu, h1, ?_⟩
        have hpl := hr.heap.plain (i := i) (f := f) hn0 (fun cs hcs => absurd hcs (hr.arrs _ cs)) hi hf
        have hclean : cl ∨ (R.at_ i f).clean := by
          rcases hcl with h | h
          · exact .inl h.1
          · right
            obtain ⟨o, ho, hsub⟩ := node_sub.1 hn0
            have hoc : Obj.clean (some o) := by
              refine h.2 (some o) ?_
              have hlt := getD_lt ho
              rw [List.getD_eq_getElem?_getD, List.getElem?_eq_getElem hlt] at ho
              simp only [Option.getD_some] at ho
              rw [← ho]
              exact List.getElem_mem hlt
            have key : ∀ {p : Path} {R0 R : Rows}, Sub p R0 R → (∀ i f, i < R0.n → f < R0.sz → (R0.at_ i f).clean) → ∀ i f, i < R.n → f < R.sz → (R.at_ i f).clean := by
              intro p
              induction p with
              | nil => intro R0 R hs h; rw [Sub.nil] at hs; subst hs; exact h
              | cons x p ih =>
                obtain ⟨i, f⟩ := x
                intro R0 R hs h
                rw [Sub.cons] at hs
                obtain ⟨h1, h2, sz, n, b, hd, hs⟩ := hs
                have := h i f h1 h2
                rw [hd] at this
                exact ih hs this.2
            refine key hsub ?_ i f hi hf
            cases o with
            | box cs => exact hoc.elim
            | arr sz n a => exact hoc
        cases hd : R.at_ i f with
        | sl o sz n a =>
          rw [hd] at h2 hclean
          cases o
          · exact hro _ _ hclean h2
          · show inSl w1 (G1.μ id (p ++ [(i, f)])) sz n 0 n u
            rw [hμ2 _ _ hl]
            exact h2
        | own => rw [hd] at hpl; cases hpl
        | ptr => rw [hd] at hpl; cases hpl
        | rp => rw [hd] at hpl; cases hpl
        | fn => rw [hd] at hpl; cases hpl
        | rfn => rw [hd] at hpl; cases hpl
        | _ => rw [hd] at h2 hclean; exact hro _ _ hclean h2
  · intro id p R b o1 id' p' R' o2 hn hn' hb hb'
    rcases Nat.lt_or_ge id H.length with hl | hl <;> rcases Nat.lt_or_ge id' H.length with hl' | hl'
    · rw [hμ _ _ hl] at hb
      rw [hμ _ _ hl'] at hb'
      exact hh.inj ((Node.app hl).1 hn) ((Node.app hl').1 hn') hb hb'
    · rw [hμ _ _ hl] at hb
      rw [hμ2 _ _ hl'] at hb'
      have h1 := hblk ((Node.app hl).1 hn) hb
      have h2 := hr.fresh ((node_shift hl').1 hn') hb'
      omega
    · rw [hμ2 _ _ hl] at hb
      rw [hμ _ _ hl'] at hb'
      have h1 := hblk ((Node.app hl').1 hn') hb'
      have h2 := hr.fresh ((node_shift hl).1 hn) hb
      omega
    · rw [hμ2 _ _ hl] at hb
      rw [hμ2 _ _ hl'] at hb'
      obtain ⟨e1, e2⟩ := hr.heap.inj ((node_shift hl).1 hn) ((node_shift hl').1 hn') hb hb'
      exact ⟨by omega, e2⟩
  · intro id p R b o hn hb hfr
    rcases Nat.lt_or_ge id H.length with hl | hl
    · rw [hμ _ _ hl] at hb
      have hn0 := (Node.app hl).1 hn
      rcases (hfr1 b).1 hfr with h | ⟨h1, h2⟩
      · exact hh.apart hn0 hb h
      · rcases hr.okNew b h2 with h3 | h3
        · rw [hcl2 h1] at h3; exact hh.apart hn0 hb (hh.okFr h3)
        · have := hblk hn0 hb; omega
    · rw [hμ2 _ _ hl] at hb
      have hn0 := (node_shift hl).1 hn
      rcases (hfr1 b).1 hfr with h | ⟨h1, h2⟩
      · have h1 := hh.frLt h
        have h2 := hr.fresh hn0 hb
        omega
      · exact hr.heap.apart hn0 hb (hr.heap.okFr h2)
  · intro b h
    rcases (hfr1 b).1 h with h | ⟨_, h⟩
    · exact Nat.lt_of_lt_of_le (hh.frLt h) hr.wx.size
    · exact hr.heap.frLt (hr.heap.okFr h)
  · intro b h
    rcases (hok1 b).1 h with h | h
    · exact (hfr1 b).2 (.inl (hh.okFr h))
    · exact (hfr1 b).2 (.inr h)
  · intro id p R i f hn hbox hi hf
    rcases Nat.lt_or_ge id H.length with hl | hl
    · exact hh.plain ((Node.app hl).1 hn) (fun cs hcs => hbox cs (by rw [getD_app hl]; exact hcs)) hi hf
    · exact hr.heap.plain ((node_shift hl).1 hn) (fun cs hcs => absurd hcs (hr.arrs _ cs)) hi hf
  · intro id p R b o hl hn hb
    rw [hμ2 _ _ hl] at hb
    exact hr.fresh ((node_shift hl).1 hn) hb
  · -- the value
    have hv := hr.val
    have hret := hr.ret
    cases t with
    | d x =>
      have hc : cl ∨ x.clean := by rcases hcl with h | h; exact .inl h.1; exact .inr h.1
      have hb := hback x v hc hret
      show TR G1 (H ++ N) w1 (.d (x.back H.length)) v
      cases x <;> first | trivial | exact ⟨hv.1, hb hv.2⟩
    | agg cs =>
      obtain ⟨vs, e, hl, hcell⟩ := hv
      refine ⟨vs, e, by simpa using hl, fun k x u hx hu => ?_⟩
      simp only [List.getElem?_map, Option.map_eq_some_iff] at hx
      obtain ⟨y, hy, rfl⟩ := hx
      obtain ⟨h1, h2⟩ := hcell k y u hy hu
      have hmem := List.mem_of_getElem? hy
      exact ⟨h1, hback y u (by rcases hcl with h | h; exact .inl h.1; exact .inr (h.1 y hmem)) (List.all_eq_true.1 hret y hmem) h2⟩
    | tup ts =>
      obtain ⟨vs, e, hl, hcell⟩ := hv
      refine ⟨vs, e, by simpa using hl, fun k x u hx hu => ?_⟩
      simp only [List.getElem?_map, Option.map_eq_some_iff] at hx
      obtain ⟨y, hy, rfl⟩ := hx
      have hm := hcell k y u hy hu
      have hmem := List.mem_of_getElem? hy
      have hret2 := List.all_eq_true.1 hret y hmem
      cases y with
      | d y =>
        have hcl3 : cl ∨ y.clean := by
          rcases hcl with h | h
          · exact .inl h.1
          · exact .inr (h.1 _ hmem)
        have hb := hback y u hcl3 hret2
        show match T.d (y.back H.length) with | .d .dead => True | .d y => u.oneCell' = true ∧ VR G1 (H ++ N) w1 y u | .agg cs => _ | .tup _ => False
        cases y <;> first | trivial | exact ⟨hm.1, hb hm.2⟩
      | agg cs =>
        have hcl3 : cl ∨ ∀ x, x ∈ cs → x.clean := by
          rcases hcl with h | h
          · exact .inl h.1
          · exact .inr (h.1 _ hmem)
        obtain ⟨us, e2, hl2, hc2⟩ := hm
        refine ⟨us, e2, by simpa using hl2, fun j z u' hz hu' => ?_⟩
        simp only [List.getElem?_map, Option.map_eq_some_iff] at hz
        obtain ⟨z', hz', rfl⟩ := hz
        obtain ⟨h1, h2⟩ := hc2 j z' u' hz' hu'
        have hmem2 := List.mem_of_getElem? hz'
        exact ⟨h1, hback z' u' (by rcases hcl3 with h | h; exact .inl h; exact .inr (h z' hmem2)) (List.all_eq_true.1 hret2 z' hmem2) h2⟩
      | tup _ => exact hm.elim
end
end Go.R
