/- What it means that abstract values and a heap of trees tell what the machine's memory holds. -/
import Derived.Test.YtgpicngmadkdoaaDoorRBase
import Derived.Below
import Derived.Laws.Cells
import Derived.Laws.CopyRow
set_option linter.unusedVariables false
set_option linter.unusedSimpArgs false
namespace Go.R
open Go.RowKit

/-- Block b has (at least) n cells, none of them frozen. -/
def Has (w : World) (b n : Nat) : Prop := ∃ c t, w.heap[b]? = some (.cells c t (0, 0)) ∧ n ≤ c.size

/-- Where the nodes lie; which blocks read-only values may lie in; which blocks are never changed. -/
structure Gh where
  μ : Nat → Path → Option (Nat × Nat)
  ok : Nat → Prop
  fr : Nat → Prop

def D.RO (w : World) (ok : Nat → Prop) : D → Value → Prop
  | .int k n, v => v = .int k n
  | .bool b, v => v = .bool b
  | .str s, v => v = .string s
  | .e0 _, v => ∃ A, v = .slice A 0 0
  | .sl o sz n a, v => o = false ∧ ∃ A cap, v = .slice A n cap ∧ n ≤ cap ∧ (0 < n → ∃ b off, A = some ⟨b, off, none⟩ ∧ ok b ∧
      ∀ i f, i < n → f < sz → ∃ u, w.cell? ⟨b, off + i * sz + f, none⟩ = some u ∧ u.oneCell' = true ∧ (a i f).RO w ok u)
  | .nilp, v => v = .pointer none
  | .dead, _ => True
  | _, _ => False

/-- A slice value over node m (block, base): off, len of tot elements of sz cells each. -/
def inSl (w : World) (m : Option (Nat × Nat)) (sz tot off len : Nat) (v : Value) : Prop :=
  match m with
  | none => tot = 0 ∧ off = 0 ∧ len = 0 ∧ ∃ A, v = .slice A 0 0
  | some (b, o) => ∃ A cap, v = .slice A len cap ∧ off + len ≤ tot ∧ tot ≤ off + cap ∧ Has w b (o + (off + cap) * sz) ∧ (cap = 0 ∨ A = some ⟨b, o + off * sz, none⟩)

def Node (H : Heap) (id : Nat) (p : Path) (R : Rows) : Prop := nodeR H id p = some R ∧ pathOk H id p

def ptrOk (G : Gh) (H : Heap) (id : Nat) (p : Path) (tot i f : Nat) (v : Value) : Prop :=
  id < H.length ∧ ∃ ad : Addr, v = .pointer (some ad) ∧ ∀ R, Node H id p R → R.n = tot → i < tot → ∃ b o, G.μ id p = some (b, o) ∧ ad = ⟨b, o + i * R.sz + f, none⟩

def VR (G : Gh) (H : Heap) (w : World) : D → Value → Prop
  | .own id p tot off len, v => id < H.length ∧ ∀ R, Node H id p R → R.n = tot → inSl w (G.μ id p) R.sz tot off len v
  | .ptr id p tot i f, v => ptrOk G H id p tot i f v
  | .rp sz row f, v => ∃ b o, G.ok b ∧ v = .pointer (some ⟨b, o + f, none⟩) ∧ ∀ f', f' < sz → ∃ u, w.cell? ⟨b, o + f', none⟩ = some u ∧ u.oneCell' = true ∧ (row f').RO w G.ok u
  | .fn g caps, v => ∃ vs : List Value, v = .func (.func g) #[] vs.toArray ∧ vs.length = caps.length ∧ ∀ (k c : Nat) (u : Value), caps[k]? = some c → vs[k]? = some u → ptrOk G H c [] 1 0 0 u
  | .rfn g n szs rows, v => ∃ vs : List Value, v = .func (.func g) #[] vs.toArray ∧ vs.length = n ∧ ∀ (k : Nat) (u : Value), vs[k]? = some u →
      ∃ b o, G.ok b ∧ u = .pointer (some ⟨b, o, none⟩) ∧ ∀ f', f' < szs k → ∃ x, w.cell? ⟨b, o + f', none⟩ = some x ∧ x.oneCell' = true ∧ (rows k f').RO w G.ok x
  | d, v => d.RO w G.ok v

def CellOk (G : Gh) (H : Heap) (w : World) (id : Nat) (p : Path) (i f : Nat) (d : D) (u : Value) : Prop :=
  u.oneCell' = true ∧ match d with
    | .sl true sz n _ => inSl w (G.μ id (p ++ [(i, f)])) sz n 0 n u
    | d => VR G H w d u

def NodeOk (G : Gh) (H : Heap) (w : World) (id : Nat) (p : Path) (R : Rows) : Prop :=
  match G.μ id p with
  | none => R.n = 0
  | some (b, o) => ∃ c t, w.heap[b]? = some (.cells c t (0, 0)) ∧ o + R.n * R.sz ≤ c.size ∧
      ∀ i f, i < R.n → f < R.sz → ∃ u, c[o + i * R.sz + f]? = some u ∧ CellOk G H w id p i f (R.at_ i f) u

structure HeapOk (G : Gh) (H : Heap) (w : World) : Prop where
  node : ∀ {id p R}, Node H id p R → NodeOk G H w id p R
  inj : ∀ {id p R b o id' p' R' o'}, Node H id p R → Node H id' p' R' → G.μ id p = some (b, o) → G.μ id' p' = some (b, o') → id = id' ∧ p = p'
  apart : ∀ {id p R b o}, Node H id p R → G.μ id p = some (b, o) → ¬ G.fr b
  frLt : ∀ {b}, G.fr b → b < w.heap.size
  okFr : ∀ {b}, G.ok b → G.fr b
  plain : ∀ {id p R i f}, Node H id p R → (∀ cs, H.getD id none = some (.box cs) → p ≠ []) → i < R.n → f < R.sz → (R.at_ i f).isPlain = true

def TR (G : Gh) (H : Heap) (w : World) : T → Value → Prop
  | .d .dead, _ => True
  | .d x, v => v.oneCell' = true ∧ VR G H w x v
  | .agg cs, v => ∃ vs : List Value, v = .agg vs.toArray ∧ vs.length = cs.length ∧ ∀ (k : Nat) (x : D) (u : Value), cs[k]? = some x → vs[k]? = some u → u.oneCell' = true ∧ VR G H w x u
  | .tup ts, v => ∃ vs : List Value, v = .tuple vs.toArray ∧ vs.length = ts.length ∧ ∀ (k : Nat) (x : T) (u : Value), ts[k]? = some x → vs[k]? = some u → match x with
      | .d .dead => True
      | .d y => u.oneCell' = true ∧ VR G H w y u
      | .agg cs => ∃ us : List Value, u = .agg us.toArray ∧ us.length = cs.length ∧ ∀ (j : Nat) (y : D) (z : Value), cs[j]? = some y → us[j]? = some z → z.oneCell' = true ∧ VR G H w y z
      | .tup _ => False

/-! ### the world moves on -/
/-- From w to w': only blocks of 'ch' may have other cells (as many as before); the rest is new. -/
structure Wx (w w' : World) (ch : Nat → Prop) : Prop where
  os : w'.os = w.os
  tape : w'.tape = w.tape
  output : w'.output = w.output
  size : w.heap.size ≤ w'.heap.size
  same : ∀ b, b < w.heap.size → ¬ ch b → w'.heap[b]? = w.heap[b]?
  shape : ∀ (b : Nat) c t, w.heap[b]? = some (.cells c t (0, 0)) → ∃ c', w'.heap[b]? = some (.cells c' t (0, 0)) ∧ c'.size = c.size

theorem Wx.refl (w : World) (ch : Nat → Prop) : Wx w w ch := ⟨rfl, rfl, rfl, Nat.le_refl _, fun _ _ _ => rfl, fun b c t h => ⟨c, h, rfl⟩⟩
theorem lt_of_heap {w : World} {b : Nat} {o : Go.Obj} (h : w.heap[b]? = some o) : b < w.heap.size := (Array.getElem?_eq_some_iff.1 h).1
theorem Wx.trans {w w1 w2 : World} {ch ch2 : Nat → Prop} (h : Wx w w1 ch) (k : Wx w1 w2 ch2) : Wx w w2 (fun b => ch b ∨ ch2 b) :=
  ⟨k.os.trans h.os, k.tape.trans h.tape, k.output.trans h.output, Nat.le_trans h.size k.size,
   fun b hb hn => by rw [k.same b (Nat.lt_of_lt_of_le hb h.size) (fun x => hn (.inr x)), h.same b hb (fun x => hn (.inl x))],
   fun b c t hc => by
    obtain ⟨c1, h1, e1⟩ := h.shape b c t hc
    obtain ⟨c2, h2, e2⟩ := k.shape b c1 t h1
    exact ⟨c2, h2, e2.trans e1⟩⟩
theorem Wx.mono {w w1 : World} {ch ch2 : Nat → Prop} (h : Wx w w1 ch) (hm : ∀ b, b < w.heap.size → ch b → ch2 b) : Wx w w1 ch2 :=
  ⟨h.os, h.tape, h.output, h.size, fun b hb hn => h.same b hb (fun x => hn (hm b hb x)), h.shape⟩
theorem Wx.cell {w w1 : World} {ch : Nat → Prop} (h : Wx w w1 ch) {b o : Nat} {u : Value} (hn : ¬ ch b) (hc : w.cell? ⟨b, o, none⟩ = some u) : w1.cell? ⟨b, o, none⟩ = some u := by
  have hb : b < w.heap.size := World.block_lt_of_cell? w _ hc
  unfold World.cell? at hc ⊢
  rw [h.same b hb hn]
  exact hc
theorem Has.wx {w w1 : World} {ch : Nat → Prop} (h : Wx w w1 ch) {b n : Nat} (hh : Has w b n) : Has w1 b n := by
  obtain ⟨c, t, hc, hn⟩ := hh
  obtain ⟨c', hc', he⟩ := h.shape b c t hc
  exact ⟨c', t, hc', by omega⟩
theorem inSl.wx {w w1 : World} {ch : Nat → Prop} (h : Wx w w1 ch) {m : Option (Nat × Nat)} {sz tot off len : Nat} {v : Value} (hh : inSl w m sz tot off len v) : inSl w1 m sz tot off len v := by
  unfold inSl at *
  cases m with
  | none => exact hh
  | some x =>
    obtain ⟨A, cap, h1, h2, h3, h4, h5⟩ := hh
    exact ⟨A, cap, h1, h2, h3, h4.wx h, h5⟩
theorem D.RO.wx {w w1 : World} {ch : Nat → Prop} (h : Wx w w1 ch) {ok ok1 : Nat → Prop} (hok : ∀ b, ok b → ok1 b ∧ ¬ ch b) (d : D) : ∀ {v : Value}, d.RO w ok v → d.RO w1 ok1 v := by
  induction d with
  | sl o sz n a ih =>
    intro v hv
    simp only [D.RO] at hv ⊢
    obtain ⟨ho, A, cap, e, hcap, hc⟩ := hv
    refine ⟨ho, A, cap, e, hcap, fun hn => ?_⟩
    obtain ⟨b, off, hA, hb, hcell⟩ := hc hn
    refine ⟨b, off, hA, (hok b hb).1, fun i f hi hf => ?_⟩
    obtain ⟨u, hu, h1, hr⟩ := hcell i f hi hf
    exact ⟨u, h.cell (hok b hb).2 hu, h1, ih i f hr⟩
  | _ => exact fun hv => hv

/-- What a handle leads to: node and how many elements it had. -/
def D.Ment : D → Nat → Path → Nat → Prop
  | .own i p t _ _, id, q, tot => i = id ∧ p = q ∧ t = tot
  | .ptr i p t _ _, id, q, tot => i = id ∧ p = q ∧ t = tot
  | .fn _ caps, id, q, tot => id ∈ caps ∧ q = [] ∧ tot = 1
  | _, _, _, _ => False

theorem VR.move {G G1 : Gh} {H H1 : Heap} {w w1 : World} {ch : Nat → Prop} (h : Wx w w1 ch) (hok : ∀ b, G.ok b → G1.ok b ∧ ¬ ch b) (hl : H.length ≤ H1.length)
    {d : D} {v : Value}
    (hN : ∀ id p tot R1, d.Ment id p tot → id < H.length → Node H1 id p R1 → R1.n = tot → ∃ R, Node H id p R ∧ R.n = tot ∧ R.sz = R1.sz ∧ G1.μ id p = G.μ id p)
    (hv : VR G H w d v) : VR G1 H1 w1 d v := by
  have hp : ∀ id p tot i f u, d.Ment id p tot → ptrOk G H id p tot i f u → ptrOk G1 H1 id p tot i f u := by
    intro id p tot i f u hm hu
    obtain ⟨hid, ad, had, hu⟩ := hu
    refine ⟨Nat.lt_of_lt_of_le hid hl, ad, had, fun R1 hR1 hn hi => ?_⟩
    obtain ⟨R, hR, h1, h2, h3⟩ := hN id p tot R1 hm hid hR1 hn
    obtain ⟨b, o, hb, e⟩ := hu R hR h1 hi
    exact ⟨b, o, h3.trans hb, by rw [e, h2]⟩
  cases d with
  | own id p tot off len =>
    refine ⟨Nat.lt_of_lt_of_le hv.1 hl, fun R1 hR1 hn => ?_⟩
    obtain ⟨R, hR, h1, h2, h3⟩ := hN id p tot R1 ⟨rfl, rfl, rfl⟩ hv.1 hR1 hn
    rw [h3, ← h2]
    exact (hv.2 R hR h1).wx h
  | ptr id p tot i f => exact hp _ _ _ _ _ _ ⟨rfl, rfl, rfl⟩ hv
  | rp sz row f =>
    obtain ⟨b, o, hb, e, hc⟩ := hv
    refine ⟨b, o, (hok b hb).1, e, fun f' hf => ?_⟩
    obtain ⟨u, hu, h1, hr⟩ := hc f' hf
    exact ⟨u, h.cell (hok b hb).2 hu, h1, hr.wx h hok⟩
  | fn g caps =>
    obtain ⟨vs, e, hlen, hc⟩ := hv
    refine ⟨vs, e, hlen, fun k c u hk hu => ?_⟩
    exact hp c [] 1 0 0 u ⟨List.mem_of_getElem? hk, rfl, rfl⟩ (hc k c u hk hu)
  | rfn g n szs rows =>
    obtain ⟨vs, e, hlen, hc⟩ := hv
    refine ⟨vs, e, hlen, fun k u hu => ?_⟩
    obtain ⟨b, o, hb, e2, hc2⟩ := hc k u hu
    refine ⟨b, o, (hok b hb).1, e2, fun f' hf => ?_⟩
    obtain ⟨x, hx, h1, hr⟩ := hc2 f' hf
    exact ⟨x, h.cell (hok b hb).2 hx, h1, hr.wx h hok⟩
  | _ => exact D.RO.wx h hok _ hv

def T.Ment : T → Nat → Path → Nat → Prop
  | .d x, id, p, tot => x.Ment id p tot
  | .agg cs, id, p, tot => ∃ x, x ∈ cs ∧ x.Ment id p tot
  | .tup ts, id, p, tot => ∃ t, t ∈ ts ∧ match t with
    | .d x => x.Ment id p tot
    | .agg cs => ∃ x, x ∈ cs ∧ x.Ment id p tot
    | .tup _ => False

theorem TR.move {G G1 : Gh} {H H1 : Heap} {w w1 : World} {ch : Nat → Prop} (h : Wx w w1 ch) (hok : ∀ b, G.ok b → G1.ok b ∧ ¬ ch b) (hl : H.length ≤ H1.length)
    {t : T} {v : Value}
    (hN : ∀ id p tot R1, t.Ment id p tot → id < H.length → Node H1 id p R1 → R1.n = tot → ∃ R, Node H id p R ∧ R.n = tot ∧ R.sz = R1.sz ∧ G1.μ id p = G.μ id p)
    (hv : TR G H w t v) : TR G1 H1 w1 t v := by
  cases t with
  | d x =>
    cases x <;> first | trivial | exact ⟨hv.1, VR.move h hok hl hN hv.2⟩
  | agg cs =>
    obtain ⟨vs, e, hlen, hc⟩ := hv
    refine ⟨vs, e, hlen, fun k x u hx hu => ?_⟩
    obtain ⟨h1, h2⟩ := hc k x u hx hu
    exact ⟨h1, VR.move h hok hl (fun id p tot R1 hm => hN id p tot R1 ⟨x, List.mem_of_getElem? hx, hm⟩) h2⟩
  | tup ts =>
    obtain ⟨vs, e, hlen, hc⟩ := hv
    refine ⟨vs, e, hlen, fun k x u hx hu => ?_⟩
    have hm := hc k x u hx hu
    have hmem := List.mem_of_getElem? hx
    match x, hm with
    | .d .dead, _ => trivial
    | .d (.int _ _), hm => exact ⟨hm.1, VR.move h hok hl (fun id p tot R1 h3 => h3.elim) hm.2⟩
    | .d (.bool _), hm => exact ⟨hm.1, VR.move h hok hl (fun id p tot R1 h3 => h3.elim) hm.2⟩
    | .d (.str _), hm => exact ⟨hm.1, VR.move h hok hl (fun id p tot R1 h3 => h3.elim) hm.2⟩
    | .d (.e0 _), hm => exact ⟨hm.1, VR.move h hok hl (fun id p tot R1 h3 => h3.elim) hm.2⟩
    | .d .nilp, hm => exact ⟨hm.1, VR.move h hok hl (fun id p tot R1 h3 => h3.elim) hm.2⟩
    | .d (.sl _ _ _ _), hm => exact ⟨hm.1, VR.move h hok hl (fun id p tot R1 h3 => h3.elim) hm.2⟩
    | .d (.rp _ _ _), hm => exact ⟨hm.1, VR.move h hok hl (fun id p tot R1 h3 => h3.elim) hm.2⟩
    | .d (.rfn _ _ _ _), hm => exact ⟨hm.1, VR.move h hok hl (fun id p tot R1 h3 => h3.elim) hm.2⟩
    | .d (.own a b c d e), hm => exact ⟨hm.1, VR.move h hok hl (fun id p tot R1 h3 => hN id p tot R1 ⟨_, hmem, h3⟩) hm.2⟩
    | .d (.ptr a b c d e), hm => exact ⟨hm.1, VR.move h hok hl (fun id p tot R1 h3 => hN id p tot R1 ⟨_, hmem, h3⟩) hm.2⟩
    | .d (.fn a b), hm => exact ⟨hm.1, VR.move h hok hl (fun id p tot R1 h3 => hN id p tot R1 ⟨_, hmem, h3⟩) hm.2⟩
    | .agg cs, hm =>
      obtain ⟨us, e2, hlen2, hc2⟩ := hm
      refine ⟨us, e2, hlen2, fun j y z hy hz => ?_⟩
      obtain ⟨h1, h2⟩ := hc2 j y z hy hz
      exact ⟨h1, VR.move h hok hl (fun id p tot R1 h3 => hN id p tot R1 ⟨.agg cs, hmem, ⟨y, List.mem_of_getElem? hy, h3⟩⟩) h2⟩
    | .tup _, hm => exact hm.elim

/-! ### nodes of a heap that has grown -/
theorem nodeR_lt {H : Heap} {id : Nat} {p : Path} {R : Rows} (h : nodeR H id p = some R) : id < H.length := by
  unfold nodeR at h
  rcases Nat.lt_or_ge id H.length with hl | hl
  · exact hl
  · simp [List.getD_eq_getElem?_getD, List.getElem?_eq_none hl] at h
theorem Node.lt {H : Heap} {id : Nat} {p : Path} {R : Rows} (h : Node H id p R) : id < H.length := nodeR_lt h.1
theorem getD_app {H N : Heap} {id : Nat} (h : id < H.length) : (H ++ N).getD id none = H.getD id none := by
  simp [List.getD_eq_getElem?_getD, List.getElem?_append_left h]
theorem Node.app {H N : Heap} {id : Nat} {p : Path} {R : Rows} (hl : id < H.length) : Node (H ++ N) id p R ↔ Node H id p R := by
  unfold Node nodeR pathOk
  rw [getD_app hl]
theorem getD_app2 {H N : Heap} {id : Nat} (h : H.length ≤ id) : (H ++ N).getD id none = N.getD (id - H.length) none := by
  simp [List.getD_eq_getElem?_getD, List.getElem?_append_right h]

theorem CellOk.move {G G1 : Gh} {H H1 : Heap} {w w1 : World} {ch : Nat → Prop} (h : Wx w w1 ch) (hok : ∀ b, G.ok b → G1.ok b ∧ ¬ ch b) (hl : H.length ≤ H1.length)
    {id : Nat} {p : Path} {i f : Nat} {d : D} {u : Value} (hμ : G1.μ id (p ++ [(i, f)]) = G.μ id (p ++ [(i, f)]))
    (hN : ∀ id p tot R1, d.Ment id p tot → id < H.length → Node H1 id p R1 → R1.n = tot → ∃ R, Node H id p R ∧ R.n = tot ∧ R.sz = R1.sz ∧ G1.μ id p = G.μ id p)
    (hv : CellOk G H w id p i f d u) : CellOk G1 H1 w1 id p i f d u := by
  refine ⟨hv.1, ?_⟩
  have h2 := hv.2
  cases d with
  | sl o sz n a =>
    cases o
    · exact VR.move h hok hl hN h2
    · show inSl w1 (G1.μ id (p ++ [(i, f)])) sz n 0 n u
      rw [hμ]
      exact inSl.wx h h2
  | _ => exact VR.move h hok hl hN h2
end Go.R
