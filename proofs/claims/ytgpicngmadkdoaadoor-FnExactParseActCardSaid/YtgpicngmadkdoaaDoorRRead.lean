/- How Go's data, as a row reads them, are this framework's read-only values. -/
import Derived.Test.YtgpicngmadkdoaaDoorRRow
set_option linter.unusedVariables false
set_option linter.unusedSimpArgs false
namespace Go.R
open Go.RowKit Go.WideShapes Go.ChangeShapes Go.WideElems

section
variable {H : Type} {encH : TypeId × Value → H} {P : Program} {w : World}

/-- How much a datum holds: the equations that are used. -/
structure BulkEq (B : DataW H → Nat) (BA : List (DataW H) → Nat) : Prop where
  pos : ∀ d, 1 ≤ B d
  str : ∀ bs, B (.lit (.string bs)) = bs.length + 1
  slice : ∀ e s, B (.slice e s) = BA e + BA s + 1
  agg : ∀ p, B (.agg p) = BA p + 1
  nil : BA [] = 0
  cons : ∀ d l, BA (d :: l) = B d + BA l

def CellRO (w : World) (d : D) (u : Value) : Prop := u.oneCell' = true ∧ d.RO w (fun b => b < w.heap.size) u
/-- Cells of type t are read as Q tells: the abstract cells, and how much they hold. -/
def RdQ (encH : TypeId × Value → H) (P : Program) (w : World) (B : DataW H → Nat) (t : TypeId) (Q : List D → Nat → Prop) : Prop :=
  ∀ (fuel : Nat) (cs : List Value) (x : DataW H × List MemPlace), DataW.trod encH P w 0 (fun _ => true) true fuel t cs = some x → ∃ ds m, F2 (CellRO w) ds cs ∧ Q ds m ∧ m ≤ B x.1
def RdE {α : Type} (encH : TypeId × Value → H) (P : Program) (w : World) (B : DataW H → Nat) (t : TypeId) (enc : α → List D) (mass : α → Nat) (good : α → Prop) : Prop :=
  RdQ encH P w B t fun ds m => ∃ a, ds = enc a ∧ m = mass a ∧ good a

theorem rd_int {B : DataW H → Nat} {BA} (hB : BulkEq B BA) {t : TypeId} {k : IntKind} (ht : P.underlying t = some (.int k)) : RdE encH P w B t (fun n : Int => [.int k n]) (fun _ => 1) (fun n => (Lit.int k n).wf = true) := by
  intro fuel cs x h
  obtain ⟨n, rfl, rfl, hw⟩ := DataW.trod_int ht h
  exact ⟨[.int k n], 1, .cons ⟨rfl, rfl⟩ .nil, ⟨n, rfl, rfl, hw⟩, hB.pos _⟩
theorem rd_bool {B : DataW H → Nat} {BA} (hB : BulkEq B BA) {t : TypeId} (ht : P.underlying t = some .bool) : RdE encH P w B t (fun b : Bool => [.bool b]) (fun _ => 1) (fun _ => True) := by
  intro fuel cs x h
  obtain ⟨b, rfl, rfl⟩ := DataW.trod_bool ht h
  exact ⟨[.bool b], 1, .cons ⟨rfl, rfl⟩ .nil, ⟨b, rfl, rfl, trivial⟩, hB.pos _⟩
theorem rd_str {B : DataW H → Nat} {BA} (hB : BulkEq B BA) {t : TypeId} (ht : P.underlying t = some .string) : RdE encH P w B t strE (fun s => s.length + 1) (fun s => s.length ≤ maxLen) := by
  intro fuel cs x h
  obtain ⟨s, rfl, rfl, hs⟩ := DataW.trod_string ht h
  refine ⟨[.str s], s.data.toList.length + 1, .cons ⟨rfl, rfl⟩ .nil, ⟨s.data.toList, by rw [strE, ← S_eq], rfl, by simpa using hs⟩, ?_⟩
  rw [hB.str]; exact Nat.le_refl _

theorem bulk_sum {B : DataW H → Nat} {BA} (hB : BulkEq B BA) : ∀ {ms : List Nat} {xs : List (DataW H × List MemPlace)}, F2 (fun m x => m ≤ B x.1) ms xs → ms.sum ≤ BA (xs.map (·.1))
  | _, _, .nil => by simp
  | _, _, .cons h t => by
    have := bulk_sum hB t
    simp only [List.sum_cons, List.map_cons, hB.cons]
    omega

theorem f2_of_get {α β : Type} {R : α → β → Prop} : ∀ {xs : List α} {ys : List β}, xs.length = ys.length → (∀ (i : Nat) x y, xs[i]? = some x → ys[i]? = some y → R x y) → F2 R xs ys
  | [], [], _, _ => .nil
  | x :: xs, y :: ys, hl, h => .cons (h 0 x y rfl rfl) (f2_of_get (by simpa using hl) fun i a b ha hb => h (i + 1) a b (by simpa using ha) (by simpa using hb))
  | [], _ :: _, hl, _ => by simp at hl
  | _ :: _, [], hl, _ => by simp at hl

theorem cells_get {a : Addr} {n : Nat} {cs : List Value} (h : w.cells? 0 a n = some cs) : cs.length = n ∧ ∀ f, f < n → w.cell? (a.add f) = cs[f]? := by
  unfold World.cells? at h
  rw [if_pos (Nat.zero_le _)] at h
  have hl := Lib.mapM_length h
  refine ⟨by simpa using hl, fun f hf => ?_⟩
  obtain ⟨b, h1, h2⟩ := Lib.mapM_at h f f (by simp [hf])
  rw [h1, h2]

theorem rd_slice {B : DataW H → Nat} {BA} (hB : BulkEq B BA) {t e : TypeId} {sz : Nat} {α : Type} {enc : α → List D} {mass : α → Nat} {good : α → Prop} (ht : P.underlying t = some (.slice e)) (hsz : P.cellsOf e = sz) (hpos : 0 < sz)
    (he : RdE encH P w B e enc mass good) : RdE encH P w B t (fun l : List α => [roL enc sz l]) (fun l => (l.map mass).sum + 1) (fun l => l.length ≤ maxLen ∧ ∀ a ∈ l, good a) := by
  intro fuel cs x h
  rcases DataW.trod_slice ht h with ⟨rfl, rfl⟩ | ⟨a, len, cap, elems, rest, n, rfl, rfl, rfl, _, hlc, hcm, hlen, hel, _, _⟩
  · exact ⟨[roL enc sz []], 1, .cons ⟨rfl, rfl, none, 0, rfl, Nat.le_refl _, fun h => absurd h (Nat.lt_irrefl _)⟩ .nil, ⟨[], rfl, rfl, Nat.zero_le _, fun a h => by cases h⟩, hB.pos _⟩
  · have hrow : ∀ i, i < len → ∃ (y : α) (ds : List D) (cs : List Value) (z : DataW H × List MemPlace), elems[i]? = some z ∧ w.cells? 0 (a.add (i * sz)) sz = some cs ∧ F2 (CellRO w) (enc y) cs ∧ mass y ≤ B z.1 ∧ good y := by
      intro i hi
      have h1 := hel i hi
      rw [List.getElem?_eq_getElem (by omega), Option.bind_eq_some_iff] at h1
      obtain ⟨cs, h2, h3⟩ := h1
      obtain ⟨ds, m, h4, ⟨y, rfl, rfl, hg⟩, h5⟩ := he _ _ _ h3
      exact ⟨y, [], cs, _, List.getElem?_eq_getElem (by omega), by rw [← hsz]; exact h2, h4, h5, hg⟩
    have hch : ∃ ys : List α, ys.length = len ∧ ∀ i y, ys[i]? = some y → ∃ (cs : List Value) (z : DataW H × List MemPlace), elems[i]? = some z ∧ w.cells? 0 (a.add (i * sz)) sz = some cs ∧ F2 (CellRO w) (enc y) cs ∧ mass y ≤ B z.1 ∧ good y := by
      have hall : ∀ k, k ≤ len → ∃ ys : List α, ys.length = k ∧ ∀ i y, ys[i]? = some y → ∃ (cs : List Value) (z : DataW H × List MemPlace), elems[i]? = some z ∧ w.cells? 0 (a.add (i * sz)) sz = some cs ∧ F2 (CellRO w) (enc y) cs ∧ mass y ≤ B z.1 ∧ good y := by
        intro k
        induction k with
        | zero => intro _; exact ⟨[], rfl, fun i y h => by simp at h⟩
        | succ k ih =>
          intro hk
          obtain ⟨ys, h1, h2⟩ := ih (by omega)
          obtain ⟨y, _, cs, z, h3⟩ := hrow k (by omega)
          refine ⟨ys ++ [y], by simp [h1], fun i y' hy => ?_⟩
          rcases Nat.lt_or_ge i ys.length with hi | hi
          · rw [List.getElem?_append_left hi] at hy
            exact h2 i y' hy
          · rw [List.getElem?_append_right hi] at hy
            have hi2 : i = k := by
              have := (List.getElem?_eq_some_iff.1 hy).1
              simp at this
              omega
            subst hi2
            rw [h1] at hy
            simp at hy
            subst hy
            exact ⟨cs, z, h3⟩
      exact hall len (Nat.le_refl _)
    obtain ⟨ys, hyl, hys⟩ := hch
    refine ⟨[roL enc sz ys], (ys.map mass).sum + 1, .cons ⟨rfl, rfl, some a, cap, by rw [hyl], by omega, fun hn => ?_⟩ .nil, ⟨ys, rfl, rfl, by omega, fun y hy => ?_⟩, ?_⟩
    · have hn0 : 0 < len := by rw [← hyl]; exact hn
      obtain ⟨y0, hy0⟩ : ∃ y, ys[0]? = some y := ⟨_, List.getElem?_eq_getElem (by omega)⟩
      obtain ⟨cs0, _, _, hc0, hF0, _, _⟩ := hys 0 y0 hy0
      obtain ⟨hl0, hg0⟩ := cells_get hc0
      have hv0 : w.cell? ((a.add (0 * sz)).add 0) = some (cs0[0]'(by omega)) := by rw [hg0 0 hpos, List.getElem?_eq_getElem (by omega)]
      have hsp : a.spot = none := by
        have := World.cell?_spot hv0
        simpa [Addr.add] using this
      have hbl : a.block < w.heap.size := by
        have := World.block_lt_of_cell? w _ hv0
        simpa [Addr.add] using this
      have ea : a = ⟨a.block, a.off, none⟩ := by
        cases a
        simp only at hsp
        subst hsp
        rfl
      refine ⟨a.block, a.off, congrArg some ea, hbl, fun i f hi hf => ?_⟩
      obtain ⟨y, hy⟩ : ∃ y, ys[i]? = some y := ⟨_, List.getElem?_eq_getElem hi⟩
      obtain ⟨cs, _, _, hc, hF, _, _⟩ := hys i y hy
      obtain ⟨hl, hg⟩ := cells_get hc
      have hv : w.cell? ((a.add (i * sz)).add f) = some (cs[f]'(by omega)) := by rw [hg f hf, List.getElem?_eq_getElem (by omega)]
      have hFg := hF.get
      have hfe : f < (enc y).length := by rw [hFg.1, hl]; exact hf
      obtain ⟨h1, h2⟩ := hFg.2 f _ _ (List.getElem?_eq_getElem hfe) (List.getElem?_eq_getElem (by omega))
      refine ⟨cs[f]'(by omega), ?_, h1, ?_⟩
      · have e3 : (a.add (i * sz)).add f = ⟨a.block, a.off + i * sz + f, none⟩ := by
          conv => lhs; rw [ea]
          rw [addr_add, addr_add]
        rw [← e3]; exact hv
      · have e : rowsD (ys.map enc) i f = (enc y)[f] := by
          simp [rowsD, List.getD_eq_getElem?_getD, hy, hfe]
        rw [e]
        exact h2
    · obtain ⟨i, hi⟩ := List.getElem?_of_mem hy
      obtain ⟨_, _, _, _, _, _, h⟩ := hys i y hi
      exact h
    · rw [hB.slice]
      have : (ys.map mass).sum ≤ BA (elems.map (·.1)) := by
        refine bulk_sum hB (f2_of_get (by simp [hyl, hlen]) fun i m z hm hz => ?_)
        rw [List.getElem?_map, Option.map_eq_some_iff] at hm
        obtain ⟨y, hy, rfl⟩ := hm
        obtain ⟨_, z', h1, _, _, h2, _⟩ := hys i y hy
        rw [hz] at h1
        injection h1 with h1
        subst h1
        exact h2
      omega

/-! ### structs -/
def Qs : List (List D → Nat → Prop) → List D → Nat → Prop
  | [], ds, m => ds = [] ∧ m = 0
  | Q :: r, ds, m => ∃ d1 m1 d2 m2, Q d1 m1 ∧ Qs r d2 m2 ∧ ds = d1 ++ d2 ∧ m = m1 + m2
def layOk (P : Program) : Nat → List Field → Nat → Bool
  | o, [], n => o == n
  | o, f :: r, n => f.offset == o && layOk P (o + P.cellsOf f.type) r n
theorem rd_fields {B : DataW H → Nat} {BA} (hB : BulkEq B BA) {cs : List Value} {n : Nat} : ∀ {fs : List Field} {qs : List (List D → Nat → Prop)} {xs : List (DataW H × List MemPlace)} {o : Nat}, F2 (fun f Q => RdQ encH P w B f.type Q) fs qs → xs.length = fs.length →
    layOk P o fs cs.length = true → (∀ (i : Nat) (f : Field), fs[i]? = some f → DataW.trod encH P w 0 (fun _ => true) true n f.type ((cs.drop f.offset).take (P.cellsOf f.type)) = xs[i]?) →
    ∃ ds m, F2 (CellRO w) ds (cs.drop o) ∧ Qs qs ds m ∧ m ≤ BA (xs.map (·.1))
  | [], [], xs, o, _, hl, hlay, _ => by
    have h0 : xs = [] := List.length_eq_zero_iff.1 hl
    subst h0
    simp only [layOk, beq_iff_eq] at hlay
    exact ⟨[], 0, by rw [List.drop_eq_nil_of_le (by omega)]; exact .nil, ⟨rfl, rfl⟩, Nat.zero_le _⟩
  | f :: fs, Q :: qs, [], o, _, hl, _, _ => by simp at hl
  | f :: fs, Q :: qs, x :: xs, o, hF, hl, hlay, h => by
    cases hF with
    | cons h1 h2 =>
      simp only [layOk, Bool.and_eq_true, beq_iff_eq] at hlay
      obtain ⟨hoff, hlay⟩ := hlay
      obtain ⟨ds, m, i1, i2, i3⟩ := rd_fields hB (xs := xs) (o := o + P.cellsOf f.type) h2 (by simpa using hl) hlay (fun i g hg => by simpa using h (i + 1) g (by simpa using hg))
      obtain ⟨d1, m1, j1, j2, j3⟩ := h1 _ _ x (by simpa using h 0 f rfl)
      refine ⟨d1 ++ ds, m1 + m, ?_, ⟨d1, m1, ds, m, j2, i2, rfl, rfl⟩, ?_⟩
      · have := j1.append i1
        rw [hoff] at this
        have e : cs.drop (o + P.cellsOf f.type) = (cs.drop o).drop (P.cellsOf f.type) := by rw [List.drop_drop]
        rw [e, List.take_append_drop] at this
        exact this
      · rw [List.map_cons, hB.cons]; omega
  | [], _ :: _, _, _, hF, _, _, _ => by cases hF
  | _ :: _, [], _, _, hF, _, _, _ => by cases hF
theorem rd_struct {B : DataW H → Nat} {BA} (hB : BulkEq B BA) {t : TypeId} {fs : Array Field} {qs : List (List D → Nat → Prop)} (ht : P.underlying t = some (.struct fs)) (hlay : layOk P 0 fs.toList (P.cellsOf t) = true)
    (hF : F2 (fun f Q => RdQ encH P w B f.type Q) fs.toList qs) : RdQ encH P w B t fun ds m => ∃ m', Qs qs ds m' ∧ m = m' + 1 := by
  intro fuel cs x h
  obtain ⟨xs, n, rfl, rfl, hl, hxl, hf⟩ := DataW.trod_struct ht h
  obtain ⟨ds, m, h1, h2, h3⟩ := rd_fields hB (cs := cs) (n := n) (xs := xs) (o := 0) hF (by simpa using hxl) (by rw [hl]; exact hlay) (fun i f hi => hf i f (by simpa using hi))
  exact ⟨ds, m + 1, by simpa using h1, ⟨m, h2, rfl⟩, by rw [hB.agg]; omega⟩
theorem RdQ.imp {B : DataW H → Nat} {t : TypeId} {Q Q' : List D → Nat → Prop} (h : RdQ encH P w B t Q) (hi : ∀ ds m, Q ds m → Q' ds m) : RdQ encH P w B t Q' := by
  intro fuel cs x hx
  obtain ⟨ds, m, h1, h2, h3⟩ := h fuel cs x hx
  exact ⟨ds, m, h1, hi _ _ h2, h3⟩

/-! ### arguments -/
theorem arg_struct {B : DataW H → Nat} {α : Type} {enc : α → List D} {mass : α → Nat} {good : α → Prop} {r : Reach} {b0 : Nat} {t : TypeId} {fs : Array Field} {v : Value} {d : DataW H} {ps : List MemPlace} (ht : P.underlying t = some (.struct fs))
    (hr : RdE encH P w B t enc mass good) (hv : Value.okWide P w r b0 t v) (h : DataW.Trod encH P w 0 (fun _ => true) true t v d ps) :
    ∃ a, TR (startGh (fun b => b < w.heap.size) w.heap.size) [] w (.agg (enc a)) v ∧ mass a ≤ B d ∧ good a := by
  obtain ⟨cs, rfl, _⟩ := okWide_struct ht hv
  obtain ⟨fuel, hf⟩ := h
  obtain ⟨ds, m, h1, ⟨a, rfl, rfl, hg⟩, h3⟩ := hr _ _ _ hf
  have hcs : (Value.agg cs).cells.toList = cs.toList := rfl
  rw [hcs] at h1
  refine ⟨a, ⟨cs.toList, by simp, h1.get.1.symm, fun k x u hx hu => ?_⟩, h3, hg⟩
  obtain ⟨e1, e2⟩ := h1.get.2 k x u hx hu
  exact ⟨e1, VR.of_RO' e2⟩
theorem arg_str {B : DataW H → Nat} {mass : List UInt8 → Nat} {good : List UInt8 → Prop} {r : Reach} {b0 : Nat} {t : TypeId} {v : Value} {d : DataW H} {ps : List MemPlace} (ht : P.underlying t = some .string)
    (hr : RdE encH P w B t strE mass good) (hv : Value.okWide P w r b0 t v) (h : DataW.Trod encH P w 0 (fun _ => true) true t v d ps) :
    ∃ a, TR (startGh (fun b => b < w.heap.size) w.heap.size) [] w (.d (.str (S a))) v ∧ mass a ≤ B d ∧ good a := by
  obtain ⟨s, rfl⟩ := okWide_string ht hv
  obtain ⟨fuel, hf⟩ := h
  obtain ⟨ds, m, h1, ⟨a, rfl, rfl, hg⟩, h3⟩ := hr _ _ _ hf
  have hcs : (Value.string s).cells.toList = [.string s] := rfl
  rw [hcs] at h1
  cases h1 with
  | cons h1 _ => exact ⟨a, ⟨rfl, h1.2⟩, h3, hg⟩
end
end Go.R
