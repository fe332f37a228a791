/- Contracts of the library's functions, as this framework has them; lists as rows. -/
import Derived.Test.YtgpicngmadkdoaaDoorRSimp
import Derived.Test.YtgpicngmadkdoaaDoorRKeep
import Derived.Below
set_option linter.unusedVariables false
set_option linter.unusedSimpArgs false
namespace Go.R
open Go.RowKit

theorem Wx.below {w w' : World} (h : Below w.heap.size w w') (ch : Nat → Prop) : Wx w w' ch :=
  ⟨h.os, h.tape, h.output, h.size, fun b hb _ => h.block b hb, fun b c t hc => ⟨c, by rw [h.block b (lt_of_heap hc)]; exact hc, rfl⟩⟩

def D.val : D → Option Value
  | .int k n => some (.int k n)
  | .bool b => some (.bool b)
  | .str s => some (.string s)
  | _ => none

theorem heapOk_nil {ok : Nat → Prop} {w w' : World} (hok : ∀ b, ok b → b < w.heap.size) (hs : w.heap.size ≤ w'.heap.size) : HeapOk (startGh ok w.heap.size) [] w' :=
  ⟨fun {id p R} hn => absurd hn.lt (Nat.not_lt_zero _), fun {id p R b o id' p' R' o'} hn => absurd hn.lt (Nat.not_lt_zero _), fun {id p R b o} hn => absurd hn.lt (Nat.not_lt_zero _), fun h => Nat.lt_of_lt_of_le h hs, fun h => hok _ h, fun {id p R i f} hn => absurd hn.lt (Nat.not_lt_zero _)⟩

theorem fnSem_scalar {P : Program} {g : Nat} {ts : List T} {x : D} {v : Value} (hv : x.val = some v) (hco : callOk P g = true)
    (h : ∀ (ok : Nat → Prop) (w : World) (vs : List Value), Stand P w → (∀ b, ok b → b < w.heap.size) → F2 (TR (startGh ok w.heap.size) [] w) ts vs → Calls P g vs.toArray w fun e w' => e = .returned v ∧ Below w.heap.size w w') :
    FnSem P g ts fun t N => t = .d x ∧ N = [] := by
  refine ⟨hco, fun ok w vs hst hok hargs => (h ok w vs hst hok hargs).mono fun e w' ⟨he, hb⟩ => ⟨v, .d x, [], startGh ok w.heap.size, he, ⟨rfl, rfl⟩, Wx.below hb _, fun b h => h, fun b h => .inl h, heapOk_nil hok hb.size, fun {id p R b o} hn => absurd hn.lt (Nat.not_lt_zero _), ?_, ?_, fun id cs h => by simp at h⟩⟩
  · cases x <;> simp only [D.val, Option.some.injEq, reduceCtorEq] at hv <;> subst hv <;> exact ⟨rfl, rfl⟩
  · cases x <;> simp only [D.val, reduceCtorEq] at hv <;> rfl

/-! ### lists as rows -/
theorem rowsD_get (rows : List (List D)) (i f : Nat) : rowsD rows i f = (rows.getD i []).getD f .dead := rfl
theorem rowsD_map {α : Type} [Inhabited α] (enc : α → List D) (l : List α) {i : Nat} (f : Nat) (h : i < l.length) : rowsD (l.map enc) i f = (enc (l.getD i default)).getD f .dead := by
  simp [rowsD, List.getD_eq_getElem?_getD, List.getElem?_eq_getElem h]
theorem rowsD_cons_zero (r : List D) (rs : List (List D)) (f : Nat) : rowsD (r :: rs) 0 f = r.getD f .dead := rfl
theorem rowsD_cons_succ (r : List D) (rs : List (List D)) (i f : Nat) : rowsD (r :: rs) (i + 1) f = rowsD rs i f := rfl
theorem rowsD_nil : rowsD [] = fun _ _ => .dead := by funext i f; rfl
theorem appendAt_rows (a b : List (List D)) (n : Nat) (h : a.length = n) : appendAt n (rowsD a) (rowsD b) = rowsD (a ++ b) := by
  subst h
  funext i f
  simp only [appendAt, rowsD, List.getD_eq_getElem?_getD]
  by_cases hi : i < a.length
  · rw [if_pos hi, List.getElem?_append_left hi]
  · rw [if_neg hi, List.getElem?_append_right (by omega)]
theorem subAt_rows (a : List (List D)) (off n : Nat) : subAt off n (rowsD a) = rowsD ((a.drop off).take n) := by
  funext i f
  simp only [subAt, rowsD, List.getD_eq_getElem?_getD]
  by_cases hi : i < n
  · rw [if_pos hi, List.getElem?_take_of_lt hi, List.getElem?_drop]
  · rw [if_neg hi, List.getElem?_eq_none (Nat.le_trans (List.length_take_le _ _) (Nat.le_of_not_lt hi))]; rfl
theorem shiftAt_rows (a : List (List D)) (off : Nat) : shiftAt off (rowsD a) = rowsD (a.drop off) := by
  funext i f
  rw [shiftAt_eq]
  simp only [rowsD, List.getD_eq_getElem?_getD, List.getElem?_drop]
theorem setList_at (cs vs : List D) (f i : Nat) (h : f + vs.length ≤ cs.length) : (setList cs f vs).getD i .dead = if f ≤ i ∧ i < f + vs.length then vs.getD (i - f) .dead else cs.getD i .dead := by
  induction vs generalizing cs f with
  | nil => rw [if_neg (by simp only [List.length_nil]; omega)]; rfl
  | cons v vs ih =>
    simp only [setList]
    rw [ih _ _ (by simp at h ⊢; omega)]
    simp only [List.length_cons] at h ⊢
    by_cases h1 : i = f
    · subst h1
      rw [if_neg (by omega), if_pos ⟨Nat.le_refl _, by omega⟩]
      simp [List.getD_eq_getElem?_getD, List.getElem?_set, show i < cs.length by omega]
    · by_cases h2 : f + 1 ≤ i ∧ i < f + 1 + vs.length
      · rw [if_pos h2, if_pos ⟨by omega, by omega⟩, show i - f = i - (f + 1) + 1 by omega, List.getD_cons_succ]
      · rw [if_neg h2, if_neg (by omega)]
        simp [List.getD_eq_getElem?_getD, List.getElem?_set_ne (Ne.symm h1)]
theorem setAt_rows (a : List (List D)) (i f : Nat) (vs : List D) (hi : i < a.length) (hf : f + vs.length ≤ (a.getD i []).length) : setAt (rowsD a) i f vs = rowsD (a.set i (setList (a.getD i []) f vs)) := by
  funext j g
  simp only [setAt, rowsD]
  by_cases h : j = i
  · subst h
    rw [if_pos rfl, show (a.set j (setList (a.getD j []) f vs)).getD j [] = setList (a.getD j []) f vs by simp [List.getD_eq_getElem?_getD, List.getElem?_set, hi], setList_at _ _ _ _ hf]
  · rw [if_neg h]
    simp [List.getD_eq_getElem?_getD, List.getElem?_set_ne (Ne.symm h)]
theorem make_rows (n : Nat) (z : List D) : (fun i f => if i < n then z.getD f .dead else .dead) = rowsD (List.replicate n z) := by
  funext i f
  simp only [rowsD, List.getD_eq_getElem?_getD, List.getElem?_replicate]
  by_cases h : i < n
  · simp [h]
  · simp [h]
theorem ro_rows (a : List (List D)) : (fun i f => (rowsD a i f).ro) = rowsD (a.map (·.map D.ro)) := by
  funext i f
  simp only [rowsD, List.getD_eq_getElem?_getD, List.getElem?_map]
  cases a[i]? with
  | none => rfl
  | some r =>
    simp only [Option.map_some, Option.getD_some, List.getElem?_map]
    cases r[f]? <;> rfl
theorem subAt_dead (o n : Nat) : subAt o n (fun _ _ => .dead) = fun _ _ => .dead := by
  funext i f; simp [subAt]
theorem ro_sub_rows (a : List (List D)) (off n : Nat) : (fun i f => (subAt off n (rowsD a) i f).ro) = rowsD (((a.drop off).take n).map (·.map D.ro)) := by
  rw [subAt_rows]; exact ro_rows _

theorem drop_mapE {α : Type} (f : α → List D) (l : List α) (i : Nat) : (l.map f).drop i = (l.drop i).map f := (List.map_drop ..).symm
theorem take_mapE {α : Type} (f : α → List D) (l : List α) (i : Nat) : (l.map f).take i = (l.take i).map f := (List.map_take ..).symm
theorem append_mapE {α : Type} (f : α → List D) (l : List α) (x : α) (r : List D) (h : f x = r) : l.map f ++ [r] = (l ++ [x]).map f := by simp [h]
theorem app_rows {α : Type} (f : α → List D) (l : List α) (n : Nat) (r : List (List D)) (h : l.length = n) : appendAt n (rowsD (l.map f)) (rowsD r) = rowsD (l.map f ++ r) := appendAt_rows _ _ _ (by simpa using h)
/-! ### lists of numbers, strings -/
def intE (n : Int) : List D := [.int .i64 n]
def byteE (n : UInt8) : List D := [.int .u8 n.toNat]
def strE (s : List UInt8) : List D := [.str (S s)]
theorem ro_ints (l : List Int) : (l.map intE).map (List.map D.ro) = l.map intE := by simp [intE, D.ro]
theorem ro_bytes (l : List UInt8) : (l.map byteE).map (List.map D.ro) = l.map byteE := by simp [byteE, D.ro]
theorem ro_strs (l : List (List UInt8)) : (l.map strE).map (List.map D.ro) = l.map strE := by simp [strE, D.ro]
/-- A list's element, as a row. -/
theorem row_get {α : Type} [Inhabited α] {enc : α → List D} {l : List α} {i : Nat} {f : Nat} (h : i < l.length) : rowsD (l.map enc) i f = (enc (l.getD i default)).getD f .dead := rowsD_map enc l f h
/-- A slice that somebody has who only reads. -/
def roL {α : Type} (enc : α → List D) (sz : Nat) (l : List α) : D := .sl false sz l.length (rowsD (l.map enc))
/-- A slice in a cell that is owned. -/
def owL {α : Type} (enc : α → List D) (sz : Nat) (l : List α) : D := .sl true sz l.length (rowsD (l.map enc))
def arrL {α : Type} (enc : α → List D) (sz : Nat) (l : List α) : Obj := .arr sz l.length (rowsD (l.map enc))
/-- What a function gives that gives a new slice. -/
def newL {α : Type} (enc : α → List D) (sz : Nat) (l : List α) (t : T) (N : Heap) : Prop := t = .d (.own 0 [] l.length 0 l.length) ∧ N = [some (arrL enc sz l)]
theorem drop_getD {α : Type} (l : List α) (x : α) {i : Nat} (h : i < l.length) : l.drop i = l.getD i x :: l.drop (i + 1) := by
  rw [List.drop_eq_getElem_cons h, List.getD_eq_getElem?_getD, List.getElem?_eq_getElem h]; rfl
theorem ext_getD {α : Type} {x : α} {a b : List α} (hl : a.length = b.length) (h : ∀ j, j < a.length → a.getD j x = b.getD j x) : a = b := by
  apply List.ext_getElem hl
  intro i h1 h2
  have := h i h1
  simpa [List.getD_eq_getElem?_getD, h1, h2] using this

theorem take_snoc {α : Type} (l : List α) (x : α) {i : Nat} (h : i < l.length) : l.take (i + 1) = l.take i ++ [l.getD i x] := by
  rw [List.take_succ_eq_append_getElem h, List.getD_eq_getElem?_getD, List.getElem?_eq_getElem h]; rfl
/-- A row that is filled, one element further. -/
theorem fill_step {α : Type} [Inhabited α] {enc : α → List D} {l : List α} {z vs : List D} {i n sz : Nat} (hn : l.length = n) (hi : i < n) (hz : z.length = sz) (hv : vs = enc (l.getD i default)) (he : vs.length = sz) :
    setAt (rowsD ((l.take i).map enc ++ List.replicate (n - i) z)) i 0 vs = rowsD ((l.take (i + 1)).map enc ++ List.replicate (n - (i + 1)) z) := by
  subst hn
  have hget : ((l.take i).map enc ++ List.replicate (l.length - i) z).getD i [] = z := by
    rw [List.getD_eq_getElem?_getD, List.getElem?_append_right (by simp; omega)]
    simp [Nat.min_eq_left (Nat.le_of_lt hi), List.getElem?_replicate, show 0 < l.length - i by omega]
  rw [setAt_rows _ _ _ _ (by simp; omega) (by rw [hget]; omega), hget]
  congr 1
  have hset : setList z 0 vs = vs := by
    apply ext_getD (x := .dead)
    · rw [setList_length]; omega
    · intro j hj
      rw [setList_length] at hj
      rw [setList_at _ _ _ _ (by omega), if_pos ⟨Nat.zero_le _, by omega⟩, Nat.sub_zero]
  rw [hset, List.set_append_right _ _ (by simp; omega)]
  have e1 : i - ((l.take i).map enc).length = 0 := by simp; omega
  rw [e1]
  obtain ⟨m, hm⟩ : ∃ m, l.length - i = m + 1 := ⟨l.length - i - 1, by omega⟩
  rw [hm, show l.length - (i + 1) = m by omega, List.replicate_succ, List.set_cons_zero, List.take_succ_eq_append_getElem hi, List.map_append, hv]
  simp [List.getD_eq_getElem?_getD, hi]

/-! ### numbers -/
theorem wrap64 {x : Int} (h1 : -9223372036854775808 ≤ x) (h2 : x ≤ 9223372036854775807) : IntKind.i64.wrap x = x := by
  rw [IntKind.wrap_i64]; omega
theorem wrap8 {x : Int} (h1 : 0 ≤ x) (h2 : x ≤ 255) : IntKind.u8.wrap x = x := by
  simp [IntKind.wrap, IntKind.bits, IntKind.signed]; omega
theorem iadd64 {x y : Int} (h1 : -9223372036854775808 ≤ x + y) (h2 : x + y ≤ 9223372036854775807) : iadd .i64 x y = x + y := by rw [iadd_eq, wrap64 h1 h2]
theorem isub64 {x y : Int} (h1 : -9223372036854775808 ≤ x - y) (h2 : x - y ≤ 9223372036854775807) : isub .i64 x y = x - y := by rw [isub_eq, wrap64 h1 h2]
theorem imul64 {x y : Int} (h1 : -9223372036854775808 ≤ x * y) (h2 : x * y ≤ 9223372036854775807) : imul .i64 x y = x * y := by rw [imul_eq, wrap64 h1 h2]
theorem ilt_t {x y : Int} (h : x < y) : ilt x y = true := by rw [ilt_eq]; exact decide_eq_true h
theorem ilt_f {x y : Int} (h : ¬ x < y) : ilt x y = false := by rw [ilt_eq]; exact decide_eq_false h
theorem ile_t {x y : Int} (h : x ≤ y) : ile x y = true := by rw [ile_eq]; exact decide_eq_true h
theorem ile_f {x y : Int} (h : ¬ x ≤ y) : ile x y = false := by rw [ile_eq]; exact decide_eq_false h
theorem ieq_t {x y : Int} (h : x = y) : ieq x y = true := by rw [ieq_eq]; exact beq_iff_eq.2 h
theorem ieq_f {x y : Int} (h : ¬ x = y) : ieq x y = false := by rw [ieq_eq]; exact beq_eq_false_iff_ne.2 h
theorem inc64 {i : Nat} (h : i < 9223372036854775807) : iadd .i64 (i : Int) 1 = ((i + 1 : Nat) : Int) := by rw [iadd64 (by omega) (by omega)]; omega
/-- A loop: an invariant, and a measure. -/
theorem loopI {Fn : FnT} {In : InT} {c : MC} {s : St} {Kx : Nat → St → Prop} {Kr : St → Prop} (I : Nat → St → Prop) (k0 : Nat) (s0 : St) (hsh : Shift s s0) (hI : I k0 s0)
    (h : ∀ k s, I k s → ev Fn In Shift c s (fun s' => ∃ s2 k', Shift s' s2 ∧ k' < k ∧ I k' s2) Kx Kr) :
    ∃ I : Nat → St → Prop, (∃ s0 k, Shift s s0 ∧ I k s0) ∧ ∀ k s, I k s → ev Fn In Shift c s (fun s' => ∃ s2 k', Shift s' s2 ∧ k' < k ∧ I k' s2) Kx Kr :=
  ⟨I, ⟨s0, k0, hsh, hI⟩, h⟩
theorem next {I : Nat → St → Prop} {s : St} {k : Nat} (k' : Nat) (s2 : St) (hlt : k' < k) (hsh : Shift s s2) (hI : I k' s2) : ∃ s2 k', Shift s s2 ∧ k' < k ∧ I k' s2 := ⟨s2, k', hsh, hlt, hI⟩
/-- int64's range. -/
def I64 (x : Int) : Prop := -9223372036854775808 ≤ x ∧ x ≤ 9223372036854775807

/-! ### strings -/
theorem S_add (a b : List UInt8) : S a ++ S b = S (a ++ b) := by
  apply ByteArray.ext
  simp [S]
theorem S_size (a : List UInt8) : (S a).size = a.length := by simp [S, ByteArray.size]
theorem S_eq (s : ByteArray) : s = S s.data.toList := by
  apply ByteArray.ext
  simp [S]
theorem S_inj {a b : List UInt8} (h : S a = S b) : a = b := by
  have := congrArg (fun s => s.data.toList) h
  simpa [S] using this
theorem S_get (a : List UInt8) (i : Nat) : (S a).data.getD i 0 = a.getD i 0 := by simp [S, Array.getD_eq_getD_getElem?, List.getD_eq_getElem?_getD]
theorem S_extract (a : List UInt8) (i j : Nat) : (S a).extract i j = S ((a.take j).drop i) := by
  apply ByteArray.ext
  simp [S, ByteArray.data_extract, List.extract_eq_take_drop, List.drop_take]
theorem S_toList (a : List UInt8) : (S a).toList = a := by simp [S, ByteArray.toList_eq]
theorem strEq_S (a b : List UInt8) : strEq (S a) (S b) = decide (a = b) := by
  unfold strEq
  rw [S_toList, S_toList]
  by_cases h : a = b
  · simp [h]
  · simp [h]

/-- A function of the library that gives a new row of strings. -/
theorem fnSem_newStrs {P : Program} {g : Nat} {ts : List T} {l : List (List UInt8)} {ty : TypeId} (hco : callOk P g = true)
    (h : ∀ (ok : Nat → Prop) (w : World) (vs : List Value), Stand P w → (∀ b, ok b → b < w.heap.size) → F2 (TR (startGh ok w.heap.size) [] w) ts vs → Calls P g vs.toArray w fun e w' => e = .returned (.slice (some ⟨w.heap.size, 0, none⟩) l.length l.length) ∧ w' = w.alloc (.cells ((l.map S).map Value.string).toArray ty)) :
    FnSem P g ts (newL strE 1 l) := by
  refine ⟨hco, fun ok w vs hst hok hargs => (h ok w vs hst hok hargs).mono fun e w' ⟨he, hw⟩ => ?_⟩
  subst hw
  have hh := heapOk_nil hok (Nat.le_refl w.heap.size)
  have hq := QRes.alloc (t := .d (.own 0 [] l.length 0 l.length)) (v := .slice (some ⟨w.heap.size, 0, none⟩) l.length l.length) hh (arrL strE 1 l) ((l.map S).map Value.string).toArray ty (by simp [arrL, Obj.rows]) (fun i f hi hf => by
    simp only [arrL, Obj.rows] at hi hf ⊢
    obtain rfl : f = 0 := by omega
    refine ⟨.string (S (l.getD i [])), ?_, rfl, ?_⟩
    · simp [List.getD_eq_getElem?_getD, hi]
    · have e : rowsD (l.map strE) i 0 = .str (S (l.getD i [])) := row_get hi
      rw [e]
      exact rfl) (fun _ i f hi hf => by
    simp only [arrL, Obj.rows] at hi hf ⊢
    obtain rfl : f = 0 := by omega
    have e : rowsD (l.map strE) i 0 = .str (S (l.getD i [])) := row_get hi
    rw [e]; rfl) (by
    refine ⟨rfl, by simp, fun R hR hn => ?_⟩
    have hRs : R = ⟨1, l.length, rowsD (l.map strE)⟩ := by
      have h1 := hR.1
      simp only [nodeR, List.nil_append, List.getD_cons_zero, nodeIn, arrL, Obj.rows] at h1
      injection h1 with h1
      exact h1.symm
    have hμ : ((startGh ok w.heap.size).plus ([] : Heap).length w.heap.size).μ 0 [] = some (w.heap.size, 0) := rfl
    rw [hμ, hRs]
    refine ⟨some ⟨w.heap.size, 0, none⟩, l.length, rfl, by simp, by simp, ⟨((l.map S).map Value.string).toArray, ty, ?_, by simp⟩, .inr (by simp)⟩
    show (w.heap.push _)[w.heap.size]? = _
    simp)
  refine ⟨_, _, _, _, he, ⟨rfl, rfl⟩, hq.wx, fun b h => h, fun b h => hq.okNew b h, hq.heap, fun {id p R b o} hn hb => hq.fresh (Nat.zero_le _) hn hb, hq.val, rfl, fun id cs h => ?_⟩
  cases id with
  | zero => simp [arrL] at h
  | succ id => simp at h
end Go.R
