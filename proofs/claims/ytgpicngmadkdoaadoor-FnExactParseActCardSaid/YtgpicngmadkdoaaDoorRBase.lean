/- The framework's base: abstract values, a compact code, and 'ev', a weakest precondition on symbolic states. -/
import Derived.Calls
import Derived.Laws.Entries
set_option linter.unusedVariables false
namespace Go.R

/-- One cell's abstract value. 'sl o sz n f': a slice as a tree (o: owned, it stands in a cell; else read only). -/
inductive D where
  | int (k : IntKind) (n : Int)
  | bool (b : Bool)
  | str (s : ByteArray)
  | sl (o : Bool) (sz n : Nat) (at_ : Nat → Nat → D)
  | own (id : Nat) (path : List (Nat × Nat)) (tot off len : Nat)
  | e0 (sz : Nat)
  | ptr (id : Nat) (path : List (Nat × Nat)) (tot i f : Nat)
  | rp (sz : Nat) (row : Nat → D) (f : Nat)
  | nilp
  | fn (g : Nat) (caps : List Nat)
  | rfn (g n : Nat) (szs : Nat → Nat) (rows : Nat → Nat → D)
  | dead
instance : Inhabited D := ⟨.dead⟩

inductive T where
  | d (x : D)
  | agg (cs : List D)
  | tup (ts : List T)
instance : Inhabited T := ⟨.d .dead⟩

structure Rows where
  sz : Nat
  n : Nat
  at_ : Nat → Nat → D

inductive Obj where
  | box (cs : List D)
  | arr (sz n : Nat) (at_ : Nat → Nat → D)

abbrev Heap := List (Option Obj)
abbrev Path := List (Nat × Nat)

def Obj.rows : Obj → Rows
  | .box cs => ⟨cs.length, 1, fun _ f => cs.getD f .dead⟩
  | .arr sz n a => ⟨sz, n, a⟩

def nodeIn : Path → Rows → Option Rows
  | [], R => some R
  | (i, f) :: p, R => match R.at_ i f with
    | .sl true sz n a => nodeIn p ⟨sz, n, a⟩
    | _ => none

def nodeR (H : Heap) (id : Nat) (p : Path) : Option Rows :=
  match H.getD id none with
  | some o => nodeIn p o.rows
  | none => none

/-- Every step of the path is in range. -/
def pathIn : Path → Rows → Prop
  | [], _ => True
  | (i, f) :: p, R => i < R.n ∧ f < R.sz ∧ match R.at_ i f with
    | .sl true sz n a => pathIn p ⟨sz, n, a⟩
    | _ => False
def pathOk (H : Heap) (id : Nat) (p : Path) : Prop :=
  match H.getD id none with
  | some o => pathIn p o.rows
  | none => False

/-! ### reading -/
/-- What a cell of node (id, p) gives when it is loaded. -/
def loadCell (id : Nat) (p : Path) (i f : Nat) (x : D) : D := match x with
  | .sl true _ n _ => .own id (p ++ [(i, f)]) n 0 n
  | x => x
/-- A value for somebody who only reads. -/
def D.ro : D → D
  | .sl _ sz n a => .sl false sz n fun i f => (a i f).ro
  | .own .. => .dead
  | .ptr .. => .dead
  | .fn .. => .dead
  | .rp .. => .dead
  | .rfn .. => .dead
  | x => x
def shiftAt (off : Nat) (a : Nat → Nat → D) : Nat → Nat → D := match off with
  | 0 => a
  | n + 1 => fun i f => a (n + 1 + i) f
/-- A piece of rows, and nothing behind it. -/
def subAt (off len : Nat) (a : Nat → Nat → D) : Nat → Nat → D := fun i f => if i < len then a (off + i) f else .dead
/-- Rows out of a list. -/
def rowsD (rows : List (List D)) : Nat → Nat → D := fun i f => (rows.getD i []).getD f .dead
def chunk (sz : Nat) : Nat → List D → List (List D)
  | 0, _ => []
  | n + 1, l => l.take sz :: chunk sz n (l.drop sz)
/-- The elements of a slice value, to be read: size, how many, which; and what must be so. -/
structure View where
  sz : Nat
  n : Nat
  at_ : Nat → Nat → D
  ok : Prop
def view (H : Heap) : D → Option View
  | .sl _ sz n a => some ⟨sz, n, a, True⟩
  | .e0 sz => some ⟨sz, 0, fun _ _ => .dead, True⟩
  | .own id p tot off len => match nodeR H id p with
    | some R => some ⟨R.sz, len, fun i f => (subAt off len R.at_ i f).ro, pathOk H id p ∧ R.n = tot ∧ off + len ≤ tot⟩
    | none => none
  | _ => none

/-! ### writing -/
def setAt (a : Nat → Nat → D) (i f : Nat) (vs : List D) : Nat → Nat → D := fun i' f' =>
  if i' = i then (if f ≤ f' ∧ f' < f + vs.length then vs.getD (f' - f) .dead else a i f') else a i' f'
def setIn : Path → (Nat → Nat → D) → Nat → Nat → List D → (Nat → Nat → D)
  | [], a, i, f, vs => setAt a i f vs
  | (j, g) :: p, a, i, f, vs => match a j g with
    | .sl o sz n b => setAt a j g [.sl o sz n (setIn p b i f vs)]
    | _ => a
def setList (cs : List D) (f : Nat) : List D → List D
  | [] => cs
  | v :: vs => setList (cs.set f v) (f + 1) vs
def Obj.put (o : Obj) (p : Path) (i f : Nat) (vs : List D) : Obj := match o with
  | .box cs => match p with
    | [] => .box (setList cs f vs)
    | (j, g) :: q => match cs.getD g .dead with
      | .sl o sz n b => .box (cs.set g (.sl o sz n (setIn q b i f vs)))
      | _ => .box cs
  | .arr sz n a => .arr sz n (setIn p a i f vs)
def Heap.put (H : Heap) (id : Nat) (p : Path) (i f : Nat) (vs : List D) : Heap := match H.getD id none with
  | some o => H.set id (some (o.put p i f vs))
  | none => H

def thruPath : Path → Nat → Path → Bool
  | [], f, (_, g) :: _ => g == f
  | (_, g) :: q, f, (_, g') :: q' => g == g' && thruPath q f q'
  | _, _, [] => false
/-- Does a handle lead through cell f of a row of node (id, p)? (told by the columns alone) -/
def D.thru (id : Nat) (p : Path) (f : Nat) : D → Bool
  | .own j q _ _ _ => j == id && thruPath p f q
  | .ptr j q _ _ _ => j == id && thruPath p f q
  | _ => false
def D.kill (q : D → Bool) (x : D) : D := if q x then .dead else x
def T.kill (q : D → Bool) : T → T
  | .d x => .d (x.kill q)
  | .agg cs => .agg (cs.map (D.kill q))
  | .tup ts => .tup (ts.map fun t => match t with | .d x => .d (x.kill q) | .agg cs => .agg (cs.map (D.kill q)) | t => t)
def Obj.kill (q : D → Bool) : Obj → Obj
  | .box cs => .box (cs.map (D.kill q))
  | o => o
def Heap.kill (q : D → Bool) (H : Heap) : Heap := H.map fun o => o.map (Obj.kill q)

/-- What is put into a cell: a handle's tree moves there. -/
structure Taken where
  v : D
  H : Heap
  moved : Bool
  ok : Prop
def splitLast : Path → Option (Path × Nat × Nat)
  | [] => none
  | [x] => some ([], x.1, x.2)
  | x :: p => match splitLast p with
    | some (q, y) => some (x :: q, y)
    | none => none
def Heap.drop_ (H : Heap) (id : Nat) (p : Path) : Heap := match splitLast p with
  | none => H.set id none
  | some (q, i, f) => H.put id q i f [.dead]
/-- No box's own row. -/
def arrAt (H : Heap) (id : Nat) (p : Path) : Prop := match p with
  | [] => match H.getD id none with
    | some (.box _) => False
    | _ => True
  | _ => True
def take_ (H : Heap) : D → Option Taken
  | .own id p tot off len => match nodeR H id p with
    | some R => some ⟨.sl true R.sz len (subAt off len R.at_), H.drop_ id p ++ [none], true, pathOk H id p ∧ R.n = tot ∧ off + len ≤ tot ∧ arrAt H id p⟩
    | none => none
  | .e0 sz => some ⟨.sl true sz 0 fun _ _ => .dead, H ++ [none], true, True⟩
  | .sl _ sz n a => some ⟨.sl false sz n a, H, false, True⟩
  | .int k n => some ⟨.int k n, H, false, True⟩
  | .bool b => some ⟨.bool b, H, false, True⟩
  | .str s => some ⟨.str s, H, false, True⟩
  | .nilp => some ⟨.nilp, H, false, True⟩
  | .dead => some ⟨.dead, H, false, True⟩
  | _ => none
def takeAll : List D → Heap → Option (List D × Heap × List Bool × Prop)
  | [], H => some ([], H, [], True)
  | x :: xs, H => match take_ H x with
    | some t => match takeAll xs t.H with
      | some (vs, H', ms, ok) => some (t.v :: vs, H', t.moved :: ms, t.ok ∧ ok)
      | none => none
    | none => none

/-! ### code -/
inductive Opd where
  | t (n : Nat)
  | c (x : T)
inductive BK where
  | int (k : IntKind)
  | bool
  | str
  | agg (ks : List BK)
/-- A cell's value that is stored without a move. -/
def D.still : D → Bool
  | .int .. => true
  | .bool .. => true
  | .str .. => true
  | .nilp => true
  | .sl false _ _ _ => true
  | _ => false
inductive CK where
  | int (k : IntKind)
  | str
  | bytes
inductive MOp where
  | mv (x : Opd)
  | nil_ (sz : Nat)
  | pick (c a b : Opd)
  | alloc (z : List D)
  | box (x : Opd)
  | build (z : List D) (parts : List (Nat × Nat × Opd))
  | mkSl (mv : Bool) (sz : Nat) (z : List D) (len : Nat) (parts : List (Nat × Opd))
  | load (n : Option Nat) (x : Opd)
  | store (n : Nat) (x v : Opd)
  | bin (b : BinOp) (k : BK) (x y : Opd)
  | shift (b : BinOp) (k k2 : IntKind) (x y : Opd)
  | un (u : UnOp) (k : BK) (x : Opd)
  | conv (c : CK) (x : Opd)
  | make (sz bytes : Nat) (z : List D) (x y : Opd)
  | slice (sz : Nat) (x : Opd) (lo hi mx : Option Opd)
  | substr (x : Opd) (lo hi : Option Opd)
  | fieldAddr (off : Nat) (x : Opd)
  | field (off : Nat) (n : Option Nat) (x : Opd)
  | indexAddr (sz : Nat) (x i : Opd)
  | strIdx (x i : Opd)
  | extract (i : Nat) (x : Opd)
  | len (str : Bool) (x : Opd)
  | minmax (mx : Bool) (x y : Opd)
  | append (sz bytes : Nat) (mv : Bool) (x y : Opd)
  | copy (sz : Nat) (x y : Opd)
  | clear (sz : Nat) (z : List D) (x : Opd)
  | nilCheck (x : Opd)
  | mkFn (g : Nat) (caps : List Opd)
  | call (g : Nat) (args : List Opd)
  | callR (f : Opd) (args : List Opd)
  | callF (f : Opd) (args : List Opd)
structure MI where
  dst : Option Nat
  guard : Option (Nat × Bool)
  op : MOp
inductive MC where
  | skip
  | reg (ops : List MI)
  | draw (m : MC)
  | alt (a b : MC)
  | seq (a b : MC)
  | cond (c : Opd) (a b : MC)
  | block (id : Nat) (b : MC)
  | loop (b : MC)
  | exit (id : Nat)
  | ret
/-- The symbolic state: this frame's temporaries, the roots, the temporaries of the frames that wait. -/
structure St where
  ts : List T
  H : Heap
  up : List (List T) := []
/-- A call that may change memory: 'In g args H up Post'. -/
abbrev InT := Nat → List T → Heap → List (List T) → (T → Heap → List (List T) → Prop) → Prop

def Opd.get (ts : List T) : Opd → T
  | .t n => ts.getD n (.d .dead)
  | .c x => x
def T.cells : T → List D
  | .d x => [x]
  | .agg cs => cs
  | .tup _ => []
def T.known : T → Bool
  | .d .dead => false
  | .d _ => true
  | .agg _ => true
  | .tup _ => false
def T.one : T → D
  | .d x => x
  | _ => .dead

/-! ### arithmetic -/
@[irreducible] def ilt (x y : Int) : Bool := decide (x < y)
@[irreducible] def ile (x y : Int) : Bool := decide (x ≤ y)
@[irreducible] def ieq (x y : Int) : Bool := x == y
@[irreducible] def iadd (k : IntKind) (x y : Int) : Int := k.wrap (x + y)
@[irreducible] def isub (k : IntKind) (x y : Int) : Int := k.wrap (x - y)
@[irreducible] def imul (k : IntKind) (x y : Int) : Int := k.wrap (x * y)
theorem ilt_eq (x y : Int) : ilt x y = decide (x < y) := by unfold ilt; rfl
theorem ile_eq (x y : Int) : ile x y = decide (x ≤ y) := by unfold ile; rfl
theorem ieq_eq (x y : Int) : ieq x y = (x == y) := by unfold ieq; rfl
theorem iadd_eq (k : IntKind) (x y : Int) : iadd k x y = k.wrap (x + y) := by unfold iadd; rfl
theorem isub_eq (k : IntKind) (x y : Int) : isub k x y = k.wrap (x - y) := by unfold isub; rfl
theorem imul_eq (k : IntKind) (x y : Int) : imul k x y = k.wrap (x * y) := by unfold imul; rfl
def binInt (b : BinOp) (k : IntKind) (x y : Int) : Option D := match b with
  | .add => some (.int k (iadd k x y))
  | .sub => some (.int k (isub k x y))
  | .mul => some (.int k (imul k x y))
  | .eql => some (.bool (ieq x y))
  | .neq => some (.bool (!ieq x y))
  | .lss => some (.bool (ilt x y))
  | .leq => some (.bool (ile x y))
  | .gtr => some (.bool (ilt y x))
  | .geq => some (.bool (ile y x))
  | .and => some (.int k (Go.bits .and k x y))
  | .or => some (.int k (Go.bits .or k x y))
  | _ => none
def strEq (a b : ByteArray) : Bool := a.toList == b.toList
def eqD : BK → D → D → Option Bool
  | .int k, .int k1 a, .int k2 b => if k1 = k ∧ k2 = k then some (a == b) else none
  | .bool, .bool a, .bool b => some (a == b)
  | .str, .str a, .str b => some (strEq a b)
  | _, _, _ => none
def eqDs : List BK → List D → List D → Option Bool
  | [], [], [] => some true
  | k :: ks, x :: xs, y :: ys => match eqD k x y, eqDs ks xs ys with
    | some a, some b => some (a && b)
    | _, _ => none
  | _, _, _ => none
def optInt : Option T → Int → Int
  | some (.d (.int _ n)), _ => n
  | _, d => d
def optOk : Option T → Bool
  | some (.d (.int _ _)) => true
  | none => true
  | _ => false
def isEq : BinOp → Bool
  | .eql => true
  | _ => false

/-! ### calls -/
/-- What a function that keeps memory as it is gives: 'Fn g args Post': a value, and trees of its own. -/
abbrev FnT := Nat → List T → (T → Heap → Prop) → Prop
def D.isPlain : D → Bool
  | .own .. => false
  | .ptr .. => false
  | .rp .. => false
  | .fn .. => false
  | .rfn .. => false
  | _ => true
/-- A cell, as somebody has it who only reads. -/
def cellP (H : Heap) : D → D × Prop
  | .own id p tot off len => match nodeR H id p with
    | some R => (.sl false R.sz len fun i f => (subAt off len R.at_ i f).ro, pathOk H id p ∧ R.n = tot ∧ off + len ≤ tot)
    | none => (.dead, True)
  | x => (x.ro, True)
def cellsP (H : Heap) : List D → List D × Prop
  | [] => ([], True)
  | x :: xs => ((cellP H x).1 :: (cellsP H xs).1, (cellP H x).2 ∧ (cellsP H xs).2)
/-- Captured variables, as a callee has them that only reads. -/
def capsP (H : Heap) : List Nat → Option (List (Nat × (Nat → D)) × Prop)
  | [] => some ([], True)
  | c :: cs => match H.getD c none, capsP H cs with
    | some (.box bs), some (l, ok) => some ((bs.length, fun f' => (cellsP H bs).1.getD f' .dead) :: l, (cellsP H bs).2 ∧ ok)
    | _, _ => none
def rps : Nat → (Nat → Nat) → (Nat → Nat → D) → List T
  | 0, _, _ => []
  | n + 1, szs, rows => .d (.rp (szs 0) (rows 0) 0) :: rps n (fun k => szs (k + 1)) (fun k => rows (k + 1))
/-- An argument as a callee has it that only reads. -/
def D.param (H : Heap) : D → Option (D × Prop)
  | .own id p tot off len => match nodeR H id p with
    | some R => some (.sl false R.sz len fun i f => (subAt off len R.at_ i f).ro, pathOk H id p ∧ R.n = tot ∧ off + len ≤ tot)
    | none => none
  | .ptr id p tot i f => match H.getD id none with
    | some (.box cs) => match p with
      | [] => some (.rp cs.length (fun f' => (cellsP H cs).1.getD f' .dead) f, tot = 1 ∧ i = 0 ∧ (cellsP H cs).2)
      | _ => match nodeR H id p with
        | some R => some (.rp R.sz (fun f' => (R.at_ i f').ro) f, pathOk H id p ∧ R.n = tot ∧ i < tot)
        | none => none
    | _ => match nodeR H id p with
      | some R => some (.rp R.sz (fun f' => (R.at_ i f').ro) f, pathOk H id p ∧ R.n = tot ∧ i < tot)
      | none => none
  | .fn g caps => match capsP H caps with
    | some (l, ok) => some (.rfn g caps.length (fun k => (l.map (·.1)).getD k 0) (fun k => (l.map (·.2)).getD k fun _ => .dead), ok)
    | none => none
  | x => some (x, True)
def paramCells (H : Heap) : List D → Option (List D × Prop)
  | [] => some ([], True)
  | x :: xs => match x.param H, paramCells H xs with
    | some (y, a), some (ys, b) => some (y :: ys, a ∧ b)
    | _, _ => none
def T.param (H : Heap) : T → Option (T × Prop)
  | .d x => match x.param H with
    | some (y, a) => some (.d y, a)
    | none => none
  | .agg cs => match paramCells H cs with
    | some (ys, a) => some (.agg ys, a)
    | none => none
  | .tup _ => none
def params (H : Heap) : List T → Option (List T × Prop)
  | [] => some ([], True)
  | x :: xs => match x.param H, params H xs with
    | some (y, a), some (ys, b) => some (y :: ys, a ∧ b)
    | _, _ => none
def D.back (base : Nat) : D → D
  | .own j p tot off len => .own (base + j) p tot off len
  | x => x
def T.back1 (base : Nat) : T → T
  | .d x => .d (x.back base)
  | .agg cs => .agg (cs.map (D.back base))
  | t => t
def T.back (base : Nat) : T → T
  | .tup ts => .tup (ts.map (T.back1 base))
  | t => t.back1 base

/-- No read-only part, no pointer: a value that lies in blocks of its own alone. -/
def D.clean : D → Prop
  | .sl o sz n a => o = true ∧ ∀ i f, i < n → f < sz → (a i f).clean
  | .rp .. => False
  | .ptr .. => False
  | .fn .. => False
  | .rfn .. => False
  | _ => True
def T.clean : T → Prop
  | .d x => x.clean
  | .agg cs => ∀ x, x ∈ cs → x.clean
  | .tup ts => ∀ t, t ∈ ts → match t with | .d x => x.clean | .agg cs => ∀ x, x ∈ cs → x.clean | .tup _ => False
def Obj.clean : Option Obj → Prop
  | some (.arr sz n a) => ∀ i f, i < n → f < sz → (a i f).clean
  | some (.box _) => False
  | none => True
def D.closed : D → Bool
  | .own .. => false
  | .ptr .. => false
  | .fn .. => false
  | .sl true _ _ _ => false
  | _ => true
def T.closed : T → Bool
  | .d x => x.closed
  | .agg cs => cs.all D.closed
  | .tup _ => false
/-- A byte, and bytes as a string. -/
def D.isByte : D → Bool
  | .int .u8 _ => true
  | _ => false
def D.byte : D → UInt8
  | .int _ n => UInt8.ofNat n.toNat
  | _ => 0
def S (l : List UInt8) : ByteArray := ⟨l.toArray⟩
def bytesOfAt (n : Nat) (a : Nat → Nat → D) : ByteArray := S ((List.range n).map fun i => (a i 0).byte)
/-! ### one operation -/
def appendAt (n : Nat) (a b : Nat → Nat → D) : Nat → Nat → D := fun i f => if i < n then a i f else b (i - n) f
/-- Rows off .. off+n-1 of a are those of b. -/
def copyAt (sz : Nat) (a : Nat → Nat → D) (off n : Nat) (b : Nat → Nat → D) : Nat → Nat → D := fun i f => if off ≤ i ∧ i < off + n ∧ f < sz then b (i - off) f else a i f
def nodeSet : Path → (Nat → Nat → D) → (Nat → Nat → D) → (Nat → Nat → D)
  | [], _, b => b
  | (j, g) :: p, a, b => match a j g with
    | .sl o sz n c => setAt a j g [.sl o sz n (nodeSet p c b)]
    | _ => a
def Obj.setNode (o : Obj) (p : Path) (b : Nat → Nat → D) : Obj := match o with
  | .arr sz n a => .arr sz n (nodeSet p a b)
  | .box cs => match p with
    | [] => .box cs
    | (_, g) :: q => match cs.getD g .dead with
      | .sl o sz n c => .box (cs.set g (.sl o sz n (nodeSet q c b)))
      | _ => .box cs
def Heap.setNode (H : Heap) (id : Nat) (p : Path) (b : Nat → Nat → D) : Heap := match H.getD id none with
  | some o => H.set id (some (o.setNode p b))
  | none => H
def D.flat : D → Bool
  | .int .. => true
  | .bool .. => true
  | .str .. => true
  | _ => false
/-- What is appended or copied. -/
structure Srce where
  sz : Nat
  n : Nat
  at_ : Nat → Nat → D
  H : Heap
  ok : Prop
def source (H : Heap) (mv : Bool) : T → Option Srce
  | .d (.sl o sz n a) => some ⟨sz, n, a, H, o = false⟩
  | .d (.e0 sz) => some ⟨sz, 0, fun _ _ => .dead, H, True⟩
  | .d (.own id p tot off len) => match nodeR H id p with
    | some R => if mv then some ⟨R.sz, tot, R.at_, H.set id none, p = [] ∧ R.n = tot ∧ off = 0 ∧ len = tot ∧ arrAt H id p⟩
      else some ⟨R.sz, len, subAt off len R.at_, H, pathOk H id p ∧ R.n = tot ∧ off + len ≤ tot ∧ ∀ i f, i < R.n → f < R.sz → (R.at_ i f).flat = true⟩
    | none => none
  | _ => none
def capIds : List T → Option (List Nat)
  | [] => some []
  | .d (.ptr id [] 1 0 0) :: r => match capIds r with
    | some l => some (id :: l)
    | none => none
  | _ :: _ => none
def big : Nat := 1000000000000
section
variable (Fn : FnT) (In : InT)
inductive Tag {α : Type} (x : α) : Type
  | mk
/-- What comes behind a call. (simp does not look into C: the type of u hangs on it.) -/
def After (C : T → Heap → Prop) (u : Tag C) (Post : T → Heap → Prop) : Prop := ∀ t N, Post t N → C t N
def AfterR (C : T → Heap → List T → List (List T) → Prop) (u : Tag C) (Post : T → Heap → List (List T) → Prop) : Prop := ∀ t H' ts' up', Post t H' (ts' :: up') → C t H' ts' up'
def callQ (H : Heap) (g : Nat) (args : List T) (K : Heap → T → Prop) : Prop := match params H args with
  | some (as, ok) => ok ∧ ∃ Post, Fn g as Post ∧ After (fun t N => (args.all T.closed = true ∨ (t.clean ∧ ∀ o, o ∈ N → Obj.clean o)) ∧ K N (t.back H.length)) .mk Post
  | none => False
/-- What an operation that changes no memory gives: new roots, and a value. -/
def quiet (ts : List T) (H : Heap) : MOp → (Heap → T → Prop) → Prop
  | .mv x, K => K [] (x.get ts)
  | .nil_ sz, K => K [some (.arr sz 0 fun _ _ => .dead)] (.d (.own H.length [] 0 0 0))
  | .pick c a b, K => match c.get ts with
    | .d (.bool true) => K [] (a.get ts)
    | .d (.bool false) => K [] (b.get ts)
    | _ => False
  | .alloc z, K => K [some (.box z)] (.d (.ptr H.length [] 1 0 0))
  | .box x, K => (x.get ts).known = true ∧ K [some (.box (x.get ts).cells)] (.d (.ptr H.length [] 1 0 0))
  | .build z parts, K => (parts.all fun p => (p.2.2.get ts).known && (p.2.2.get ts).cells.length == p.2.1) = true ∧
    K [] (.agg (parts.foldl (fun cs p => setList cs p.1 (p.2.2.get ts).cells) z))
  | .mkSl false sz z len parts, K =>
    (parts.all fun p => decide (p.1 < len) && ((p.2.get ts).known && ((p.2.get ts).cells.length == sz && (p.2.get ts).cells.all D.still))) = true ∧
    K [some (.arr sz len (rowsD (chunk sz len (parts.foldl (fun cs p => setList cs (p.1 * sz) (p.2.get ts).cells) (List.replicate len z).flatten))))] (.d (.own H.length [] len 0 len))
  | .load n x, K => match x.get ts with
    | .d (.ptr id p tot i f) => match nodeR H id p with
      | some R => pathOk H id p ∧ R.n = tot ∧ i < tot ∧ f + n.getD 1 ≤ R.sz ∧ K [] (match n with
          | none => .d (loadCell id p i f (R.at_ i f))
          | some m => .agg ((List.range m).map fun j => loadCell id p i (f + j) (R.at_ i (f + j))))
      | none => False
    | .d (.rp sz row f) => f + n.getD 1 ≤ sz ∧ K [] (match n with | none => .d (row f) | some m => .agg ((List.range m).map fun j => row (f + j)))
    | _ => False
  | .bin b k x y, K => match k, x.get ts, y.get ts with
    | .int k, .d (.int k1 a), .d (.int k2 c) => match binInt b k a c with
      | some r => k1 = k ∧ k2 = k ∧ K [] (.d r)
      | none => match b with
        | .quo => k1 = k ∧ k2 = k ∧ c ≠ 0 ∧ K [] (.d (.int k (k.wrap (a.tdiv c))))
        | .rem => k1 = k ∧ k2 = k ∧ c ≠ 0 ∧ K [] (.d (.int k (a.tmod c)))
        | _ => False
    | .bool, .d (.bool a), .d (.bool c) => match b with
      | .eql => K [] (.d (.bool (a == c)))
      | .neq => K [] (.d (.bool (!(a == c))))
      | _ => False
    | .str, .d (.str a), .d (.str c) => match b with
      | .eql => K [] (.d (.bool (strEq a c)))
      | .neq => K [] (.d (.bool (!strEq a c)))
      | .add => a.size + c.size ≤ 9223372036854775807 ∧ K [] (.d (.str (a ++ c)))
      | _ => False
    | .agg ks, .agg xs, .agg ys => match eqDs ks xs ys with
      | some r => match b with
        | .eql => K [] (.d (.bool r))
        | .neq => K [] (.d (.bool (!r)))
        | _ => False
      | none => False
    | _, _, _ => False
  | .shift b k k2 x y, K => match x.get ts, y.get ts with
    | .d (.int k1 a), .d (.int k3 c) => k1 = k ∧ k3 = k2 ∧ 0 ≤ c ∧ (match b with
      | .shl => K [] (.d (.int k (k.wrap (a * 2 ^ (min c.toNat k.bits)))))
      | .shr => K [] (.d (.int k (a.fdiv (2 ^ (min c.toNat k.bits)))))
      | _ => False)
    | _, _ => False
  | .un u k x, K => match u, k, x.get ts with
    | .not, .bool, .d (.bool a) => K [] (.d (.bool (!a)))
    | .neg, .int k, .d (.int k1 a) => k1 = k ∧ K [] (.d (.int k (k.wrap (0 - a))))
    | _, _, _ => False
  | .conv c x, K => match c, x.get ts with
    | .int k, .d (.int _ a) => K [] (.d (.int k (k.wrap a)))
    | .str, .d (.str s) => K [] (.d (.str s))
    | .bytes, .d x => match view H x with
      | some v => v.ok ∧ v.sz = 1 ∧ (∀ i, i < v.n → (v.at_ i 0).isByte = true) ∧ K [] (.d (.str (bytesOfAt v.n v.at_)))
      | none => False
    | _, _ => False
  | .make sz bytes z x y, K => match x.get ts, y.get ts with
    | .d (.int _ n), .d (.int _ m) => 0 ≤ n ∧ n = m ∧ n ≤ big ∧ bytes ≤ 140 ∧ K [some (.arr sz n.toNat fun i f => if i < n.toNat then z.getD f .dead else .dead)] (.d (.own H.length [] n.toNat 0 n.toNat))
    | _, _ => False
  | .slice sz x lo hi mx, K => (optOk (lo.map (·.get ts)) && optOk (hi.map (·.get ts)) && mx.isNone) = true ∧ match x.get ts with
    | .d (.sl o sz2 n a) =>
      let l := optInt (lo.map (·.get ts)) 0
      let h := optInt (hi.map (·.get ts)) n
      o = false ∧ sz2 = sz ∧ 0 ≤ l ∧ l ≤ h ∧ h ≤ n ∧ K [] (.d (.sl false sz (h.toNat - l.toNat) (subAt l.toNat (h.toNat - l.toNat) a)))
    | .d (.own id p tot off n) =>
      let l := optInt (lo.map (·.get ts)) 0
      let h := optInt (hi.map (·.get ts)) n
      match nodeR H id p with
      | some R => pathOk H id p ∧ R.sz = sz ∧ R.n = tot ∧ 0 ≤ l ∧ l ≤ h ∧ h + off ≤ tot ∧ K [] (.d (.own id p tot (off + l.toNat) (h.toNat - l.toNat)))
      | none => False
    | .d (.e0 sz2) =>
      let l := optInt (lo.map (·.get ts)) 0
      let h := optInt (hi.map (·.get ts)) 0
      sz2 = sz ∧ l = 0 ∧ h = 0 ∧ K [] (.d (.e0 sz))
    | _ => False
  | .substr x lo hi, K => (optOk (lo.map (·.get ts)) && optOk (hi.map (·.get ts))) = true ∧ match x.get ts with
    | .d (.str s) =>
      let l := optInt (lo.map (·.get ts)) 0
      let h := optInt (hi.map (·.get ts)) s.size
      0 ≤ l ∧ l ≤ h ∧ h ≤ s.size ∧ K [] (.d (.str (s.extract l.toNat h.toNat)))
    | _ => False
  | .fieldAddr off x, K => match x.get ts with
    | .d (.ptr id p tot i f) => K [] (.d (.ptr id p tot i (f + off)))
    | .d (.rp sz row f) => K [] (.d (.rp sz row (f + off)))
    | _ => False
  | .field off n x, K => match x.get ts with
    | .agg cs => match n with
      | none => off < cs.length ∧ K [] (.d (cs.getD off .dead))
      | some m => off + m ≤ cs.length ∧ K [] (.agg ((cs.drop off).take m))
    | _ => False
  | .indexAddr sz x i, K => match x.get ts, i.get ts with
    | .d (.own id p tot off len), .d (.int _ z) => match nodeR H id p with
      | some R => pathOk H id p ∧ R.sz = sz ∧ R.n = tot ∧ 0 ≤ z ∧ z < len ∧ K [] (.d (.ptr id p tot (off + z.toNat) 0))
      | none => False
    | .d (.sl o sz2 n a), .d (.int _ z) => o = false ∧ sz2 = sz ∧ 0 ≤ z ∧ z < n ∧ K [] (.d (.rp sz (a z.toNat) 0))
    | _, _ => False
  | .strIdx x i, K => match x.get ts, i.get ts with
    | .d (.str s), .d (.int _ z) => 0 ≤ z ∧ z < s.size ∧ K [] (.d (.int .u8 (s.data.getD z.toNat 0).toNat))
    | _, _ => False
  | .extract i x, K => match x.get ts with
    | .tup xs => i < xs.length ∧ K [] (xs.getD i (.d .dead))
    | _ => False
  | .len str x, K => match str, x.get ts with
    | false, .d (.sl _ _ n _) => K [] (.d (.int .i64 n))
    | false, .d (.e0 _) => K [] (.d (.int .i64 0))
    | false, .d (.own id p tot _ len) => match nodeR H id p with
      | some R => pathOk H id p ∧ R.n = tot ∧ K [] (.d (.int .i64 len))
      | none => False
    | true, .d (.str s) => K [] (.d (.int .i64 s.size))
    | _, _ => False
  | .minmax mx x y, K => match x.get ts, y.get ts with
    | .d (.int k a), .d (.int k2 b) => k = k2 ∧ K [] (.d (.int k (if mx then max a b else min a b)))
    | _, _ => False
  | .nilCheck x, K => match x.get ts with
    | .d (.ptr _ _ _ _ _) => K [] (x.get ts)
    | .d (.rp _ _ _) => K [] (x.get ts)
    | _ => False
  | .mkFn g caps, K => match capIds (caps.map (·.get ts)) with
    | some ids => K [] (.d (.fn g ids))
    | none => False
  | .call g args, K => callQ Fn H g (args.map (·.get ts)) K
  | .callF f args, K => match f.get ts with
    | .d (.rfn g n szs rows) => callQ Fn H g (args.map (·.get ts) ++ rps n szs rows) K
    | .d (.fn g caps) => callQ Fn H g (args.map (·.get ts) ++ caps.map fun c => .d (.ptr c [] 1 0 0)) K
    | _ => False
  | _, _ => False
/-- The operations that change what is there. -/
def loud (s : St) : MOp → (St → T → Prop) → Prop
  | .mkSl true sz z len [(0, x)], K => match takeAll (x.get s.ts).cells s.H with
    | some (vs, H', _, ok) => ok ∧ len = 1 ∧ (x.get s.ts).known = true ∧ vs.length = sz ∧
        K ⟨s.ts, H' ++ [some (.arr sz 1 (rowsD [vs]))], s.up⟩ (.d (.own H'.length [] 1 0 1))
    | none => False
  | .store n x v, K => match x.get s.ts with
    | .d (.ptr id p tot i f) => match takeAll (v.get s.ts).cells s.H with
      | some (vs, H', ms, ok) => match nodeR H' id p with
        | some R => ok ∧ (v.get s.ts).known = true ∧ vs.length = n ∧ pathOk H' id p ∧ R.n = tot ∧ i < tot ∧ f + vs.length ≤ R.sz ∧
            let q : D → Bool := fun d => ms.zipIdx.any fun m => m.1 && d.thru id p (f + m.2)
            K ⟨s.ts.map (T.kill q), (H'.kill q).put id p i f vs, s.up.map fun ts => ts.map (T.kill q)⟩ (.d .dead)
        | none => False
      | none => False
    | _ => False
  | .append sz bytes mv x y, K => match source s.H mv (y.get s.ts) with
    | some c => c.sz = sz ∧ c.ok ∧ match x.get s.ts with
      | .d (.e0 sz2) => sz2 = sz ∧ c.n ≤ big ∧ bytes ≤ 140 ∧ K ⟨s.ts, c.H ++ [none, some (.arr sz c.n c.at_)], s.up⟩ (.d (.own (c.H.length + 1) [] c.n 0 c.n))
      | .d (.own id p tot off len) => match nodeR c.H id p with
        | some R => pathOk c.H id p ∧ R.sz = sz ∧ R.n = tot ∧ off + len ≤ tot ∧ arrAt c.H id p ∧ len + c.n ≤ big ∧ bytes ≤ 140 ∧
          K ⟨s.ts, c.H.drop_ id p ++ [some (.arr sz (len + c.n) (appendAt len (shiftAt off R.at_) c.at_))], s.up⟩ (.d (.own c.H.length [] (len + c.n) 0 (len + c.n)))
        | none => False
      | _ => False
    | none => False
  | .copy sz x y, K => match source s.H false (y.get s.ts), x.get s.ts with
    | some c, .d (.own id p tot off len) => match nodeR s.H id p with
      | some R => pathOk s.H id p ∧ c.sz = sz ∧ c.ok ∧ R.sz = sz ∧ R.n = tot ∧ off + len ≤ tot ∧ arrAt s.H id p ∧ (∀ i f, i < c.n → f < sz → (c.at_ i f).flat = true) ∧
          K ⟨s.ts, s.H.setNode id p (copyAt sz R.at_ off (min len c.n) c.at_), s.up⟩ (.d (.int .i64 (min len c.n : Nat)))
      | none => False
    | _, _ => False
  | .clear sz z x, K => match x.get s.ts with
    | .d (.own id p tot off len) => match nodeR s.H id p with
      | some R => pathOk s.H id p ∧ R.sz = sz ∧ R.n = tot ∧ off + len ≤ tot ∧ arrAt s.H id p ∧
          K ⟨s.ts, s.H.setNode id p (copyAt sz R.at_ off len fun _ f => z.getD f .dead), s.up⟩ (.tup [])
      | none => False
    | _ => False
  | .callR f args, K => match f.get s.ts with
    | .d (.fn g caps) => ∃ Post, In g (args.map (·.get s.ts) ++ caps.map fun c => .d (.ptr c [] 1 0 0)) s.H (s.ts :: s.up) Post ∧
        AfterR (fun t H' ts' up' => K ⟨ts', H', up'⟩ t) .mk Post
    | _ => False
  | _, _ => False
def isQuiet : MOp → Bool
  | .mkSl true .. => false
  | .store .. => false
  | .append .. => false
  | .copy .. => false
  | .clear .. => false
  | .callR .. => false
  | _ => true
def putT (ts : List T) : Option Nat → T → List T
  | some n, x => ts.set n x
  | none, _ => ts
/-- A state that simp brings to its normal form before it goes on. -/
def Norm (C : St → Prop) (u : Tag C) (s : St) : Prop := C s
def evOps : List MI → St → (St → Prop) → Prop
  | [], s, K => K s
  | ⟨dst, none, op⟩ :: r, s, K => match isQuiet op with
    | true => quiet Fn s.ts s.H op fun N x => Norm (fun s' => evOps r s' K) .mk ⟨putT s.ts dst x, s.H ++ N, s.up⟩
    | false => loud In s op fun s' x => Norm (fun s' => evOps r s' K) .mk ⟨putT s'.ts dst x, s'.H, s'.up⟩
  | ⟨dst, some (g, b), op⟩ :: r, s, K => match s.ts.getD g (.d .dead) with
    | .d (.bool c) =>
      (c = b → match isQuiet op with
        | true => quiet Fn (s.ts.set g (.d (.bool b))) s.H op fun N x => Norm (fun s' => evOps r s' K) .mk ⟨putT (s.ts.set g (.d (.bool b))) dst x, s.H ++ N, s.up⟩
        | false => loud In ⟨s.ts.set g (.d (.bool b)), s.H, s.up⟩ op fun s' x => Norm (fun s' => evOps r s' K) .mk ⟨putT s'.ts dst x, s'.H, s'.up⟩) ∧
      (c = !b → Norm (fun s' => evOps r s' K) .mk ⟨putT (s.ts.set g (.d (.bool (!b)))) dst (.d .dead), s.H, s.up⟩)
    | _ => False

variable (Sh : St → St → Prop)
/-- 'code, from state s, comes to Kn (on its way), Kx (an exit of a block) or Kr (a return).' Sh: views of one state. -/
def ev : MC → St → (St → Prop) → (Nat → St → Prop) → (St → Prop) → Prop
  | .skip, s, Kn, _, _ => Kn s
  | .reg ops, s, Kn, _, _ => evOps Fn In ops s Kn
  | .draw m, s, Kn, Kx, Kr => ev m s Kn Kx Kr
  | .alt a b, s, Kn, Kx, Kr => ev a s Kn Kx Kr ∧ ev b s Kn Kx Kr
  | .seq a b, s, Kn, Kx, Kr => ev a s (fun s' => ev b s' Kn Kx Kr) Kx Kr
  | .cond c a b, s, Kn, Kx, Kr => match c.get s.ts with
    | .d (.bool p) => (p = true → ev a s Kn Kx Kr) ∧ (p = false → ev b s Kn Kx Kr)
    | _ => False
  | .block id c, s, Kn, Kx, Kr => ev c s Kn (fun j s' => if j = id then Kn s' else Kx j s') Kr
  | .loop c, s, _, Kx, Kr => ∃ I : Nat → St → Prop, (∃ s0 k, Sh s s0 ∧ I k s0) ∧ ∀ k s, I k s → ev c s (fun s' => ∃ s2 k', Sh s' s2 ∧ k' < k ∧ I k' s2) Kx Kr
  | .exit id, s, _, Kx, _ => Kx id s
  | .ret, s, _, _, Kr => Kr s
end
end Go.R
