/- The translator: one operation, proved. -/
import Derived.Test.YtgpicngmadkdoaaDoorRTr
import Derived.Test.YtgpicngmadkdoaaDoorRClear
set_option linter.unusedVariables false
set_option linter.unusedSimpArgs false
namespace Go.R
open Go.RowKit

def bkOf (P : Program) (t : TypeId) : Option BK := match P.underlying t with
  | some (.int k) => some (.int k)
  | some .bool => some .bool
  | some .string => some .str
  | _ => none
def ikOf (P : Program) (t : TypeId) : Option IntKind := match P.underlying t with
  | some (.int k) => some k
  | _ => none
def isStr (P : Program) (t : TypeId) : Bool := match P.underlying t with
  | some .string => true
  | _ => false
def fieldsOf (P : Program) (t : TypeId) : Option (Array Field) := match P.underlying t with
  | some (.struct fs) => some fs
  | _ => none
def placesOf (P : Program) : List Field → Option (List (Nat × Nat))
  | [] => some []
  | f :: r => match szOf P f.type, placesOf P r with
    | some n, some l => some ((f.offset, n) :: l)
    | _, _ => none
def trParts (P : Program) (fs : Array Field) (pl : List (Nat × Nat)) (bound : Nat) : List (Nat × Operand) → Option (List (Nat × Nat × Opd))
  | [] => some []
  | (i, x) :: r => match pl[i]?, fs[i]?, trParts P fs pl bound r with
    | some (off, size), some f, some l => match trOpd ((elemSz P f.type).getD 0) x with
      | some y => if off + size ≤ bound then some ((off, size, y) :: l) else none
      | none => none
    | _, _, _ => none
def trSl (sz : Nat) : List (Nat × Operand) → Option (List (Nat × Opd))
  | [] => some []
  | (i, x) :: r => match trOpd sz x, trSl sz r with
    | some y, some l => some ((i, y) :: l)
    | _, _ => none

inductive How where
  | plain
  | moves
/-- Where a slice's literal, or what is appended, moves trees: 'mv'. -/
def trOp (P : Program) (byref : FuncId → Bool) (mv : Bool) (o : Oper) : Option MOp := match o.op with
  | .assign (.const (.slice none 0 0)) => (elemSz P o.type).map .nil_
  | .assign x => (trOpd 0 x).map .mv
  | .move x => (trOpd 0 x).map .mv
  | .pick c a b => match trOpd 0 c, trOpd 0 a, trOpd 0 b with
    | some c, some a, some b => some (.pick c a b)
    | _, _, _ => none
  | .alloc e => (zeroOf P true e).map .alloc
  | .box e x => (trOpd 0 x).map .box
  | .build t parts => match fieldsOf P t, zeroOf P false t with
    | some fs, some z => if z.all (!·.isSl) then match placesOf P fs.toList with
        | some pl => (trParts P fs pl z.length parts.toList).map (.build z)
        | none => none
      else none
    | _, _ => none
  | .buildSlice t len parts => match slElem P t with
    | some e => match szOf P e, zeroOf P true e with
      | some sz, some z => if 0 < sz ∧ len * sz ≤ 16777216 ∧ z.length = sz then
          if mv then match len, parts.toList with
            | 1, [(0, x)] => (trOpd 0 x).map fun y => .mkSl true sz z 1 [(0, y)]
            | _, _ => none
          else (trSl 0 parts.toList).map (.mkSl false sz z len)
        else none
      | _, _ => none
    | none => none
  | .load t x => match loadN P t, trOpd 0 x with
    | some n, some y => some (.load n y)
    | _, _ => none
  | .store t x v => match o.dst with
    | some _ => none
    | none => match szOf P t, trOpd 0 x, trOpd ((elemSz P t).getD 0) v with
      | some n, some y, some y2 => some (.store n y y2)
      | _, _, _ => none
  | .binOp b t x y yt => match trOpd 0 x, trOpd 0 y with
    | some x', some y' => match b with
      | .shl => match ikOf P t, ikOf P yt with
        | some k, some k2 => some (.shift .shl k k2 x' y')
        | _, _ => none
      | .shr => match ikOf P t, ikOf P yt with
        | some k, some k2 => some (.shift .shr k k2 x' y')
        | _, _ => none
      | b => match bkOf P t with
        | some k => some (.bin b k x' y')
        | none => none
    | _, _ => none
  | .unOp u t x => match bkOf P t, trOpd 0 x with
    | some k, some y => some (.un u k y)
    | _, _ => none
  | .convert src dst x => match trOpd 0 x with
    | some y => match ikOf P src, ikOf P dst with
      | some _, some k => some (.conv (.int k) y)
      | _, _ => if isStr P dst then
          if isStr P src then some (.conv .str y) else match (slElem P src).bind (ikOf P) with
            | some .u8 => some (.conv .bytes y)
            | _ => none
        else none
    | none => none
  | .makeSlice t x y => match slElem P t, trOpd 0 x, trOpd 0 y with
    | some e, some x', some y' => match P.info? e, zeroOf P true e with
      | some i, some z => if 0 < i.size ∧ z.length = i.size then some (.make i.size i.bytes z x' y') else none
      | _, _ => none
    | _, _, _ => none
  | .slice t x lo hi none => match trOpd ((elemSz P t).getD 0) x, trOpt lo, trOpt hi with
    | some y, some l, some h => if isStr P t then some (.substr y l h) else match elemSz P t with
      | some sz => some (.slice sz y l h none)
      | none => none
    | _, _, _ => none
  | .fieldAddr t x f => match fieldsOf P t, trOpd 0 x with
    | some fs, some y => match fs[f]? with
      | some fl => match szOf P fl.type with
        | some (_ + 1) => some (.fieldAddr fl.offset y)
        | _ => none
      | none => none
    | _, _ => none
  | .field t x f => match fieldsOf P t, trOpd 0 x with
    | some fs, some y => match fs[f]? with
      | some fl => (loadN P fl.type).map fun n => .field fl.offset n y
      | none => none
    | _, _ => none
  | .indexAddr t x i => match elemSz P t, trOpd 0 x, trOpd 0 i with
    | some sz, some x', some i' => some (.indexAddr sz x' i')
    | _, _, _ => none
  | .index t x i => match trOpd 0 x, trOpd 0 i with
    | some x', some i' => if isStr P t then some (.strIdx x' i') else none
    | _, _ => none
  | .extract x i => (trOpd 0 x).map (.extract i)
  | .nilCheck x => (trOpd 0 x).map .nilCheck
  | .makeFunc (.func g) first caps => if first.size = 0 then (trOpds (caps.toList.map fun x => (0, x))).map (.mkFn g) else none
  | .call c => match c.callee with
    | .builtin .len => match c.args.toList, c.argTypes.toList with
      | [x], [t] => match trOpd 0 x with
        | some y => if isStr P t then some (.len true y) else match slElem P t with
          | some _ => some (.len false y)
          | none => none
        | none => none
      | _, _ => none
    | .builtin .append => match c.args.toList, c.argTypes.toList with
      | [x, x2], [t, tx] => match slElem P t, slElem P tx with
        | some e, some _ => match P.info? e with
          | some i => match i.zero with
            | some z => if z.cells.size = i.size then match trOpd i.size x, trOpd i.size x2 with
                | some y, some y2 => some (.append i.size i.bytes mv y y2)
                | _, _ => none
              else none
            | none => none
          | none => none
        | _, _ => none
      | _, _ => none
    | .builtin .min => match c.args.toList with
      | [x, x2] => match trOpd 0 x, trOpd 0 x2 with
        | some y, some y2 => some (.minmax false y y2)
        | _, _ => none
      | _ => none
    | .builtin .max => match c.args.toList with
      | [x, x2] => match trOpd 0 x, trOpd 0 x2 with
        | some y, some y2 => some (.minmax true y y2)
        | _, _ => none
      | _ => none
    | .builtin .clear => match c.args.toList, c.argTypes.toList with
      | [x], [t] => match slElem P t with
        | some e => match szOf P e, zeroOf P false e, trOpd 0 x with
          | some sz, some z, some y => if z.all D.flat = true ∧ z.length = sz then some (.clear sz z y) else none
          | _, _, _ => none
        | none => none
      | _, _ => none
    | .value (.tmp n) => match trArgs P c with
      | some ys => if byref (1000000 + n) then some (.callR (.t n) ys) else some (.callF (.t n) ys)
      | none => none
    | .value (.func g) => if callOk P g then match trArgs P c with
        | some ys => if byref g then some (.callR (.c (.d (.fn g []))) ys) else some (.call g ys)
        | none => none
      else none
    | _ => none
  | _ => none

section
variable {P : Program}
theorem bkOf_ok {t : TypeId} {k : BK} (h : bkOf P t = some k) : BinOk P t k := by
  unfold bkOf at h
  split at h <;> first | (cases h; done) | skip
  all_goals injection h with h; subst h
  · trivial
  · rename_i hu; exact hu
  · trivial
theorem ikOf_ok {t : TypeId} {k : IntKind} (h : ikOf P t = some k) : P.underlying t = some (.int k) := by
  unfold ikOf at h
  split at h
  · rename_i k' hu
    injection h with h
    subst h; exact hu
  · cases h
theorem isStr_ok {t : TypeId} (h : isStr P t = true) : P.underlying t = some .string := by
  unfold isStr at h
  split at h
  · rename_i hu; exact hu
  · cases h
theorem fieldsOf_ok {t : TypeId} {fs : Array Field} (h : fieldsOf P t = some fs) : P.underlying t = some (.struct fs) := by
  unfold fieldsOf at h
  split at h
  · rename_i k' hu
    injection h with h
    subst h; exact hu
  · cases h
theorem placesOf_ok : ∀ {fs : List Field} {pl : List (Nat × Nat)}, placesOf P fs = some pl → ∀ w, (fs.mapM fun f => do pure (f.offset, ← sizeOf f.type) : Sem _).run P w = .ok pl w
  | [], pl, h, w => by injection h with h; subst h; simp
  | f :: r, pl, h, w => by
    unfold placesOf at h
    split at h
    · rename_i n l h1 h2
      injection h with h
      subst h
      rw [List.mapM_cons, Sem.run_bind, Sem.run_bind, szOf_ok h1 w]
      simp only [Result.andThen_ok, Sem.run_pure]
      rw [Sem.run_bind, placesOf_ok h2 w]
      simp
    · cases h
theorem trParts_ok {fs : Array Field} {pl : List (Nat × Nat)} {bound : Nat} : ∀ {ps : List (Nat × Operand)} {qs : List (Nat × Nat × Opd)}, trParts P fs pl bound ps = some qs → PartsOk pl.toArray ps qs ∧ ∀ p ∈ qs, p.1 + p.2.1 ≤ bound
  | [], qs, h => by injection h with h; subst h; exact ⟨trivial, fun p hp => by cases hp⟩
  | (i, x) :: r, qs, h => by
    unfold trParts at h
    split at h
    · rename_i off size f l h1 h2 h3
      split at h
      · rename_i y hy
        split at h
        · rename_i hb
          injection h with h
          subst h
          obtain ⟨a1, a2⟩ := trParts_ok h3
          refine ⟨⟨by simpa using h1, trOpd_ok hy, a1⟩, fun p hp => ?_⟩
          rcases List.mem_cons.1 hp with rfl | hp
          · exact hb
          · exact a2 p hp
        · cases h
      · cases h
    · cases h
theorem trSl_ok {sz : Nat} : ∀ {ps : List (Nat × Operand)} {qs : List (Nat × Opd)}, trSl sz ps = some qs → SlParts ps qs
  | [], qs, h => by injection h with h; subst h; exact trivial
  | (i, x) :: r, qs, h => by
    unfold trSl at h
    split at h
    · rename_i y l h1 h2
      injection h with h
      subst h
      exact ⟨rfl, trOpd_ok h1, trSl_ok h2⟩
    · cases h

def OpW (P : Program) (o : Oper) (m : MOp) : Prop := (isQuiet m = true → QW P o m) ∧ (isQuiet m = false → LW P o m) ∧ (isP m = true → PW P o m) ∧ (isA m = true → AW P o m)
theorem OpW.q {o : Oper} {m : MOp} (h : QW P o m) (hq : isQuiet m = true) (hp : isP m = false) (ha : isA m = false) : OpW P o m := ⟨fun _ => h, (fun h2 => by rw [hq] at h2; cases h2), (fun h2 => by rw [hp] at h2; cases h2), fun h2 => by rw [ha] at h2; cases h2⟩
theorem OpW.l {o : Oper} {m : MOp} (h : LW P o m) (hq : isQuiet m = false) (hp : isP m = false) (ha : isA m = false) : OpW P o m := ⟨(fun h2 => by rw [hq] at h2; cases h2), fun _ => h, (fun h2 => by rw [hp] at h2; cases h2), fun h2 => by rw [ha] at h2; cases h2⟩
theorem OpW.p {o : Oper} {m : MOp} (h : PW P o m) (hq : isQuiet m = true) (ha : isA m = false) : OpW P o m := ⟨fun _ => qw_of fun G H w ts a K hh ht hk => (h G H w ts a K hh ht hk).gives hh, (fun h2 => by rw [hq] at h2; cases h2), fun _ => h, fun h2 => by rw [ha] at h2; cases h2⟩
theorem OpW.a {o : Oper} {m : MOp} (h : AW P o m) (hq : isQuiet m = true) : OpW P o m := ⟨fun _ => qw_of fun G H w ts a K hh ht hk => (h G H w ts a K hh ht hk).e.gives hh, (fun h2 => by rw [hq] at h2; cases h2), fun _ => fun G H w ts a K hh ht hk => (h G H w ts a K hh ht hk).e, fun _ => h⟩

theorem trMv_ok {o : Oper} {x : Operand} {m : MOp} (ho : o.op = .move x ∨ o.op = .assign x) (h : (trOpd 0 x).map MOp.mv = some m) : OpW P o m := by
  rw [Option.map_eq_some_iff] at h
  obtain ⟨y, hy, rfl⟩ := h
  exact .a (fun G H w ts a K hh ht hk => ext_mv hh ht ho (trOpd_ok hy) hk) rfl

theorem trOp_ok {byref : FuncId → Bool} {mv : Bool} {o : Oper} {m : MOp} (h : trOp P byref mv o = some m) : OpW P o m := by
  unfold trOp at h
  split at h
  · rename_i ho
    rw [Option.map_eq_some_iff] at h
    obtain ⟨sz, _, rfl⟩ := h
    exact .q (qw_of fun G H w ts a K hh ht hk => gives_nil hh (.inl ho) hk) rfl rfl rfl
  · rename_i ho; exact trMv_ok (.inr ho) h
  · rename_i ho; exact trMv_ok (.inl ho) h
  · rename_i ho
    split at h
    · rename_i h1 h2 h3
      injection h with h
      subst h
      exact .a (fun G H w ts a K hh ht hk => ext_pick _ hh ht ho (trOpd_ok h1) (trOpd_ok h2) (trOpd_ok h3) hk) rfl
    · cases h
  · rename_i ho
    rw [Option.map_eq_some_iff] at h
    obtain ⟨z, hz, rfl⟩ := h
    obtain ⟨i, zv, hi, hiz, hrun, hc⟩ := zeroOf_ok hz
    exact .q (qw_of fun G H w ts a K hh ht hk => gives_alloc hh ho hrun hc.1 hc.2 hk) rfl rfl rfl
  · rename_i ho
    rw [Option.map_eq_some_iff] at h
    obtain ⟨y, hy, rfl⟩ := h
    exact .q (qw_of fun G H w ts a K hh ht hk => gives_box _ hh ht ho (trOpd_ok hy) hk) rfl rfl rfl
  · -- build
    rename_i ho
    split at h
    · rename_i fs z hfs hz
      split at h
      · rename_i hall
        split at h
        · rename_i pl hpl
          rw [Option.map_eq_some_iff] at h
          obtain ⟨qs, hqs, rfl⟩ := h
          obtain ⟨i, zv, hi, hiz, hrun, hc⟩ := zeroOf_ok hz
          obtain ⟨p1, p2⟩ := trParts_ok hqs
          refine .a (fun G H w ts a K hh ht hk => ext_build _ hh ht ho hrun hc (fun d hd o sz n b e => ?_) (fieldsOf_ok hfs) (fun w => ?_) p1 p2 hk) rfl
          · have := List.all_eq_true.1 hall d hd
            rw [e] at this
            cases this
          · have := placesOf_ok hpl w
            rw [Array.mapM_eq_mapM_toList]
            rw [show (List.toArray <$> fs.toList.mapM fun f => do pure (f.offset, ← sizeOf f.type) : Sem _) = (fs.toList.mapM (fun f => do pure (f.offset, ← sizeOf f.type) : _ → Sem _) >>= fun l => pure l.toArray) from rfl, Sem.run_bind, this]
            simp
        · cases h
      · cases h
    · cases h
  · -- buildSlice
    rename_i t len parts ho
    split at h
    · rename_i e he
      split at h
      · rename_i sz z hsz hz
        split at h
        · rename_i hb
          obtain ⟨hb1, hb2, hb3⟩ := hb
          obtain ⟨i, zv, hi, hiz, hrun, hc⟩ := zeroOf_ok hz
          split at h
          · split at h
            · rename_i x hpx
              rw [Option.map_eq_some_iff] at h
              obtain ⟨y, hy, rfl⟩ := h
              have ho' : o.op = .buildSlice t 1 #[(0, x)] := by
                rw [ho]; congr 1
                apply Array.ext'
                exact hpx
              exact .l (lw_of fun G s w a K hh ht hk => gives_mkSlMv _ hh ht ho' (trOpd_ok hy) (slElem_ok he) (szOf_ok hsz) hb1 (by omega) hrun hk) rfl rfl rfl
            · cases h
          · rw [Option.map_eq_some_iff] at h
            obtain ⟨qs, hqs, rfl⟩ := h
            exact .q (qw_of fun G H w ts a K hh ht hk => gives_mkSl _ hh ht ho (slElem_ok he) (szOf_ok hsz) hb1 (by omega) hrun hc hb3 (trSl_ok hqs) hk) rfl rfl rfl
        · cases h
      · cases h
    · cases h
  · -- load
    rename_i ho
    split at h
    · rename_i n y h1 h2
      injection h with h
      subst h
      exact .p (fun G H w ts a K hh ht hk => ext_load _ hh ht ho (trOpd_ok h2) (loadN_ok h1) hk) rfl rfl
    · cases h
  · -- store
    rename_i ho
    split at h
    · cases h
    · rename_i hd
      split at h
      · rename_i n y y2 h1 h2 h3
        injection h with h
        subst h
        exact .l (lw_of fun G s w a K hh ht hk => gives_store _ hh ht ho hd (trOpd_ok h2) (trOpd_ok h3) (szOf_ok h1) hk) rfl rfl rfl
      · cases h
  · -- binOp
    rename_i ho
    split at h
    · rename_i x' y' hx hy
      split at h
      · split at h
        · injection h with h
          subst h
          exact .a (fun G H w ts a K hh ht hk => ext_shift _ hh ht ho (trOpd_ok hx) (trOpd_ok hy) hk) rfl
        · cases h
      · split at h
        · injection h with h
          subst h
          exact .a (fun G H w ts a K hh ht hk => ext_shift _ hh ht ho (trOpd_ok hx) (trOpd_ok hy) hk) rfl
        · cases h
      · split at h
        · rename_i k hb
          injection h with h
          subst h
          exact .a (fun G H w ts a K hh ht hk => ext_bin _ hh ht ho (trOpd_ok hx) (trOpd_ok hy) (bkOf_ok hb) hk) rfl
        · cases h
    · cases h
  · -- unOp
    rename_i ho
    split at h
    · rename_i k y h1 h2
      injection h with h
      subst h
      exact .a (fun G H w ts a K hh ht hk => ext_un _ hh ht ho (trOpd_ok h2) hk) rfl
    · cases h
  · -- convert
    rename_i ho
    split at h
    · rename_i y hy
      split at h
      · rename_i h1 h2
        injection h with h
        subst h
        exact .a (fun G H w ts a K hh ht hk => ext_convInt _ hh ht ho (trOpd_ok hy) (ikOf_ok h1) (ikOf_ok h2) hk) rfl
      · split at h
        · rename_i hd
          split at h
          · rename_i hs
            injection h with h
            subst h
            exact .a (fun G H w ts a K hh ht hk => ext_convStr _ hh ht ho (trOpd_ok hy) (isStr_ok hs) (isStr_ok hd) hk) rfl
          · split at h
            · rename_i he
              injection h with h
              subst h
              rw [Option.bind_eq_some_iff] at he
              obtain ⟨e, he1, he2⟩ := he
              exact .p (fun G H w ts a K hh ht hk => ext_convBytes _ hh ht ho (trOpd_ok hy) (slElem_ok he1) (ikOf_ok he2) (isStr_ok hd) hk) rfl rfl
            · cases h
        · cases h
    · cases h
  · -- makeSlice
    rename_i ho
    split at h
    · rename_i e x' y' he hx hy
      split at h
      · rename_i i z hi hz
        split at h
        · rename_i hb
          injection h with h
          subst h
          obtain ⟨i', zv, hi', hiz, hrun, hc⟩ := zeroOf_ok hz
          exact .q (qw_of fun G H w ts a K hh ht hk => gives_make _ hh ht ho (trOpd_ok hx) (trOpd_ok hy) (slElem_ok he) hi (szOf_ok (by simp [szOf, hi])) hb.1 hrun hc hb.2 hk) rfl rfl rfl
        · cases h
      · cases h
    · cases h
  · -- slice
    rename_i ho
    split at h
    · rename_i y l hh2 hx hl hhi
      split at h
      · rename_i hs
        injection h with h
        subst h
        exact .a (fun G H w ts a K hh ht hk => ext_substr _ hh ht ho (trOpd_ok hx) (trOpt_ok hl) (trOpt_ok hhi) (isStr_ok hs) hk) rfl
      · split at h
        · rename_i sz hsz
          injection h with h
          subst h
          simp only [elemSz, Option.bind_eq_some_iff] at hsz
          obtain ⟨e, he, hse⟩ := hsz
          exact .a (fun G H w ts a K hh ht hk => ext_slice _ hh ht ho (trOpd_ok hx) (trOpt_ok hl) (trOpt_ok hhi) (slElem_ok he) (szOf_ok hse) hk) rfl
        · cases h
    · cases h
  · -- fieldAddr
    rename_i ho
    split at h
    · rename_i fs y hfs hy
      split at h
      · rename_i fl hfl
        split at h
        · rename_i n hn
          injection h with h
          subst h
          exact .a (fun G H w ts a K hh ht hk => ext_fieldAddr _ hh ht ho (trOpd_ok hy) (fieldsOf_ok hfs) hfl rfl ⟨_, Nat.succ_pos _, szOf_ok hn⟩ hk) rfl
        · cases h
      · cases h
    · cases h
  · -- field
    rename_i ho
    split at h
    · rename_i fs y hfs hy
      split at h
      · rename_i fl hfl
        rw [Option.map_eq_some_iff] at h
        obtain ⟨n, hn, rfl⟩ := h
        exact .a (fun G H w ts a K hh ht hk => ext_field _ hh ht ho (trOpd_ok hy) (fieldsOf_ok hfs) hfl rfl (loadN_ok hn) hk) rfl
      · cases h
    · cases h
  · -- indexAddr
    rename_i ho
    split at h
    · rename_i sz x' i' hsz hx hi
      injection h with h
      subst h
      simp only [elemSz, Option.bind_eq_some_iff] at hsz
      obtain ⟨e, he, hse⟩ := hsz
      exact .a (fun G H w ts a K hh ht hk => ext_indexAddr _ hh ht ho (trOpd_ok hx) (trOpd_ok hi) (slElem_ok he) (szOf_ok hse) hk) rfl
    · cases h
  · -- index
    rename_i ho
    split at h
    · rename_i x' i' hx hi
      split at h
      · rename_i hs
        injection h with h
        subst h
        exact .a (fun G H w ts a K hh ht hk => ext_strIdx _ hh ht ho (trOpd_ok hx) (trOpd_ok hi) (isStr_ok hs) hk) rfl
      · cases h
    · cases h
  · rename_i ho
    rw [Option.map_eq_some_iff] at h
    obtain ⟨y, hy, rfl⟩ := h
    exact .a (fun G H w ts a K hh ht hk => ext_extract _ hh ht ho (trOpd_ok hy) hk) rfl
  · rename_i ho
    rw [Option.map_eq_some_iff] at h
    obtain ⟨y, hy, rfl⟩ := h
    exact .a (fun G H w ts a K hh ht hk => ext_nilCheck _ hh ht ho (trOpd_ok hy) hk) rfl
  · -- makeFunc
    rename_i g first caps ho
    split at h
    · rename_i hf
      rw [Option.map_eq_some_iff] at h
      obtain ⟨ys, hys, rfl⟩ := h
      have hx := trOpds_ok hys
      rw [List.map_map, show ((fun x : Nat × Operand => x.2) ∘ fun x : Operand => (0, x)) = id from rfl, List.map_id] at hx
      have hfe : first = #[] := Array.eq_empty_of_size_eq_zero hf
      rw [hfe] at ho
      exact .a (fun G H w ts a K hh ht hk => ext_mkFn _ hh ht ho hx hk) rfl
    · cases h
  · -- call
    rename_i c ho
    obtain ⟨callee, args, argTypes⟩ := c
    simp only at h
    split at h
    · -- len
      split at h
      · rename_i x t ha hat
        have ea : args = #[x] := by apply Array.ext'; exact ha
        have et : argTypes = #[t] := by apply Array.ext'; exact hat
        subst ea; subst et
        split at h
        · rename_i y hy
          split at h
          · rename_i hs
            injection h with h
            subst h
            exact .a (fun G H w ts a K hh ht hk => ext_len (str := true) _ hh ht ho (trOpd_ok hy) (by simpa using isStr_ok hs) hk) rfl
          · split at h
            · rename_i e he
              injection h with h
              subst h
              exact .a (fun G H w ts a K hh ht hk => ext_len (str := false) _ hh ht ho (trOpd_ok hy) (by simpa using ⟨e, slElem_ok he⟩) hk) rfl
            · cases h
        · cases h
      · cases h
    · -- append
      split at h
      · rename_i x x2 t tx ha hat
        have ea : args = #[x, x2] := by apply Array.ext'; exact ha
        have et : argTypes = #[t, tx] := by apply Array.ext'; exact hat
        subst ea; subst et
        split at h
        · rename_i e ex he hex
          split at h
          · rename_i i hi
            split at h
            · rename_i z hz
              split at h
              · rename_i hzs
                split at h
                · rename_i y y2 hy hy2
                  injection h with h
                  subst h
                  exact .l (lw_of fun G s w a K hh ht hk => gives_append _ hh ht ho (trOpd_ok hy) (trOpd_ok hy2) (slElem_ok he) ⟨ex, slElem_ok hex⟩ hi hz hzs hk) rfl rfl rfl
                · cases h
              · cases h
            · cases h
          · cases h
        · cases h
      · cases h
    · split at h
      · rename_i x x2 ha
        have ea : args = #[x, x2] := by apply Array.ext'; exact ha
        subst ea
        split at h
        · rename_i y y2 hy hy2
          injection h with h
          subst h
          exact .a (fun G H w ts a K hh ht hk => ext_minmax _ hh ht (mx := false) ho (trOpd_ok hy) (trOpd_ok hy2) hk) rfl
        · cases h
      · cases h
    · split at h
      · rename_i x x2 ha
        have ea : args = #[x, x2] := by apply Array.ext'; exact ha
        subst ea
        split at h
        · rename_i y y2 hy hy2
          injection h with h
          subst h
          exact .a (fun G H w ts a K hh ht hk => ext_minmax _ hh ht (mx := true) ho (trOpd_ok hy) (trOpd_ok hy2) hk) rfl
        · cases h
      · cases h
    · -- clear
      split at h
      · rename_i x t ha hat
        have ea : args = #[x] := by apply Array.ext'; exact ha
        have et : argTypes = #[t] := by apply Array.ext'; exact hat
        subst ea; subst et
        split at h
        · rename_i e he
          split at h
          · rename_i sz z y hsz hz hy
            split at h
            · rename_i hb
              injection h with h
              subst h
              obtain ⟨i, zv, hi, hiz, hrun, hc⟩ := zeroOf_ok hz
              exact .l (lw_of fun G s w a K hh ht hk => gives_clear _ hh ht ho (trOpd_ok hy) (slElem_ok he) hrun hc hb.1 hb.2 hk) rfl rfl rfl
            · cases h
          · cases h
        · cases h
      · cases h
    · -- a function value
      rename_i n
      split at h
      · rename_i ys hys
        split at h
        · injection h with h
          subst h
          exact .l (lw_callR (f := .tmp n) (f' := .t n) (args := args) rfl (fun a w g vs hg e => callOk_runF hg ho rfl e) (trArgs_ok hys)) rfl rfl rfl
        · injection h with h
          subst h
          refine .q (fun G H w ts a K next Q hst hh ht hk hn => ?_) rfl rfl rfl
          exact gives_callF hst hh ht (f := .tmp n) (f' := .t n) (args := args) rfl (fun g vs hg e => callOk_runF hg ho rfl e) (trArgs_ok hys) hk hn
      · cases h
    · -- a function
      rename_i g
      split at h
      · rename_i hcok
        split at h
        · rename_i ys hys
          split at h
          · rename_i hb
            injection h with h
            subst h
            exact .l (lw_callR (f := .func g) (f' := .c (.d (.fn g []))) (args := args) ⟨rfl, rfl⟩ (fun a w g' vs hg e => by
              have e2 : a.eval (.func g) = .func (.func g) #[] #[] := rfl
              rw [e2] at e
              injection e with e3 _ e4
              injection e3 with e3
              subst e3; subst e4
              rw [callOk_run hcok ho rfl]; simp) (trArgs_ok hys)) rfl rfl rfl
          · injection h with h
            subst h
            refine .q (fun G H w ts a K next Q hst hh ht hk hn => ?_) rfl rfl rfl
            exact gives_call hst hh ht (fun _ => callOk_run hcok ho rfl) (trArgs_ok hys) hk hn
        · cases h
      · cases h
    · cases h
  · cases h
end
end Go.R
