/- The operations that change no memory, continued: loads and places. -/
import Derived.Test.YtgpicngmadkdoaaDoorRQuiet3
set_option linter.unusedVariables false
set_option linter.unusedSimpArgs false
namespace Go.R
open Go.RowKit

theorem addr_add (b o k : Nat) : (⟨b, o, none⟩ : Addr).add k = ⟨b, o + k, none⟩ := by
  unfold Addr.add; split <;> simp_all

section
variable {P : Program} {G : Gh} {H : Heap} {w : World} {ts : List T} {a : Act} {x x2 : Operand} {y y2 : Opd}

/-- A run of cells, as 'loadCells' meets them. -/
theorem run_loadCells_at {b o m : Nat} {us : Nat → Value} (h : ∀ j, j < m → w.cell? ⟨b, o + j, none⟩ = some (us j)) :
    (loadCells ⟨b, o, none⟩ m).run P w = .ok ((List.range m).map us).toArray w :=
  run_loadCells w ⟨b, o, none⟩ m us (fun j hj => by rw [addr_add]; exact h j hj)

/-- One cell, or so many. -/
def pickV (n : Option Nat) (us : Nat → Value) : Value := match n with
  | none => us 0
  | some m => .agg ((List.range m).map us).toArray

theorem load_run {t : TypeId} {n : Option Nat} {b o : Nat} {us : Nat → Value} (hn : match n with
    | none => ∀ w, (isAgg t).run P w = .ok false w
    | some m => (∀ w, (isAgg t).run P w = .ok true w) ∧ ∀ w, (sizeOf t).run P w = .ok m w)
    (h : ∀ j, j < n.getD 1 → w.cell? ⟨b, o + j, none⟩ = some (us j)) :
    (loadVar t ⟨b, o, none⟩).run P w = .ok (pickV n us) w := by
  cases n with
  | none =>
    have h0 := h 0 (by simp)
    simp only [Nat.add_zero] at h0
    simp only at hn
    simp [loadVar, hn w, h0, pickV]
  | some m =>
    simp only at hn
    have hl := run_loadCells_at (P := P) (w := w) (b := b) (o := o) (m := m) (us := us) (fun j hj => h j (by simpa using hj))
    simp [loadVar, hn.1 w, hn.2 w, hl, pickV]

def LoadOk (P : Program) (t : TypeId) (n : Option Nat) : Prop := match n with
  | none => ∀ w, (isAgg t).run P w = .ok false w
  | some m => (∀ w, (isAgg t).run P w = .ok true w) ∧ ∀ w, (sizeOf t).run P w = .ok m w

/-- Where a pointer to a live node leads, and what stands there. -/
theorem ptr_cells (hh : HeapOk G H w) {id : Nat} {p : Path} {tot i f : Nat} {v : Value} {R : Rows} (hv : VR G H w (.ptr id p tot i f) v) (hR : Node H id p R) (hn : R.n = tot) (hi : i < tot) :
    ∃ b o, v = .pointer (some ⟨b, o + i * R.sz + f, none⟩) ∧ ∀ g, g < R.sz → ∃ u, w.cell? ⟨b, o + i * R.sz + g, none⟩ = some u ∧ CellOk G H w id p i g (R.at_ i g) u := by
  obtain ⟨_, ad, ea, hv⟩ := hv
  obtain ⟨b, o, hb, e⟩ := hv R hR hn hi
  subst e
  have hk := hh.node hR
  unfold NodeOk at hk
  rw [hb] at hk
  obtain ⟨c, t, hc, hs, hcell⟩ := hk
  refine ⟨b, o, ea, fun g hg => ?_⟩
  obtain ⟨u, hu, hcu⟩ := hcell i g (by omega) hg
  exact ⟨u, by simp [World.cell?, hc, hu], hcu⟩

theorem loadCell_ok {id : Nat} {p : Path} {i f : Nat} {R : Rows} {u : Value} (hR : Node H id p R) (hc : CellOk G H w id p i f (R.at_ i f) u) :
    u.oneCell' = true ∧ VR G H w (loadCell id p i f (R.at_ i f)) u := by
  refine ⟨hc.1, ?_⟩
  have h2 := hc.2
  unfold loadCell
  cases hd : R.at_ i f with
  | sl o sz n b =>
    rw [hd] at h2
    cases o
    · exact h2
    · refine ⟨hR.lt, fun R' hR' hn' => ?_⟩
      have h1 := hR'.1
      rw [nodeR_app, hR.1] at h1
      simp only [Option.bind_some, nodeIn, hd] at h1
      injection h1 with h1
      subst h1
      exact h2
  | _ => rw [hd] at h2; exact h2

theorem ext_load {o : Oper} {t : TypeId} {n : Option Nat} {K : Heap → T → Prop} (Fn : FnT) (hh : HeapOk G H w) (ht : Temps G H w ts a.tmps) (ho : o.op = .load t x) (hx : OpdOk x y)
    (hn : LoadOk P t n) (hk : quiet Fn ts H (.load n y) K) : GivesE P G H w a o K := by
  have hv := get_ok hx ht
  simp only [quiet] at hk
  split at hk
  · rename_i id p tot i f e
    rw [e] at hv
    split at hk
    · rename_i R hR
      obtain ⟨hp, hnt, hi, hf, hk⟩ := hk
      obtain ⟨b, o', ev, hcell⟩ := ptr_cells hh hv.2 ⟨hR, hp⟩ hnt hi
      have hex : ∀ j, ∃ u, j < n.getD 1 → w.cell? ⟨b, o' + i * R.sz + f + j, none⟩ = some u ∧ CellOk G H w id p i (f + j) (R.at_ i (f + j)) u := by
        intro j
        by_cases hj : j < n.getD 1
        · obtain ⟨u, hu, hc⟩ := hcell (f + j) (by omega)
          exact ⟨u, fun _ => ⟨by rw [Nat.add_assoc]; exact hu, hc⟩⟩
        · exact ⟨undef, fun h => absurd h hj⟩
      obtain ⟨us, hus⟩ := Classical.axiomOfChoice hex
      refine GivesE.val (v := pickV n us) ?_ ?_ hk
      · intro w' hw'
        simp only [execOp, ho, Instr.loadAt, ev, Instr.sureAddr, Sem.run_bind, Sem.run_pure, Result.andThen_ok]
        rw [load_run hn (fun j hj => Wx.cell hw' (fun k => k) (hus j hj).1)]
        rfl
      · cases n with
        | none =>
          have h0 := (hus 0 (by simp)).2
          have := loadCell_ok ⟨hR, hp⟩ h0
          simp only [Nat.add_zero] at this
          show TR G H w (.d (loadCell id p i f (R.at_ i f))) (us 0)
          cases hd : loadCell id p i f (R.at_ i f) <;> first | trivial | (rw [hd] at this; exact this)
        | some m =>
          refine ⟨(List.range m).map us, rfl, by simp, fun k x u hx hu => ?_⟩
          simp only [List.getElem?_map, Option.map_eq_some_iff] at hx hu
          obtain ⟨k', hk', rfl⟩ := hx
          obtain ⟨k'', hk'', rfl⟩ := hu
          obtain ⟨hkm, e1⟩ := List.getElem?_eq_some_iff.1 hk'
          have e2 : k'' = k' := by rw [hk'] at hk''; injection hk'' with h; exact h.symm
          subst e2
          rw [List.getElem_range] at e1
          subst e1
          exact loadCell_ok ⟨hR, hp⟩ (hus k (by simpa using hkm)).2
    · exact hk.elim
  · rename_i sz row f e
    rw [e] at hv
    obtain ⟨hf, hk⟩ := hk
    obtain ⟨_, b, o', hok, ev, hcell⟩ := hv
    have hex : ∀ j, ∃ u, j < n.getD 1 → w.cell? ⟨b, o' + f + j, none⟩ = some u ∧ u.oneCell' = true ∧ (row (f + j)).RO w G.ok u := by
      intro j
      by_cases hj : j < n.getD 1
      · obtain ⟨u, hu, hc⟩ := hcell (f + j) (by omega)
        exact ⟨u, fun _ => ⟨by rw [Nat.add_assoc]; exact hu, hc⟩⟩
      · exact ⟨undef, fun h => absurd h hj⟩
    obtain ⟨us, hus⟩ := Classical.axiomOfChoice hex
    have hro : ∀ j, j < n.getD 1 → (us j).oneCell' = true ∧ VR G H w (row (f + j)) (us j) := by
      intro j hj
      obtain ⟨_, h1, h2⟩ := hus j hj
      refine ⟨h1, ?_⟩
      cases hd : row (f + j) <;> rw [hd] at h2 <;> first | exact h2 | exact h2.elim
    refine GivesE.val (v := pickV n us) ?_ ?_ hk
    · intro w' hw'
      simp only [execOp, ho, Instr.loadAt, ev, Instr.sureAddr, Sem.run_bind, Sem.run_pure, Result.andThen_ok]
      rw [load_run hn (fun j hj => Wx.cell hw' (fun k => k) (hus j hj).1)]
      rfl
    · cases n with
      | none =>
        have := hro 0 (by simp)
        simp only [Nat.add_zero] at this
        show TR G H w (.d (row f)) (us 0)
        cases hd : row f <;> first | trivial | (rw [hd] at this; exact this)
      | some m =>
        refine ⟨(List.range m).map us, rfl, by simp, fun k x u hx hu => ?_⟩
        simp only [List.getElem?_map, Option.map_eq_some_iff] at hx hu
        obtain ⟨k', hk', rfl⟩ := hx
        obtain ⟨k'', hk'', rfl⟩ := hu
        obtain ⟨hkm, e1⟩ := List.getElem?_eq_some_iff.1 hk'
        have e2 : k'' = k' := by rw [hk'] at hk''; injection hk'' with h; exact h.symm
        subst e2
        rw [List.getElem_range] at e1
        subst e1
        exact hro k (by simpa using hkm)
  · exact hk.elim

theorem ext_fieldAddr {o : Oper} {t : TypeId} {f off : Nat} {fields : Array Field} {fld : Field} {K : Heap → T → Prop} (Fn : FnT) (hh : HeapOk G H w) (ht : Temps G H w ts a.tmps) (ho : o.op = .fieldAddr t x f) (hx : OpdOk x y)
    (hu : P.underlying t = some (.struct fields)) (hf : fields[f]? = some fld) (hoff : fld.offset = off) (hsz : ∃ m, 0 < m ∧ ∀ w, (sizeOf fld.type).run P w = .ok m w)
    (hk : quiet Fn ts H (.fieldAddr off y) K) : GivesA P G H w a o K := by
  have hv := get_ok hx ht
  obtain ⟨m, hm0, hm⟩ := hsz
  have hrun : ∀ ad : Addr, a.eval x = .pointer (some ad) → ∀ w', (execOp a.eval o).run P w' = .ok (.value (.pointer (some (ad.add off)))) w' := by
    intro ad e
    have hm1 : m ≠ 0 := by omega
    intro w'; simp [execOp, ho, Instr.fieldAt, run_underlying hu, hf, e, Instr.sureAddr, fieldPlace, hm, hm1, hoff]
  simp only [quiet] at hk
  split at hk
  · rename_i id p tot i g e
    rw [e] at hv
    obtain ⟨hl, ad, ea, hv⟩ := hv.2
    refine GivesA.val (t := .d (.ptr id p tot i (g + off))) (hrun ad ea) ⟨rfl, hl, _, rfl, fun R hR hn hi => ?_⟩ hk
    obtain ⟨b, o', hb, rfl⟩ := hv R hR hn hi
    exact ⟨b, o', hb, by rw [addr_add, Nat.add_assoc]⟩
  · rename_i sz row g e
    rw [e] at hv
    obtain ⟨_, b, o', hok, ev, hcell⟩ := hv
    refine GivesA.val (t := .d (.rp sz row (g + off))) (hrun _ ev) ⟨rfl, b, o', hok, by rw [addr_add, Nat.add_assoc], hcell⟩ hk
  · exact hk.elim

theorem ext_nilCheck {o : Oper} {K : Heap → T → Prop} (Fn : FnT) (hh : HeapOk G H w) (ht : Temps G H w ts a.tmps) (ho : o.op = .nilCheck x) (hx : OpdOk x y)
    (hk : quiet Fn ts H (.nilCheck y) K) : GivesA P G H w a o K := by
  have hv := get_ok hx ht
  have hrun : ∀ ad : Addr, a.eval x = .pointer (some ad) → ∀ w', (execOp a.eval o).run P w' = .ok (.value (a.eval x)) w' := by
    intro ad e
    intro w'; simp [execOp, ho, e]
  simp only [quiet] at hk
  split at hk
  · rename_i e
    have hv' := hv
    rw [e] at hv'
    obtain ⟨hl, ad, ea, _⟩ := hv'.2
    exact GivesA.val (hrun ad ea) hv hk
  · rename_i e
    have hv' := hv
    rw [e] at hv'
    obtain ⟨_, b, o', hok, ev, hcell⟩ := hv'
    exact GivesA.val (hrun _ ev) hv hk
  · exact hk.elim

theorem ext_field {o : Oper} {t : TypeId} {f off : Nat} {n : Option Nat} {fields : Array Field} {fld : Field} {K : Heap → T → Prop} (Fn : FnT) (hh : HeapOk G H w) (ht : Temps G H w ts a.tmps) (ho : o.op = .field t x f) (hx : OpdOk x y)
    (hu : P.underlying t = some (.struct fields)) (hf : fields[f]? = some fld) (hoff : fld.offset = off) (hn : LoadOk P fld.type n)
    (hk : quiet Fn ts H (.field off n y) K) : GivesA P G H w a o K := by
  have hv := get_ok hx ht
  simp only [quiet] at hk
  split at hk
  · rename_i cs e
    rw [e] at hv
    obtain ⟨vs, ev, hl, hc⟩ := hv
    cases n with
    | none =>
      obtain ⟨hlt, hk⟩ := hk
      have hlv : off < vs.length := by omega
      have h1 : vs[off]? = some vs[off] := List.getElem?_eq_getElem hlv
      have h2 : cs[off]? = some cs[off] := List.getElem?_eq_getElem hlt
      have hd : cs.getD off .dead = cs[off] := by rw [List.getD_eq_getElem?_getD, h2]; rfl
      rw [hd] at hk
      simp only [LoadOk] at hn
      refine GivesA.val (v := vs[off]) (t := .d cs[off]) ?_ ?_ hk
      · intro w'; simp [execOp, ho, Instr.field, run_underlying hu, hf, ev, asAgg, part, hn w', hoff, hlv]
      · have := hc off _ _ h2 h1
        cases hd : cs[off] <;> first | trivial | (rw [hd] at this; exact this)
    | some m =>
      obtain ⟨hlt, hk⟩ := hk
      simp only [LoadOk] at hn
      refine GivesA.val (v := .agg (vs.toArray.extract off (off + m))) (t := .agg ((cs.drop off).take m)) ?_ ?_ hk
      · intro w'; simp [execOp, ho, Instr.field, run_underlying hu, hf, ev, asAgg, part, hn.1 w', hn.2 w', hoff]
      · refine ⟨(vs.drop off).take m, ?_, by simp; omega, fun k d u hd hu => ?_⟩
        · congr 1
          apply Array.ext'
          simp [List.extract_eq_take_drop]
        · simp only [List.getElem?_take, List.getElem?_drop] at hd hu
          by_cases hkm : k < m
          · rw [if_pos hkm] at hd hu
            exact hc _ d u hd hu
          · rw [if_neg hkm] at hd
            cases hd
  · exact hk.elim

theorem asInt_of {k : IntKind} {n : Int} {v : Value} (h : TR G H w (.d (.int k n)) v) : v = .int k n := h.2

theorem ext_indexAddr {o : Oper} {t e : TypeId} {sz : Nat} {K : Heap → T → Prop} (Fn : FnT) (hh : HeapOk G H w) (ht : Temps G H w ts a.tmps) (ho : o.op = .indexAddr t x x2) (hx : OpdOk x y) (hx2 : OpdOk x2 y2)
    (hu : P.underlying t = some (.slice e)) (hsz : ∀ w, (sizeOf e).run P w = .ok sz w)
    (hk : quiet Fn ts H (.indexAddr sz y y2) K) : GivesA P G H w a o K := by
  have hv := get_ok hx ht
  have hi := get_ok hx2 ht
  have hrun : ∀ (ad : Addr) (len cap : Nat) (k : IntKind) (z : Int), a.eval x = .slice (some ad) len cap → a.eval x2 = .int k z → 0 ≤ z → z < len →
      ∀ w', (execOp a.eval o).run P w' = .ok (.value (.pointer (some (ad.add (z.toNat * sz))))) w' := by
    intro ad len cap k z e1 e2 h0 h1
    intro w'; simp [execOp, ho, Instr.indexAt, e1, e2, asIntOf, run_underlying hu, h0, h1, hsz]
  simp only [quiet] at hk
  split at hk
  · rename_i id p tot off len k z e1 e2
    rw [e1] at hv
    rw [e2] at hi
    split at hk
    · rename_i R hR
      obtain ⟨hp, hRs, hRn, h0, h1, hk⟩ := hk
      have hin := hv.2.2 R ⟨hR, hp⟩ hRn
      have hlen : 0 < len := by omega
      unfold inSl at hin
      cases hm : G.μ id p with
      | none => rw [hm] at hin; obtain ⟨_, _, h, _⟩ := hin; omega
      | some bo =>
        obtain ⟨b, ob⟩ := bo
        rw [hm] at hin
        obtain ⟨A, cap, ev, h2, h3, h4, h5⟩ := hin
        have hA : A = some ⟨b, ob + off * R.sz, none⟩ := by
          rcases h5 with h5 | h5
          · omega
          · exact h5
        subst hA
        refine GivesA.val (t := .d (.ptr id p tot (off + z.toNat) 0)) (hrun _ _ _ _ _ ev hi.2 h0 h1) ⟨rfl, hv.2.1, _, rfl, fun R2 hR2 hn2 hi2 => ⟨b, ob, hm, ?_⟩⟩ hk
        have : R2 = R := by have := hR.symm.trans hR2.1; injection this with this; exact this.symm
        rw [addr_add, this, hRs]
        congr 1
        rw [Nat.add_mul]
        omega
    · exact hk.elim
  · rename_i ow sz2 n at_ k z e1 e2
    rw [e1] at hv
    rw [e2] at hi
    obtain ⟨rfl, rfl, h0, h1, hk⟩ := hk
    obtain ⟨_, _, A, cap, ev, _, hc⟩ := hv
    obtain ⟨b, off, hA, hok, hcell⟩ := hc (by omega)
    subst hA
    refine GivesA.val (t := .d (.rp sz2 (at_ z.toNat) 0)) (hrun _ _ _ _ _ ev hi.2 h0 h1) ⟨rfl, b, off + z.toNat * sz2, hok, by rw [addr_add]; rfl, fun f' hf => ?_⟩ hk
    exact hcell z.toNat f' (by omega) hf
  · exact hk.elim

theorem ext_len {o : Oper} {t : TypeId} {str : Bool} {K : Heap → T → Prop} (Fn : FnT) (hh : HeapOk G H w) (ht : Temps G H w ts a.tmps) (ho : o.op = .call { callee := .builtin .len, args := #[x], argTypes := #[t] }) (hx : OpdOk x y)
    (hu : if str then P.underlying t = some .string else ∃ e, P.underlying t = some (.slice e)) (hk : quiet Fn ts H (.len str y) K) : GivesA P G H w a o K := by
  have hv := get_ok hx ht
  cases str with
  | false =>
    obtain ⟨e, he⟩ := hu
    have hsl : ∀ A n cap, a.eval x = .slice A n cap → ∀ w', (execOp a.eval o).run P w' = .ok (.value (.int .i64 n)) w' := by
      intro A n cap e1
      intro w'; simp [execOp, ho, resolve, invoke, builtin, Builtin.len_, run_underlying he, e1, goInt]
    simp only [quiet] at hk
    split at hk
    · rename_i e1
      rw [e1] at hv
      obtain ⟨_, _, A, cap, ev, _⟩ := hv
      exact GivesA.val (t := .d (.int .i64 _)) (hsl _ _ _ ev) ⟨rfl, rfl⟩ hk
    · rename_i e1
      rw [e1] at hv
      obtain ⟨_, A, ev⟩ := hv
      exact GivesA.val (t := .d (.int .i64 _)) (hsl _ _ _ ev) ⟨rfl, rfl⟩ hk
    · rename_i e1
      rw [e1] at hv
      split at hk
      · rename_i R hR
        obtain ⟨hp, hRn, hk⟩ := hk
        have hin := hv.2.2 R ⟨hR, hp⟩ hRn
        unfold inSl at hin
        split at hin
        · obtain ⟨_, _, rfl, A, ev⟩ := hin
          exact GivesA.val (t := .d (.int .i64 _)) (hsl _ _ _ ev) ⟨rfl, rfl⟩ hk
        · obtain ⟨A, cap, ev, _⟩ := hin
          exact GivesA.val (t := .d (.int .i64 _)) (hsl _ _ _ ev) ⟨rfl, rfl⟩ hk
      · exact hk.elim
    · rename_i h _; cases h
    · exact hk.elim
  | true =>
    have he : P.underlying t = some .string := hu
    simp only [quiet] at hk
    split at hk
    · rename_i h _; cases h
    · rename_i h _; cases h
    · rename_i h _; cases h
    · rename_i s _ e1
      rw [e1] at hv
      have ev : a.eval x = .string s := hv.2
      refine GivesA.val (v := .int .i64 s.size) (t := .d (.int .i64 _)) ?_ ⟨rfl, rfl⟩ hk
      intro w'; simp [execOp, ho, resolve, invoke, builtin, Builtin.len_, run_underlying he, ev, goInt]
    · exact hk.elim

theorem ext_strIdx {o : Oper} {t : TypeId} {K : Heap → T → Prop} (Fn : FnT) (hh : HeapOk G H w) (ht : Temps G H w ts a.tmps) (ho : o.op = .index t x x2) (hx : OpdOk x y) (hx2 : OpdOk x2 y2)
    (hu : P.underlying t = some .string) (hk : quiet Fn ts H (.strIdx y y2) K) : GivesA P G H w a o K := by
  have hv := get_ok hx ht
  have hi := get_ok hx2 ht
  simp only [quiet] at hk
  split at hk
  · rename_i s k z e1 e2
    rw [e1] at hv
    rw [e2] at hi
    obtain ⟨h0, h1, hk⟩ := hk
    have ev : a.eval x = .string s := hv.2
    have ei : a.eval x2 = .int k z := hi.2
    have hz : z.toNat < s.size := by omega
    have hz2 : z.toNat < s.data.size := hz
    have hd : s.data.getD z.toNat 0 = s[z.toNat] := by
      rw [Array.getD_eq_getD_getElem?, Array.getElem?_eq_getElem hz2]; rfl
    rw [hd] at hk
    refine GivesA.val (v := .int .u8 (s[z.toNat]).toNat) (t := .d (.int .u8 _)) ?_ ⟨rfl, rfl⟩ hk
    intro w'; simp [execOp, ho, Instr.index, ev, ei, asIntOf, run_underlying hu, h0, hz]
  · exact hk.elim

theorem ext_extract {o : Oper} {i : Nat} {K : Heap → T → Prop} (Fn : FnT) (hh : HeapOk G H w) (ht : Temps G H w ts a.tmps) (ho : o.op = .extract x i) (hx : OpdOk x y)
    (hk : quiet Fn ts H (.extract i y) K) : GivesA P G H w a o K := by
  have hv := get_ok hx ht
  simp only [quiet] at hk
  split at hk
  · rename_i xs e1
    rw [e1] at hv
    obtain ⟨hlt, hk⟩ := hk
    obtain ⟨vs, ev, hl, hc⟩ := hv
    have hlv : i < vs.length := by omega
    have h1 : vs[i]? = some vs[i] := List.getElem?_eq_getElem hlv
    have h2 : xs[i]? = some xs[i] := List.getElem?_eq_getElem hlt
    have hd : xs.getD i (.d .dead) = xs[i] := by rw [List.getD_eq_getElem?_getD, h2]; rfl
    rw [hd] at hk
    refine GivesA.val (v := vs[i]) (t := xs[i]) ?_ ?_ hk
    · intro w'; simp [execOp, ho, Instr.extract, ev, hlv]
    · have := hc i _ _ h2 h1
      cases hd : xs[i] with
      | d z => rw [hd] at this; cases z <;> first | trivial | exact this
      | agg cs => rw [hd] at this; exact this
      | tup ts => rw [hd] at this; exact this.elim
  · exact hk.elim

theorem ext_mkFn {o : Oper} {g : Nat} {caps : Array Operand} {caps' : List Opd} {K : Heap → T → Prop} (Fn : FnT) (hh : HeapOk G H w) (ht : Temps G H w ts a.tmps) (ho : o.op = .makeFunc (.func g) #[] caps)
    (hx : F2 OpdOk caps.toList caps') (hk : quiet Fn ts H (.mkFn g caps') K) : GivesA P G H w a o K := by
  simp only [quiet] at hk
  split at hk
  · rename_i ids e
    have key : ∀ (l : List Operand) (l' : List Opd), F2 OpdOk l l' → ∀ ids, capIds (l'.map (·.get ts)) = some ids → l.length = ids.length ∧ ∀ (k : Nat) (c : Nat) (u : Value), ids[k]? = some c → (l.map a.eval)[k]? = some u → ptrOk G H c [] 1 0 0 u := by
      intro l l' h
      induction h with
      | nil => intro ids e; simp only [List.map_nil, capIds] at e; injection e with e; subst e; exact ⟨rfl, fun k c u hk => by simp at hk⟩
      | @cons x y xs ys h _ ih =>
        intro ids e
        have hv := get_ok h ht
        simp only [List.map_cons] at e
        unfold capIds at e
        split at e
        · rename_i h2; cases h2
        · rename_i id r h2
          injection h2 with h2 h3
          rw [h2] at hv
          rw [← h3] at e
          split at e
          · rename_i l2 h4
            injection e with e
            subst e
            obtain ⟨h5, h6⟩ := ih l2 h4
            refine ⟨by simp [h5], fun k c u hk hu => ?_⟩
            cases k with
            | zero =>
              simp only [List.getElem?_cons_zero, Option.some.injEq, List.map_cons] at hk hu
              subst hk; subst hu
              exact hv.2
            | succ k => exact h6 k c u (by simpa using hk) (by simpa using hu)
          · cases e
        · cases e
    obtain ⟨h1, h2⟩ := key _ _ hx ids e
    refine GivesA.val (v := .func (.func g) #[] (caps.map a.eval)) (t := .d (.fn g ids)) ?_ ⟨rfl, (caps.map a.eval).toList, ?_, ?_, ?_⟩ hk
    · intro w'; simp [execOp, ho, Instr.makeFunc]
    · rw [Array.toArray_toList]
    · simpa using h1
    · intro k c u hk hu
      exact h2 k c u hk (by simpa using hu)
  · exact hk.elim

theorem ext_minmax {o : Oper} {t : Array TypeId} {mx : Bool} {K : Heap → T → Prop} (Fn : FnT) (hh : HeapOk G H w) (ht : Temps G H w ts a.tmps)
    (ho : o.op = .call { callee := .builtin (if mx then .max else .min), args := #[x, x2], argTypes := t }) (hx : OpdOk x y) (hx2 : OpdOk x2 y2)
    (hk : quiet Fn ts H (.minmax mx y y2) K) : GivesA P G H w a o K := by
  have hv := get_ok hx ht
  have hv2 := get_ok hx2 ht
  simp only [quiet] at hk
  split at hk
  · rename_i k p k2 q e1 e2
    rw [e1] at hv
    rw [e2] at hv2
    obtain ⟨rfl, hk⟩ := hk
    have ev : a.eval x = .int k p := hv.2
    have ev2 : a.eval x2 = .int k q := hv2.2
    refine GivesA.val (v := .int k (if mx then max p q else min p q)) (t := .d (.int k _)) ?_ ⟨rfl, rfl⟩ hk
    cases mx
    · simp only [if_false, Bool.false_eq_true] at ho ⊢
      have : (if q < p then q else p) = min p q := by split <;> omega
      intro w'; simp [execOp, ho, resolve, invoke, builtin, Builtin.min_, Builtin.min2, ev, ev2, this]
    · simp only [if_true] at ho ⊢
      have : (if p < q then q else p) = max p q := by split <;> omega
      have : (if q > p then q else p) = max p q := by split <;> omega
      intro w'; simp [execOp, ho, resolve, invoke, builtin, Builtin.max_, Builtin.max2, ev, ev2, this]
  · exact hk.elim
end
end Go.R
