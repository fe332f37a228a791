/- The operations that change no memory, continued: conversions, slices of slices, make. -/
import Derived.Test.YtgpicngmadkdoaaDoorRQuiet5
import Derived.Laws.BytesString
set_option linter.unusedVariables false
set_option linter.unusedSimpArgs false
namespace Go.R
open Go.RowKit

theorem beq_type (s d : TypeId) (h : s ≠ d) : (s == d) = false := by simp [h]

section
variable {P : Program} {G : Gh} {H : Heap} {w : World} {ts : List T} {a : Act} {x x2 : Operand} {y y2 : Opd}

theorem ext_convInt {o : Oper} {src dst : TypeId} {k k0 : IntKind} {K : Heap → T → Prop} (Fn : FnT) (hh : HeapOk G H w) (ht : Temps G H w ts a.tmps) (ho : o.op = .convert src dst x) (hx : OpdOk x y)
    (hs : P.underlying src = some (.int k0)) (hd : P.underlying dst = some (.int k)) (hk : quiet Fn ts H (.conv (.int k) y) K) : GivesA P G H w a o K := by
  have hv := get_ok hx ht
  simp only [quiet] at hk
  split at hk
  · rename_i k' k1 p hc e1
    injection hc with hc
    subst hc
    rw [e1] at hv
    have ev : a.eval x = .int k1 p := hv.2
    exact GivesA.val (v := .int k (k.wrap p)) (t := .d (.int _ _)) (fun w' => by simp [execOp, ho, ev, convert, run_underlying hs, run_underlying hd, Conv.intToInt]) ⟨rfl, rfl⟩ hk
  · rename_i hc _; cases hc
  · rename_i hc _; cases hc
  · exact hk.elim

theorem ext_convStr {o : Oper} {src dst : TypeId} {K : Heap → T → Prop} (Fn : FnT) (hh : HeapOk G H w) (ht : Temps G H w ts a.tmps) (ho : o.op = .convert src dst x) (hx : OpdOk x y)
    (hs : P.underlying src = some .string) (hd : P.underlying dst = some .string) (hk : quiet Fn ts H (.conv .str y) K) : GivesA P G H w a o K := by
  have hv := get_ok hx ht
  simp only [quiet] at hk
  split at hk
  · rename_i hc _; cases hc
  · rename_i s _ e1
    rw [e1] at hv
    have ev : a.eval x = .string s := hv.2
    exact GivesA.val (v := .string s) (t := .d (.str _)) (fun w' => by simp [execOp, ho, ev, convert, run_underlying hs, run_underlying hd]) ⟨rfl, rfl⟩ hk
  · rename_i hc _; cases hc
  · exact hk.elim

/-- What a viewed slice's memory holds. -/
theorem view_cells (hh : HeapOk G H w) {d : D} {v : Value} {V : View} (hv : VR G H w d v) (hV : view H d = some V) (hok : V.ok) :
    ∃ A cap, v = .slice A V.n cap ∧ (0 < V.n → ∃ b o, A = some ⟨b, o, none⟩ ∧ ∀ i f, i < V.n → f < V.sz → ∃ u, w.cell? ⟨b, o + i * V.sz + f, none⟩ = some u ∧ u.oneCell' = true ∧ ((V.at_ i f).flat = true → (V.at_ i f).RO w (fun _ => True) u)) := by
  unfold view at hV
  split at hV
  · injection hV with hV
    subst hV
    obtain ⟨_, A, cap, ev, _, hc⟩ := hv
    refine ⟨A, cap, ev, fun hn => ?_⟩
    obtain ⟨b, o, hA, _, hcell⟩ := hc hn
    refine ⟨b, o, hA, fun i f hi hf => ?_⟩
    obtain ⟨u, hu, h1, h2⟩ := hcell i f hi hf
    refine ⟨u, hu, h1, fun hfl => ?_⟩
    simp only at hfl ⊢
    generalize hd : (‹Nat → Nat → D› : Nat → Nat → D) i f = dd at h2 hfl ⊢
    cases dd <;> first | exact h2 | cases hfl
  · injection hV with hV
    subst hV
    obtain ⟨A, ev⟩ := hv
    exact ⟨A, 0, ev, fun h => absurd h (Nat.lt_irrefl _)⟩
  · rename_i id p tot off len
    split at hV
    · rename_i R hR
      injection hV with hV
      subst hV
      obtain ⟨hp, hn, hl⟩ := hok
      have hin := hv.2 R ⟨hR, hp⟩ hn
      have hk := hh.node ⟨hR, hp⟩
      unfold inSl at hin
      unfold NodeOk at hk
      cases hm : G.μ id p with
      | none =>
        rw [hm] at hin
        obtain ⟨_, _, rfl, A, ev⟩ := hin
        exact ⟨A, 0, ev, fun h => absurd h (Nat.lt_irrefl _)⟩
      | some bo =>
        rw [hm] at hin hk
        obtain ⟨b, o⟩ := bo
        obtain ⟨A, cap, ev, h1, h2, h3, h4⟩ := hin
        obtain ⟨c, t, hc, hs, hcell⟩ := hk
        refine ⟨A, cap, ev, fun hn0 => ?_⟩
        simp only at hn0 ⊢
        have hA : A = some ⟨b, o + off * R.sz, none⟩ := by
          rcases h4 with h4 | h4
          · omega
          · exact h4
        refine ⟨b, o + off * R.sz, hA, fun i f hi hf => ?_⟩
        obtain ⟨u, hu, hcu⟩ := hcell (off + i) f (by omega) hf
        have haddr : o + off * R.sz + i * R.sz + f = o + (off + i) * R.sz + f := by rw [Nat.add_mul]; omega
        refine ⟨u, by rw [haddr]; simp [World.cell?, hc, hu], hcu.1, fun hfl => ?_⟩
        have hsh : subAt off len R.at_ i f = R.at_ (off + i) f := if_pos hi
        rw [hsh] at hfl ⊢
        have h5 := hcu.2
        cases hd : R.at_ (off + i) f <;> rw [hd] at h5 hfl <;> first | exact h5 | (simp [D.ro, D.flat] at hfl)
    · cases hV
  · cases hV

theorem ext_convBytes {o : Oper} {src dst e : TypeId} {K : Heap → T → Prop} (Fn : FnT) (hh : HeapOk G H w) (ht : Temps G H w ts a.tmps) (ho : o.op = .convert src dst x) (hx : OpdOk x y)
    (hs : P.underlying src = some (.slice e)) (he : P.underlying e = some (.int .u8)) (hd : P.underlying dst = some .string) (hk : quiet Fn ts H (.conv .bytes y) K) : GivesE P G H w a o K := by
  have hv := get_ok hx ht
  simp only [quiet] at hk
  split at hk
  · rename_i hc _; cases hc
  · rename_i hc _; cases hc
  · rename_i d _ e1
    rw [e1] at hv
    split at hk
    · rename_i V hV
      obtain ⟨hok, hsz, hb, hk⟩ := hk
      have hv' : VR G H w d (a.eval x) := by
        cases d <;> first | exact hv.2 | (simp [view] at hV)
      obtain ⟨A, cap, ev, hc⟩ := view_cells hh hv' hV hok
      have hstr : ∀ w', Ext w w' → (convert src dst (.slice A V.n cap)).run P w' = .ok (.string (bytesOfAt V.n V.at_)) w' := by
        intro w' hw'
        rw [run_convert_bytes_string w' src dst e A V.n cap hs he hd]
        rcases Nat.eq_zero_or_pos V.n with h0 | h0
        · cases A with
          | none => simp [Conv.bytesToString, h0, bytesOfAt]; rfl
          | some ad => rw [h0]; simp [Conv.bytesToString, loadCells, loadCellsFrom, bytesOfAt]; rfl
        · obtain ⟨b, o', hA, hcell⟩ := hc h0
          subst hA
          have hns : ∀ i, i < V.n → ∃ n : Int, V.at_ i 0 = .int .u8 n := by
            intro i hi
            have := hb i hi
            cases hd : V.at_ i 0 with
            | int k n => rw [hd] at this; cases k <;> first | exact ⟨n, rfl⟩ | cases this
            | _ => rw [hd] at this; cases this
          let ns : List Int := (List.range V.n).map fun i => match V.at_ i 0 with | .int _ n => n | _ => 0
          have hl : (loadCells ⟨b, o', none⟩ V.n).run P w' = .ok (ns.map (Value.int .u8)).toArray w' := by
            rw [run_loadCells_at (us := fun j => match V.at_ j 0 with | .int _ n => .int .u8 n | _ => .int .u8 0)]
            · congr 2
              simp only [ns, List.map_map]
              apply List.map_congr_left
              intro i hi
              obtain ⟨n, hn⟩ := hns i (by simpa using hi)
              simp [hn]
            · intro j hj
              obtain ⟨n, hn⟩ := hns j hj
              obtain ⟨u, hu, _, h2⟩ := hcell j 0 hj (by omega)
              rw [hsz, Nat.mul_one, Nat.add_zero] at hu
              rw [Wx.cell hw' (fun k => k) hu, hn]
              have := h2 (by rw [hn]; rfl)
              rw [hn] at this
              exact congrArg some this
          rw [run_bytesToString w' ⟨b, o', none⟩ V.n cap ns hl]
          congr 2
          have hf : ∀ (l : List Int) (s : ByteArray), (l.foldl (fun r n => r.push (UInt8.ofNat n.toNat)) s).data.toList = s.data.toList ++ l.map fun n => UInt8.ofNat n.toNat := by
            intro l
            induction l with
            | nil => intro s; simp
            | cons n l ih => intro s; rw [List.foldl_cons, ih]; simp [ByteArray.push]
          apply ByteArray.ext
          apply Array.ext'
          rw [hf]
          simp only [bytesOfAt, ns, List.map_map]
          show [] ++ _ = _
          rw [List.nil_append]
          apply List.map_congr_left
          intro i hi
          obtain ⟨n, hn⟩ := hns i (by simpa using hi)
          simp [hn, D.byte]
      exact GivesE.val (v := .string (bytesOfAt V.n V.at_)) (t := .d (.str _)) (fun w' hw' => by simp [execOp, ho, ev, hstr w' hw']) ⟨rfl, rfl⟩ hk
    · exact hk.elim
  · exact hk.elim

theorem optInt_run {lo : Option Operand} {lo' : Option Opd} {d : Int} (ht : Temps G H w ts a.tmps) (hx : match lo, lo' with | none, none => True | some x, some y => OpdOk x y | _, _ => False)
    (hok : optOk (lo'.map (·.get ts)) = true) : match lo with | none => lo' = none ∧ optInt (lo'.map (·.get ts)) d = d | some x => ∃ k, a.eval x = .int k (optInt (lo'.map (·.get ts)) d) := by
  cases lo with
  | none =>
    cases lo' with
    | none => exact ⟨rfl, rfl⟩
    | some y => exact hx.elim
  | some x =>
    cases lo' with
    | none => exact hx.elim
    | some y =>
      have hv := get_ok hx ht
      simp only [Option.map_some] at hok ⊢
      generalize y.get ts = t at hv hok ⊢
      cases t with
      | d x =>
        cases x <;> first | (cases hok; done) | skip
        rename_i k n
        exact ⟨k, hv.2⟩
      | _ => cases hok

def OptOk (lo : Option Operand) (lo' : Option Opd) : Prop := match lo, lo' with
  | none, none => True
  | some x, some y => OpdOk x y
  | _, _ => False

theorem slice_run (w' : World) {t e : TypeId} {sz : Nat} {A : Option Addr} {len cap : Nat} {lo hi : Option Operand} {lo' hi' : Option Opd} (ht : Temps G H w ts a.tmps)
    (hlo : OptOk lo lo') (hhi : OptOk hi hi') (ho : (optOk (lo'.map (·.get ts)) && optOk (hi'.map (·.get ts))) = true)
    (hu : P.underlying t = some (.slice e)) (hsz : ∀ w, (sizeOf e).run P w = .ok sz w) (l h : Nat)
    (hl : optInt (lo'.map (·.get ts)) 0 = l) (hh : optInt (hi'.map (·.get ts)) len = h) (h1 : l ≤ h) (h2 : h ≤ cap) :
    (Instr.slice t (.slice A len cap) (lo.map a.eval) (hi.map a.eval) none).run P w' = .ok (.slice (if cap = l then A else A.map (·.add (l * sz))) (h - l) (cap - l)) w' := by
  rw [Bool.and_eq_true] at ho
  have e1 := optInt_run (d := 0) ht hlo ho.1
  have e2 := optInt_run (d := (len : Int)) ht hhi ho.2
  have hb : (Instr.sliceBounds true len cap (lo.map a.eval) (hi.map a.eval) none).run P w' = .ok (l, h, cap) w' := by
    cases lo with
    | none =>
      have hl0 : (0 : Int) = l := by rw [← hl, e1.2]
      have : l = 0 := by omega
      subst this
      cases hi with
      | none =>
        have : len = h := by rw [e2.2] at hh; omega
        subst this
        simp [Instr.sliceBounds]
      | some x =>
        obtain ⟨k, hk⟩ := e2
        rw [hh] at hk
        simp [Instr.sliceBounds, Instr.sliceBound, hk, asIntOf, h2]
    | some y =>
      obtain ⟨k1, hk1⟩ := e1
      rw [hl] at hk1
      cases hi with
      | none =>
        have : len = h := by rw [e2.2] at hh; omega
        subst this
        simp [Instr.sliceBounds, Instr.sliceBound, hk1, asIntOf, h1]
      | some x =>
        obtain ⟨k, hk⟩ := e2
        rw [hh] at hk
        simp [Instr.sliceBounds, Instr.sliceBound, hk, hk1, asIntOf, h1, h2]
  simp [Instr.slice, run_underlying hu, hb, hsz]

theorem ext_slice {o : Oper} {t e : TypeId} {sz : Nat} {lo hi : Option Operand} {lo' hi' : Option Opd} {K : Heap → T → Prop} (Fn : FnT) (hh : HeapOk G H w) (ht : Temps G H w ts a.tmps)
    (ho : o.op = .slice t x lo hi none) (hx : OpdOk x y) (hlo : OptOk lo lo') (hhi : OptOk hi hi')
    (hu : P.underlying t = some (.slice e)) (hsz : ∀ w, (sizeOf e).run P w = .ok sz w)
    (hk : quiet Fn ts H (.slice sz y lo' hi' none) K) : GivesA P G H w a o K := by
  have hv := get_ok hx ht
  obtain ⟨hopt, hk⟩ := hk
  have hopt : (optOk (lo'.map (·.get ts)) && optOk (hi'.map (·.get ts))) = true := by simpa using hopt
  have hrun : ∀ A len cap (l h : Nat), a.eval x = .slice A len cap → optInt (lo'.map (·.get ts)) 0 = l → optInt (hi'.map (·.get ts)) len = h → l ≤ h → h ≤ cap →
      ∀ w', (execOp a.eval o).run P w' = .ok (.value (.slice (if cap = l then A else A.map (·.add (l * sz))) (h - l) (cap - l))) w' := by
    intro A len cap l h ev h1 h2 h3 h4
    intro w'
    have := slice_run (P := P) w' (A := A) (cap := cap) ht hlo hhi hopt hu hsz l h h1 h2 h3 h4
    have h6 : (Instr.sliceAt t (.slice A len cap) (lo.map a.eval) (hi.map a.eval) none).run P w' = .ok (.slice (if cap = l then A else A.map (·.add (l * sz))) (h - l) (cap - l)) w' := by
      rw [← this]
      simp [Instr.sliceAt, run_underlying hu]
    simp only [execOp, ho, ev, Option.map_none]
    rw [Sem.run_bind, h6]
    rfl
  split at hk
  · rename_i ow sz2 n at_ e1
    rw [e1] at hv
    obtain ⟨rfl, rfl, h0, h1, h2, hk⟩ := hk
    obtain ⟨_, _, A, cap, ev, hcap, hc⟩ := hv
    generalize hl : optInt (lo'.map (·.get ts)) 0 = l at h0 h1 hk
    generalize hhh : optInt (hi'.map (·.get ts)) n = h at h1 h2 hk
    refine GivesA.val (t := .d (.sl false sz2 (h.toNat - l.toNat) (subAt l.toNat (h.toNat - l.toNat) at_))) (hrun A n cap l.toNat h.toNat ev (by rw [hl]; omega) (by rw [hhh]; omega) (by omega) (by omega)) ⟨rfl, rfl, _, cap - l.toNat, rfl, by omega, fun hn => ?_⟩ hk
    obtain ⟨b, off, hA, hok, hcell⟩ := hc (by omega)
    have hne : ¬ cap = l.toNat := by omega
    refine ⟨b, off + l.toNat * sz2, by rw [if_neg hne, hA]; simp [addr_add], hok, fun i f hi hf => ?_⟩
    obtain ⟨u, hu, h3, h4⟩ := hcell (l.toNat + i) f (by omega) hf
    refine ⟨u, by rw [← hu]; congr 2; rw [Nat.add_mul]; omega, h3, ?_⟩
    have : subAt l.toNat (h.toNat - l.toNat) at_ i f = at_ (l.toNat + i) f := if_pos hi
    rw [this]
    exact h4
  · rename_i id p tot off n e1
    rw [e1] at hv
    split at hk
    · rename_i R hR
      obtain ⟨hp, rfl, hRn, h0, h1, h2, hk⟩ := hk
      have hin := hv.2.2 R ⟨hR, hp⟩ hRn
      generalize hl : optInt (lo'.map (·.get ts)) 0 = l at h0 h1 hk
      generalize hhh : optInt (hi'.map (·.get ts)) n = h at h1 h2 hk
      unfold inSl at hin
      cases hm : G.μ id p with
      | none =>
        rw [hm] at hin
        obtain ⟨rfl, rfl, rfl, A, ev⟩ := hin
        have hh0 : h = 0 := by omega
        have hl0 : l = 0 := by omega
        refine GivesA.val (t := .d (.own id p 0 (0 + l.toNat) (h.toNat - l.toNat))) (hrun A 0 0 0 0 ev (by rw [hl]; omega) (by rw [hhh]; omega) (by omega) (by omega)) ⟨rfl, hv.2.1, fun R2 hR2 hn2 => ?_⟩ hk
        rw [hm, hh0, hl0]
        exact ⟨rfl, rfl, rfl, A, rfl⟩
      | some bo =>
        obtain ⟨b, ob⟩ := bo
        rw [hm] at hin
        obtain ⟨A, cap, ev, h3, h4, h5, h6⟩ := hin
        refine GivesA.val (t := .d (.own id p tot (off + l.toNat) (h.toNat - l.toNat))) (hrun A n cap l.toNat h.toNat ev (by rw [hl]; omega) (by rw [hhh]; omega) (by omega) (by omega)) ⟨rfl, hv.2.1, fun R2 hR2 hn2 => ?_⟩ hk
        have : R2 = R := by have := hR.symm.trans hR2.1; injection this with this; exact this.symm
        subst this
        rw [hm]
        refine ⟨_, cap - l.toNat, rfl, by omega, by omega, by rw [show off + l.toNat + (cap - l.toNat) = off + cap by omega]; exact h5, ?_⟩
        by_cases hne : cap = l.toNat
        · exact .inl (by omega)
        · right
          rw [if_neg hne]
          rcases h6 with h6 | h6
          · omega
          · rw [h6]
            simp only [Option.map_some, addr_add]
            congr 2
            rw [Nat.add_mul]
            omega
    · exact hk.elim
  · rename_i sz2 e1
    rw [e1] at hv
    obtain ⟨rfl, h0, h1, hk⟩ := hk
    obtain ⟨_, A, ev⟩ := hv
    refine GivesA.val (t := .d (.e0 sz2)) (hrun A 0 0 0 0 ev (by rw [h0]; rfl) (by simpa using h1) (by omega) (by omega)) ⟨rfl, A, by simp⟩ hk
  · exact hk.elim

theorem ext_substr {o : Oper} {t : TypeId} {lo hi : Option Operand} {lo' hi' : Option Opd} {K : Heap → T → Prop} (Fn : FnT) (hh : HeapOk G H w) (ht : Temps G H w ts a.tmps)
    (ho : o.op = .slice t x lo hi none) (hx : OpdOk x y) (hlo : OptOk lo lo') (hhi : OptOk hi hi') (hu : P.underlying t = some .string)
    (hk : quiet Fn ts H (.substr y lo' hi') K) : GivesA P G H w a o K := by
  have hv := get_ok hx ht
  obtain ⟨hopt, hk⟩ := hk
  rw [Bool.and_eq_true] at hopt
  split at hk
  · rename_i s e1
    rw [e1] at hv
    have ev : a.eval x = .string s := hv.2
    obtain ⟨h0, h1, h2, hk⟩ := hk
    have e1 := optInt_run (d := 0) ht hlo hopt.1
    have e2 := optInt_run (d := (s.size : Int)) ht hhi hopt.2
    generalize hl : optInt (lo'.map (·.get ts)) 0 = l at h0 h1 hk e1
    generalize hhh : optInt (hi'.map (·.get ts)) s.size = h at h1 h2 hk e2
    have hb : ∀ w', (Instr.sliceBounds false s.size s.size (lo.map a.eval) (hi.map a.eval) none).run P w' = .ok (l.toNat, h.toNat, s.size) w' := by
      intro w'
      cases lo with
      | none =>
        have : l = 0 := by rw [← e1.2]
        subst this
        cases hi with
        | none =>
          have : h = s.size := by rw [← e2.2]
          subst this
          simp [Instr.sliceBounds]
        | some x =>
          obtain ⟨k, hk⟩ := e2
          simp [Instr.sliceBounds, Instr.sliceBound, hk, asIntOf, h2, h1]
      | some y =>
        obtain ⟨k1, hk1⟩ := e1
        have hln : ((l.toNat : Nat) : Int) = l := by omega
        cases hi with
        | none =>
          have : h = s.size := by rw [← e2.2]
          subst this
          simp [Instr.sliceBounds, Instr.sliceBound, hk1, asIntOf, h1, h0]
        | some x =>
          obtain ⟨k, hk⟩ := e2
          have h3 : 0 ≤ h := by omega
          obtain ⟨h', rfl⟩ : ∃ m : Nat, h = m := ⟨h.toNat, by omega⟩
          have h5 : h' ≤ s.size := by omega
          have h6 : ¬ s.size < h' := by omega
          simp [Instr.sliceBounds, Instr.sliceBound, hk, hk1, asIntOf, h2, h0, h1, h5, h6]
    refine GivesA.val (v := .string (s.extract l.toNat h.toNat)) (t := .d (.str _)) ?_ ⟨rfl, rfl⟩ hk
    intro w'; simp [execOp, ho, ev, Instr.sliceAt, Instr.slice, run_underlying hu, hb]
  · exact hk.elim
end
end Go.R
