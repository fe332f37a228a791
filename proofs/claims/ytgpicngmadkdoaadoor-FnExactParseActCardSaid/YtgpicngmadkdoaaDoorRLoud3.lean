/- The operations that change what is there: append. -/
import Derived.Test.YtgpicngmadkdoaaDoorRApp
import Derived.Deep.AppendSrc
import Derived.Deep.Upon
set_option linter.unusedVariables false
set_option linter.unusedSimpArgs false
namespace Go.R
open Go.RowKit

section
variable {P : Program} {G G1 G2 : Gh} {H H1 H2 N E : Heap} {w w1 w2 : World} {q q2 : D → Bool} {s : St} {a : Act} {x x2 : Operand} {y y2 : Opd}

/-- What is appended, in the machine: cells in a row, each with what is known of it. -/
structure SrcR (G : Gh) (H : Heap) (w : World) (j : Option Nat) (sz n : Nat) (at2 : Nat → Nat → D) (v : Value) : Prop where
  ex : ∃ A cap, v = .slice A n cap ∧ (A = none → n = 0) ∧ (0 < n → ∃ b o, A = some ⟨b, o, none⟩ ∧ ∀ i f, i < n → f < sz → ∃ u, w.cell? ⟨b, o + i * sz + f, none⟩ = some u ∧ CellOk G H w (j.getD 0) [] i f (at2 i f) u)
  pl : ∀ i f, i < n → f < sz → (at2 i f).isPlain = true ∧ (j = none → ∀ sz n b, at2 i f ≠ .sl true sz n b)

theorem RO.plain {d : D} {v : Value} {ok : Nat → Prop} (h : d.RO w ok v) : d.isPlain = true ∧ ∀ sz n b, d ≠ .sl true sz n b := by
  cases d with
  | sl o sz n b =>
    refine ⟨rfl, fun _ _ _ e => ?_⟩
    injection e with e
    rw [e] at h
    exact absurd h.1 (by decide)
  | _ => first | exact h.elim | exact ⟨rfl, fun _ _ _ e => nomatch e⟩
theorem VR.of_RO' {d : D} {v : Value} (h : d.RO w G.ok v) : VR G H w d v := by
  cases d <;> first | exact h | exact h.elim
theorem CellOk.of_VR {id : Nat} {p : Path} {i f : Nat} {d : D} {u : Value} (h1 : u.oneCell' = true) (hn : ∀ sz n b, d ≠ .sl true sz n b) (h : VR G H w d u) : CellOk G H w id p i f d u := by
  refine ⟨h1, ?_⟩
  cases d with
  | sl o sz n b =>
    cases o
    · exact h
    · exact absurd rfl (hn sz n b)
  | _ => exact h

theorem source_ok {mv : Bool} {t : T} {v : Value} {c : Srce} (hh : HeapOk G H w) (hv : TR G H w t v) (hc : source H mv t = some c) (hok : c.ok) :
    ∃ j : Option Nat, Less c.H H (fun i => j = some i) ∧ (∀ j0, j = some j0 → H.getD j0 none = some (.arr c.sz c.n c.at_)) ∧ SrcR G H w j c.sz c.n c.at_ v := by
  unfold source at hc
  split at hc
  · rename_i o sz n at_
    injection hc with hc
    subst hc
    obtain ⟨_, _, A, cap, e, _, hcell⟩ := hv
    refine ⟨none, ⟨rfl, fun _ _ => rfl, fun _ h => nomatch h⟩, (fun _ h => nomatch h), ⟨⟨A, cap, e, fun hA => ?_, fun hn => ?_⟩, fun i f hi hf => ?_⟩⟩
    · rcases Nat.eq_zero_or_pos n with h | h
      · exact h
      · obtain ⟨b, off, hA2, _⟩ := hcell h
        rw [hA] at hA2; cases hA2
    · obtain ⟨b, off, hA, _, hc2⟩ := hcell hn
      refine ⟨b, off, hA, fun i f hi hf => ?_⟩
      obtain ⟨u, hu, h1, hr⟩ := hc2 i f hi hf
      exact ⟨u, hu, CellOk.of_VR h1 (RO.plain hr).2 (VR.of_RO' hr)⟩
    · have hi' : i < n := hi
      obtain ⟨b, off, hA, _, hc2⟩ := hcell (by omega)
      obtain ⟨u, hu, h1, hr⟩ := hc2 i f hi hf
      exact ⟨(RO.plain hr).1, fun _ => (RO.plain hr).2⟩
  · injection hc with hc
    subst hc
    obtain ⟨_, A, e⟩ := hv
    exact ⟨none, ⟨rfl, fun _ _ => rfl, fun _ h => nomatch h⟩, (fun _ h => nomatch h), ⟨⟨A, 0, e, fun _ => rfl, fun h => absurd h (Nat.lt_irrefl _)⟩, fun i f hi => absurd hi (Nat.not_lt_zero _)⟩⟩
  · rename_i id p tot off len
    split at hc
    · rename_i R hR
      cases mv with
      | true =>
        simp only [if_true] at hc
        injection hc with hc
        subst hc
        obtain ⟨rfl, rfl, rfl, rfl, harr⟩ := hok
        have hN : Node H id [] R := ⟨hR, by
          unfold nodeR at hR
          unfold pathOk
          cases ho : H.getD id none with
          | none => rw [ho] at hR; cases hR
          | some o => trivial⟩
        obtain ⟨o, ho, hs⟩ := node_sub.1 hN
        have hoR := Sub.nil.1 hs
        have hobj : H.getD id none = some (.arr R.sz R.n R.at_) := by
          cases o with
          | box cs => unfold arrAt at harr; rw [ho] at harr; exact harr.elim
          | arr sz n a => rw [ho, hoR]; rfl
        have hin := hv.2.2 R hN rfl
        have hno := hh.node hN
        refine ⟨some id, ⟨by simp, fun i hi => ?_, fun i hi => ?_⟩, fun j0 h => ?_, ⟨?_, fun i f hi hf => ⟨?_, fun h => by cases h⟩⟩⟩
        · show (H.set id none).getD i none = _
          rw [getD_set hN.lt, if_neg (fun e => hi (by rw [e]))]
        · show (H.set id none).getD i none = _
          injection hi with hi
          rw [getD_set hN.lt, if_pos hi.symm]
        · injection h with h
          subst h
          exact hobj
        · unfold inSl at hin
          unfold NodeOk at hno
          cases hm : G.μ id [] with
          | none =>
            rw [hm] at hin hno
            obtain ⟨h0, _, _, A, e⟩ := hin
            refine ⟨A, 0, by rw [e]; simp only at hno; simp only [hno], fun _ => hno, fun h => ?_⟩
            simp only at hno h
            omega
          | some bo =>
            obtain ⟨b, ob⟩ := bo
            rw [hm] at hin hno
            obtain ⟨A, cap, e, h1, h2, h3, h4⟩ := hin
            refine ⟨A, cap, e, fun hA => ?_, fun hn => ?_⟩
            · rcases h4 with h4 | h4
              · simp only; omega
              · rw [hA] at h4; cases h4
            · simp only at hn ⊢
              obtain ⟨c, t, hc, hs2, hcell⟩ := hno
              refine ⟨b, ob, ?_, fun i f hi hf => ?_⟩
              · rcases h4 with h4 | h4
                · omega
                · rw [h4]; simp
              · obtain ⟨u, hu, hcu⟩ := hcell i f hi hf
                exact ⟨u, by simp [World.cell?, hc, hu], hcu⟩
        · exact hh.plain hN (fun cs hcs => by rw [hobj] at hcs; cases hcs) hi hf
      | false =>
        simp only [Bool.false_eq_true, if_false] at hc
        injection hc with hc
        subst hc
        obtain ⟨hp, rfl, hle, hflat⟩ := hok
        have hN : Node H id p R := ⟨hR, hp⟩
        have hin := hv.2.2 R hN rfl
        have hno := hh.node hN
        have hfl : ∀ i f, i < len → f < R.sz → ∃ d, subAt off len R.at_ i f = d ∧ R.at_ (off + i) f = d ∧ d.flat = true := fun i f hi hf => ⟨_, rfl, (subAt_eq off len R.at_ f hi).symm, by rw [subAt_eq off len R.at_ f hi]; exact hflat (off + i) f (by omega) hf⟩
        refine ⟨none, ⟨rfl, fun _ _ => rfl, fun _ h => nomatch h⟩, (fun _ h => nomatch h), ⟨?_, fun i f hi hf => ?_⟩⟩
        · unfold inSl at hin
          unfold NodeOk at hno
          cases hm : G.μ id p with
          | none =>
            rw [hm] at hin
            obtain ⟨h0, _, h5, A, e⟩ := hin
            exact ⟨A, 0, by rw [e, h5], fun _ => h5, fun h => by simp only at h; omega⟩
          | some bo =>
            obtain ⟨b, ob⟩ := bo
            rw [hm] at hin hno
            obtain ⟨A, cap, e, h1, h2, h3, h4⟩ := hin
            refine ⟨A, cap, e, fun hA => ?_, fun hn => ?_⟩
            · rcases h4 with h4 | h4
              · simp only; omega
              · rw [hA] at h4; cases h4
            · simp only at hn ⊢
              obtain ⟨c, t, hc, hs2, hcell⟩ := hno
              refine ⟨b, ob + off * R.sz, ?_, fun i f hi hf => ?_⟩
              · rcases h4 with h4 | h4
                · omega
                · exact h4
              · obtain ⟨u, hu, hcu⟩ := hcell (off + i) f (by omega) hf
                obtain ⟨d, e1, e2, e3⟩ := hfl i f hi hf
                rw [e1]
                rw [e2] at hcu
                refine ⟨u, ?_, hcu.1, ?_⟩
                · rw [show ob + off * R.sz + i * R.sz + f = ob + (off + i) * R.sz + f by rw [Nat.add_mul]; omega]
                  simp [World.cell?, hc, hu]
                · have := hcu.2
                  cases d <;> first | exact this | cases e3
        · simp only at hi hf ⊢
          obtain ⟨d, e1, e2, e3⟩ := hfl i f hi hf
          rw [e1]
          cases d <;> first | (cases e3; done) | exact ⟨rfl, fun _ _ _ _ e => nomatch e⟩
    · cases hc
  · cases hc

theorem setCells_setRow {P : Program} {b o : Nat} {c : Array Value} {t : TypeId} {vs : List Value} (hc : w.heap[b]? = some (.cells c t (0, 0))) (hf : o + vs.length ≤ c.size) (h1 : ∀ v ∈ vs, v.oneCell' = true) :
    w.setCells b o vs = w.setRow b (c.toList.take o ++ vs ++ c.toList.drop (o + vs.length)).toArray := by
  have e1 := run_storeCells_at P b o t vs 0 c w hc (by simpa using hf) h1
  have e2 := run_storeCells_cells (P := P) b o vs 0 w (fun j hj => by simp [World.cell?, hc]; omega) (fun j hj => by simp [World.frozen?, hc]) h1
  rw [e1] at e2
  simp only [Nat.add_zero] at e2
  injection e2 with _ e2
  exact e2.symm

theorem flat_idx {n sz k : Nat} (hk : k < n * sz) : k / sz < n ∧ k % sz < sz ∧ k / sz * sz + k % sz = k := by
  have h0 : 0 < sz := by
    rcases Nat.eq_zero_or_pos sz with h | h
    · rw [h] at hk; simp at hk
    · exact h
  refine ⟨(Nat.div_lt_iff_lt_mul h0).2 hk, Nat.mod_lt _ h0, ?_⟩
  have := Nat.div_add_mod k sz
  rw [Nat.mul_comm] at this
  exact this

/-- A row of cells, as a list. -/
theorem rowList {b o n sz : Nat} {Q : Nat → Nat → Value → Prop} (h : ∀ i f, i < n → f < sz → ∃ u, w.cell? ⟨b, o + i * sz + f, none⟩ = some u ∧ Q i f u) :
    ∃ us : List Value, us.length = n * sz ∧ (∀ (j : Nat) u, us[j]? = some u → w.cell? ⟨b, o + j, none⟩ = some u) ∧ ∀ i f, i < n → f < sz → ∃ u, us[i * sz + f]? = some u ∧ Q i f u := by
  have hex : ∀ k, ∃ u, k < n * sz → w.cell? ⟨b, o + k, none⟩ = some u ∧ Q (k / sz) (k % sz) u := by
    intro k
    by_cases hk : k < n * sz
    · obtain ⟨h1, h2, h3⟩ := flat_idx hk
      obtain ⟨u, hu, hq⟩ := h _ _ h1 h2
      exact ⟨u, fun _ => ⟨by rw [← hu, Nat.add_assoc, h3], hq⟩⟩
    · exact ⟨undef, fun h => absurd h hk⟩
  obtain ⟨us, hus⟩ := Classical.axiomOfChoice hex
  refine ⟨(List.range (n * sz)).map us, by simp, fun j u hj => ?_, fun i f hi hf => ?_⟩
  · simp only [List.getElem?_map, Option.map_eq_some_iff] at hj
    obtain ⟨k, hk, rfl⟩ := hj
    obtain ⟨hkl, e⟩ := List.getElem?_eq_some_iff.1 hk
    rw [List.getElem_range] at e
    subst e
    exact (hus j (by simpa using hkl)).1
  · have hlt : i * sz + f < n * sz := by
      have : i * sz + sz ≤ n * sz := by rw [← Nat.succ_mul]; exact Nat.mul_le_mul_right _ hi
      omega
    refine ⟨us (i * sz + f), by simp [hlt], ?_⟩
    have := (hus _ hlt).2
    have h0 : 0 < sz := by omega
    rw [show (i * sz + f) / sz = i by rw [Nat.mul_comm, Nat.mul_add_div h0, Nat.div_eq_of_lt hf]; simp, show (i * sz + f) % sz = f by rw [Nat.mul_comm, Nat.mul_add_mod]; exact Nat.mod_eq_of_lt hf] at this
    exact this

/-- append, of a node's slice and of what SrcR tells. -/
theorem append_own {t tx ty e : TypeId} {i : TypeInfo} {z : Value} (ht : P.underlying t = some (.slice e)) (hkx : ∃ e', P.underlying tx = some (.slice e')) (hi : P.info? e = some i) (hz : i.zero = some z)
    (hzs : z.cells.size = i.size) (hby : i.bytes ≤ 140)
    {id : Nat} {p : Path} {R : Rows} {off len n : Nat} {at2 : Nat → Nat → D} {j : Option Nat} {x y : Value}
    (hh : HeapOk G H w) (hN : Node H id p R) (hb : ∀ cs, H.getD id none = some (.box cs) → p ≠ []) (hl : off + len ≤ R.n) (hRs : R.sz = i.size)
    (hE : Less E H (fun i => j = some i)) (hidj : j ≠ some id) (hj : ∀ j0, j = some j0 → H.getD j0 none = some (.arr R.sz n at2)) (hx : VR G H w (.own id p R.n off len) x) (hy : SrcR G H w j R.sz n at2 y)
    (hbig : len + n ≤ 1000000000000) :
    ∃ v w1 G1, (Builtin.append_ #[t, tx] ty #[x, y]).run P w = .ok v w1 ∧ LRes G H w noKill G1 (E.drop_ id p ++ [some (.arr R.sz (len + n) (appendAt len (shiftAt off R.at_) at2))]) w1 ∧
      VR G1 (E.drop_ id p ++ [some (.arr R.sz (len + n) (appendAt len (shiftAt off R.at_) at2))]) w1 (.own H.length [] (len + n) 0 (len + n)) v := by
  have hin := hx.2 R hN rfl
  have hno := hh.node hN
  obtain ⟨A2, cap2, ey, hA2, hsrc⟩ := hy.ex
  -- the value's handle
  have hhandle : ∀ (m1 : Option (Nat × Nat)) (w1 : World) (v : Value), inSl w1 m1 R.sz (len + n) 0 (len + n) v →
      VR (appGh G H id p off len j m1) (E.drop_ id p ++ [some (.arr R.sz (len + n) (appendAt len (shiftAt off R.at_) at2))]) w1 (.own H.length [] (len + n) 0 (len + n)) v := by
    intro m1 w1 v h
    refine ⟨by simp [drop_length, hE.len], fun R1 hR1 hn1 => ?_⟩
    obtain ⟨o, ho, hs⟩ := node_sub.1 hR1
    rw [getD_app2 (by rw [drop_length, hE.len]; exact Nat.le_refl _), drop_length, hE.len] at ho
    simp only [Nat.sub_self, List.getD_cons_zero] at ho
    injection ho with ho
    subst ho
    have := Sub.nil.1 hs
    subst this
    have hm : (appGh G H id p off len j m1).μ H.length [] = m1 := if_pos rfl
    rw [hm]
    exact h
  -- nothing is appended
  by_cases hn0 : n = 0
  · subst hn0
    have hnothing : ∀ (A : Option Addr) (cap : Nat), len ≤ cap → (Builtin.append_ #[t, tx] ty #[.slice A len cap, y]).run P w = .ok (.slice A len cap) w := by
      intro A cap hle
      obtain ⟨e', hk'⟩ := hkx
      have hs : Src P i.size tx y 0 [] w := by
        rw [ey]
        cases A2 with
        | none => exact Src.ofNil w hk' cap2
        | some ad => exact Src.ofSlice w hk' ad 0 cap2 [] (by simp) (fun j u h => by simp at h) (fun u h => by simp at h)
      have := run_append_nothing (ty := ty) w t tx e i ht hi A len cap hle y hs
      simpa using this
    unfold inSl at hin
    unfold NodeOk at hno
    cases hm : G.μ id p with
    | none =>
      rw [hm] at hin hno
      obtain ⟨h0, h1, h2, A, ex⟩ := hin
      subst h2
      refine ⟨_, w, _, by rw [ex]; exact hnothing A 0 (Nat.le_refl _), append_root (m1 := none) hh hN hb hl hE hidj hj rfl (fun _ _ h => nomatch h) (Wx.refl _ _) (fun i f h => absurd h (Nat.not_lt_zero _)), hhandle none w _ ⟨rfl, rfl, rfl, A, rfl⟩⟩
    | some bo =>
      obtain ⟨b, o⟩ := bo
      rw [hm] at hin hno
      obtain ⟨A, cap, ex, h1, h2, h3, h4⟩ := hin
      obtain ⟨c, ct, hc, hcs, hcell⟩ := hno
      have hfit : o + off * R.sz + (len + 0) * R.sz ≤ c.size := by
        have : (off + len) * R.sz ≤ R.n * R.sz := Nat.mul_le_mul_right _ hl
        rw [Nat.add_mul] at this
        simp only [Nat.add_zero]
        omega
      refine ⟨_, w, _, by rw [ex]; exact hnothing A cap (by omega), append_root (m1 := some (b, o + off * R.sz)) hh hN hb hl hE hidj hj ⟨c, ct, hc, hfit, fun i f hi hf => ?_, fun i f hi => absurd hi (Nat.not_lt_zero _)⟩ (fun b1 o1 h => .inl ⟨o, by injection h with h; injection h with h _; rw [hm, h]⟩) (Wx.refl _ _) (fun i f h => absurd h (Nat.not_lt_zero _)), hhandle _ w _ ⟨A, cap, rfl, by omega, by omega, ?_, ?_⟩⟩
      · obtain ⟨u, hu, _⟩ := hcell (off + i) f (by omega) hf
        exact ⟨b, o, u, hm, by simp [World.cell?, hc, hu], by rw [← hu]; congr 1; rw [Nat.add_mul]; omega⟩
      · rw [show o + off * R.sz + (0 + cap) * R.sz = o + (off + cap) * R.sz by rw [Nat.add_mul off cap, Nat.zero_add, Nat.add_assoc]]
        exact h3
      · rcases h4 with h4 | h4
        · exact .inl h4
        · right; rw [h4]; simp
  -- something is
  have hnp : 0 < n := Nat.pos_of_ne_zero hn0
  obtain ⟨b2, o2, eA2, hcell2⟩ := hsrc hnp
  obtain ⟨news, hnl, hnc, hnq⟩ := rowList hcell2
  have hone : ∀ u ∈ news, u.oneCell' = true := by
    intro u hu
    obtain ⟨k, hk⟩ := List.getElem?_of_mem hu
    have hkl : k < n * R.sz := by rw [← hnl]; exact (List.getElem?_eq_some_iff.1 hk).1
    obtain ⟨h1, h2, h3⟩ := flat_idx hkl
    obtain ⟨u', hu', hq⟩ := hnq _ _ h1 h2
    rw [h3, hk] at hu'
    injection hu' with hu'
    rw [hu']; exact hq.1
  have hS : Src P i.size tx y n news w := by
    obtain ⟨e', hk'⟩ := hkx
    rw [ey, eA2]
    exact Src.ofSlice w hk' _ n cap2 news (by rw [hnl, hRs]) (fun j u h => by rw [addr_add]; exact hnc j u h) hone
  -- the old elements
  obtain ⟨A, cap, ex, hle, holds⟩ : ∃ A cap, x = .slice A len cap ∧ len ≤ cap ∧ ∃ olds : List Value, olds.length = len * R.sz ∧ (Builtin.firstCells i.size len (.slice A len cap)).run P w.drew = .ok olds.toArray w.drew ∧
      (∀ i f, i < len → f < R.sz → ∃ b o u, G.μ id p = some (b, o) ∧ w.cell? ⟨b, o + (off + i) * R.sz + f, none⟩ = some u ∧ olds[i * R.sz + f]? = some u) ∧
      ((∃ b o c ct, G.μ id p = some (b, o) ∧ w.heap[b]? = some (.cells c ct (0, 0)) ∧ o + (off + cap) * R.sz ≤ c.size ∧ (cap = 0 ∨ A = some ⟨b, o + off * R.sz, none⟩)) ∨ cap = 0) := by
    unfold inSl at hin
    unfold NodeOk at hno
    cases hm : G.μ id p with
    | none =>
      rw [hm] at hin
      obtain ⟨h0, h1, h2, A, ex⟩ := hin
      subst h2
      refine ⟨A, 0, ex, Nat.le_refl _, [], by simp, ?_, fun i f h => absurd h (Nat.not_lt_zero _), .inr rfl⟩
      cases A with
      | none => simp [Builtin.firstCells]
      | some ad => simp [Builtin.firstCells, loadCells, loadCellsFrom]
    | some bo =>
      obtain ⟨b, o⟩ := bo
      rw [hm] at hin hno
      obtain ⟨A, cap, ex, h1, h2, h3, h4⟩ := hin
      obtain ⟨c, ct, hc, hcs, hcell⟩ := hno
      obtain ⟨olds, ho1, ho2, ho3⟩ := rowList (w := w) (b := b) (o := o + off * R.sz) (n := len) (sz := R.sz) (Q := fun i f u => w.cell? ⟨b, o + (off + i) * R.sz + f, none⟩ = some u) (fun i f hi hf => by
        obtain ⟨u, hu, _⟩ := hcell (off + i) f (by omega) hf
        have : w.cell? ⟨b, o + (off + i) * R.sz + f, none⟩ = some u := by simp [World.cell?, hc, hu]
        exact ⟨u, by rw [← this]; congr 2; rw [Nat.add_mul]; omega, this⟩)
      obtain ⟨c', t', hc', hcap'⟩ := h3
      rw [hc] at hc'
      injection hc' with hc'
      injection hc' with e1 e2
      subst e1; subst e2
      refine ⟨A, cap, ex, by omega, olds, ho1, ?_, fun i f hi hf => ?_, .inl ⟨b, o, c, ct, rfl, hc, hcap', h4⟩⟩
      · rcases Nat.eq_zero_or_pos len with h0 | h0
        · subst h0
          have : olds = [] := List.eq_nil_of_length_eq_zero (by rw [ho1]; simp)
          subst this
          cases A with
          | none => simp [Builtin.firstCells]
          | some ad => simp [Builtin.firstCells, loadCells, loadCellsFrom]
        · have hA : A = some ⟨b, o + off * R.sz, none⟩ := by
            rcases h4 with h4 | h4
            · omega
            · exact h4
          rw [hA]
          exact run_firstCells_some w.drew i.size len _ len cap olds (by rw [ho1, hRs]) (fun j u h => by rw [addr_add]; have := ho2 j u h; simpa using this)
      · obtain ⟨u, hu, hq⟩ := ho3 i f hi hf
        exact ⟨b, o, u, rfl, hq, hu⟩
  obtain ⟨olds, hol, hfirst, holdc, hcap⟩ := holds
  by_cases hroom : len + n ≤ cap
  · -- there is room
    obtain ⟨b, o, c, ct, hm, hc, hsz, hA⟩ : ∃ b o c ct, G.μ id p = some (b, o) ∧ w.heap[b]? = some (.cells c ct (0, 0)) ∧ o + (off + cap) * R.sz ≤ c.size ∧ A = some ⟨b, o + off * R.sz, none⟩ := by
      rcases hcap with ⟨b, o, c, ct, h1, h2, h3, h4⟩ | h
      · rcases h4 with h4 | h4
        · omega
        · exact ⟨b, o, c, ct, h1, h2, h3, h4⟩
      · omega
    have hfit : o + off * R.sz + len * R.sz + news.length ≤ c.size := by
      rw [hnl]
      have : (off + (len + n)) * R.sz ≤ (off + cap) * R.sz := Nat.mul_le_mul_right _ (by omega)
      simp only [Nat.add_mul] at this hsz
      omega
    have hrun := run_append_room_src w t tx ty e i ht hi b (o + off * R.sz) len cap y n news hS hroom (fun j hj => by simp only [World.cell?, hc, ← hRs]; simp; omega) (fun j hj => by simp [World.frozen?, hc])
    rw [← hRs, setCells_setRow (P := P) hc hfit hone] at hrun
    let c1 : Array Value := (c.toList.take (o + off * R.sz + len * R.sz) ++ news ++ c.toList.drop (o + off * R.sz + len * R.sz + news.length)).toArray
    have hc1s : c1.size = c.size := by
      simp only [c1, List.size_toArray, List.length_append, List.length_take, List.length_drop, Array.length_toList]
      omega
    have hc1g : ∀ k, c1[k]? = if o + off * R.sz + len * R.sz ≤ k ∧ k < o + off * R.sz + len * R.sz + news.length then news[k - (o + off * R.sz + len * R.sz)]? else c[k]? := fun k => by
      have := seg_get c.toList (o + off * R.sz + len * R.sz) news k (by rw [Array.length_toList]; exact hfit)
      simpa [c1] using this
    have hheap := setRow_heap w b c c1 ct (0, 0) hc
    refine ⟨_, _, _, by rw [ex, hA]; exact hrun, append_root (m1 := some (b, o + off * R.sz)) (w1 := w.setRow b c1) hh hN hb hl hE hidj hj ⟨c1, ct, hheap, ?_, fun i f hi hf => ?_, fun i f hi hf => ?_⟩
      (fun b1 o1 h => .inl ⟨o, by injection h with h; injection h with h _; rw [hm, h]⟩) ((setRow_wx hc hc1s).mono fun b' _ e => ⟨o, by rw [hm, e]⟩) (fun i f hi hf => hy.pl i f hi hf), hhandle _ _ _ ⟨_, cap, rfl, by omega, by omega, ⟨c1, ct, hheap, ?_⟩, .inr (by simp)⟩⟩
    · rw [hc1s, Nat.add_mul]; rw [hnl] at hfit; omega
    · obtain ⟨b', o', u, h1, h2, h3⟩ := holdc i f hi hf
      rw [hm] at h1
      injection h1 with h1
      injection h1 with e1 e2
      subst e1; subst e2
      refine ⟨b, o, u, hm, h2, ?_⟩
      have hlt : i * R.sz + R.sz ≤ len * R.sz := by rw [← Nat.succ_mul]; exact Nat.mul_le_mul_right _ hi
      rw [hc1g, if_neg (by omega)]
      simp [World.cell?, hc] at h2
      rw [← h2]; congr 1; rw [Nat.add_mul]; omega
    · obtain ⟨u, hu, hq⟩ := hnq i f hi hf
      refine ⟨u, ?_, hq⟩
      have hlt : i * R.sz + R.sz ≤ n * R.sz := by rw [← Nat.succ_mul]; exact Nat.mul_le_mul_right _ hi
      rw [hc1g, Nat.add_mul len i, if_pos (by rw [hnl]; omega), ← hu]
      congr 1
      omega
    · rw [hc1s, Nat.zero_add]
      simp only [Nat.add_mul] at hsz
      omega
  · -- a new row
    have hg : cap < len + n := by omega
    have hfitg : Builtin.nextslicecap (len + n) cap * i.bytes ≤ 281474976710656 := growslice_fits hg (by
      have : (len + n) * i.bytes ≤ 1000000000000 * 140 := Nat.mul_le_mul hbig hby
      omega)
    have hrun := run_append_grow_src (ty := ty) w t tx e i z ht hi hz A len cap olds hfirst y n news hS hg (by omega) hfitg
    have hgc := grownCap_ge w (len + n) cap e
    generalize hgC : grownCap w (len + n) cap e = gc at hrun hgc
    let c1 : Array Value := (olds ++ news).toArray ++ Builtin.zeroCells z.cells (gc - (len + n))
    have hzl : (Builtin.zeroCells z.cells (gc - (len + n))).size = (gc - (len + n)) * R.sz := by simp [Builtin.zeroCells, hzs, hRs]
    have hc1s : c1.size = gc * R.sz := by
      simp only [c1, Array.size_append, List.size_toArray, List.length_append, hol, hnl, hzl]
      rw [← Nat.add_mul, ← Nat.add_mul]
      congr 1
      omega
    have hheap : (w.drew.alloc (.cells c1 e)).heap[w.heap.size]? = some (.cells c1 e (0, 0)) := by
      show (w.heap.push _)[w.heap.size]? = _
      simp
    have hon : (olds ++ news).length = (len + n) * R.sz := by rw [List.length_append, hol, hnl, Nat.add_mul]
    have hcap1 : (len + n) * R.sz ≤ gc * R.sz := Nat.mul_le_mul_right _ hgc
    have hc1g : ∀ k, k < (len + n) * R.sz → c1[k]? = (olds ++ news)[k]? := fun k hk => by
      simp only [c1]
      rw [Array.getElem?_append_left (by rw [List.size_toArray, hon]; exact hk)]
      simp
    have hwx : Wx w (w.drew.alloc (.cells c1 e)) (fun _ => False) :=
      ⟨rfl, rfl, rfl, by show w.heap.size ≤ (w.heap.push _).size; simp, fun b hb _ => by
        show (w.heap.push _)[b]? = _
        rw [Array.getElem?_push_lt hb, Array.getElem?_eq_getElem hb], fun b c' t' h => ⟨c', by
        show (w.heap.push _)[b]? = _
        rw [Array.getElem?_push_lt (lt_of_heap h), ← h, Array.getElem?_eq_getElem (lt_of_heap h)], rfl⟩⟩
    refine ⟨_, _, _, by rw [ex]; exact hrun, append_root (m1 := some (w.heap.size, 0)) (w1 := w.drew.alloc (.cells c1 e)) hh hN hb hl hE hidj hj ⟨c1, e, hheap, ?_, fun i f hi hf => ?_, fun i f hi hf => ?_⟩
      (fun b1 o1 h => .inr (by injection h with h; injection h with h _; omega)) (hwx.mono fun _ _ h => h.elim) (fun i f hi hf => hy.pl i f hi hf), hhandle _ _ _ ⟨_, gc, rfl, by omega, by omega, ⟨c1, e, hheap, ?_⟩, .inr (by simp)⟩⟩
    · rw [hc1s]; omega
    · obtain ⟨b', o', u, h1, h2, h3⟩ := holdc i f hi hf
      have hlt : i * R.sz + R.sz ≤ len * R.sz := by rw [← Nat.succ_mul]; exact Nat.mul_le_mul_right _ hi
      refine ⟨b', o', u, h1, h2, ?_⟩
      rw [Nat.zero_add, hc1g _ (by rw [Nat.add_mul]; omega), List.getElem?_append_left (by rw [hol]; omega), h3]
    · obtain ⟨u, hu, hq⟩ := hnq i f hi hf
      have hlt : i * R.sz + R.sz ≤ n * R.sz := by rw [← Nat.succ_mul]; exact Nat.mul_le_mul_right _ hi
      refine ⟨u, ?_, hq⟩
      rw [Nat.zero_add, Nat.add_mul len i, hc1g _ (by rw [Nat.add_mul len n]; omega), List.getElem?_append_right (by rw [hol]; omega), ← hu]
      congr 1
      omega
    · rw [hc1s]; simp

theorem appendAt_zero (a b : Nat → Nat → D) : appendAt 0 a b = b := by
  funext i f
  simp [appendAt]

theorem gives_append {o : Oper} {t tx e : TypeId} {i : TypeInfo} {z : Value} {mv : Bool} {K : St → T → Prop} (In : InT) (hh : HeapOk G s.H w) (ht : Temps G s.H w s.ts a.tmps)
    (ho : o.op = .call { callee := .builtin .append, args := #[x, x2], argTypes := #[t, tx] }) (hx : OpdOk x y) (hx2 : OpdOk x2 y2)
    (hu : P.underlying t = some (.slice e)) (hkx : ∃ e', P.underlying tx = some (.slice e')) (hi : P.info? e = some i) (hz : i.zero = some z) (hzs : z.cells.size = i.size)
    (hk : loud In s (.append i.size i.bytes mv y y2) K) : LGives P G s w a o K := by
  have hv := get_ok hx ht
  have hv2 := get_ok hx2 ht
  simp only [loud] at hk
  split at hk
  · rename_i c hc
    obtain ⟨hcs, hok, hk⟩ := hk
    obtain ⟨j, hE, hj, hsr⟩ := source_ok hh hv2 hc hok
    rw [hcs] at hj hsr
    have hexec : ∀ v w1, (Builtin.append_ #[t, tx] o.type #[a.eval x, a.eval x2]).run P w = .ok v w1 → (execOp a.eval o).run P w = .ok (.value v) w1 := by
      intro v w1 h
      simp [execOp, ho, resolve, invoke, builtin, h]
    split at hk
    · rename_i sz2 e1
      rw [e1] at hv
      obtain ⟨rfl, hbig, hby, hk⟩ := hk
      obtain ⟨_, A, ex⟩ := hv
      obtain ⟨G1, hL, hμ, hin⟩ := emptyRoot P a i.size hh
      have hNn : Node (s.H ++ [some (.arr i.size 0 fun _ _ => .dead)]) s.H.length [] ⟨i.size, 0, fun _ _ => .dead⟩ := node_sub.2 ⟨.arr i.size 0 fun _ _ => .dead, by rw [getD_app2 (Nat.le_refl _)]; simp, Sub.nil.2 rfl⟩
      have hjl : ∀ j0, j = some j0 → j0 < s.H.length := fun j0 h => getD_lt (hj j0 h)
      have hE2 : Less (c.H ++ [some (.arr i.size 0 fun _ _ => .dead)]) (s.H ++ [some (.arr i.size 0 fun _ _ => .dead)]) (fun i => j = some i) := by
        refine ⟨by simp [hE.len], fun id h => ?_, fun id h => ?_⟩
        · rcases Nat.lt_or_ge id c.H.length with hl | hl
          · rw [getD_app hl, getD_app (by rw [← hE.len]; exact hl)]
            exact hE.same id h
          · rw [getD_app2 hl, getD_app2 (by rw [← hE.len]; exact hl), hE.len]
        · rw [getD_app (by rw [hE.len]; exact hjl id h)]
          exact hE.none_ id h
      have hsr2 : SrcR G1 (s.H ++ [some (.arr i.size 0 fun _ _ => .dead)]) w j i.size c.n c.at_ (a.eval x2) := by
        obtain ⟨A2, cap2, ey, hA2, hcl⟩ := hsr.ex
        refine ⟨⟨A2, cap2, ey, hA2, fun hn => ?_⟩, hsr.pl⟩
        obtain ⟨b, ob, h1, h2⟩ := hcl hn
        refine ⟨b, ob, h1, fun i' f hi' hf => ?_⟩
        obtain ⟨u, hu, hcu⟩ := h2 i' f hi' hf
        refine ⟨u, hu, hcu.1, ?_⟩
        have h3 := hcu.2
        cases hd : c.at_ i' f with
        | sl ow sz m bb =>
          rw [hd] at h3
          cases ow
          · exact hL.mv _ _ h3 rfl
          · cases hjj : j with
            | none => exact absurd hd ((hsr.pl i' f hi' hf).2 hjj sz m bb)
            | some j0 =>
              rw [hjj] at h3
              show inSl w (G1.μ j0 _) sz m 0 m u
              rw [hμ j0 _ (hjl j0 hjj)]
              exact h3
        | _ => rw [hd] at h3; exact hL.mv _ _ h3 rfl
      obtain ⟨v, w1, G2, hr, hL2, hvr⟩ := append_own (ty := o.type) (x := .slice A 0 0) (off := 0) (len := 0) hu hkx hi hz hzs hby hL.heap hNn (fun cs hcs => by
          rw [getD_app2 (Nat.le_refl _)] at hcs
          simp at hcs) (Nat.le_refl 0) rfl hE2 (fun h => by have := hjl _ h; omega) (fun j0 h => by rw [getD_app (hjl j0 h)]; exact hj j0 h) ⟨by simp, fun R hR hn => by
          have := Node.uniq hR hNn
          subst this
          exact hin A⟩ hsr2 (by rw [Nat.zero_add]; exact hbig)
      have hheap : (c.H ++ [some (Obj.arr i.size 0 fun _ _ => .dead)]).drop_ s.H.length [] ++ [some (.arr i.size (0 + c.n) (appendAt 0 (shiftAt 0 fun _ _ => .dead) c.at_))] = c.H ++ [none, some (.arr i.size c.n c.at_)] := by
        rw [appendAt_zero, Nat.zero_add]
        unfold Heap.drop_
        simp only [splitLast]
        rw [← hE.len, List.set_append_right _ _ (Nat.le_refl _)]
        simp
      simp only at hL2 hvr
      rw [hheap] at hL2 hvr
      rw [Nat.zero_add] at hvr
      refine ⟨_, w1, G2, noKill, _, .d (.own (c.H.length + 1) [] c.n 0 c.n), hexec v w1 (by rw [ex]; exact hr), (hL.trans hL2).weaken (fun _ _ => rfl), ⟨?_, ?_⟩, by rw [map_kill_no, up_kill_no]; exact hk⟩
      · rename_i hvr
        obtain ⟨_, hvr⟩ := hvr
        have := hvr ⟨i.size, c.n, c.at_⟩ (node_sub.2 ⟨.arr i.size c.n c.at_, by
          simp only [List.length_append, List.length_cons, List.length_nil]
          rw [getD_app2 (by rw [hE.len]; omega), hE.len]
          simp, Sub.nil.2 rfl⟩) rfl
        unfold inSl at this
        split at this
        · obtain ⟨_, _, _, A', e'⟩ := this; rw [e']; rfl
        · obtain ⟨A', cap', e', _⟩ := this; rw [e']; rfl
      · have : (s.H ++ [some (Obj.arr i.size 0 fun _ _ => D.dead)]).length = c.H.length + 1 := by simp [hE.len]
        rw [this] at hvr
        exact hvr
    · rename_i id p tot off len e1
      rw [e1] at hv
      split at hk
      · rename_i R hR
        obtain ⟨hp, hRs, rfl, hl, harr, hbig, hby, hk⟩ := hk
        obtain ⟨hN, hjn⟩ := hE.node.1 ⟨hR, hp⟩
        obtain ⟨v, w1, G2, hr, hL2, hvr⟩ := append_own (ty := o.type) (x := a.eval x) hu hkx hi hz hzs hby hh hN (fun cs hcs => by
          rintro rfl
          unfold arrAt at harr
          rw [hE.same id hjn, hcs] at harr
          exact harr) hl hRs hE hjn (fun j0 h => by rw [hRs]; exact hj j0 h) hv.2 (by rw [hRs]; exact hsr) hbig
        rw [hRs] at hL2 hvr
        refine ⟨_, w1, G2, noKill, _, .d (.own c.H.length [] (len + c.n) 0 (len + c.n)), hexec v w1 hr, hL2, ⟨?_, ?_⟩, by rw [map_kill_no, up_kill_no]; exact hk⟩
        · obtain ⟨_, hvr⟩ := hvr
          have := hvr ⟨i.size, len + c.n, appendAt len (shiftAt off R.at_) c.at_⟩ (node_sub.2 ⟨.arr i.size (len + c.n) (appendAt len (shiftAt off R.at_) c.at_), by
            rw [getD_app2 (by rw [drop_length, hE.len]; exact Nat.le_refl _), drop_length, hE.len]
            simp, Sub.nil.2 rfl⟩) rfl
          unfold inSl at this
          split at this
          · obtain ⟨_, _, _, A', e'⟩ := this; rw [e']; rfl
          · obtain ⟨A', cap', e', _⟩ := this; rw [e']; rfl
        · rw [hE.len]
          exact hvr
      · exact hk.elim
    · exact hk.elim
  · exact hk.elim
end
end Go.R
