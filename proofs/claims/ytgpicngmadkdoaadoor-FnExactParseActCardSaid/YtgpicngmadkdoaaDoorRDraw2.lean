/- Regions that draw their order: their operations in one computed order. -/
import Derived.Test.YtgpicngmadkdoaaDoorRDraw
set_option linter.unusedVariables false
set_option linter.unusedSimpArgs false
namespace Go.R
open Go.RowKit

section
variable {P : Program} {ops : Array Oper} {E : Nat → Bool} {G G0 : Gh} {H : Heap} {w w' w0 : World} {s : St} {a : Act} {n : Nat} {ups : List (Array Value)}

theorem HeapOk.ext (hx : Ext w w') (hh : HeapOk G H w) : HeapOk G H w' := by
  refine ⟨fun {id p R} hn => ?_, hh.inj, hh.apart, fun h => Nat.lt_of_lt_of_le (hh.frLt h) hx.size, hh.okFr, hh.plain⟩
  have hk := hh.node hn
  unfold NodeOk at hk ⊢
  cases hm : G.μ id p with
  | none => rw [hm] at hk; exact hk
  | some bo =>
    rw [hm] at hk
    obtain ⟨c, t, hc, hs, hcell⟩ := hk
    refine ⟨c, t, by rw [hx.same _ (lt_of_heap hc) (fun k => k)]; exact hc, hs, fun i f hi hf => ?_⟩
    obtain ⟨u, hu, hcu⟩ := hcell i f hi hf
    exact ⟨u, hu, CellOk.move hx (fun b hb => ⟨hb, fun k => k⟩) (Nat.le_refl _) rfl (fun id p tot R1 _ _ hn e => ⟨R1, hn, e, rfl, rfl⟩) hcu⟩
theorem Rel.ext (hx : Ext w w') (h : Rel G0 w0 n ups s a w) : Rel G0 w0 n ups s a w' := by
  obtain ⟨G, h1, h2, h3, h4, h5, h6⟩ := h
  exact ⟨G, h1.ext hx, h2.ext hx, h3.imp fun x y h => h.ext hx, h4.trans ⟨hx.mono fun _ _ k => k.elim, fun _ h => h, fun _ h => .inl h, fun _ h => h⟩, h5, h6⟩

/-- An order of the operations that is as good as any. -/
def OrderOk (ops : Array Oper) (E Pq Aq : Nat → Bool) : Array Bool → List Nat → Prop
  | listed, [] => Region.ready .any ops listed = []
  | listed, i :: r => i ∈ Region.ready .any ops listed ∧
      ((Pq i = true ∧ ∀ j oi oj, ops[i]? = some oi → ops[j]? = some oj → j ≠ i → listed.getD j true = false → ¬ Dep ops .any i j → oi.apart ops oj = true ∧ E j = true) ∨ (Aq i = true ∧ ∀ j oi oj, ops[i]? = some oi → ops[j]? = some oj → j ≠ i → listed.getD j true = false → ¬ Dep ops .any i j → oi.apart ops oj = true) ∨ Region.ready .any ops listed = [i]) ∧
      OrderOk ops E Pq Aq (listed.setIfInBounds i true) r

def MiOk2 (P : Program) (ops : Array Oper) (E Pq Aq : Nat → Bool) (i : Nat) (mi : MI) : Prop :=
  ∃ o, ops[i]? = some o ∧ MiOk P ops o mi ∧ (Pq i = true → isQuiet mi.op = true ∧ PW P o mi.op) ∧ (Aq i = true → isQuiet mi.op = true ∧ AW P o mi.op) ∧ (E i = true → isQuiet mi.op = true)

theorem draw_any (hst : Stands P G0 w0) {Pq Aq : Nat → Bool} (hsel : ∀ (j : Nat) (o : Oper) cs b, ops[j]? = some o → o.op ≠ .select cs b) {Q : Exit → Act → World → Prop} (hQp : ∀ c a w, ¬ Q (.panic c) a w) {K : St → Prop}
    (hQ : ∀ s a w, Rel G0 w0 n ups s a w → K s → Q .normal a w) : ∀ {l : List Nat} {mis : List MI}, F2 (MiOk2 P ops E Pq Aq) l mis → ∀ {listed : Array Bool} {s : St} {a : Act} {w : World}, Closed .any ops listed → OrderOk ops E Pq Aq listed l →
    Rel G0 w0 n ups s a w → evOps (FnSem P) (InSem P) mis s K → wpAnyX P .any ops Q E l.length listed a w := by
  intro l mis h
  induction h with
  | nil => intro listed s a w hcl ho hr hk; exact ⟨ho, hQ s a w hr hk⟩
  | @cons i mi l mis hmi _ ih =>
    intro listed s a w hcl ho hr hk
    obtain ⟨o, hio, ⟨hdst, hg, hq, hl⟩, hpw, haw, hE⟩ := hmi
    obtain ⟨hri, hord, horest⟩ := ho
    obtain ⟨G, hh, ht, hu, hf, hd, hn⟩ := id hr
    obtain ⟨dst, guard, op⟩ := mi
    simp only at hdst hg hq hl hpw haw hE
    subst hdst
    have hcl2 := hcl.add hri
    -- what is done where the guard is met, and where it is not
    have hrun : ∀ ts, Temps G s.H w ts a.tmps → (match isQuiet op with
        | true => quiet (FnSem P) ts s.H op fun N x => evOps (FnSem P) (InSem P) mis ⟨putT ts o.dst x, s.H ++ N, s.up⟩ K
        | false => loud (InSem P) ⟨ts, s.H, s.up⟩ op fun s' x => evOps (FnSem P) (InSem P) mis ⟨putT s'.ts o.dst x, s'.H, s'.up⟩ K) →
        Region.wanted o (yielded ops a.tmps) = true → wpAnyX P .any ops Q E (l.length + 1) listed a w := by
      intro ts ht hk hw
      rcases hord with ⟨hP, hfree⟩ | ⟨hA, hfree⟩ | hone
      · obtain ⟨hiq, hpw⟩ := hpw hP
        rw [hiq] at hk
        obtain ⟨v, t, hv, htr, hk2⟩ := hpw G s.H w ts a _ hh ht hk
        refine wpAnyX_first hio hsel (fun c a w h => absurd h (hQp c _ _)) l.length listed a w hcl (fun j oj hj hji hun hno => hfree j o oj hio hj hji hun hno) hri (.inl ⟨hw, hv⟩) ?_
        refine ih (s := ⟨putT ts o.dst t, s.H ++ [], s.up⟩) hcl2 horest ⟨G, by simpa using hh, ?_, by simpa using hu, hf, by rw [put_defers]; exact hd, by rw [put_size]; exact hn⟩ hk2
        rw [put_tmps]
        simp only [List.append_nil]
        exact ht.put _ (.inr htr)
      · obtain ⟨hiq, haw⟩ := haw hA
        rw [hiq] at hk
        obtain ⟨v, t, hv, htr, hk2⟩ := haw G s.H w ts a _ hh ht hk
        refine wpAnyX_firstA hio hsel (fun c a w h => absurd h (hQp c _ _)) l.length listed a w hcl (fun j oj hj hji hun hno => hfree j o oj hio hj hji hun hno) hri (.inl ⟨hw, fun w' _ => hv w'⟩) ?_
        refine ih (s := ⟨putT ts o.dst t, s.H ++ [], s.up⟩) hcl2 horest ⟨G, by simpa using hh, ?_, by simpa using hu, hf, by rw [put_defers]; exact hd, by rw [put_size]; exact hn⟩ hk2
        rw [put_tmps]
        simp only [List.append_nil]
        exact ht.put _ (.inr htr)
      · refine ⟨fun h0 => (by rw [h0] at hri; cases hri), fun j hj => ?_⟩
        rw [hone] at hj
        have hji : j = i := by simpa using hj
        subst hji
        unfold wpOp
        rw [hio]
        simp only
        rw [if_pos hw]
        left
        cases hiq : isQuiet op with
        | true =>
          rw [hiq] at hk
          refine hq hiq G s.H w ts a _ _ Q (hst.now hf) hh ht hk fun v w1 G1 N t hqr hk => ⟨fun _ => hqr.wx, ?_⟩
          refine ih (s := ⟨putT ts o.dst t, s.H ++ N, s.up⟩) hcl2 horest ⟨G1, hqr.heap, ?_, hu.imp (fun x y h => h.fw hqr), hf.trans (LRes.of_q hh hqr).fw, by rw [put_defers]; exact hd, by rw [put_size]; exact hn⟩ hk
          rw [put_tmps]
          exact (ht.fw hqr).put _ (.inr hqr.val)
        | false =>
          rw [hiq] at hk
          refine hl hiq G ⟨ts, s.H, s.up⟩ w a ups _ _ Q (hst.fw hf) hh ht hu hk fun v w1 G1 s1 t h1 h2 h3 h4 h5 hk => ⟨(fun he => by rw [hE he] at hiq; cases hiq), ?_⟩
          refine ih (s := ⟨putT s1.ts o.dst t, s1.H, s1.up⟩) hcl2 horest ⟨G1, h1, ?_, h3, hf.trans h5, by rw [put_defers]; exact hd, by rw [put_size]; exact hn⟩ hk
          rw [put_tmps]
          exact h2.put _ h4
    have hskip : ∀ ts, Temps G s.H w ts a.tmps → evOps (FnSem P) (InSem P) mis ⟨putT ts o.dst (.d .dead), s.H, s.up⟩ K → Region.wanted o (yielded ops a.tmps) = false → wpAnyX P .any ops Q E (l.length + 1) listed a w := by
      intro ts ht hk hw
      have hrest : wpAnyX P .any ops Q E l.length (listed.setIfInBounds i true) (a.put o.dst undef) w := by
        refine ih (s := ⟨putT ts o.dst (.d .dead), s.H, s.up⟩) hcl2 horest ⟨G, hh, ?_, hu, hf, by rw [put_defers]; exact hd, by rw [put_size]; exact hn⟩ hk
        rw [put_tmps]
        exact ht.put _ (.inr (show TR G s.H w (.d .dead) undef from trivial))
      rcases hord with ⟨hP, hfree⟩ | ⟨hA, hfree⟩ | hone
      · exact wpAnyX_first hio hsel (fun c a w h => absurd h (hQp c _ _)) l.length listed a w hcl (fun j oj hj hji hun hno => hfree j o oj hio hj hji hun hno) hri (.inr ⟨hw, rfl⟩) hrest
      · exact wpAnyX_firstA hio hsel (fun c a w h => absurd h (hQp c _ _)) l.length listed a w hcl (fun j oj hj hji hun hno => hfree j o oj hio hj hji hun hno) hri (.inr ⟨hw, rfl⟩) hrest
      · refine ⟨fun h0 => (by rw [h0] at hri; cases hri), fun j hj => ?_⟩
        rw [hone] at hj
        have hji : j = i := by simpa using hj
        subst hji
        unfold wpOp
        rw [hio]
        simp only
        rw [if_neg (by rw [hw]; decide)]
        exact ⟨fun _ => Ext.refl w, hrest⟩
    show wpAnyX P .any ops Q E (l.length + 1) listed a w
    cases hgo : o.guard with
    | none =>
      rw [hgo] at hg
      cases guard with
      | some x => exact hg.elim
      | none =>
        have hw : Region.wanted o (yielded ops a.tmps) = true := by simp [Region.wanted, hgo]
        refine hrun s.ts ht ?_ hw
        unfold evOps at hk
        exact hk
    | some jb =>
      obtain ⟨j, b⟩ := jb
      rw [hgo] at hg
      cases guard with
      | none => exact hg.elim
      | some gb =>
        obtain ⟨g, b'⟩ := gb
        obtain ⟨rfl, hgd⟩ := hg
        unfold evOps at hk
        split at hk
        · rename_i c hc
          have hval : a.tmps.getD g undef = .bool c := by
            have := get_ok (x := .tmp g) (y := .t g) rfl ht
            have e : Opd.get s.ts (.t g) = s.ts.getD g (.d .dead) := rfl
            rw [e, hc] at this
            exact this.2
          have hy : yielded ops a.tmps j = some c := by
            unfold yielded
            rw [hgd, Option.bind_some]
            have hlt : g < a.tmps.size := by
              rcases Nat.lt_or_ge g a.tmps.size with h | h
              · exact h
              · rw [Array.getD_eq_getD_getElem?, Array.getElem?_eq_none h] at hval
                cases hval
            rw [Array.getD_eq_getD_getElem?, Array.getElem?_eq_getElem hlt] at hval
            simp only [Option.getD_some] at hval
            rw [Array.getElem?_eq_getElem hlt, hval]
          have hset : ∀ c', c = c' → Temps G s.H w (s.ts.set g (.d (.bool c'))) a.tmps := by
            rintro c' rfl
            refine ⟨by simpa using ht.len, fun i x hx => ?_⟩
            rw [List.getElem?_set] at hx
            by_cases e : g = i
            · subst e
              rw [if_pos rfl] at hx
              split at hx
              · injection hx with hx
                subst hx
                exact ⟨by rw [hval]; rfl, hval⟩
              · cases hx
            · rw [if_neg e] at hx
              exact ht.val i x hx
          by_cases hcb : c = b
          · have hw : Region.wanted o (yielded ops a.tmps) = true := by simp [Region.wanted, hgo, hy, hcb]
            exact hrun _ (hset b hcb) (hk.1 hcb) hw
          · have hw : Region.wanted o (yielded ops a.tmps) = false := by simp [Region.wanted, hgo, hy, hcb]
            have hcb2 : c = !b := by cases c <;> cases b <;> simp_all
            exact hskip _ (hset _ hcb2) (hk.2 hcb2) hw
        · exact hk.elim
end
end Go.R
