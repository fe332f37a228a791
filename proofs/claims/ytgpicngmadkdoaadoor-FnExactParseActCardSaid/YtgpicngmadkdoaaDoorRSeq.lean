/- Regions in order. -/
import Derived.Test.YtgpicngmadkdoaaDoorRCall2
set_option linter.unusedVariables false
set_option linter.unusedSimpArgs false
namespace Go.R
open Go.RowKit

/-- How the machine has gone on. -/
structure Fw (G : Gh) (w : World) (G1 : Gh) (w1 : World) : Prop where
  wx : Wx w w1 (fun b => ¬ G.fr b)
  ok : ∀ b, G.ok b → G1.ok b
  okNew : ∀ b, G1.ok b → G.ok b ∨ ¬ G.fr b
  fr : ∀ b, G.fr b → G1.fr b

section
variable {P : Program} {G G0 G1 G2 G' : Gh} {H H1 H2 N E : Heap} {w w0 w1 w2 : World} {t : T} {v : Value} {s : St} {a : Act}

theorem Fw.refl (G : Gh) (w : World) : Fw G w G w := ⟨Wx.refl _ _, fun _ h => h, fun _ h => .inl h, fun _ h => h⟩
theorem Fw.trans (h : Fw G w G1 w1) (k : Fw G1 w1 G2 w2) : Fw G w G2 w2 :=
  ⟨(h.wx.trans k.wx).mono (fun b _ hb => by rcases hb with hb | hb; exact hb; exact fun x => hb (h.fr b x)), fun b x => k.ok b (h.ok b x), fun b x => by
    rcases k.okNew b x with x | x
    · exact h.okNew b x
    · exact .inr fun y => x (h.fr b y), fun b x => k.fr b (h.fr b x)⟩
theorem LRes.fw {q : D → Bool} (h : LRes G H w q G1 H1 w1) : Fw G w G1 w1 := ⟨h.wx, h.ok, h.okNew, h.fr⟩

def QW (P : Program) (o : Oper) (mop : MOp) : Prop := ∀ (G : Gh) (H : Heap) (w : World) (ts : List T) (a : Act) (K : Heap → T → Prop) (next : Act → World → Prop) (Q : Exit → Act → World → Prop),
  Stand P w → HeapOk G H w → Temps G H w ts a.tmps → quiet (FnSem P) ts H mop K → (∀ v w1 G1 N t, QRes G H w N t v G1 w1 → K N t → next (a.put o.dst v) w1) → o.wp P a w next Q
/-- An operation that only reads. -/
def PW (P : Program) (o : Oper) (mop : MOp) : Prop := ∀ (G : Gh) (H : Heap) (w : World) (ts : List T) (a : Act) (K : Heap → T → Prop), HeapOk G H w → Temps G H w ts a.tmps → quiet (FnSem P) ts H mop K → GivesE P G H w a o K
/-- An operation that looks at no memory. -/
def AW (P : Program) (o : Oper) (mop : MOp) : Prop := ∀ (G : Gh) (H : Heap) (w : World) (ts : List T) (a : Act) (K : Heap → T → Prop), HeapOk G H w → Temps G H w ts a.tmps → quiet (FnSem P) ts H mop K → GivesA P G H w a o K
def isA : MOp → Bool
  | .mv .. => true
  | .pick .. => true
  | .bin .. => true
  | .shift .. => true
  | .un .. => true
  | .build .. => true
  | .conv .bytes _ => false
  | .conv .. => true
  | .slice .. => true
  | .substr .. => true
  | .fieldAddr .. => true
  | .field .. => true
  | .indexAddr .. => true
  | .strIdx .. => true
  | .extract .. => true
  | .len .. => true
  | .minmax .. => true
  | .nilCheck .. => true
  | .mkFn .. => true
  | _ => false
def isP : MOp → Bool
  | .mv .. => true
  | .build .. => true
  | .pick .. => true
  | .load .. => true
  | .bin .. => true
  | .shift .. => true
  | .un .. => true
  | .conv .. => true
  | .slice .. => true
  | .substr .. => true
  | .fieldAddr .. => true
  | .field .. => true
  | .indexAddr .. => true
  | .strIdx .. => true
  | .extract .. => true
  | .len .. => true
  | .minmax .. => true
  | .nilCheck .. => true
  | .mkFn .. => true
  | _ => false
def LW (P : Program) (o : Oper) (mop : MOp) : Prop := ∀ (G : Gh) (s : St) (w : World) (a : Act) (ups : List (Array Value)) (K : St → T → Prop) (next : Act → World → Prop) (Q : Exit → Act → World → Prop),
  (∀ w', Wx w w' (fun b => ¬ G.fr b) → Stand P w') → HeapOk G s.H w → Temps G s.H w s.ts a.tmps → F2 (Temps G s.H w) s.up ups → loud (InSem P) s mop K →
  (∀ v w1 G1 s1 t, HeapOk G1 s1.H w1 → Temps G1 s1.H w1 s1.ts a.tmps → F2 (Temps G1 s1.H w1) s1.up ups → (o.dst = none ∨ TR G1 s1.H w1 t v) → Fw G w G1 w1 → K s1 t → next (a.put o.dst v) w1) → o.wp P a w next Q

theorem qw_of {o : Oper} {mop : MOp} (h : ∀ (G : Gh) (H : Heap) (w : World) (ts : List T) (a : Act) (K : Heap → T → Prop), HeapOk G H w → Temps G H w ts a.tmps → quiet (FnSem P) ts H mop K → Gives P G H w a o K) : QW P o mop := by
  intro G H w ts a K next Q hst hh ht hk hn
  obtain ⟨v, w1, G1, N, t, hr, hq, hk⟩ := h G H w ts a K hh ht hk
  unfold Oper.wp
  rw [hr, Oper.upon_value]
  exact hn v w1 G1 N t hq hk

theorem Temps.res {q : D → Bool} {ts : List T} {tmps : Array Value} (h : LRes G H w q G1 H1 w1) (ht : Temps G H w ts tmps) : Temps G1 H1 w1 (ts.map (T.kill q)) tmps := by
  refine ⟨by simpa using ht.len, fun i t hi => ?_⟩
  simp only [List.getElem?_map, Option.map_eq_some_iff] at hi
  obtain ⟨t', h1, rfl⟩ := hi
  exact h.val (ht.val i t' h1)
theorem F2.map {α β γ : Type} {R : α → β → Prop} {S : γ → β → Prop} {f : α → γ} {xs : List α} {ys : List β} (h : F2 R xs ys) (hi : ∀ x y, R x y → S (f x) y) : F2 S (xs.map f) ys := by
  induction h with
  | nil => exact .nil
  | cons h _ ih => exact .cons (hi _ _ h) ih

theorem lw_of {o : Oper} {mop : MOp} (h : ∀ (G : Gh) (s : St) (w : World) (a : Act) (K : St → T → Prop), HeapOk G s.H w → Temps G s.H w s.ts a.tmps → loud (InSem P) s mop K → LGives P G s w a o K) : LW P o mop := by
  intro G s w a ups K next Q hst hh ht hu hk hn
  obtain ⟨nx, w1, G1, q, H1, t, hr, hl, hv, hk⟩ := h G s w a K hh ht hk
  have ht1 := ht.res hl
  have hu1 : F2 (Temps G1 H1 w1) (s.up.map fun ts => ts.map (T.kill q)) ups := hu.map fun ts tmps h => h.res hl
  unfold Oper.wp
  rw [hr]
  cases nx with
  | value v =>
    rw [Oper.upon_value]
    exact hn v w1 G1 _ t hl.heap ht1 hu1 (.inr hv) hl.fw hk
  | skip =>
    rw [Oper.upon_skip]
    exact hn undef w1 G1 _ t hl.heap ht1 hu1 (.inl hv) hl.fw hk
  | _ => exact hv.elim

def MiOk (P : Program) (ops : Array Oper) (o : Oper) (mi : MI) : Prop :=
  mi.dst = o.dst ∧ (match o.guard, mi.guard with
    | none, none => True
    | some (j, b), some (g, b') => b = b' ∧ (ops[j]?).bind (·.dst) = some g
    | _, _ => False) ∧ (isQuiet mi.op = true → QW P o mi.op) ∧ (isQuiet mi.op = false → LW P o mi.op)

/-- The machine's state is as s tells; the frame began at (G0, w0). -/
def Rel (G0 : Gh) (w0 : World) (n : Nat) (ups : List (Array Value)) (s : St) (a : Act) (w : World) : Prop :=
  ∃ G, HeapOk G s.H w ∧ Temps G s.H w s.ts a.tmps ∧ F2 (Temps G s.H w) s.up ups ∧ Fw G0 w0 G w ∧ a.defers = [] ∧ a.tmps.size = n

theorem Temps.put {ts : List T} {tmps : Array Value} (h : Temps G H w ts tmps) (dst : Option Nat) (ht : dst = none ∨ TR G H w t v) : Temps G H w (putT ts dst t) (({ tmps := tmps, defers := [] } : Act).put dst v).tmps := by
  cases dst with
  | none => exact h
  | some d =>
    rcases ht with ht | ht
    · cases ht
    refine ⟨by simpa [putT, Act.put] using h.len, fun i x hx => ?_⟩
    simp only [putT, Act.put, List.getElem?_set] at hx ⊢
    by_cases e : d = i
    · subst e
      rw [if_pos rfl] at hx
      split at hx
      · rename_i hl
        injection hx with hx
        subst hx
        have : d < tmps.size := Nat.lt_of_lt_of_le hl h.len
        simp [this]
        exact ht
      · cases hx
    · rw [if_neg e] at hx
      have := h.val i x hx
      simp only [Array.getD_eq_getD_getElem?] at this ⊢
      rw [Array.getElem?_setIfInBounds_ne e]
      exact this
theorem put_defers (a : Act) (dst : Option Nat) (v : Value) : (a.put dst v).defers = a.defers := by cases dst <;> rfl
theorem put_size (a : Act) (dst : Option Nat) (v : Value) : (a.put dst v).tmps.size = a.tmps.size := by cases dst <;> simp [Act.put]
theorem put_tmps (a : Act) (dst : Option Nat) (v : Value) : (a.put dst v).tmps = (({ tmps := a.tmps, defers := [] } : Act).put dst v).tmps := by cases dst <;> rfl

theorem Temps.fw {ts : List T} {tmps : Array Value} (h : QRes G H w N t v G1 w1) (ht : Temps G H w ts tmps) : Temps G1 (H ++ N) w1 ts tmps :=
  ⟨ht.len, fun i x hx => h.old (ht.val i x hx)⟩

/-- What stands at the frame's beginning stands as long as it goes on. -/
def Stands (P : Program) (G0 : Gh) (w0 : World) : Prop := ∀ w', Wx w0 w' (fun b => ¬ G0.fr b) → Stand P w'
theorem Stands.fw (h : Stands P G0 w0) (hf : Fw G0 w0 G w) : Stands P G w := fun w' hx => h w' (hf.trans (G2 := G) ⟨hx, fun _ h => h, fun _ h => .inl h, fun _ h => h⟩).wx
theorem Stands.now (h : Stands P G0 w0) (hf : Fw G0 w0 G w) : Stand P w := h.fw hf w (Wx.refl _ _)

theorem evOps_ok (hst : Stands P G0 w0) {ops : Array Oper} {Q : Exit → Act → World → Prop} {n : Nat} {ups : List (Array Value)} {K : St → Prop} (hQ : ∀ s a w, Rel G0 w0 n ups s a w → K s → Q .normal a w) :
    ∀ {l : List Nat} {mis : List MI}, F2 (fun i mi => ∃ o, ops[i]? = some o ∧ MiOk P ops o mi) l mis → ∀ {s : St} {a : Act} {w : World}, Rel G0 w0 n ups s a w → evOps (FnSem P) (InSem P) mis s K → wpOps P ops Q l a w := by
  intro l mis h
  induction h with
  | nil => intro s a w hr hk; exact hQ s a w hr hk
  | @cons i mi l mis hmi _ ih =>
    intro s a w hr hk
    obtain ⟨o, ho, hdst, hg, hq, hl⟩ := hmi
    obtain ⟨G, hh, ht, hu, hf, hd, hn⟩ := hr
    obtain ⟨dst, guard, op⟩ := mi
    simp only at hdst hg hq hl
    subst hdst
    have hrun : ∀ ts, Temps G s.H w ts a.tmps → (match isQuiet op with
        | true => quiet (FnSem P) ts s.H op fun N x => evOps (FnSem P) (InSem P) mis ⟨putT ts o.dst x, s.H ++ N, s.up⟩ K
        | false => loud (InSem P) ⟨ts, s.H, s.up⟩ op fun s' x => evOps (FnSem P) (InSem P) mis ⟨putT s'.ts o.dst x, s'.H, s'.up⟩ K) → o.wp P a w (wpOps P ops Q l) Q := by
      intro ts ht hk
      cases hiq : isQuiet op with
      | true =>
        rw [hiq] at hk
        refine hq hiq G s.H w ts a _ _ Q (hst.now hf) hh ht hk fun v w1 G1 N t hqr hk => ?_
        refine ih (s := ⟨putT ts o.dst t, s.H ++ N, s.up⟩) ⟨G1, hqr.heap, ?_, hu.imp (fun x y h => h.fw hqr), hf.trans (LRes.of_q hh hqr).fw, by rw [put_defers]; exact hd, by rw [put_size]; exact hn⟩ hk
        rw [put_tmps]
        exact (ht.fw hqr).put _ (.inr hqr.val)
      | false =>
        rw [hiq] at hk
        refine hl hiq G ⟨ts, s.H, s.up⟩ w a ups _ _ Q (hst.fw hf) hh ht hu hk fun v w1 G1 s1 t h1 h2 h3 h4 h5 hk => ?_
        refine ih (s := ⟨putT s1.ts o.dst t, s1.H, s1.up⟩) ⟨G1, h1, ?_, h3, hf.trans h5, by rw [put_defers]; exact hd, by rw [put_size]; exact hn⟩ hk
        rw [put_tmps]
        exact h2.put _ h4
    have hskip : ∀ ts, Temps G s.H w ts a.tmps → evOps (FnSem P) (InSem P) mis ⟨putT ts o.dst (.d .dead), s.H, s.up⟩ K → wpOps P ops Q l (a.put o.dst undef) w := by
      intro ts ht hk
      refine ih (s := ⟨putT ts o.dst (.d .dead), s.H, s.up⟩) ⟨G, hh, ?_, hu, hf, by rw [put_defers]; exact hd, by rw [put_size]; exact hn⟩ hk
      rw [put_tmps]
      exact ht.put _ (.inr (show TR G s.H w (.d .dead) undef from trivial))
    show wpOps P ops Q (i :: l) a w
    unfold wpOps
    rw [ho]
    simp only
    cases hgo : o.guard with
    | none =>
      rw [hgo] at hg
      cases guard with
      | some x => exact hg.elim
      | none =>
        have hw : Region.wanted o (yielded ops a.tmps) = true := by simp [Region.wanted, hgo]
        rw [if_pos hw]
        left
        apply hrun s.ts ht
        unfold evOps at hk
        exact hk
    | some jb =>
      obtain ⟨j, b⟩ := jb
      rw [hgo] at hg
      cases guard with
      | none => exact hg.elim
      | some gb =>
        obtain ⟨g, b'⟩ := gb
        obtain ⟨rfl, hgd⟩ := hg
        unfold evOps at hk
        split at hk
        · rename_i c hc
          have hval : a.tmps.getD g undef = .bool c := by
            have := get_ok (x := .tmp g) (y := .t g) rfl ht
            have e : Opd.get s.ts (.t g) = s.ts.getD g (.d .dead) := rfl
            rw [e, hc] at this
            exact this.2
          have hy : yielded ops a.tmps j = some c := by
            unfold yielded
            rw [hgd, Option.bind_some]
            have hlt : g < a.tmps.size := by
              rcases Nat.lt_or_ge g a.tmps.size with h | h
              · exact h
              · rw [Array.getD_eq_getD_getElem?, Array.getElem?_eq_none h] at hval
                cases hval
            rw [Array.getD_eq_getD_getElem?, Array.getElem?_eq_getElem hlt] at hval
            simp only [Option.getD_some] at hval
            rw [Array.getElem?_eq_getElem hlt, hval]
          have hset : ∀ c', c = c' → Temps G s.H w (s.ts.set g (.d (.bool c'))) a.tmps := by
            rintro c' rfl
            refine ⟨by simpa using ht.len, fun i x hx => ?_⟩
            rw [List.getElem?_set] at hx
            by_cases e : g = i
            · subst e
              rw [if_pos rfl] at hx
              split at hx
              · injection hx with hx
                subst hx
                exact ⟨by rw [hval]; rfl, hval⟩
              · cases hx
            · rw [if_neg e] at hx
              exact ht.val i x hx
          by_cases hcb : c = b
          · have hw : Region.wanted o (yielded ops a.tmps) = true := by simp [Region.wanted, hgo, hy, hcb]
            rw [if_pos hw]
            exact .inl (hrun _ (hset b hcb) (hk.1 hcb))
          · have hw : ¬ Region.wanted o (yielded ops a.tmps) = true := by simp [Region.wanted, hgo, hy, hcb]
            rw [if_neg hw]
            have hcb2 : c = !b := by cases c <;> cases b <;> simp_all
            exact hskip _ (hset _ hcb2) (hk.2 hcb2)
        · exact hk.elim
end
end Go.R
