/- Regions that draw their order: a tree of orders where one order does not tell. -/
import Derived.Test.YtgpicngmadkdoaaDoorRDraw2
set_option linter.unusedVariables false
set_option linter.unusedSimpArgs false
namespace Go.R
open Go.RowKit

section
variable {P : Program} {ops : Array Oper} {E : Nat → Bool} {G G0 : Gh} {H : Heap} {w w' w0 : World} {s : St} {a : Act} {n : Nat} {ups : List (Array Value)}

/-- One operation first (it only reads, or it looks at no memory), then the rest. -/
theorem draw_arm (hst : Stands P G0 w0) {Pq Aq : Nat → Bool} (hsel : ∀ (j : Nat) (o : Oper) cs b, ops[j]? = some o → o.op ≠ .select cs b) {Q : Exit → Act → World → Prop} (hQp : ∀ c a w, ¬ Q (.panic c) a w) {K : St → Prop} {i : Nat} {mi : MI} {fuel : Nat} {listed : Array Bool}
    (hmi : MiOk2 P ops E Pq Aq i mi) (hcl : Closed .any ops listed) (hri : i ∈ Region.ready .any ops listed)
    (hord : (Pq i = true ∧ ∀ j oi oj, ops[i]? = some oi → ops[j]? = some oj → j ≠ i → listed.getD j true = false → ¬ Dep ops .any i j → oi.apart ops oj = true ∧ E j = true) ∨ (Aq i = true ∧ ∀ j oi oj, ops[i]? = some oi → ops[j]? = some oj → j ≠ i → listed.getD j true = false → ¬ Dep ops .any i j → oi.apart ops oj = true) ∨
      (∀ (a : Act) (w : World), wpOp P ops Q i (fun a' w' => (E i = true → Ext w w') ∧ wpAnyX P .any ops Q E fuel (listed.setIfInBounds i true) a' w') a w → wpAnyX P .any ops Q E (fuel + 1) listed a w))
    (hr : Rel G0 w0 n ups s a w) (hk : evOps (FnSem P) (InSem P) [mi] s K)
    (ih : ∀ (s : St) (a : Act) (w : World), Rel G0 w0 n ups s a w → K s → wpAnyX P .any ops Q E fuel (listed.setIfInBounds i true) a w) :
    wpAnyX P .any ops Q E (fuel + 1) listed a w := by
  obtain ⟨o, hio, ⟨hdst, hg, hq, hl⟩, hpw, haw, hE⟩ := hmi
  obtain ⟨G, hh, ht, hu, hf, hd, hn⟩ := id hr
  obtain ⟨dst, guard, op⟩ := mi
  simp only at hdst hg hq hl hpw haw hE
  subst hdst
  have hrun : ∀ ts, Temps G s.H w ts a.tmps → (match isQuiet op with
      | true => quiet (FnSem P) ts s.H op fun N x => K ⟨putT ts o.dst x, s.H ++ N, s.up⟩
      | false => loud (InSem P) ⟨ts, s.H, s.up⟩ op fun s' x => K ⟨putT s'.ts o.dst x, s'.H, s'.up⟩) →
      Region.wanted o (yielded ops a.tmps) = true → wpAnyX P .any ops Q E (fuel + 1) listed a w := by
    intro ts ht hk hw
    rcases hord with ⟨hP, hfree⟩ | ⟨hA, hfree⟩ | hone
    · obtain ⟨hiq, hpw⟩ := hpw hP
      rw [hiq] at hk
      obtain ⟨v, t, hv, htr, hk2⟩ := hpw G s.H w ts a _ hh ht hk
      refine wpAnyX_first hio hsel (fun c a w h => absurd h (hQp c _ _)) fuel listed a w hcl (fun j oj hj hji hun hno => hfree j o oj hio hj hji hun hno) hri (.inl ⟨hw, hv⟩) ?_
      refine ih ⟨putT ts o.dst t, s.H ++ [], s.up⟩ _ _ ⟨G, by simpa using hh, ?_, by simpa using hu, hf, by rw [put_defers]; exact hd, by rw [put_size]; exact hn⟩ hk2
      rw [put_tmps]
      simp only [List.append_nil]
      exact ht.put _ (.inr htr)
    · obtain ⟨hiq, haw⟩ := haw hA
      rw [hiq] at hk
      obtain ⟨v, t, hv, htr, hk2⟩ := haw G s.H w ts a _ hh ht hk
      refine wpAnyX_firstA hio hsel (fun c a w h => absurd h (hQp c _ _)) fuel listed a w hcl (fun j oj hj hji hun hno => hfree j o oj hio hj hji hun hno) hri (.inl ⟨hw, fun w' _ => hv w'⟩) ?_
      refine ih ⟨putT ts o.dst t, s.H ++ [], s.up⟩ _ _ ⟨G, by simpa using hh, ?_, by simpa using hu, hf, by rw [put_defers]; exact hd, by rw [put_size]; exact hn⟩ hk2
      rw [put_tmps]
      simp only [List.append_nil]
      exact ht.put _ (.inr htr)
    · refine hone a w ?_
      unfold wpOp
      rw [hio]
      simp only
      rw [if_pos hw]
      left
      cases hiq : isQuiet op with
      | true =>
        rw [hiq] at hk
        refine hq hiq G s.H w ts a _ _ Q (hst.now hf) hh ht hk fun v w1 G1 N t hqr hk => ⟨fun _ => hqr.wx, ?_⟩
        refine ih ⟨putT ts o.dst t, s.H ++ N, s.up⟩ _ _ ⟨G1, hqr.heap, ?_, hu.imp (fun x y h => h.fw hqr), hf.trans (LRes.of_q hh hqr).fw, by rw [put_defers]; exact hd, by rw [put_size]; exact hn⟩ hk
        rw [put_tmps]
        exact (ht.fw hqr).put _ (.inr hqr.val)
      | false =>
        rw [hiq] at hk
        refine hl hiq G ⟨ts, s.H, s.up⟩ w a ups _ _ Q (hst.fw hf) hh ht hu hk fun v w1 G1 s1 t h1 h2 h3 h4 h5 hk => ⟨(fun he => by rw [hE he] at hiq; cases hiq), ?_⟩
        refine ih ⟨putT s1.ts o.dst t, s1.H, s1.up⟩ _ _ ⟨G1, h1, ?_, h3, hf.trans h5, by rw [put_defers]; exact hd, by rw [put_size]; exact hn⟩ hk
        rw [put_tmps]
        exact h2.put _ h4
  have hskip : ∀ ts, Temps G s.H w ts a.tmps → K ⟨putT ts o.dst (.d .dead), s.H, s.up⟩ → Region.wanted o (yielded ops a.tmps) = false → wpAnyX P .any ops Q E (fuel + 1) listed a w := by
    intro ts ht hk hw
    have hrest : wpAnyX P .any ops Q E fuel (listed.setIfInBounds i true) (a.put o.dst undef) w := by
      refine ih ⟨putT ts o.dst (.d .dead), s.H, s.up⟩ _ _ ⟨G, hh, ?_, hu, hf, by rw [put_defers]; exact hd, by rw [put_size]; exact hn⟩ hk
      rw [put_tmps]
      exact ht.put _ (.inr (show TR G s.H w (.d .dead) undef from trivial))
    rcases hord with ⟨hP, hfree⟩ | ⟨hA, hfree⟩ | hone
    · exact wpAnyX_first hio hsel (fun c a w h => absurd h (hQp c _ _)) fuel listed a w hcl (fun j oj hj hji hun hno => hfree j o oj hio hj hji hun hno) hri (.inr ⟨hw, rfl⟩) hrest
    · exact wpAnyX_firstA hio hsel (fun c a w h => absurd h (hQp c _ _)) fuel listed a w hcl (fun j oj hj hji hun hno => hfree j o oj hio hj hji hun hno) hri (.inr ⟨hw, rfl⟩) hrest
    · refine hone a w ?_
      unfold wpOp
      rw [hio]
      simp only
      rw [if_neg (by rw [hw]; decide)]
      exact ⟨fun _ => Ext.refl w, hrest⟩
  cases hgo : o.guard with
  | none =>
    rw [hgo] at hg
    cases guard with
    | some x => exact hg.elim
    | none =>
      have hw : Region.wanted o (yielded ops a.tmps) = true := by simp [Region.wanted, hgo]
      refine hrun s.ts ht ?_ hw
      unfold evOps at hk
      exact hk
  | some jb =>
    obtain ⟨j, b⟩ := jb
    rw [hgo] at hg
    cases guard with
    | none => exact hg.elim
    | some gb =>
      obtain ⟨g, b'⟩ := gb
      obtain ⟨rfl, hgd⟩ := hg
      unfold evOps at hk
      split at hk
      · rename_i c hc
        have hval : a.tmps.getD g undef = .bool c := by
          have := get_ok (x := .tmp g) (y := .t g) rfl ht
          have e : Opd.get s.ts (.t g) = s.ts.getD g (.d .dead) := rfl
          rw [e, hc] at this
          exact this.2
        have hy : yielded ops a.tmps j = some c := by
          unfold yielded
          rw [hgd, Option.bind_some]
          have hlt : g < a.tmps.size := by
            rcases Nat.lt_or_ge g a.tmps.size with h | h
            · exact h
            · rw [Array.getD_eq_getD_getElem?, Array.getElem?_eq_none h] at hval
              cases hval
          rw [Array.getD_eq_getD_getElem?, Array.getElem?_eq_getElem hlt] at hval
          simp only [Option.getD_some] at hval
          rw [Array.getElem?_eq_getElem hlt, hval]
        have hset : ∀ c', c = c' → Temps G s.H w (s.ts.set g (.d (.bool c'))) a.tmps := by
          rintro c' rfl
          refine ⟨by simpa using ht.len, fun i x hx => ?_⟩
          rw [List.getElem?_set] at hx
          by_cases e : g = i
          · subst e
            rw [if_pos rfl] at hx
            split at hx
            · injection hx with hx
              subst hx
              exact ⟨by rw [hval]; rfl, hval⟩
            · cases hx
          · rw [if_neg e] at hx
            exact ht.val i x hx
        by_cases hcb : c = b
        · have hw : Region.wanted o (yielded ops a.tmps) = true := by simp [Region.wanted, hgo, hy, hcb]
          exact hrun _ (hset b hcb) (hk.1 hcb) hw
        · have hw : Region.wanted o (yielded ops a.tmps) = false := by simp [Region.wanted, hgo, hy, hcb]
          have hcb2 : c = !b := by cases c <;> cases b <;> simp_all
          exact hskip _ (hset _ hcb2) (hk.2 hcb2) hw
      · exact hk.elim

/-- One operation, whatever the rest. -/
theorem draw_one (hst : Stands P G0 w0) {Pq Aq : Nat → Bool} (hsel : ∀ (j : Nat) (o : Oper) cs b, ops[j]? = some o → o.op ≠ .select cs b) {Q : Exit → Act → World → Prop} (hQp : ∀ c a w, ¬ Q (.panic c) a w) {K : St → Prop} {i : Nat} {mi : MI} {fuel : Nat} {listed : Array Bool}
    (hmi : MiOk2 P ops E Pq Aq i mi)
    (hr : Rel G0 w0 n ups s a w) (hk : evOps (FnSem P) (InSem P) [mi] s K)
    (ih : ∀ (s : St) (a : Act) (w : World), Rel G0 w0 n ups s a w → K s → wpAnyX P .any ops Q E fuel (listed.setIfInBounds i true) a w) :
    wpOp P ops Q i (fun a' w' => (E i = true → Ext w w') ∧ wpAnyX P .any ops Q E fuel (listed.setIfInBounds i true) a' w') a w := by
  obtain ⟨o, hio, ⟨hdst, hg, hq, hl⟩, hpw, haw, hE⟩ := hmi
  obtain ⟨G, hh, ht, hu, hf, hd, hn⟩ := id hr
  obtain ⟨dst, guard, op⟩ := mi
  simp only at hdst hg hq hl hpw haw hE
  subst hdst
  have hrun : ∀ ts, Temps G s.H w ts a.tmps → (match isQuiet op with
      | true => quiet (FnSem P) ts s.H op fun N x => K ⟨putT ts o.dst x, s.H ++ N, s.up⟩
      | false => loud (InSem P) ⟨ts, s.H, s.up⟩ op fun s' x => K ⟨putT s'.ts o.dst x, s'.H, s'.up⟩) →
      Region.wanted o (yielded ops a.tmps) = true → wpOp P ops Q i (fun a' w' => (E i = true → Ext w w') ∧ wpAnyX P .any ops Q E fuel (listed.setIfInBounds i true) a' w') a w := by
    intro ts ht hk hw
    unfold wpOp
    rw [hio]
    simp only
    rw [if_pos hw]
    left
    cases hiq : isQuiet op with
    | true =>
      rw [hiq] at hk
      refine hq hiq G s.H w ts a _ _ Q (hst.now hf) hh ht hk fun v w1 G1 N t hqr hk => ⟨fun _ => hqr.wx, ?_⟩
      refine ih ⟨putT ts o.dst t, s.H ++ N, s.up⟩ _ _ ⟨G1, hqr.heap, ?_, hu.imp (fun x y h => h.fw hqr), hf.trans (LRes.of_q hh hqr).fw, by rw [put_defers]; exact hd, by rw [put_size]; exact hn⟩ hk
      rw [put_tmps]
      exact (ht.fw hqr).put _ (.inr hqr.val)
    | false =>
      rw [hiq] at hk
      refine hl hiq G ⟨ts, s.H, s.up⟩ w a ups _ _ Q (hst.fw hf) hh ht hu hk fun v w1 G1 s1 t h1 h2 h3 h4 h5 hk => ⟨(fun he => by rw [hE he] at hiq; cases hiq), ?_⟩
      refine ih ⟨putT s1.ts o.dst t, s1.H, s1.up⟩ _ _ ⟨G1, h1, ?_, h3, hf.trans h5, by rw [put_defers]; exact hd, by rw [put_size]; exact hn⟩ hk
      rw [put_tmps]
      exact h2.put _ h4
  have hskip : ∀ ts, Temps G s.H w ts a.tmps → K ⟨putT ts o.dst (.d .dead), s.H, s.up⟩ → Region.wanted o (yielded ops a.tmps) = false → wpOp P ops Q i (fun a' w' => (E i = true → Ext w w') ∧ wpAnyX P .any ops Q E fuel (listed.setIfInBounds i true) a' w') a w := by
    intro ts ht hk hw
    have hrest : wpAnyX P .any ops Q E fuel (listed.setIfInBounds i true) (a.put o.dst undef) w := by
      refine ih ⟨putT ts o.dst (.d .dead), s.H, s.up⟩ _ _ ⟨G, hh, ?_, hu, hf, by rw [put_defers]; exact hd, by rw [put_size]; exact hn⟩ hk
      rw [put_tmps]
      exact ht.put _ (.inr (show TR G s.H w (.d .dead) undef from trivial))
    unfold wpOp
    rw [hio]
    simp only
    rw [if_neg (by rw [hw]; decide)]
    exact ⟨fun _ => Ext.refl w, hrest⟩
  cases hgo : o.guard with
  | none =>
    rw [hgo] at hg
    cases guard with
    | some x => exact hg.elim
    | none =>
      have hw : Region.wanted o (yielded ops a.tmps) = true := by simp [Region.wanted, hgo]
      refine hrun s.ts ht ?_ hw
      unfold evOps at hk
      exact hk
  | some jb =>
    obtain ⟨j, b⟩ := jb
    rw [hgo] at hg
    cases guard with
    | none => exact hg.elim
    | some gb =>
      obtain ⟨g, b'⟩ := gb
      obtain ⟨rfl, hgd⟩ := hg
      unfold evOps at hk
      split at hk
      · rename_i c hc
        have hval : a.tmps.getD g undef = .bool c := by
          have := get_ok (x := .tmp g) (y := .t g) rfl ht
          have e : Opd.get s.ts (.t g) = s.ts.getD g (.d .dead) := rfl
          rw [e, hc] at this
          exact this.2
        have hy : yielded ops a.tmps j = some c := by
          unfold yielded
          rw [hgd, Option.bind_some]
          have hlt : g < a.tmps.size := by
            rcases Nat.lt_or_ge g a.tmps.size with h | h
            · exact h
            · rw [Array.getD_eq_getD_getElem?, Array.getElem?_eq_none h] at hval
              cases hval
          rw [Array.getD_eq_getD_getElem?, Array.getElem?_eq_getElem hlt] at hval
          simp only [Option.getD_some] at hval
          rw [Array.getElem?_eq_getElem hlt, hval]
        have hset : ∀ c', c = c' → Temps G s.H w (s.ts.set g (.d (.bool c'))) a.tmps := by
          rintro c' rfl
          refine ⟨by simpa using ht.len, fun i x hx => ?_⟩
          rw [List.getElem?_set] at hx
          by_cases e : g = i
          · subst e
            rw [if_pos rfl] at hx
            split at hx
            · injection hx with hx
              subst hx
              exact ⟨by rw [hval]; rfl, hval⟩
            · cases hx
          · rw [if_neg e] at hx
            exact ht.val i x hx
        by_cases hcb : c = b
        · have hw : Region.wanted o (yielded ops a.tmps) = true := by simp [Region.wanted, hgo, hy, hcb]
          exact hrun _ (hset b hcb) (hk.1 hcb) hw
        · have hw : Region.wanted o (yielded ops a.tmps) = false := by simp [Region.wanted, hgo, hy, hcb]
          have hcb2 : c = !b := by cases c <;> cases b <;> simp_all
          exact hskip _ (hset _ hcb2) (hk.2 hcb2) hw
      · exact hk.elim

/-- A tree of orders. 'alt i r rest': i first, then r; or as 'rest' tells; 'stop': no other. -/
inductive OT where
  | nil
  | one (i : Nat) (r : OT)
  | alt (i : Nat) (r rest : OT)
  | stop

/-- What a tree of orders owes. 'heads': who came first in the alternatives before. -/
def TreeOk (ops : Array Oper) (E Pq Aq : Nat → Bool) : Nat → Array Bool → List Nat → OT → Prop
  | fuel, listed, heads, .nil => heads = [] ∧ fuel = 0 ∧ Region.ready .any ops listed = []
  | fuel, listed, heads, .one i r => heads = [] ∧ ∃ m, fuel = m + 1 ∧ i ∈ Region.ready .any ops listed ∧
      ((Pq i = true ∧ ∀ j oi oj, ops[i]? = some oi → ops[j]? = some oj → j ≠ i → listed.getD j true = false → ¬ Dep ops .any i j → oi.apart ops oj = true ∧ E j = true) ∨ (Aq i = true ∧ ∀ j oi oj, ops[i]? = some oi → ops[j]? = some oj → j ≠ i → listed.getD j true = false → ¬ Dep ops .any i j → oi.apart ops oj = true) ∨ Region.ready .any ops listed = [i]) ∧
      TreeOk ops E Pq Aq m (listed.setIfInBounds i true) [] r
  | fuel, listed, heads, .alt i r rest => (∃ m, fuel = m + 1 ∧ i ∈ Region.ready .any ops listed ∧ TreeOk ops E Pq Aq m (listed.setIfInBounds i true) [] r) ∧ TreeOk ops E Pq Aq fuel listed (i :: heads) rest
  | fuel, listed, heads, .stop => heads ≠ [] ∧ ∀ j ∈ Region.ready .any ops listed, j ∈ heads

/-- The code of a tree. -/
def treeMC (l : List MI) : OT → Option MC
  | .nil => some .skip
  | .one i r => match l[i]?, treeMC l r with
    | some m, some c => some (.seq (.reg [m]) c)
    | _, _ => none
  | .alt i r .stop => match l[i]?, treeMC l r with
    | some m, some c => some (.seq (.reg [m]) c)
    | _, _ => none
  | .alt i r rest => match l[i]?, treeMC l r, treeMC l rest with
    | some m, some c, some d => some (.alt (.seq (.reg [m]) c) d)
    | _, _, _ => none
  | .stop => none

theorem tree_any (hst : Stands P G0 w0) {Pq Aq : Nat → Bool} (hsel : ∀ (j : Nat) (o : Oper) cs b, ops[j]? = some o → o.op ≠ .select cs b) {Q : Exit → Act → World → Prop} (hQp : ∀ c a w, ¬ Q (.panic c) a w) {K : St → Prop} {Kx : Nat → St → Prop} {Kr : St → Prop} {l : List MI}
    (hQ : ∀ s a w, Rel G0 w0 n ups s a w → K s → Q .normal a w) (hl : ∀ i m, l[i]? = some m → MiOk2 P ops E Pq Aq i m) :
    ∀ (t : OT) (fuel : Nat) (listed : Array Bool) (heads : List Nat) (mc : MC) (s : St) (a : Act) (w : World), Closed .any ops listed → TreeOk ops E Pq Aq fuel listed heads t → treeMC l t = some mc →
      Rel G0 w0 n ups s a w → ev (FnSem P) (InSem P) Shift mc s K Kx Kr →
      (∀ m, fuel = m + 1 → ∀ j ∈ heads, wpOp P ops Q j (fun a' w' => (E j = true → Ext w w') ∧ wpAnyX P .any ops Q E m (listed.setIfInBounds j true) a' w') a w) →
      wpAnyX P .any ops Q E fuel listed a w := by
  intro t
  induction t with
  | nil =>
    intro fuel listed heads mc s a w hcl ho hm hr hk hh
    obtain ⟨rfl, rfl, h3⟩ := ho
    injection hm with hm
    subst hm
    exact ⟨h3, hQ s a w hr hk⟩
  | stop => intro fuel listed heads mc s a w hcl ho hm hr hk hh; cases hm
  | one i r ih =>
    intro fuel listed heads mc s a w hcl ho hm hr hk hh
    obtain ⟨rfl, m, rfl, hri, hord, hrest⟩ := ho
    simp only [treeMC] at hm
    split at hm
    · rename_i mi c h1 h2
      injection hm with hm
      subst hm
      refine draw_arm hst hsel hQp (hl i mi h1) hcl hri ?_ hr (K := fun s' => ev (FnSem P) (InSem P) Shift c s' K Kx Kr) hk fun s' a' w' hr' hk' => ih m _ [] c s' a' w' (hcl.add hri) hrest h2 hr' hk' (fun _ _ j hj => by cases hj)
      rcases hord with h | h | h
      · exact .inl h
      · exact .inr (.inl h)
      · refine .inr (.inr fun a w hw => ⟨fun h0 => (by rw [h0] at hri; cases hri), fun j hj => ?_⟩)
        rw [h] at hj
        have hji : j = i := by simpa using hj
        subst hji
        exact hw
    · cases hm
  | alt i r rest ih1 ih2 =>
    intro fuel listed heads mc s a w hcl ho hm hr hk hh
    obtain ⟨⟨m, rfl, hri, hr1⟩, hr2⟩ := ho
    -- the first alternative
    have h1 : ∀ mi c, l[i]? = some mi → treeMC l r = some c → evOps (FnSem P) (InSem P) [mi] s (fun s' => ev (FnSem P) (InSem P) Shift c s' K Kx Kr) →
        wpOp P ops Q i (fun a' w' => (E i = true → Ext w w') ∧ wpAnyX P .any ops Q E m (listed.setIfInBounds i true) a' w') a w := by
      intro mi c e1 e2 hk1
      exact draw_one hst hsel hQp (hl i mi e1) hr hk1 fun s' a' w' hr' hk' => ih1 m _ [] c s' a' w' (hcl.add hri) hr1 e2 hr' hk' (fun _ _ j hj => by cases hj)
    have hdone : (∀ j ∈ Region.ready .any ops listed, j ∈ i :: heads) → wpOp P ops Q i (fun a' w' => (E i = true → Ext w w') ∧ wpAnyX P .any ops Q E m (listed.setIfInBounds i true) a' w') a w → wpAnyX P .any ops Q E (m + 1) listed a w := by
      intro hall hi
      refine ⟨fun h0 => (by rw [h0] at hri; cases hri), fun j hj => ?_⟩
      rcases List.mem_cons.1 (hall j hj) with rfl | hjh
      · exact hi
      · exact hh m rfl j hjh
    have hmore : ∀ d, treeMC l rest = some d → ev (FnSem P) (InSem P) Shift d s K Kx Kr → wpOp P ops Q i (fun a' w' => (E i = true → Ext w w') ∧ wpAnyX P .any ops Q E m (listed.setIfInBounds i true) a' w') a w → wpAnyX P .any ops Q E (m + 1) listed a w := by
      intro d hd hkd hi
      refine ih2 (m + 1) listed (i :: heads) d s a w hcl hr2 hd hr hkd fun m' e j hj => ?_
      have e : m' = m := by omega
      subst e
      rcases List.mem_cons.1 hj with rfl | hj
      · exact hi
      · exact hh m' rfl j hj
    cases rest with
    | stop =>
      simp only [treeMC] at hm
      split at hm
      · rename_i mi c e1 e2
        injection hm with hm
        subst hm
        exact hdone hr2.2 (h1 mi c e1 e2 hk)
      · cases hm
    | nil => simp [TreeOk] at hr2
    | one i2 r2 => simp [TreeOk] at hr2
    | alt i2 r2 rest2 =>
      simp only [treeMC] at hm
      generalize hd : treeMC l (.alt i2 r2 rest2) = d at hm hmore
      split at hm
      · rename_i mi c d' e1 e2 
        injection hm with hm
        subst hm
        exact hmore _ rfl hk.2 (h1 mi c e1 e2 hk.1)
      · cases hm
end
end Go.R
