/- Values are taken: handles' trees become roots. -/
import Derived.Test.YtgpicngmadkdoaaDoorRHook
set_option linter.unusedVariables false
set_option linter.unusedSimpArgs false
namespace Go.R
open Go.RowKit

section
variable {P : Program} {G G1 G2 : Gh} {H H1 H2 N : Heap} {w w1 w2 : World} {q q2 : D → Bool}

/-- Ghost: an empty slice's root. -/
theorem emptyRoot (P : Program) (a : Act) (sz : Nat) (hh : HeapOk G H w) : ∃ G1, LRes G H w noKill G1 (H ++ [some (.arr sz 0 fun _ _ => .dead)]) w ∧ (∀ id p, id < H.length → G1.μ id p = G.μ id p) ∧
    ∀ A, inSl w (G1.μ H.length []) sz 0 0 0 (.slice A 0 0) := by
  have hg := gives_nil (P := P) (G := G) (H := H) (w := w) (a := a) (o := { op := .assign (.const (.slice none 0 0)), dst := none, guard := none, after := #[], type := 0, pos := default }) (sz := sz)
    (K := fun N t => N = [some (.arr sz 0 fun _ _ => .dead)] ∧ t = .d (.own H.length [] 0 0 0)) hh (.inl rfl) ⟨rfl, rfl⟩
  obtain ⟨v, w1, G1, N, t, hr, hq, rfl, rfl⟩ := hg
  simp [execOp, Act.eval] at hr
  obtain ⟨rfl, rfl⟩ := hr
  refine ⟨G1, LRes.of_q hh hq, fun id p h => hq.μ id p h, fun A => ?_⟩
  have hv := hq.val.2.2 ⟨sz, 0, fun _ _ => .dead⟩ (node_sub.2 ⟨.arr sz 0 fun _ _ => .dead, by rw [getD_app2 (Nat.le_refl _)]; simp, Sub.nil.2 rfl⟩) rfl
  unfold inSl at hv ⊢
  cases hm : G1.μ H.length [] with
  | none => exact ⟨rfl, rfl, rfl, A, rfl⟩
  | some bo =>
    rw [hm] at hv
    obtain ⟨A', cap, e, h1, h2, h3, h4⟩ := hv
    injection e with _ _ e
    subst e
    exact ⟨A, 0, rfl, h1, h2, h3, .inl rfl⟩

/-- One taken value. -/
def Took (G : Gh) (H : Heap) (w : World) (d : D) (u : Value) (m : Bool) (r : Option Nat) : Prop := match r with
  | none => m = false ∧ d.isPlain = true ∧ (∀ sz n b, d ≠ .sl true sz n b) ∧ VR G H w d u
  | some r => m = true ∧ ∃ sz n b, d = .sl true sz n b ∧ H.getD r none = some (.arr sz n b) ∧ inSl w (G.μ r []) sz n 0 n u

structure TakeRes (S0 : Nat → Prop) (G : Gh) (Hg E : Heap) (w : World) (us : List Value) (vs : List D) (E' : Heap) (ms : List Bool) (G' : Gh) (Hg' : Heap) (rs : List (Option Nat)) : Prop where
  res : LRes G Hg w noKill G' Hg' w
  less : Less E' Hg' (fun id => S0 id ∨ some id ∈ rs)
  lv : vs.length = us.length
  lm : ms.length = us.length
  lr : rs.length = us.length
  lo : ∀ r, some r ∈ rs → E.length ≤ r ∧ r < E'.length
  dis : ∀ (k k' r : Nat), rs[k]? = some (some r) → rs[k']? = some (some r) → k = k'
  item : ∀ (k : Nat) d u m r, vs[k]? = some d → us[k]? = some u → ms[k]? = some m → rs[k]? = some r → Took G' Hg' w d u m r
  keep : ∀ id, S0 id → id < Hg.length → Hg'.getD id none = Hg.getD id none ∧ ∀ p, G'.μ id p = G.μ id p

theorem drop_other {H : Heap} {id id' : Nat} {p : Path} (h : id' ≠ id) (hl : id < H.length) : (H.drop_ id p).getD id' none = H.getD id' none := by
  unfold Heap.drop_
  split
  · rw [getD_set hl, if_neg h]
  · unfold Heap.put
    split
    · rw [getD_set hl, if_neg h]
    · rfl

theorem takeAll_ok (P : Program) (ac : Act) : ∀ (xs : List D) {us : List Value} {S0 : Nat → Prop} {G : Gh} {Hg E : Heap} {vs : List D} {E' : Heap} {ms : List Bool} {ok : Prop},
    HeapOk G Hg w → Less E Hg S0 → (∀ id, S0 id → id < E.length) → us.length = xs.length → (∀ (k : Nat) (x : D) (u : Value), xs[k]? = some x → us[k]? = some u → VR G Hg w x u) →
    takeAll xs E = some (vs, E', ms, ok) → ok → ∃ G' Hg' rs, TakeRes S0 G Hg E w us vs E' ms G' Hg' rs
  | [], us, S0, G, Hg, E, vs, E', ms, ok, hh, hE, hS, hl, hv, ht, _ => by
    have : us = [] := List.eq_nil_of_length_eq_zero hl
    subst this
    simp only [takeAll] at ht
    injection ht with ht
    injection ht with h1 ht
    injection ht with h2 ht
    injection ht with h3 ht
    subst h1; subst h2; subst h3
    exact ⟨G, Hg, [], LRes.refl hh, by simpa using hE, rfl, rfl, rfl, (fun r h => nomatch h), (fun k k' r h => by simp at h), (fun k d u m r h => by simp at h), fun _ _ _ => ⟨rfl, fun _ => rfl⟩⟩
  | x :: xs, us, S0, G, Hg, E, vs, E', ms, ok, hh, hE, hS, hl, hv, ht, hok => by
    obtain ⟨u, us, rfl⟩ : ∃ u us', us = u :: us' := by
      cases us with
      | nil => simp at hl
      | cons u us => exact ⟨u, us, rfl⟩
    have hx := hv 0 x u rfl rfl
    have hxs : ∀ (k : Nat) (x : D) (u : Value), xs[k]? = some x → us[k]? = some u → VR G Hg w x u := fun k y z hy hz => hv (k + 1) y z (by simpa using hy) (by simpa using hz)
    have hl' : us.length = xs.length := by simpa using hl
    unfold takeAll at ht
    cases h1 : take_ E x with
    | none => rw [h1] at ht; cases ht
    | some t =>
      rw [h1] at ht
      simp only at ht
      cases h2 : takeAll xs t.H with
      | none => rw [h2] at ht; cases ht
      | some r =>
        obtain ⟨vs2, E2, ms2, ok2⟩ := r
        rw [h2] at ht
        simp only at ht
        injection ht with ht
        injection ht with e1 ht
        injection ht with e2 ht
        injection ht with e3 e4
        subst e1; subst e2; subst e3; subst e4
        obtain ⟨hok1, hok2⟩ := hok
        -- a value that stays
        have hstay : t.H = E → t.moved = false → t.v.isPlain = true → (∀ sz n b, t.v ≠ .sl true sz n b) → VR G Hg w t.v u → ∃ G' Hg' rs, TakeRes S0 G Hg E w (u :: us) (t.v :: vs2) E2 (t.moved :: ms2) G' Hg' rs := by
          intro eH em hp hnt hvr
          rw [eH] at h2
          obtain ⟨G', Hg', rs, hr⟩ := takeAll_ok P ac xs hh hE hS hl' hxs h2 hok2
          refine ⟨G', Hg', none :: rs, hr.res, ?_, by simp [hr.lv], by simp [hr.lm], by simp [hr.lr], fun r h => hr.lo r (by simpa using h), fun k k' r hk hk' => ?_, fun k d u' m r hd hu hm hrr => ?_, hr.keep⟩
          · have : (fun id => S0 id ∨ some id ∈ none :: rs) = (fun id => S0 id ∨ some id ∈ rs) := by funext id; simp
            rw [this]; exact hr.less
          · cases k <;> cases k' <;> simp at hk hk' ⊢
            exact hr.dis _ _ r hk hk'
          · cases k with
            | zero =>
              simp only [List.getElem?_cons_zero, Option.some.injEq] at hd hu hm hrr
              subst hd; subst hu; subst hm; subst hrr
              exact ⟨em, hp, hnt, hr.res.mv _ _ hvr rfl⟩
            | succ k => exact hr.item k d u' m r (by simpa using hd) (by simpa using hu) (by simpa using hm) (by simpa using hrr)
        -- a tree that becomes a root
        have hroot : ∀ (G1 : Gh) (Hg1 : Heap) (sz n : Nat) (b : Nat → Nat → D), LRes G Hg w noKill G1 Hg1 w → Less t.H Hg1 (fun id => S0 id ∨ id = E.length) → t.H.length = E.length + 1 → t.moved = true → t.v = .sl true sz n b →
            Hg1.getD E.length none = some (.arr sz n b) → inSl w (G1.μ E.length []) sz n 0 n u → (∀ id, S0 id → id < Hg.length → Hg1.getD id none = Hg.getD id none ∧ ∀ p, G1.μ id p = G.μ id p) →
            ∃ G' Hg' rs, TakeRes S0 G Hg E w (u :: us) (t.v :: vs2) E2 (t.moved :: ms2) G' Hg' rs := by
          intro G1 Hg1 sz n b hres hless hlen em ev hget hin hkeep
          obtain ⟨G', Hg', rs, hr⟩ := takeAll_ok P ac xs hres.heap hless (fun id h => by rcases h with h | h; have := hS id h; omega; omega) hl' (fun k y z hy hz => hres.mv _ _ (hxs k y z hy hz) rfl) h2 hok2
          have hnotin : ¬ some E.length ∈ rs := fun h => by have := (hr.lo _ h).1; omega
          have hl1 : E.length < Hg1.length := by rw [← hless.len, hlen]; omega
          refine ⟨G', Hg', some E.length :: rs, (hres.trans hr.res).weaken (fun _ _ => rfl), ?_, by simp [hr.lv], by simp [hr.lm], by simp [hr.lr], fun r h => ?_, fun k k' r hk hk' => ?_, fun k d u' m r hd hu hm hrr => ?_, fun id h1 h2 => ?_⟩
          · have : (fun id => S0 id ∨ some id ∈ some E.length :: rs) = (fun id => (S0 id ∨ id = E.length) ∨ some id ∈ rs) := by
              funext id
              simp [or_assoc]
            rw [this]; exact hr.less
          · rcases List.mem_cons.1 h with h | h
            · injection h with h
              subst h
              refine ⟨Nat.le_refl _, ?_⟩
              have := hr.res.len
              rw [← hless.len, ← hr.less.len, hlen] at this
              omega
            · have := hr.lo r h
              omega
          · cases k with
            | zero =>
              cases k' with
              | zero => rfl
              | succ k' =>
                simp at hk hk'
                subst hk
                exact absurd (List.mem_of_getElem? hk') hnotin
            | succ k =>
              cases k' with
              | zero =>
                simp at hk hk'
                subst hk'
                exact absurd (List.mem_of_getElem? hk) hnotin
              | succ k' =>
                simp at hk hk'
                rw [hr.dis _ _ r hk hk']
          · cases k with
            | zero =>
              simp only [List.getElem?_cons_zero, Option.some.injEq] at hd hu hm hrr
              subst hd; subst hu; subst hm; subst hrr
              obtain ⟨k1, k2⟩ := hr.keep E.length (.inr rfl) hl1
              exact ⟨em, sz, n, b, ev, by rw [k1]; exact hget, by rw [k2]; exact hin⟩
            | succ k => exact hr.item k d u' m r (by simpa using hd) (by simpa using hu) (by simpa using hm) (by simpa using hrr)
          · obtain ⟨a1, a2⟩ := hkeep id h1 h2
            obtain ⟨b1, b2⟩ := hr.keep id (.inl h1) (Nat.lt_of_lt_of_le h2 hres.len)
            exact ⟨b1.trans a1, fun p => (b2 p).trans (a2 p)⟩
        cases x with
        | own id p tot off len =>
          simp only [take_] at h1
          cases hR : nodeR E id p with
          | none => rw [hR] at h1; cases h1
          | some R =>
            rw [hR] at h1
            simp only at h1
            injection h1 with h1
            subst h1
            obtain ⟨hp, hn, hle, harr⟩ := hok1
            subst hn
            obtain ⟨hN, hS0⟩ := hE.node.1 ⟨hR, hp⟩
            have hlt : id < E.length := by rw [hE.len]; exact hN.lt
            obtain ⟨hres, hown⟩ := unhook (off := off) (len := len) hh hN (fun cs hcs => by
              rintro rfl
              unfold arrAt at harr
              rw [hE.same id hS0, hcs] at harr
              exact harr) hle
            have hdl : (E.drop_ id p).length = Hg.length := by rw [drop_length, hE.len]
            have hown' := (hown u hx).2 ⟨R.sz, len, subAt off len R.at_⟩ (node_sub.2 ⟨.arr R.sz len (subAt off len R.at_), by rw [getD_app2 (by rw [drop_length]; exact Nat.le_refl _), drop_length]; simp, Sub.nil.2 rfl⟩) rfl
            refine hroot _ _ R.sz len (subAt off len R.at_) hres ?_ (by simp [drop_length]) rfl rfl ?_ ?_ ?_
            · have := (hE.drop (p := p) hlt hS0).push (fun id h => by rw [drop_length]; exact hS id h) (.arr R.sz len (subAt off len R.at_))
              rw [drop_length] at this
              exact this
            · rw [hE.len, getD_app2 (by rw [drop_length]; exact Nat.le_refl _), drop_length]; simp
            · rw [hE.len]; exact hown'
            · intro id' h1 h2
              have hne : id' ≠ id := fun e => hS0 (e ▸ h1)
              refine ⟨by rw [getD_app (by rw [drop_length]; exact h2), drop_other hne hN.lt], fun p' => ?_⟩
              exact if_neg (by omega)
        | e0 sz =>
          simp only [take_] at h1
          injection h1 with h1
          subst h1
          obtain ⟨A, rfl⟩ := hx
          obtain ⟨G1, hres, hμ, hin⟩ := emptyRoot P ac sz hh
          refine hroot G1 _ sz 0 (fun _ _ => .dead) hres (hE.push hS _) (by simp) rfl rfl ?_ (by rw [hE.len]; exact hin A) (fun id h1 h2 => ⟨getD_app h2, fun p => hμ id p h2⟩)
          rw [hE.len, getD_app2 (Nat.le_refl _)]; simp
        | sl o sz n a =>
          simp only [take_] at h1
          injection h1 with h1
          subst h1
          have ho : o = false := hx.1
          subst ho
          exact hstay rfl rfl rfl (fun _ _ _ h => by cases h) hx
        | int k n => simp only [take_] at h1; injection h1 with h1; subst h1; exact hstay rfl rfl rfl (fun _ _ _ h => by cases h) hx
        | bool b => simp only [take_] at h1; injection h1 with h1; subst h1; exact hstay rfl rfl rfl (fun _ _ _ h => by cases h) hx
        | str s => simp only [take_] at h1; injection h1 with h1; subst h1; exact hstay rfl rfl rfl (fun _ _ _ h => by cases h) hx
        | nilp => simp only [take_] at h1; injection h1 with h1; subst h1; exact hstay rfl rfl rfl (fun _ _ _ h => by cases h) hx
        | dead => simp only [take_] at h1; injection h1 with h1; subst h1; exact hstay rfl rfl rfl (fun _ _ _ h => by cases h) hx
        | ptr a b c d e => cases h1
        | rp a b c => cases h1
        | fn a b => cases h1
        | rfn a b c d => cases h1
end
end Go.R
