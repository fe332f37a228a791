/- Code: what 'ev' tells, the machine does. -/
import Derived.Test.YtgpicngmadkdoaaDoorRSeq
set_option linter.unusedVariables false
set_option linter.unusedSimpArgs false
namespace Go.R
open Go.RowKit

/-- Two views of one state. -/
def Shift (s s2 : St) : Prop := ∀ (G0 : Gh) (w0 : World) (n : Nat) (ups : List (Array Value)) (a : Act) (w : World), Rel G0 w0 n ups s a w → Rel G0 w0 n ups s2 a w
theorem Shift.refl (s : St) : Shift s s := fun _ _ _ _ _ _ h => h
theorem Shift.trans {s s1 s2 : St} (h : Shift s s1) (k : Shift s1 s2) : Shift s s2 := fun _ _ _ _ _ _ x => k _ _ _ _ _ _ (h _ _ _ _ _ _ x)

/-- A region that draws its order, told by its operations in one order. -/
def DrawR (P : Program) (id : Nat) (ops : Array Oper) (mis : List MI) : Prop :=
  ∀ (G0 : Gh) (w0 : World) (n : Nat) (ups : List (Array Value)) (s : St) (a : Act) (w : World) (K : St → Prop) (Q : Exit → Act → World → Prop),
    Stands P G0 w0 → Rel G0 w0 n ups s a w → evOps (FnSem P) (InSem P) mis s K → (∀ s a w, Rel G0 w0 n ups s a w → K s → Q .normal a w) → (Code.region id ops true).wp P Q a w

/-- Such a region, told by a tree of orders. -/
def DrawM (P : Program) (id : Nat) (ops : Array Oper) (m : MC) : Prop :=
  ∀ (G0 : Gh) (w0 : World) (n : Nat) (ups : List (Array Value)) (s : St) (a : Act) (w : World) (K : St → Prop) (Kx : Nat → St → Prop) (Kr : St → Prop) (Q : Exit → Act → World → Prop),
    Stands P G0 w0 → Rel G0 w0 n ups s a w → ev (FnSem P) (InSem P) Shift m s K Kx Kr → (∀ s a w, Rel G0 w0 n ups s a w → K s → Q .normal a w) → (Code.region id ops true).wp P Q a w

def CodeOk (P : Program) : Code → MC → Prop
  | .skip, .skip => True
  | .region _ ops false, .reg mis => F2 (fun i mi => ∃ o, ops[i]? = some o ∧ MiOk P ops o mi) (List.range ops.size) mis
  | .region id ops true, .reg mis => DrawR P id ops mis
  | .region id ops true, .draw m => DrawM P id ops m
  | .seq a b, .seq a' b' => CodeOk P a a' ∧ CodeOk P b b'
  | .cond c a b, .cond c' a' b' => OpdOk c c' ∧ CodeOk P a a' ∧ CodeOk P b b'
  | .block id b, .block id' b' => id = id' ∧ CodeOk P b b'
  | .loop b, .loop b' => CodeOk P b b'
  | .exit id, .exit id' => id = id'
  | .ret, .ret => True
  | _, _ => False

section
variable {P : Program} {G0 : Gh} {w0 : World} {n : Nat} {ups : List (Array Value)}

theorem ev_ok (hst : Stands P G0 w0) : ∀ (mc : MC) (c : Code), CodeOk P c mc → ∀ (s : St) (a : Act) (w : World) (Kn : St → Prop) (Kx : Nat → St → Prop) (Kr : St → Prop) (Q : Exit → Act → World → Prop),
    Rel G0 w0 n ups s a w → ev (FnSem P) (InSem P) Shift mc s Kn Kx Kr → (∀ s a w, Rel G0 w0 n ups s a w → Kn s → Q .normal a w) →
    (∀ id s a w, Rel G0 w0 n ups s a w → Kx id s → Q (.exit id) a w) → (∀ s a w, Rel G0 w0 n ups s a w → Kr s → Q .ret a w) → c.wp P Q a w
  | .skip, c, hc, s, a, w, Kn, Kx, Kr, Q, hr, he, hn, hx, hret => by
    cases c <;> first | exact hc.elim | (rename_i d; cases d <;> exact hc.elim) | skip
    exact wp_skip (hn s a w hr he)
  | .reg mis, c, hc, s, a, w, Kn, Kx, Kr, Q, hr, he, hn, hx, hret => by
    cases c <;> first | exact hc.elim | skip
    rename_i id ops d
    cases d
    · exact wp_region (evOps_ok hst hn hc hr he)
    · exact hc G0 w0 n ups s a w _ Q hst hr he hn
  | .draw m, c, hc, s, a, w, Kn, Kx, Kr, Q, hr, he, hn, hx, hret => by
    cases c <;> first | exact hc.elim | skip
    rename_i id ops d
    cases d
    · exact hc.elim
    · exact hc G0 w0 n ups s a w Kn Kx Kr Q hst hr he hn
  | .alt x y, c, hc, s, a, w, Kn, Kx, Kr, Q, hr, he, hn, hx, hret => by
    cases c <;> first | exact hc.elim | (rename_i d; cases d <;> exact hc.elim)
  | .seq x y, c, hc, s, a, w, Kn, Kx, Kr, Q, hr, he, hn, hx, hret => by
    cases c <;> first | exact hc.elim | (rename_i d; cases d <;> exact hc.elim) | skip
    rename_i x' y'
    refine wp_seq (ev_ok hst x x' hc.1 s a w _ Kx Kr _ hr he (fun s a w h1 h2 => ?_) hx hret)
    exact ev_ok hst y y' hc.2 s a w Kn Kx Kr Q h1 h2 hn hx hret
  | .cond x y z, c, hc, s, a, w, Kn, Kx, Kr, Q, hr, he, hn, hx, hret => by
    cases c <;> first | exact hc.elim | (rename_i d; cases d <;> exact hc.elim) | skip
    rename_i x' y' z'
    obtain ⟨h1, h2, h3⟩ := hc
    unfold ev at he
    split at he
    · rename_i p hp
      obtain ⟨G, hh, ht, _⟩ := id hr
      have hv := get_ok h1 ht
      rw [hp] at hv
      exact wp_cond_split (t := p) hv.2 (fun e => ev_ok hst y y' h2 s a w Kn Kx Kr Q hr (he.1 e) hn hx hret) (fun e => ev_ok hst z z' h3 s a w Kn Kx Kr Q hr (he.2 e) hn hx hret)
    · exact he.elim
  | .block id b, c, hc, s, a, w, Kn, Kx, Kr, Q, hr, he, hn, hx, hret => by
    cases c <;> first | exact hc.elim | (rename_i d; cases d <;> exact hc.elim) | skip
    rename_i id' b'
    obtain ⟨rfl, hb⟩ := hc
    refine wp_block (ev_ok hst b b' hb s a w _ _ Kr _ hr he hn (fun j s a w h1 h2 => ?_) hret)
    show if j = id' then Q .normal a w else Q (.exit j) a w
    by_cases e : j = id'
    · rw [if_pos e] at h2 ⊢
      exact hn s a w h1 h2
    · rw [if_neg e] at h2 ⊢
      exact hx j s a w h1 h2
  | .loop b, c, hc, s, a, w, Kn, Kx, Kr, Q, hr, he, hn, hx, hret => by
    cases c <;> first | exact hc.elim | (rename_i d; cases d <;> exact hc.elim) | skip
    rename_i b'
    unfold ev at he
    obtain ⟨I, ⟨s0, k0, hsh, hI⟩, hround⟩ := he
    let J : Act → World → Nat → Prop := fun a w k => ∃ s, Rel G0 w0 n ups s a w ∧ I k s
    have hleast : ∀ a w, (∃ k, J a w k) → ∃ k, J a w k ∧ ∀ k', J a w k' → k ≤ k' := by
      intro a w ⟨k, hk⟩
      induction k using Nat.strongRecOn with
      | _ k ih =>
        by_cases h : ∃ k', k' < k ∧ J a w k'
        · obtain ⟨k', h1, h2⟩ := h
          exact ih k' h1 h2
        · exact ⟨k, hk, fun k' hk' => by
            rcases Nat.lt_or_ge k' k with h1 | h1
            · exact absurd ⟨k', h1, hk'⟩ h
            · exact h1⟩
    have hm : ∃ μ : Act → World → Nat, ∀ a w, (∃ k, J a w k) → J a w (μ a w) ∧ ∀ k', J a w k' → μ a w ≤ k' := by
      have : ∀ x : Act × World, ∃ k, (∃ k, J x.1 x.2 k) → J x.1 x.2 k ∧ ∀ k', J x.1 x.2 k' → k ≤ k' := by
        intro ⟨a, w⟩
        by_cases h : ∃ k, J a w k
        · obtain ⟨k, hk⟩ := hleast a w h
          exact ⟨k, fun _ => hk⟩
        · exact ⟨0, fun h2 => absurd h2 h⟩
      obtain ⟨μ, hμ⟩ := Classical.axiomOfChoice this
      exact ⟨fun a w => μ (a, w), fun a w => hμ (a, w)⟩
    obtain ⟨μ, hμ⟩ := hm
    refine wp_loop (fun a w => ∃ k, J a w k) μ ⟨k0, s0, hsh _ _ _ _ _ _ hr, hI⟩ fun a w hJ => ?_
    obtain ⟨⟨s1, hr1, hI1⟩, hmin⟩ := hμ a w hJ
    refine ev_ok hst b b' hc s1 a w _ Kx Kr _ hr1 (hround _ s1 hI1) (fun s' a' w' h1 h2 => ?_) hx hret
    obtain ⟨s2, k', hsh2, hlt, hI2⟩ := h2
    have hj : J a' w' k' := ⟨s2, hsh2 _ _ _ _ _ _ h1, hI2⟩
    exact ⟨⟨k', hj⟩, Nat.lt_of_le_of_lt ((hμ a' w' ⟨k', hj⟩).2 k' hj) hlt⟩
  | .exit id, c, hc, s, a, w, Kn, Kx, Kr, Q, hr, he, hn, hx, hret => by
    cases c <;> first | exact hc.elim | (rename_i d; cases d <;> exact hc.elim) | skip
    rename_i id'
    have e : id' = id := hc
    subst e
    exact wp_exit (hx id' s a w hr he)
  | .ret, c, hc, s, a, w, Kn, Kx, Kr, Q, hr, he, hn, hx, hret => by
    cases c <;> first | exact hc.elim | (rename_i d; cases d <;> exact hc.elim) | skip
    exact wp_ret (hret s a w hr he)
end
end Go.R
