/- The operations that change what is there: stores. -/
import Derived.Test.YtgpicngmadkdoaaDoorRTake
set_option linter.unusedVariables false
set_option linter.unusedSimpArgs false
namespace Go.R
open Go.RowKit

section
variable {P : Program} {G G1 G2 : Gh} {H H1 H2 N : Heap} {w w1 w2 : World} {q q2 : D → Bool} {s : St} {a : Act} {x x2 : Operand} {y y2 : Opd}

/-- What the machine does where 'loud' tells the state and t. -/
def LGives (P : Program) (G : Gh) (s : St) (w : World) (a : Act) (o : Oper) (K : St → T → Prop) : Prop :=
  ∃ nx w1 G1 q H1 t, (execOp a.eval o).run P w = .ok nx w1 ∧ LRes G s.H w q G1 H1 w1 ∧ (match nx with | .value v => TR G1 H1 w1 t v | .skip => o.dst = none | _ => False) ∧
    K ⟨s.ts.map (T.kill q), H1, s.up.map fun ts => ts.map (T.kill q)⟩ t

theorem map_kill_no (ts : List T) : ts.map (T.kill noKill) = ts := by
  rw [show T.kill noKill = id from funext T.kill_no]; simp
theorem up_kill_no (up : List (List T)) : (up.map fun ts => ts.map (T.kill noKill)) = up := by
  rw [show (fun ts : List T => ts.map (T.kill noKill)) = id from funext map_kill_no]; simp

theorem setRow_wx {b : Nat} {c c1 : Array Value} {t : TypeId} (hc : w.heap[b]? = some (.cells c t (0, 0))) (hs : c1.size = c.size) : Wx w (w.setRow b c1) (fun b' => b' = b) := by
  refine ⟨rfl, rfl, rfl, by simp [World.setRow], fun b' _ hb => setRow_other w b b' c1 hb, fun b' c' t' h => ?_⟩
  by_cases e : b' = b
  · subst e
    rw [hc] at h
    injection h with h
    injection h with h1 h2
    subst h1; subst h2
    exact ⟨c1, setRow_heap w b' c c1 t (0, 0) hc, hs⟩
  · exact ⟨c', by rw [setRow_other w b b' c1 e]; exact h, rfl⟩

theorem thruPath_app (p : Path) (i f : Nat) (r : Path) : thruPath p f (p ++ (i, f) :: r) = true := by
  induction p with
  | nil => simp [thruPath]
  | cons x p ih => obtain ⟨j, g⟩ := x; simp [thruPath, ih]

theorem seg_get (c : List Value) (o : Nat) (us : List Value) (j : Nat) (h : o + us.length ≤ c.length) :
    (c.take o ++ us ++ c.drop (o + us.length))[j]? = if o ≤ j ∧ j < o + us.length then us[j - o]? else c[j]? := by
  have h0 : min o c.length = o := by omega
  simp only [List.getElem?_append, List.length_append, List.length_take, h0, List.getElem?_drop, List.getElem?_take]
  by_cases h1 : j < o
  · rw [if_pos (by omega), if_pos h1, if_pos h1, if_neg (by omega)]
  · by_cases h2 : j < o + us.length
    · rw [if_pos h2, if_neg h1, if_pos (by omega)]
    · rw [if_neg h2, if_neg (by omega)]
      congr 1
      omega

def storeKill (id : Nat) (p : Path) (f : Nat) (ms : List Bool) : D → Bool := fun d => ms.zipIdx.any fun m => m.1 && d.thru id p (f + m.2)
theorem storeKill_sl {id : Nat} {p : Path} {f : Nat} {ms : List Bool} (o : Bool) (sz n : Nat) (b : Nat → Nat → D) : storeKill id p f ms (.sl o sz n b) = false := by
  simp [storeKill, D.thru]
theorem storeKill_ment {id : Nat} {p : Path} {i f k : Nat} {ms : List Bool} {d : D} {r' : Path} {tot : Nat} (hm : ms[k]? = some true) (h : d.Ment id (p ++ (i, f + k) :: r') tot) : storeKill id p f ms d = true := by
  have ht : d.thru id p (f + k) = true := by
    cases d with
    | own j q t o l => obtain ⟨h1, h2, _⟩ := h; subst h1; subst h2; simp [D.thru, thruPath_app]
    | ptr j q t o l => obtain ⟨h1, h2, _⟩ := h; subst h1; subst h2; simp [D.thru, thruPath_app]
    | fn g caps => have := h.2.1; simp at this
    | _ => exact h.elim
  unfold storeKill
  rw [List.any_eq_true]
  exact ⟨(true, k), List.mem_zipIdx_iff_getElem?.2 hm, by simp [ht]⟩

theorem gives_store {o : Oper} {t : TypeId} {n : Nat} {K : St → T → Prop} (In : InT) (hh : HeapOk G s.H w) (ht : Temps G s.H w s.ts a.tmps) (ho : o.op = .store t x x2) (hd : o.dst = none) (hx : OpdOk x y) (hx2 : OpdOk x2 y2)
    (hsz : ∀ w, (sizeOf t).run P w = .ok n w) (hk : loud In s (.store n y y2) K) : LGives P G s w a o K := by
  have hv := get_ok hx ht
  have hv2 := get_ok hx2 ht
  simp only [loud] at hk
  split at hk
  · rename_i id p tot i f e1
    rw [e1] at hv
    split at hk
    · rename_i vs E ms ok etake
      split at hk
      · rename_i R hR
        obtain ⟨hok, hkn, hlen, hp, hn, hi, hf, hk⟩ := hk
        have hcells := cells_ok hv2 hkn
        obtain ⟨G', Hg, rs, hr⟩ := takeAll_ok P a (y2.get s.ts).cells (us := (a.eval x2).cells.toList) hh (Less.refl s.H) (fun _ h => h.elim) hcells.1 (fun k z u hz hu => (hcells.2 k z u hz hu).2) etake hok
        have hptr := hr.res.mv _ _ hv.2 rfl
        obtain ⟨hN, hnrs⟩ := hr.less.node.1 ⟨hR, hp⟩
        obtain ⟨_, ad, ea, hptr⟩ := hptr
        subst hn
        obtain ⟨b, ob, hμ, e⟩ := hptr R hN rfl hi
        subst e
        have hno := hr.res.heap.node hN
        unfold NodeOk at hno
        rw [hμ] at hno
        obtain ⟨c, ct, hc, hcs, hcell⟩ := hno
        have hfit : ob + i * R.sz + f + vs.length ≤ c.size := by
          have : i * R.sz + R.sz ≤ R.n * R.sz := by rw [← Nat.succ_mul]; exact Nat.mul_le_mul_right _ hi
          omega
        have hul : (a.eval x2).cells.toList.length = vs.length := hr.lv.symm
        let c1 : Array Value := (c.toList.take (ob + i * R.sz + f) ++ (a.eval x2).cells.toList ++ c.toList.drop (ob + i * R.sz + f + (a.eval x2).cells.toList.length)).toArray
        have hc1s : c1.size = c.size := by
          simp only [c1, List.size_toArray, List.length_append, List.length_take, List.length_drop, Array.length_toList]
          rw [Array.length_toList] at hul
          omega
        have hone : ∀ v ∈ (a.eval x2).cells.toList, v.oneCell' = true := by
          intro v hvm
          obtain ⟨k, hk⟩ := List.getElem?_of_mem hvm
          have hkl : k < (y2.get s.ts).cells.length := by rw [← hcells.1]; exact (List.getElem?_eq_some_iff.1 hk).1
          exact (hcells.2 k _ v (List.getElem?_eq_getElem hkl) hk).1
        have hst := run_storeCells_at P b (ob + i * R.sz + f) ct (a.eval x2).cells.toList 0 c w hc (by rw [Nat.add_zero, hul]; exact hfit) hone
        rw [Nat.add_zero] at hst
        have hrun : (execOp a.eval o).run P w = .ok .skip (w.setRow b c1) := by
          have hsize : (a.eval x2).cells.size = n := by rw [← Array.length_toList, hul, hlen]
          simp only [execOp, ho, Instr.storeAt, ea, Instr.sureAddr, Sem.run_bind, Sem.run_pure, Result.andThen_ok, storeVar, hsz, hsize, ne_eq, not_true_eq_false, if_false, hst]
          rfl
        have hhook := hook (q := storeKill id p f ms) (us := (a.eval x2).cells.toList) (rs := rs) (E := E) (w1 := w.setRow b c1) (c1 := c1) (vs := vs) (f := f) (i := i) hr.res.heap
          (by have := hr.less; simpa using this) hN hi (by exact hf) hul (by rw [hr.lr, hul]) (fun k d u r hd hu hrk => by
            have hml : k < ms.length := by rw [hr.lm, hul]; exact (List.getElem?_eq_some_iff.1 hd).1
            have hit := hr.item k d u _ r hd hu (List.getElem?_eq_getElem hml) hrk
            have hkl : k < (y2.get s.ts).cells.length := by rw [← hcells.1]; exact (List.getElem?_eq_some_iff.1 hu).1
            refine ⟨(hcells.2 k _ u (List.getElem?_eq_getElem hkl) hu).1, ?_⟩
            cases r with
            | none => exact hit.2
            | some r => exact ⟨fun e => hnrs (.inr (e ▸ List.mem_of_getElem? hrk)), hit.2⟩) hr.dis hμ hc (setRow_wx hc hc1s) (setRow_heap w b c c1 ct (0, 0) hc) hc1s (fun j => by
              rw [← hul]
              have := seg_get c.toList (ob + i * R.sz + f) (a.eval x2).cells.toList j (by rw [hul, Array.length_toList]; exact hfit)
              simpa [c1] using this) storeKill_sl (fun d id' p' tot' hm e1 hex => by
                obtain ⟨k, r, r', e2, hrk⟩ := hex
                subst e1; subst e2
                refine storeKill_ment ?_ hm
                have hkl : k < vs.length := by rw [← hul, ← hr.lr]; exact (List.getElem?_eq_some_iff.1 hrk).1
                have hml : k < ms.length := by rw [hr.lm, hul]; exact hkl
                have hit := hr.item k _ _ _ _ (List.getElem?_eq_getElem hkl) (List.getElem?_eq_getElem (by rw [hul]; exact hkl)) (List.getElem?_eq_getElem hml) hrk
                rw [List.getElem?_eq_getElem hml, hit.1])
        refine ⟨.skip, _, _, storeKill id p f ms, _, .d .dead, hrun, (hr.res.trans hhook).weaken (fun d h => by simpa [noKill] using h), hd, hk⟩
      · exact hk.elim
    · exact hk.elim
  · exact hk.elim
end
end Go.R
