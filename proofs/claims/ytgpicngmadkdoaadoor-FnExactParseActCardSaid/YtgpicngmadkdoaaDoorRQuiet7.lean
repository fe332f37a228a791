/- The operations that change no memory: make. -/
import Derived.Test.YtgpicngmadkdoaaDoorRQuiet6
set_option linter.unusedVariables false
set_option linter.unusedSimpArgs false
namespace Go.R
open Go.RowKit

section
variable {P : Program} {G : Gh} {H : Heap} {w : World} {ts : List T} {a : Act} {x x2 : Operand} {y y2 : Opd}

theorem asInt_int (k : IntKind) (n : Int) : (asInt (.int k n)).run P w = .ok n w := by simp [asInt, asIntOf]

theorem gives_make {o : Oper} {t e : TypeId} {i : TypeInfo} {sz : Nat} {z : List D} {zv : Value} {K : Heap → T → Prop} (Fn : FnT)
    (hh : HeapOk G H w) (ht : Temps G H w ts a.tmps) (ho : o.op = .makeSlice t x x2) (hx : OpdOk x y) (hx2 : OpdOk x2 y2)
    (hu : P.underlying t = some (.slice e)) (hi : P.info? e = some i) (hsz : ∀ w, (sizeOf e).run P w = .ok sz w) (hsz0 : 0 < sz)
    (hz : ∀ w, (zeroValue e).run P w = .ok zv w) (hzc : CellsRel zeroD z zv.cells) (hzl : z.length = sz)
    (hk : quiet Fn ts H (.make sz i.bytes z y y2) K) : Gives P G H w a o K := by
  have hv := get_ok hx ht
  have hv2 := get_ok hx2 ht
  simp only [quiet] at hk
  split at hk
  · rename_i k1 n k2 m e1 e2
    rw [e1] at hv
    rw [e2] at hv2
    obtain ⟨h0, rfl, hbig, hby, hk⟩ := hk
    have ev : a.eval x = .int k1 n := hv.2
    have ev2 : a.eval x2 = .int k2 n := hv2.2
    obtain ⟨N, rfl⟩ : ∃ N : Nat, n = N := ⟨n.toNat, by omega⟩
    have hN : N ≤ 1000000000000 := by
      have : (N : Int) ≤ ((1000000000000 : Nat) : Int) := hbig
      omega
    have hw : IntKind.i64.wrap (N : Int) = N := by
      rw [IntKind.wrap_i64]; omega
    have hzs : zv.cells.size = sz := by rw [hzc.1, hzl]
    let zc : Array Value := (Array.range (N * sz)).map (zv.cells[· % zv.cells.size]!)
    have hprod : i.bytes * N ≤ 140 * 1000000000000 := Nat.mul_le_mul hby hN
    have hrun : (Instr.makeSlice t (.int k1 N) (.int k2 N)).run P w = .ok (.slice (some ⟨w.heap.size, 0, none⟩) N N) (w.alloc (.cells zc e)) := by
      have ht2 : (typeInfo e).run P w = .ok i w := by simp [typeInfo, hi]
      have hlarge : ¬ ((i.bytes : Int) * (N : Int) > 2 ^ 48) := by
        have : (i.bytes : Int) * (N : Int) = ((i.bytes * N : Nat) : Int) := by simp
        rw [this]
        omega
      have hneg : ¬ ((N : Int) < 0) := by omega
      have hlarge2 : ¬ (281474976710656 < (i.bytes : Int) * (N : Int)) := hlarge
      by_cases hN0 : N * sz = 0
      · simp only [Instr.makeSlice, Sem.run_bind, run_underlying hu, Result.andThen_ok, asInt_int, ht2, hw]
        simp [hlarge, hlarge2, hneg, hN0, hsz, newRow, zc]
        congr 2
        apply Array.ext' ; simp [Array.toList_range]
      · simp only [Instr.makeSlice, Sem.run_bind, run_underlying hu, Result.andThen_ok, asInt_int, ht2, hw]
        have hd := not_or.1 (fun h => hN0 (Nat.mul_eq_zero.2 h))
        simp [hlarge, hlarge2, hneg, hsz, hz, hd.1, hd.2, newRow, zc]
        exact fun h => absurd h hN0
    refine ⟨.slice (some ⟨w.heap.size, 0, none⟩) N N, w.alloc (.cells zc e), _, _, _, ?_, QRes.alloc hh _ zc e ?_ ?_ ?_ ?_, hk⟩
    · simp [execOp, ho, ev, ev2, hrun]
    · simp [Obj.rows, zc]
    · intro i f hi hf
      simp only [Obj.rows] at hi hf ⊢
      have hlt : i * sz + f < N * sz := by
        have : i * sz + sz ≤ N * sz := by rw [← Nat.succ_mul]; exact Nat.mul_le_mul_right _ (by omega)
        omega
      refine ⟨zc[i * sz + f]'(by simpa [zc] using hlt), Array.getElem?_eq_getElem _, ?_⟩
      have hm : (i * sz + f) % sz = f := by
        rw [Nat.mul_comm, Nat.mul_add_mod]; exact Nat.mod_eq_of_lt hf
      have hg : zc[i * sz + f]'(by simpa [zc] using hlt) = zv.cells[f]'(by omega) := by
        simp only [zc, Array.getElem_map, Array.getElem_range, hzs]
        rw [getElem!_pos zv.cells _ (by rw [hm]; omega)]
        congr 1
      rw [hg]
      have hzf : z[f]? = some z[f] := List.getElem?_eq_getElem (by omega)
      rw [if_pos hi, List.getD_eq_getElem?_getD, hzf]
      exact (hzc.2 f _ _ hzf (Array.getElem?_eq_getElem (by omega))).z
    · intro _ i f hi hf
      simp only [Obj.rows] at hi hf ⊢
      have hzf : z[f]? = some z[f] := List.getElem?_eq_getElem (by omega)
      rw [if_pos hi, List.getD_eq_getElem?_getD, hzf]
      exact (hzc.2 f _ _ hzf (Array.getElem?_eq_getElem (by omega))).plain
    · refine ⟨rfl, by simp, fun R hR hn => ?_⟩
      have hμ : (G.plus H.length w.heap.size).μ H.length [] = some (w.heap.size, 0) := by
        show (if H.length = H.length then _ else _) = _
        simp
      have hRs : R = ⟨sz, ((N : Int)).toNat, fun i f => if i < ((N : Int)).toNat then z.getD f .dead else .dead⟩ := by
        have h1 := hR.1
        unfold nodeR at h1
        rw [getD_app2 (Nat.le_refl _)] at h1
        simp only [Nat.sub_self, List.getD_cons_zero, nodeIn, Obj.rows] at h1
        injection h1 with h1
        exact h1.symm
      rw [hμ, hRs]
      refine ⟨some ⟨w.heap.size, 0, none⟩, N, by simp, by simp, by simp, ⟨zc, e, ?_, by simp [zc]⟩, .inr (by simp)⟩
      show (w.heap.push _)[w.heap.size]? = _
      simp
  · exact hk.elim
end
end Go.R
