/- The operations that change what is there: a slice that is built of what moves. -/
import Derived.Test.YtgpicngmadkdoaaDoorRLoud
set_option linter.unusedVariables false
set_option linter.unusedSimpArgs false
namespace Go.R
open Go.RowKit

section
variable {P : Program} {G G1 G2 : Gh} {H H1 H2 N E : Heap} {w w1 w2 : World} {q q2 : D → Bool} {s : St} {a : Act} {x x2 : Operand} {y y2 : Opd}

theorem list_ext_getD {A B : Heap} (hl : A.length = B.length) (h : ∀ id, A.getD id none = B.getD id none) : A = B := by
  apply List.ext_getElem hl
  intro i h1 h2
  have := h i
  rw [List.getD_eq_getElem?_getD, List.getD_eq_getElem?_getD, List.getElem?_eq_getElem h1, List.getElem?_eq_getElem h2] at this
  exact this
theorem kill_same {rs : Nat → Prop} (hh : HeapOk G H w) (hE : Less E H rs) (hqs : ∀ o sz n b, q (.sl o sz n b) = false) (hq : ∀ d v, VR G H w d v → q d = false) : E.kill q = E := by
  apply list_ext_getD (kill_length _ _)
  intro id
  rw [kill_getD]
  cases ho : E.getD id none with
  | none => rfl
  | some o =>
    cases o with
    | arr sz n a => rfl
    | box cs =>
      have hr : ¬ rs id := fun h => by rw [hE.none_ id h] at ho; cases ho
      have hN : Node H id [] (Obj.box cs).rows := node_sub.2 ⟨.box cs, by rw [← hE.same id hr]; exact ho, Sub.nil.2 rfl⟩
      show some (Obj.box (cs.map (D.kill q))) = some (Obj.box cs)
      congr 2
      have hno := hh.node hN
      unfold NodeOk at hno
      have : ∀ d ∈ cs, D.kill q d = d := by
        intro d hd
        obtain ⟨f, hf⟩ := List.getElem?_of_mem hd
        have hfl : f < cs.length := (List.getElem?_eq_some_iff.1 hf).1
        cases hm : G.μ id [] with
        | none => rw [hm] at hno; exact absurd hno (by simp [Obj.rows])
        | some bo =>
          rw [hm] at hno
          obtain ⟨c, t, _, _, hcell⟩ := hno
          obtain ⟨u, _, hc⟩ := hcell 0 f (by simp [Obj.rows]) hfl
          have hd2 : (Obj.box cs).rows.at_ 0 f = d := by simp [Obj.rows, List.getD_eq_getElem?_getD, hf]
          rw [hd2] at hc
          have hc2 := hc.2
          unfold D.kill
          cases d with
          | sl o sz n b =>
            cases o
            · rw [hq _ _ hc2]; rfl
            · simp [hqs]
          | _ => rw [hq _ _ hc2]; rfl
      rw [List.map_congr_left this]; simp

theorem storeKill_new {id : Nat} {p : Path} {f : Nat} {ms : List Bool} {d : D} {v : Value} (hl : H.length ≤ id) (h : VR G H w d v) : storeKill id p f ms d = false := by
  have ht : ∀ k, d.thru id p k = false := by
    intro k
    cases d with
    | own j r t o l =>
      have : j < H.length := h.1
      simp [D.thru]
      intro e; omega
    | ptr j r t o l =>
      have : j < H.length := h.1
      simp [D.thru]
      intro e; omega
    | _ => rfl
  unfold storeKill
  rw [List.any_eq_false]
  intro x _
  simp [ht]

theorem fill_one {sz : Nat} {zc us : Array Value} (hz : zc.size = sz) (hu : us.size = sz) (v : Value) (hv : v.cells = us) :
    Instr.fill (fun i => some (i * sz, sz)) zc [(0, v)] = some us := by
  have hf := fold_set 0 us.toList 0 zc (by simp; omega)
  have harr : v.cells.zipIdx.foldl (fun cs x => cs.setIfInBounds (0 * sz + x.2) x.1) zc = (us.toList.zipIdx 0).foldl (fun cs x => cs.setIfInBounds (0 + x.2) x.1) zc := by
    rw [← Array.foldl_toList, hv]
    simp
  have he : (us.toList.zipIdx 0).foldl (fun cs x => cs.setIfInBounds (0 + x.2) x.1) zc = us := by
    apply Array.ext_getElem?
    intro k
    rw [hf.2 k]
    simp only [Nat.add_zero, Nat.zero_le, Nat.zero_add, true_and, Array.length_toList]
    by_cases hk : k < us.size
    · rw [if_pos hk, Array.getElem?_toList, Nat.sub_zero]
    · have e1 : zc[k]? = none := Array.getElem?_eq_none (by omega)
      have e2 : us[k]? = none := Array.getElem?_eq_none (by omega)
      rw [if_neg hk, e1, e2]
  unfold Instr.fill
  simp only
  rw [if_neg (by simp [hv, hu, hz]), harr, he]
  rfl

theorem gives_mkSlMv {o : Oper} {t e : TypeId} {sz : Nat} {zv : Value} {z : List D} {K : St → T → Prop} (In : InT) (hh : HeapOk G s.H w) (ht : Temps G s.H w s.ts a.tmps)
    (ho : o.op = .buildSlice t 1 #[(0, x)]) (hx : OpdOk x y) (hu : P.underlying t = some (.slice e)) (hsz : ∀ w, (sizeOf e).run P w = .ok sz w) (hsz0 : 0 < sz) (hfit : sz ≤ 2 ^ 24)
    (hz : ∀ w, (zeroValue e).run P w = .ok zv w) (hk : loud In s (.mkSl true sz z 1 [(0, y)]) K) : LGives P G s w a o K := by
  have hv := get_ok hx ht
  simp only [loud] at hk
  split at hk
  · rename_i vs E ms ok etake
    obtain ⟨hok, _, hkn, hlen, hk⟩ := hk
    have hcells := cells_ok hv hkn
    obtain ⟨G', Hg, rs, hr⟩ := takeAll_ok P a (y.get s.ts).cells (us := (a.eval x).cells.toList) hh (Less.refl s.H) (fun _ h => h.elim) hcells.1 (fun k z u hz hu => (hcells.2 k z u hz hu).2) etake hok
    have hul : (a.eval x).cells.toList.length = vs.length := hr.lv.symm
    have hus : (a.eval x).cells.size = sz := by rw [← Array.length_toList, hul, hlen]
    have hless : Less E Hg (fun id => some id ∈ rs) := by simpa using hr.less
    have hEl : E.length = Hg.length := hless.len
    -- the machine
    have hrun : (execOp a.eval o).run P w = .ok (.value (.slice (some ⟨w.heap.size, 0, none⟩) 1 1)) (w.alloc (.cells (a.eval x).cells e)) := by
      have h24 : ¬ 1 * sz > 2 ^ 24 := by omega
      have h0 : ¬ 1 * sz = 0 := by omega
      have hfill : Instr.fill (fun i => some (i * sz, sz)) ((Array.range (1 * sz)).map (zv.cells[· % zv.cells.size]!)) [(0, a.eval x)] = some (a.eval x).cells := fill_one (by simp) hus _ rfl
      simp only [execOp, ho, Instr.buildSlice, Sem.run_bind, run_underlying hu, Result.andThen_ok, hsz, Sem.run_ite, if_neg h24, if_neg h0, Sem.run_pure, hz]
      rw [Nat.one_mul] at hfill
      simp [hfill, newRow]
    -- a row of dead cells, then the trees
    have hone : ∀ f, f < sz → ∃ u, (a.eval x).cells[f]? = some u ∧ u.oneCell' = true := by
      intro f hf
      have h1 : (a.eval x).cells.toList[f]? = some ((a.eval x).cells.toList[f]'(by rw [hul]; omega)) := List.getElem?_eq_getElem _
      have h2 : (y.get s.ts).cells[f]? = some ((y.get s.ts).cells[f]'(by rw [← hcells.1, hul]; omega)) := List.getElem?_eq_getElem _
      exact ⟨_, by rw [← Array.getElem?_toList]; exact h1, (hcells.2 f _ _ h2 h1).1⟩
    have hal : QRes G' Hg w [some (.arr sz 1 fun _ _ => .dead)] (.d .dead) (.slice (some ⟨w.heap.size, 0, none⟩) 1 1) (G'.plus Hg.length w.heap.size) (w.alloc (.cells (a.eval x).cells e)) := by
      refine QRes.alloc hr.res.heap (.arr sz 1 fun _ _ => .dead) (a.eval x).cells e (by simp [Obj.rows, hus]) (fun i f hi hf => ?_) (fun _ i f _ _ => rfl) trivial
      simp only [Obj.rows] at hi hf
      obtain ⟨u, h1, h2⟩ := hone f hf
      have hi0 : i = 0 := by omega
      subst hi0
      exact ⟨u, by rw [Nat.zero_mul, Nat.zero_add]; exact h1, h2, trivial⟩
    have hL := LRes.of_q hr.res.heap hal
    have hnew : (Hg ++ [some (Obj.arr sz 1 fun _ _ => .dead)]).getD Hg.length none = some (.arr sz 1 fun _ _ => .dead) := by
      rw [getD_app2 (Nat.le_refl _)]; simp
    have hN : Node (Hg ++ [some (.arr sz 1 fun _ _ => .dead)]) Hg.length [] ⟨sz, 1, fun _ _ => .dead⟩ := node_sub.2 ⟨_, hnew, Sub.nil.2 rfl⟩
    have hrlt : ∀ r, some r ∈ rs → r < Hg.length := fun r h => by rw [← hEl]; exact (hr.lo r h).2
    have hless2 : Less (E ++ [some (.arr sz 1 fun _ _ => .dead)]) (Hg ++ [some (.arr sz 1 fun _ _ => .dead)]) (fun id => some id ∈ rs) := by
      refine ⟨by simp [hEl], fun id h => ?_, fun id h => ?_⟩
      · rcases Nat.lt_or_ge id E.length with hl | hl
        · rw [getD_app hl, getD_app (by rw [← hEl]; exact hl)]
          exact hless.same id h
        · rw [getD_app2 hl, getD_app2 (by rw [← hEl]; exact hl), hEl]
      · rw [getD_app (by rw [hEl]; exact hrlt id h)]
        exact hless.none_ id h
    have hheap : (w.alloc (.cells (a.eval x).cells e)).heap[w.heap.size]? = some (.cells (a.eval x).cells e (0, 0)) := by
      show (w.heap.push _)[w.heap.size]? = _
      simp
    have hhook := hook (q := storeKill Hg.length [] 0 ms) (us := (a.eval x).cells.toList) (rs := rs) (E := E ++ [some (.arr sz 1 fun _ _ => .dead)]) (w1 := w.alloc (.cells (a.eval x).cells e)) (c := (a.eval x).cells) (c1 := (a.eval x).cells)
      (b := w.heap.size) (o := 0) (t := e) (vs := vs) (f := 0) (i := 0) hL.heap hless2 hN (Nat.lt_succ_self 0) (by simp [hlen]) hul (by rw [hr.lr, hul]) (fun k d u r hd hu hrk => by
            have hml : k < ms.length := by rw [hr.lm, hul]; exact (List.getElem?_eq_some_iff.1 hd).1
            have hit := hr.item k d u _ r hd hu (List.getElem?_eq_getElem hml) hrk
            have hkl : k < (y.get s.ts).cells.length := by rw [← hcells.1]; exact (List.getElem?_eq_some_iff.1 hu).1
            refine ⟨(hcells.2 k _ u (List.getElem?_eq_getElem hkl) hu).1, ?_⟩
            cases r with
            | none => exact ⟨hit.2.1, hit.2.2.1, hL.mv _ _ hit.2.2.2 rfl⟩
            | some r =>
              have hrl := hrlt r (List.mem_of_getElem? hrk)
              obtain ⟨sz', n', b', e1, e2, e3⟩ := hit.2
              refine ⟨by omega, sz', n', b', e1, by rw [getD_app hrl]; exact e2, ?_⟩
              have : (G'.plus Hg.length w.heap.size).μ r [] = G'.μ r [] := hal.μ r [] hrl
              rw [this]
              exact inSl.wx hL.wx e3) hr.dis (by show (if Hg.length = Hg.length then _ else _) = _; simp) hheap (Wx.refl _ _) hheap rfl (fun j => by
              simp only [Nat.zero_mul, Nat.add_zero, Nat.zero_le, Nat.zero_add, true_and, Nat.sub_zero]
              by_cases hj : j < vs.length
              · rw [if_pos hj]; simp
              · rw [if_neg hj]) storeKill_sl (fun d id' p' tot' hm e1 hex => by
                obtain ⟨k, r, r', e2, hrk⟩ := hex
                subst e1; subst e2
                refine storeKill_ment ?_ hm
                have hkl : k < vs.length := by rw [← hul, ← hr.lr]; exact (List.getElem?_eq_some_iff.1 hrk).1
                have hml : k < ms.length := by rw [hr.lm, hul]; exact hkl
                have hit := hr.item k _ _ _ _ (List.getElem?_eq_getElem hkl) (List.getElem?_eq_getElem (by rw [hul]; exact hkl)) (List.getElem?_eq_getElem hml) hrk
                rw [List.getElem?_eq_getElem hml, hit.1])
    have hkillE : (E ++ [some (Obj.arr sz 1 fun _ _ => .dead)]).kill (storeKill Hg.length [] 0 ms) = E ++ [some (.arr sz 1 fun _ _ => .dead)] := by
      have h1 := kill_same (q := storeKill Hg.length [] 0 ms) hr.res.heap hless storeKill_sl (fun d v h => storeKill_new (Nat.le_refl _) h)
      unfold Heap.kill at h1 ⊢
      rw [List.map_append, h1]
      rfl
    have hput : (E ++ [some (Obj.arr sz 1 fun _ _ => .dead)]).put Hg.length [] 0 0 vs = E ++ [some (.arr sz 1 (rowsD [vs]))] := by
      unfold Heap.put
      rw [← hEl, getD_app2 (Nat.le_refl _)]
      simp only [Nat.sub_self, List.getD_cons_zero, Obj.put, setIn]
      rw [List.set_append_right _ _ (Nat.le_refl _)]
      simp only [Nat.sub_self, List.set_cons_zero]
      congr 4
      funext i f
      rw [setAt_get]
      cases i with
      | zero =>
        simp only [Nat.zero_le, Nat.zero_add, true_and, Nat.sub_zero]
        by_cases hf : f < vs.length
        · rw [if_pos hf]; rfl
        · rw [if_neg hf]
          show _ = vs.getD f .dead
          rw [List.getD_eq_getElem?_getD, List.getElem?_eq_none (by omega)]; rfl
      | succ i =>
        rw [if_neg (by omega)]
        rfl
    rw [hkillE, hput] at hhook
    have hfin : LRes G s.H w noKill _ (E ++ [some (.arr sz 1 (rowsD [vs]))]) (w.alloc (.cells (a.eval x).cells e)) :=
      ⟨((hr.res.trans hL).trans hhook).wx, ((hr.res.trans hL).trans hhook).ok, ((hr.res.trans hL).trans hhook).okNew, ((hr.res.trans hL).trans hhook).fr, ((hr.res.trans hL).trans hhook).len, hhook.heap, fun d v h _ => by
        have h1 := hr.res.mv d v h rfl
        exact hhook.mv d v (hL.mv d v h1 rfl) (storeKill_new (Nat.le_refl _) h1)⟩
    refine ⟨_, _, _, noKill, _, .d (.own E.length [] 1 0 1), hrun, hfin, ⟨rfl, ?_⟩, by rw [map_kill_no, up_kill_no]; exact hk⟩
    refine hhook.mv (.own E.length [] 1 0 1) _ ⟨by simp [hEl], fun R hR hn => ?_⟩ ?_
    · rw [hEl] at hR
      have := Node.uniq hR hN
      subst this
      rw [hEl]
      have : (G'.plus Hg.length w.heap.size).μ Hg.length [] = some (w.heap.size, 0) := by show (if Hg.length = Hg.length then _ else _) = _; simp
      rw [this]
      exact ⟨_, 1, rfl, Nat.le_refl _, Nat.le_refl _, ⟨_, e, hheap, by simp [hus]⟩, .inr (by simp)⟩
    · unfold storeKill
      rw [List.any_eq_false]
      intro z _
      simp [D.thru, hEl, thruPath]
  · exact hk.elim
end
end Go.R
