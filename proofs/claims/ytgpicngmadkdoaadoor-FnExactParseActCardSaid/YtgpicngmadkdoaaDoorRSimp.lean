/- Equations for the evaluation. (They are proved, but not by rfl alone: so that the kernel sees each step.) -/
import Derived.Test.YtgpicngmadkdoaaDoorRUse
set_option linter.unusedVariables false
set_option linter.unusedSimpArgs false
namespace Go.R
theorem Norm_eq (C : St → Prop) (u : Tag C) (s : St) : Norm C u s = C s := propext Iff.rfl
section
variable (Fn : FnT) (In : InT) (Sh : St → St → Prop) (s : St) (ts : List T) (H : Heap) (up : List (List T)) (r : List MI) (d : Option Nat) (op : MOp) (K Kn Kr : St → Prop) (Kx : Nat → St → Prop)
theorem o_nil : evOps Fn In [] s K = K s := propext Iff.rfl
theorem o_q (h : isQuiet op = true) : evOps Fn In (⟨d, none, op⟩ :: r) ⟨ts, H, up⟩ K = quiet Fn ts H op fun N x => Norm (fun s' => evOps Fn In r s' K) .mk ⟨putT ts d x, H ++ N, up⟩ := by
  show (match isQuiet op with | true => _ | false => _) = _
  rw [h]
theorem o_l (h : isQuiet op = false) : evOps Fn In (⟨d, none, op⟩ :: r) s K = loud In s op fun s' x => Norm (fun s' => evOps Fn In r s' K) .mk ⟨putT s'.ts d x, s'.H, s'.up⟩ := by
  show (match isQuiet op with | true => _ | false => _) = _
  rw [h]
/-- A guarded operation: whether it is done. -/
def guarded (C1 C2 : St → Prop) (u1 : Tag C1) (u2 : Tag C2) (ts : List T) (H : Heap) (up : List (List T)) (d : Option Nat) (g : Nat) (b : Bool) : T → Prop
  | .d (.bool c) => (c = b → C1 ⟨ts.set g (.d (.bool b)), H, up⟩) ∧ (c = !b → C2 ⟨putT (ts.set g (.d (.bool (!b)))) d (.d .dead), H, up⟩)
  | _ => False
theorem o_g (g : Nat) (b : Bool) : evOps Fn In (⟨d, some (g, b), op⟩ :: r) ⟨ts, H, up⟩ K = guarded (fun s' => evOps Fn In (⟨d, none, op⟩ :: r) s' K) (fun s' => evOps Fn In r s' K) .mk .mk ts H up d g b (ts.getD g (.d .dead)) := by
  simp only [evOps, guarded, Norm]
  split <;> rename_i h <;> simp only [h]
theorem g_b (C1 C2 : St → Prop) (u1 : Tag C1) (u2 : Tag C2) (g : Nat) (b c : Bool) : guarded C1 C2 u1 u2 ts H up d g b (.d (.bool c)) = ((c = b → Norm C1 .mk ⟨ts.set g (.d (.bool b)), H, up⟩) ∧ (c = !b → Norm C2 .mk ⟨putT (ts.set g (.d (.bool (!b)))) d (.d .dead), H, up⟩)) := propext Iff.rfl
theorem g_tt (C1 C2 : St → Prop) (u1 : Tag C1) (u2 : Tag C2) (g : Nat) : guarded C1 C2 u1 u2 ts H up d g true (.d (.bool true)) = Norm C1 .mk ⟨ts.set g (.d (.bool true)), H, up⟩ := by
  rw [g_b]; exact propext ⟨fun h => h.1 rfl, fun h => ⟨fun _ => h, fun h => by cases h⟩⟩
theorem g_ff (C1 C2 : St → Prop) (u1 : Tag C1) (u2 : Tag C2) (g : Nat) : guarded C1 C2 u1 u2 ts H up d g false (.d (.bool false)) = Norm C1 .mk ⟨ts.set g (.d (.bool false)), H, up⟩ := by
  rw [g_b]; exact propext ⟨fun h => h.1 rfl, fun h => ⟨fun _ => h, fun h => by cases h⟩⟩
theorem g_tf (C1 C2 : St → Prop) (u1 : Tag C1) (u2 : Tag C2) (g : Nat) : guarded C1 C2 u1 u2 ts H up d g false (.d (.bool true)) = Norm C2 .mk ⟨putT (ts.set g (.d (.bool true))) d (.d .dead), H, up⟩ := by
  rw [g_b]; exact propext ⟨fun h => h.2 rfl, fun h => ⟨fun h => (by cases h), fun _ => h⟩⟩
theorem g_ft (C1 C2 : St → Prop) (u1 : Tag C1) (u2 : Tag C2) (g : Nat) : guarded C1 C2 u1 u2 ts H up d g true (.d (.bool false)) = Norm C2 .mk ⟨putT (ts.set g (.d (.bool false))) d (.d .dead), H, up⟩ := by
  rw [g_b]; exact propext ⟨fun h => h.2 rfl, fun h => ⟨fun h => (by cases h), fun _ => h⟩⟩
theorem v_skip : ev Fn In Sh .skip s Kn Kx Kr = Kn s := propext Iff.rfl
theorem v_reg (ops : List MI) : ev Fn In Sh (.reg ops) s Kn Kx Kr = evOps Fn In ops s Kn := propext Iff.rfl
theorem v_draw (m : MC) : ev Fn In Sh (.draw m) s Kn Kx Kr = ev Fn In Sh m s Kn Kx Kr := propext Iff.rfl
theorem v_alt (a b : MC) : ev Fn In Sh (.alt a b) s Kn Kx Kr = (ev Fn In Sh a s Kn Kx Kr ∧ ev Fn In Sh b s Kn Kx Kr) := propext Iff.rfl
theorem v_seq (a b : MC) : ev Fn In Sh (.seq a b) s Kn Kx Kr = ev Fn In Sh a s (fun s' => ev Fn In Sh b s' Kn Kx Kr) Kx Kr := propext Iff.rfl
def condv (p q : Prop) (u1 : Tag p) (u2 : Tag q) : T → Prop
  | .d (.bool c) => (c = true → p) ∧ (c = false → q)
  | _ => False
theorem v_cond (c : Opd) (a b : MC) : ev Fn In Sh (.cond c a b) ⟨ts, H, up⟩ Kn Kx Kr = condv (ev Fn In Sh a ⟨ts, H, up⟩ Kn Kx Kr) (ev Fn In Sh b ⟨ts, H, up⟩ Kn Kx Kr) .mk .mk (c.get ts) := by
  simp only [ev]
  generalize c.get ts = t
  cases t with
  | d x => cases x <;> rfl
  | _ => rfl
theorem condv_b (p q : Prop) (u1 : Tag p) (u2 : Tag q) (c : Bool) : condv p q u1 u2 (.d (.bool c)) = ((c = true → p) ∧ (c = false → q)) := propext Iff.rfl
theorem condv_t (p q : Prop) (u1 : Tag p) (u2 : Tag q) : condv p q u1 u2 (.d (.bool true)) = p := by
  rw [condv_b]; exact propext ⟨fun h => h.1 rfl, fun h => ⟨fun _ => h, fun h => by cases h⟩⟩
theorem condv_f (p q : Prop) (u1 : Tag p) (u2 : Tag q) : condv p q u1 u2 (.d (.bool false)) = q := by
  rw [condv_b]; exact propext ⟨fun h => h.2 rfl, fun h => ⟨fun h => (by cases h), fun _ => h⟩⟩
theorem v_block (id : Nat) (c : MC) : ev Fn In Sh (.block id c) s Kn Kx Kr = ev Fn In Sh c s Kn (fun j s' => if j = id then Kn s' else Kx j s') Kr := propext Iff.rfl
theorem v_loop (c : MC) : ev Fn In Sh (.loop c) s Kn Kx Kr = ∃ I : Nat → St → Prop, (∃ s0 k, Sh s s0 ∧ I k s0) ∧ ∀ k s, I k s → ev Fn In Sh c s (fun s' => ∃ s2 k', Sh s' s2 ∧ k' < k ∧ I k' s2) Kx Kr := propext Iff.rfl
theorem v_exit (id : Nat) : ev Fn In Sh (.exit id) s Kn Kx Kr = Kx id s := propext Iff.rfl
theorem v_ret : ev Fn In Sh .ret s Kn Kx Kr = Kr s := propext Iff.rfl
theorem callQ_eq (g : Nat) (args : List T) (K : Heap → T → Prop) : callQ Fn H g args K = match params H args with
  | some (as, ok) => ok ∧ ∃ Post, Fn g as Post ∧ After (fun t N => (args.all T.closed = true ∨ (t.clean ∧ ∀ o, o ∈ N → Obj.clean o)) ∧ K N (t.back H.length)) .mk Post
  | none => False := propext Iff.rfl
theorem q_mv (x : Opd) (K : Heap → T → Prop) : quiet Fn ts H (.mv x) K = (K [] (x.get ts)) := propext Iff.rfl
theorem o_mv (x : Opd) : evOps Fn In (⟨d, none, .mv x⟩ :: r) ⟨ts, H, up⟩ K = quiet Fn ts H (.mv x) fun N x => Norm (fun s' => evOps Fn In r s' K) .mk ⟨putT ts d x, H ++ N, up⟩ := propext Iff.rfl
theorem q_nil_ (sz : Nat) (K : Heap → T → Prop) : quiet Fn ts H (.nil_ sz) K = (K [some (.arr sz 0 fun _ _ => .dead)] (.d (.own H.length [] 0 0 0))) := propext Iff.rfl
theorem o_nil_ (sz : Nat) : evOps Fn In (⟨d, none, .nil_ sz⟩ :: r) ⟨ts, H, up⟩ K = quiet Fn ts H (.nil_ sz) fun N x => Norm (fun s' => evOps Fn In r s' K) .mk ⟨putT ts d x, H ++ N, up⟩ := propext Iff.rfl
theorem q_pick (c : Opd) (a : Opd) (b : Opd) (K : Heap → T → Prop) : quiet Fn ts H (.pick c a b) K = (match c.get ts with
    | .d (.bool true) => K [] (a.get ts)
    | .d (.bool false) => K [] (b.get ts)
    | _ => False) := propext Iff.rfl
theorem o_pick (c : Opd) (a : Opd) (b : Opd) : evOps Fn In (⟨d, none, .pick c a b⟩ :: r) ⟨ts, H, up⟩ K = quiet Fn ts H (.pick c a b) fun N x => Norm (fun s' => evOps Fn In r s' K) .mk ⟨putT ts d x, H ++ N, up⟩ := propext Iff.rfl
theorem q_alloc (z : List D) (K : Heap → T → Prop) : quiet Fn ts H (.alloc z) K = (K [some (.box z)] (.d (.ptr H.length [] 1 0 0))) := propext Iff.rfl
theorem o_alloc (z : List D) : evOps Fn In (⟨d, none, .alloc z⟩ :: r) ⟨ts, H, up⟩ K = quiet Fn ts H (.alloc z) fun N x => Norm (fun s' => evOps Fn In r s' K) .mk ⟨putT ts d x, H ++ N, up⟩ := propext Iff.rfl
theorem q_box (x : Opd) (K : Heap → T → Prop) : quiet Fn ts H (.box x) K = ((x.get ts).known = true ∧ K [some (.box (x.get ts).cells)] (.d (.ptr H.length [] 1 0 0))) := propext Iff.rfl
theorem o_box (x : Opd) : evOps Fn In (⟨d, none, .box x⟩ :: r) ⟨ts, H, up⟩ K = quiet Fn ts H (.box x) fun N x => Norm (fun s' => evOps Fn In r s' K) .mk ⟨putT ts d x, H ++ N, up⟩ := propext Iff.rfl
theorem q_build (z : List D) (parts : List (Nat × Nat × Opd)) (K : Heap → T → Prop) : quiet Fn ts H (.build z parts) K = ((parts.all fun p => (p.2.2.get ts).known && (p.2.2.get ts).cells.length == p.2.1) = true ∧
    K [] (.agg (parts.foldl (fun cs p => setList cs p.1 (p.2.2.get ts).cells) z))) := propext Iff.rfl
theorem o_build (z : List D) (parts : List (Nat × Nat × Opd)) : evOps Fn In (⟨d, none, .build z parts⟩ :: r) ⟨ts, H, up⟩ K = quiet Fn ts H (.build z parts) fun N x => Norm (fun s' => evOps Fn In r s' K) .mk ⟨putT ts d x, H ++ N, up⟩ := propext Iff.rfl
theorem q_mkSl (sz : Nat) (z : List D) (len : Nat) (parts : List (Nat × Opd)) (K : Heap → T → Prop) : quiet Fn ts H (.mkSl false sz z len parts) K = ((parts.all fun p => decide (p.1 < len) && ((p.2.get ts).known && ((p.2.get ts).cells.length == sz && (p.2.get ts).cells.all D.still))) = true ∧
    K [some (.arr sz len (rowsD (chunk sz len (parts.foldl (fun cs p => setList cs (p.1 * sz) (p.2.get ts).cells) (List.replicate len z).flatten))))] (.d (.own H.length [] len 0 len))) := propext Iff.rfl
theorem o_mkSl (sz : Nat) (z : List D) (len : Nat) (parts : List (Nat × Opd)) : evOps Fn In (⟨d, none, .mkSl false sz z len parts⟩ :: r) ⟨ts, H, up⟩ K = quiet Fn ts H (.mkSl false sz z len parts) fun N x => Norm (fun s' => evOps Fn In r s' K) .mk ⟨putT ts d x, H ++ N, up⟩ := propext Iff.rfl
theorem q_load (n : Option Nat) (x : Opd) (K : Heap → T → Prop) : quiet Fn ts H (.load n x) K = (match x.get ts with
    | .d (.ptr id p tot i f) => match nodeR H id p with
      | some R => pathOk H id p ∧ R.n = tot ∧ i < tot ∧ f + n.getD 1 ≤ R.sz ∧ K [] (match n with
          | none => .d (loadCell id p i f (R.at_ i f))
          | some m => .agg ((List.range m).map fun j => loadCell id p i (f + j) (R.at_ i (f + j))))
      | none => False
    | .d (.rp sz row f) => f + n.getD 1 ≤ sz ∧ K [] (match n with | none => .d (row f) | some m => .agg ((List.range m).map fun j => row (f + j)))
    | _ => False) := propext Iff.rfl
theorem o_load (n : Option Nat) (x : Opd) : evOps Fn In (⟨d, none, .load n x⟩ :: r) ⟨ts, H, up⟩ K = quiet Fn ts H (.load n x) fun N x => Norm (fun s' => evOps Fn In r s' K) .mk ⟨putT ts d x, H ++ N, up⟩ := propext Iff.rfl
theorem q_bin (b : BinOp) (k : BK) (x : Opd) (y : Opd) (K : Heap → T → Prop) : quiet Fn ts H (.bin b k x y) K = (match k, x.get ts, y.get ts with
    | .int k, .d (.int k1 a), .d (.int k2 c) => match binInt b k a c with
      | some r => k1 = k ∧ k2 = k ∧ K [] (.d r)
      | none => match b with
        | .quo => k1 = k ∧ k2 = k ∧ c ≠ 0 ∧ K [] (.d (.int k (k.wrap (a.tdiv c))))
        | .rem => k1 = k ∧ k2 = k ∧ c ≠ 0 ∧ K [] (.d (.int k (a.tmod c)))
        | _ => False
    | .bool, .d (.bool a), .d (.bool c) => match b with
      | .eql => K [] (.d (.bool (a == c)))
      | .neq => K [] (.d (.bool (!(a == c))))
      | _ => False
    | .str, .d (.str a), .d (.str c) => match b with
      | .eql => K [] (.d (.bool (strEq a c)))
      | .neq => K [] (.d (.bool (!strEq a c)))
      | .add => a.size + c.size ≤ 9223372036854775807 ∧ K [] (.d (.str (a ++ c)))
      | _ => False
    | .agg ks, .agg xs, .agg ys => match eqDs ks xs ys with
      | some r => match b with
        | .eql => K [] (.d (.bool r))
        | .neq => K [] (.d (.bool (!r)))
        | _ => False
      | none => False
    | _, _, _ => False) := propext Iff.rfl
theorem o_bin (b : BinOp) (k : BK) (x : Opd) (y : Opd) : evOps Fn In (⟨d, none, .bin b k x y⟩ :: r) ⟨ts, H, up⟩ K = quiet Fn ts H (.bin b k x y) fun N x => Norm (fun s' => evOps Fn In r s' K) .mk ⟨putT ts d x, H ++ N, up⟩ := propext Iff.rfl
theorem q_shift (b : BinOp) (k : IntKind) (k2 : IntKind) (x : Opd) (y : Opd) (K : Heap → T → Prop) : quiet Fn ts H (.shift b k k2 x y) K = (match x.get ts, y.get ts with
    | .d (.int k1 a), .d (.int k3 c) => k1 = k ∧ k3 = k2 ∧ 0 ≤ c ∧ (match b with
      | .shl => K [] (.d (.int k (k.wrap (a * 2 ^ (min c.toNat k.bits)))))
      | .shr => K [] (.d (.int k (a.fdiv (2 ^ (min c.toNat k.bits)))))
      | _ => False)
    | _, _ => False) := propext Iff.rfl
theorem o_shift (b : BinOp) (k : IntKind) (k2 : IntKind) (x : Opd) (y : Opd) : evOps Fn In (⟨d, none, .shift b k k2 x y⟩ :: r) ⟨ts, H, up⟩ K = quiet Fn ts H (.shift b k k2 x y) fun N x => Norm (fun s' => evOps Fn In r s' K) .mk ⟨putT ts d x, H ++ N, up⟩ := propext Iff.rfl
theorem q_un (u : UnOp) (k : BK) (x : Opd) (K : Heap → T → Prop) : quiet Fn ts H (.un u k x) K = (match u, k, x.get ts with
    | .not, .bool, .d (.bool a) => K [] (.d (.bool (!a)))
    | .neg, .int k, .d (.int k1 a) => k1 = k ∧ K [] (.d (.int k (k.wrap (0 - a))))
    | _, _, _ => False) := propext Iff.rfl
theorem o_un (u : UnOp) (k : BK) (x : Opd) : evOps Fn In (⟨d, none, .un u k x⟩ :: r) ⟨ts, H, up⟩ K = quiet Fn ts H (.un u k x) fun N x => Norm (fun s' => evOps Fn In r s' K) .mk ⟨putT ts d x, H ++ N, up⟩ := propext Iff.rfl
theorem q_conv (c : CK) (x : Opd) (K : Heap → T → Prop) : quiet Fn ts H (.conv c x) K = (match c, x.get ts with
    | .int k, .d (.int _ a) => K [] (.d (.int k (k.wrap a)))
    | .str, .d (.str s) => K [] (.d (.str s))
    | .bytes, .d x => match view H x with
      | some v => v.ok ∧ v.sz = 1 ∧ (∀ i, i < v.n → (v.at_ i 0).isByte = true) ∧ K [] (.d (.str (bytesOfAt v.n v.at_)))
      | none => False
    | _, _ => False) := propext Iff.rfl
theorem o_conv (c : CK) (x : Opd) : evOps Fn In (⟨d, none, .conv c x⟩ :: r) ⟨ts, H, up⟩ K = quiet Fn ts H (.conv c x) fun N x => Norm (fun s' => evOps Fn In r s' K) .mk ⟨putT ts d x, H ++ N, up⟩ := propext Iff.rfl
theorem q_make (sz : Nat) (bytes : Nat) (z : List D) (x : Opd) (y : Opd) (K : Heap → T → Prop) : quiet Fn ts H (.make sz bytes z x y) K = (match x.get ts, y.get ts with
    | .d (.int _ n), .d (.int _ m) => 0 ≤ n ∧ n = m ∧ n ≤ big ∧ bytes ≤ 140 ∧ K [some (.arr sz n.toNat fun i f => if i < n.toNat then z.getD f .dead else .dead)] (.d (.own H.length [] n.toNat 0 n.toNat))
    | _, _ => False) := propext Iff.rfl
theorem o_make (sz : Nat) (bytes : Nat) (z : List D) (x : Opd) (y : Opd) : evOps Fn In (⟨d, none, .make sz bytes z x y⟩ :: r) ⟨ts, H, up⟩ K = quiet Fn ts H (.make sz bytes z x y) fun N x => Norm (fun s' => evOps Fn In r s' K) .mk ⟨putT ts d x, H ++ N, up⟩ := propext Iff.rfl
theorem q_slice (sz : Nat) (x : Opd) (lo : Option Opd) (hi : Option Opd) (mx : Option Opd) (K : Heap → T → Prop) : quiet Fn ts H (.slice sz x lo hi mx) K = ((optOk (lo.map (·.get ts)) && optOk (hi.map (·.get ts)) && mx.isNone) = true ∧ match x.get ts with
    | .d (.sl o sz2 n a) =>
      let l := optInt (lo.map (·.get ts)) 0
      let h := optInt (hi.map (·.get ts)) n
      o = false ∧ sz2 = sz ∧ 0 ≤ l ∧ l ≤ h ∧ h ≤ n ∧ K [] (.d (.sl false sz (h.toNat - l.toNat) (subAt l.toNat (h.toNat - l.toNat) a)))
    | .d (.own id p tot off n) =>
      let l := optInt (lo.map (·.get ts)) 0
      let h := optInt (hi.map (·.get ts)) n
      match nodeR H id p with
      | some R => pathOk H id p ∧ R.sz = sz ∧ R.n = tot ∧ 0 ≤ l ∧ l ≤ h ∧ h + off ≤ tot ∧ K [] (.d (.own id p tot (off + l.toNat) (h.toNat - l.toNat)))
      | none => False
    | .d (.e0 sz2) =>
      let l := optInt (lo.map (·.get ts)) 0
      let h := optInt (hi.map (·.get ts)) 0
      sz2 = sz ∧ l = 0 ∧ h = 0 ∧ K [] (.d (.e0 sz))
    | _ => False) := propext Iff.rfl
theorem o_slice (sz : Nat) (x : Opd) (lo : Option Opd) (hi : Option Opd) (mx : Option Opd) : evOps Fn In (⟨d, none, .slice sz x lo hi mx⟩ :: r) ⟨ts, H, up⟩ K = quiet Fn ts H (.slice sz x lo hi mx) fun N x => Norm (fun s' => evOps Fn In r s' K) .mk ⟨putT ts d x, H ++ N, up⟩ := propext Iff.rfl
theorem q_substr (x : Opd) (lo : Option Opd) (hi : Option Opd) (K : Heap → T → Prop) : quiet Fn ts H (.substr x lo hi) K = ((optOk (lo.map (·.get ts)) && optOk (hi.map (·.get ts))) = true ∧ match x.get ts with
    | .d (.str s) =>
      let l := optInt (lo.map (·.get ts)) 0
      let h := optInt (hi.map (·.get ts)) s.size
      0 ≤ l ∧ l ≤ h ∧ h ≤ s.size ∧ K [] (.d (.str (s.extract l.toNat h.toNat)))
    | _ => False) := propext Iff.rfl
theorem o_substr (x : Opd) (lo : Option Opd) (hi : Option Opd) : evOps Fn In (⟨d, none, .substr x lo hi⟩ :: r) ⟨ts, H, up⟩ K = quiet Fn ts H (.substr x lo hi) fun N x => Norm (fun s' => evOps Fn In r s' K) .mk ⟨putT ts d x, H ++ N, up⟩ := propext Iff.rfl
theorem q_fieldAddr (off : Nat) (x : Opd) (K : Heap → T → Prop) : quiet Fn ts H (.fieldAddr off x) K = (match x.get ts with
    | .d (.ptr id p tot i f) => K [] (.d (.ptr id p tot i (f + off)))
    | .d (.rp sz row f) => K [] (.d (.rp sz row (f + off)))
    | _ => False) := propext Iff.rfl
theorem o_fieldAddr (off : Nat) (x : Opd) : evOps Fn In (⟨d, none, .fieldAddr off x⟩ :: r) ⟨ts, H, up⟩ K = quiet Fn ts H (.fieldAddr off x) fun N x => Norm (fun s' => evOps Fn In r s' K) .mk ⟨putT ts d x, H ++ N, up⟩ := propext Iff.rfl
theorem q_field (off : Nat) (n : Option Nat) (x : Opd) (K : Heap → T → Prop) : quiet Fn ts H (.field off n x) K = (match x.get ts with
    | .agg cs => match n with
      | none => off < cs.length ∧ K [] (.d (cs.getD off .dead))
      | some m => off + m ≤ cs.length ∧ K [] (.agg ((cs.drop off).take m))
    | _ => False) := propext Iff.rfl
theorem o_field (off : Nat) (n : Option Nat) (x : Opd) : evOps Fn In (⟨d, none, .field off n x⟩ :: r) ⟨ts, H, up⟩ K = quiet Fn ts H (.field off n x) fun N x => Norm (fun s' => evOps Fn In r s' K) .mk ⟨putT ts d x, H ++ N, up⟩ := propext Iff.rfl
theorem q_indexAddr (sz : Nat) (x : Opd) (i : Opd) (K : Heap → T → Prop) : quiet Fn ts H (.indexAddr sz x i) K = (match x.get ts, i.get ts with
    | .d (.own id p tot off len), .d (.int _ z) => match nodeR H id p with
      | some R => pathOk H id p ∧ R.sz = sz ∧ R.n = tot ∧ 0 ≤ z ∧ z < len ∧ K [] (.d (.ptr id p tot (off + z.toNat) 0))
      | none => False
    | .d (.sl o sz2 n a), .d (.int _ z) => o = false ∧ sz2 = sz ∧ 0 ≤ z ∧ z < n ∧ K [] (.d (.rp sz (a z.toNat) 0))
    | _, _ => False) := propext Iff.rfl
theorem o_indexAddr (sz : Nat) (x : Opd) (i : Opd) : evOps Fn In (⟨d, none, .indexAddr sz x i⟩ :: r) ⟨ts, H, up⟩ K = quiet Fn ts H (.indexAddr sz x i) fun N x => Norm (fun s' => evOps Fn In r s' K) .mk ⟨putT ts d x, H ++ N, up⟩ := propext Iff.rfl
theorem q_strIdx (x : Opd) (i : Opd) (K : Heap → T → Prop) : quiet Fn ts H (.strIdx x i) K = (match x.get ts, i.get ts with
    | .d (.str s), .d (.int _ z) => 0 ≤ z ∧ z < s.size ∧ K [] (.d (.int .u8 (s.data.getD z.toNat 0).toNat))
    | _, _ => False) := propext Iff.rfl
theorem o_strIdx (x : Opd) (i : Opd) : evOps Fn In (⟨d, none, .strIdx x i⟩ :: r) ⟨ts, H, up⟩ K = quiet Fn ts H (.strIdx x i) fun N x => Norm (fun s' => evOps Fn In r s' K) .mk ⟨putT ts d x, H ++ N, up⟩ := propext Iff.rfl
theorem q_extract (i : Nat) (x : Opd) (K : Heap → T → Prop) : quiet Fn ts H (.extract i x) K = (match x.get ts with
    | .tup xs => i < xs.length ∧ K [] (xs.getD i (.d .dead))
    | _ => False) := propext Iff.rfl
theorem o_extract (i : Nat) (x : Opd) : evOps Fn In (⟨d, none, .extract i x⟩ :: r) ⟨ts, H, up⟩ K = quiet Fn ts H (.extract i x) fun N x => Norm (fun s' => evOps Fn In r s' K) .mk ⟨putT ts d x, H ++ N, up⟩ := propext Iff.rfl
theorem q_len (str : Bool) (x : Opd) (K : Heap → T → Prop) : quiet Fn ts H (.len str x) K = (match str, x.get ts with
    | false, .d (.sl _ _ n _) => K [] (.d (.int .i64 n))
    | false, .d (.e0 _) => K [] (.d (.int .i64 0))
    | false, .d (.own id p tot _ len) => match nodeR H id p with
      | some R => pathOk H id p ∧ R.n = tot ∧ K [] (.d (.int .i64 len))
      | none => False
    | true, .d (.str s) => K [] (.d (.int .i64 s.size))
    | _, _ => False) := propext Iff.rfl
theorem o_len (str : Bool) (x : Opd) : evOps Fn In (⟨d, none, .len str x⟩ :: r) ⟨ts, H, up⟩ K = quiet Fn ts H (.len str x) fun N x => Norm (fun s' => evOps Fn In r s' K) .mk ⟨putT ts d x, H ++ N, up⟩ := propext Iff.rfl
theorem q_minmax (mx : Bool) (x : Opd) (y : Opd) (K : Heap → T → Prop) : quiet Fn ts H (.minmax mx x y) K = (match x.get ts, y.get ts with
    | .d (.int k a), .d (.int k2 b) => k = k2 ∧ K [] (.d (.int k (if mx then max a b else min a b)))
    | _, _ => False) := propext Iff.rfl
theorem o_minmax (mx : Bool) (x : Opd) (y : Opd) : evOps Fn In (⟨d, none, .minmax mx x y⟩ :: r) ⟨ts, H, up⟩ K = quiet Fn ts H (.minmax mx x y) fun N x => Norm (fun s' => evOps Fn In r s' K) .mk ⟨putT ts d x, H ++ N, up⟩ := propext Iff.rfl
theorem q_nilCheck (x : Opd) (K : Heap → T → Prop) : quiet Fn ts H (.nilCheck x) K = (match x.get ts with
    | .d (.ptr _ _ _ _ _) => K [] (x.get ts)
    | .d (.rp _ _ _) => K [] (x.get ts)
    | _ => False) := propext Iff.rfl
theorem o_nilCheck (x : Opd) : evOps Fn In (⟨d, none, .nilCheck x⟩ :: r) ⟨ts, H, up⟩ K = quiet Fn ts H (.nilCheck x) fun N x => Norm (fun s' => evOps Fn In r s' K) .mk ⟨putT ts d x, H ++ N, up⟩ := propext Iff.rfl
theorem q_mkFn (g : Nat) (caps : List Opd) (K : Heap → T → Prop) : quiet Fn ts H (.mkFn g caps) K = (match capIds (caps.map (·.get ts)) with
    | some ids => K [] (.d (.fn g ids))
    | none => False) := propext Iff.rfl
theorem o_mkFn (g : Nat) (caps : List Opd) : evOps Fn In (⟨d, none, .mkFn g caps⟩ :: r) ⟨ts, H, up⟩ K = quiet Fn ts H (.mkFn g caps) fun N x => Norm (fun s' => evOps Fn In r s' K) .mk ⟨putT ts d x, H ++ N, up⟩ := propext Iff.rfl
theorem q_call (g : Nat) (args : List Opd) (K : Heap → T → Prop) : quiet Fn ts H (.call g args) K = (callQ Fn H g (args.map (·.get ts)) K) := propext Iff.rfl
theorem o_call (g : Nat) (args : List Opd) : evOps Fn In (⟨d, none, .call g args⟩ :: r) ⟨ts, H, up⟩ K = quiet Fn ts H (.call g args) fun N x => Norm (fun s' => evOps Fn In r s' K) .mk ⟨putT ts d x, H ++ N, up⟩ := propext Iff.rfl
theorem q_callF (f : Opd) (args : List Opd) (K : Heap → T → Prop) : quiet Fn ts H (.callF f args) K = (match f.get ts with
    | .d (.rfn g n szs rows) => callQ Fn H g (args.map (·.get ts) ++ rps n szs rows) K
    | .d (.fn g caps) => callQ Fn H g (args.map (·.get ts) ++ caps.map fun c => .d (.ptr c [] 1 0 0)) K
    | _ => False) := propext Iff.rfl
theorem o_callF (f : Opd) (args : List Opd) : evOps Fn In (⟨d, none, .callF f args⟩ :: r) ⟨ts, H, up⟩ K = quiet Fn ts H (.callF f args) fun N x => Norm (fun s' => evOps Fn In r s' K) .mk ⟨putT ts d x, H ++ N, up⟩ := propext Iff.rfl
theorem l_mkSl (sz : Nat) (z : List D) (len : Nat) (x : Opd) (K : St → T → Prop) : loud In ⟨ts, H, up⟩ (.mkSl true sz z len [(0, x)]) K = (match takeAll (x.get ts).cells H with
    | some (vs, H', _, ok) => ok ∧ len = 1 ∧ (x.get ts).known = true ∧ vs.length = sz ∧
        K ⟨ts, H' ++ [some (.arr sz 1 (rowsD [vs]))], up⟩ (.d (.own H'.length [] 1 0 1))
    | none => False) := propext Iff.rfl
theorem o_mkSlM (sz : Nat) (z : List D) (len : Nat) (x : Opd) : evOps Fn In (⟨d, none, .mkSl true sz z len [(0, x)]⟩ :: r) ⟨ts, H, up⟩ K = loud In ⟨ts, H, up⟩ (.mkSl true sz z len [(0, x)]) fun s' x => Norm (fun s' => evOps Fn In r s' K) .mk ⟨putT s'.ts d x, s'.H, s'.up⟩ := propext Iff.rfl
theorem l_store (n : Nat) (x : Opd) (v : Opd) (K : St → T → Prop) : loud In ⟨ts, H, up⟩ (.store n x v) K = (match x.get ts with
    | .d (.ptr id p tot i f) => match takeAll (v.get ts).cells H with
      | some (vs, H', ms, ok) => match nodeR H' id p with
        | some R => ok ∧ (v.get ts).known = true ∧ vs.length = n ∧ pathOk H' id p ∧ R.n = tot ∧ i < tot ∧ f + vs.length ≤ R.sz ∧
            let q : D → Bool := fun d => ms.zipIdx.any fun m => m.1 && d.thru id p (f + m.2)
            K ⟨ts.map (T.kill q), (H'.kill q).put id p i f vs, up.map fun ts => ts.map (T.kill q)⟩ (.d .dead)
        | none => False
      | none => False
    | _ => False) := propext Iff.rfl
theorem o_store (n : Nat) (x : Opd) (v : Opd) : evOps Fn In (⟨d, none, .store n x v⟩ :: r) ⟨ts, H, up⟩ K = loud In ⟨ts, H, up⟩ (.store n x v) fun s' x => Norm (fun s' => evOps Fn In r s' K) .mk ⟨putT s'.ts d x, s'.H, s'.up⟩ := propext Iff.rfl
theorem l_append (sz : Nat) (bytes : Nat) (mv : Bool) (x : Opd) (y : Opd) (K : St → T → Prop) : loud In ⟨ts, H, up⟩ (.append sz bytes mv x y) K = (match source H mv (y.get ts) with
    | some c => c.sz = sz ∧ c.ok ∧ match x.get ts with
      | .d (.e0 sz2) => sz2 = sz ∧ c.n ≤ big ∧ bytes ≤ 140 ∧ K ⟨ts, c.H ++ [none, some (.arr sz c.n c.at_)], up⟩ (.d (.own (c.H.length + 1) [] c.n 0 c.n))
      | .d (.own id p tot off len) => match nodeR c.H id p with
        | some R => pathOk c.H id p ∧ R.sz = sz ∧ R.n = tot ∧ off + len ≤ tot ∧ arrAt c.H id p ∧ len + c.n ≤ big ∧ bytes ≤ 140 ∧
          K ⟨ts, c.H.drop_ id p ++ [some (.arr sz (len + c.n) (appendAt len (shiftAt off R.at_) c.at_))], up⟩ (.d (.own c.H.length [] (len + c.n) 0 (len + c.n)))
        | none => False
      | _ => False
    | none => False) := propext Iff.rfl
theorem o_append (sz : Nat) (bytes : Nat) (mv : Bool) (x : Opd) (y : Opd) : evOps Fn In (⟨d, none, .append sz bytes mv x y⟩ :: r) ⟨ts, H, up⟩ K = loud In ⟨ts, H, up⟩ (.append sz bytes mv x y) fun s' x => Norm (fun s' => evOps Fn In r s' K) .mk ⟨putT s'.ts d x, s'.H, s'.up⟩ := propext Iff.rfl
theorem l_copy (sz : Nat) (x : Opd) (y : Opd) (K : St → T → Prop) : loud In ⟨ts, H, up⟩ (.copy sz x y) K = (match source H false (y.get ts), x.get ts with
    | some c, .d (.own id p tot off len) => match nodeR H id p with
      | some R => pathOk H id p ∧ c.sz = sz ∧ c.ok ∧ R.sz = sz ∧ R.n = tot ∧ off + len ≤ tot ∧ arrAt H id p ∧ (∀ i f, i < c.n → f < sz → (c.at_ i f).flat = true) ∧
          K ⟨ts, H.setNode id p (copyAt sz R.at_ off (min len c.n) c.at_), up⟩ (.d (.int .i64 (min len c.n : Nat)))
      | none => False
    | _, _ => False) := propext Iff.rfl
theorem o_copy (sz : Nat) (x : Opd) (y : Opd) : evOps Fn In (⟨d, none, .copy sz x y⟩ :: r) ⟨ts, H, up⟩ K = loud In ⟨ts, H, up⟩ (.copy sz x y) fun s' x => Norm (fun s' => evOps Fn In r s' K) .mk ⟨putT s'.ts d x, s'.H, s'.up⟩ := propext Iff.rfl
theorem l_clear (sz : Nat) (z : List D) (x : Opd) (K : St → T → Prop) : loud In ⟨ts, H, up⟩ (.clear sz z x) K = (match x.get ts with
    | .d (.own id p tot off len) => match nodeR H id p with
      | some R => pathOk H id p ∧ R.sz = sz ∧ R.n = tot ∧ off + len ≤ tot ∧ arrAt H id p ∧
          K ⟨ts, H.setNode id p (copyAt sz R.at_ off len fun _ f => z.getD f .dead), up⟩ (.tup [])
      | none => False
    | _ => False) := propext Iff.rfl
theorem o_clear (sz : Nat) (z : List D) (x : Opd) : evOps Fn In (⟨d, none, .clear sz z x⟩ :: r) ⟨ts, H, up⟩ K = loud In ⟨ts, H, up⟩ (.clear sz z x) fun s' x => Norm (fun s' => evOps Fn In r s' K) .mk ⟨putT s'.ts d x, s'.H, s'.up⟩ := propext Iff.rfl
theorem l_callR (f : Opd) (args : List Opd) (K : St → T → Prop) : loud In ⟨ts, H, up⟩ (.callR f args) K = (match f.get ts with
    | .d (.fn g caps) => ∃ Post, In g (args.map (·.get ts) ++ caps.map fun c => .d (.ptr c [] 1 0 0)) H (ts :: up) Post ∧
        AfterR (fun t H' ts' up' => K ⟨ts', H', up'⟩ t) .mk Post
    | _ => False) := propext Iff.rfl
theorem o_callR (f : Opd) (args : List Opd) : evOps Fn In (⟨d, none, .callR f args⟩ :: r) ⟨ts, H, up⟩ K = loud In ⟨ts, H, up⟩ (.callR f args) fun s' x => Norm (fun s' => evOps Fn In r s' K) .mk ⟨putT s'.ts d x, s'.H, s'.up⟩ := propext Iff.rfl
end
end Go.R
