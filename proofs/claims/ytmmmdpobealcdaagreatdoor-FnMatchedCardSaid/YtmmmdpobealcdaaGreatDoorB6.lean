/- Calls by contract; operations of a region, one behind another. -/
import Derived.Test.YtmmmdpobealcdaaGreatDoorBX
set_option linter.unusedVariables false
set_option linter.unusedSimpArgs false
namespace Go.Am
open Go

section
variable {C : Ctx} {I I' : Nat → Nat → Prop} {st : St} {a : Act} {w w' : World}

/-- A call has come back. -/
theorem Rl.called (h : Rl C I st a w) {H' : Mem} (hI : ∀ b o, I b o → I' b o) (hn : ∀ b o, I' b o → I b o ∨ w.heap.size ≤ b ∨ (st.H b ≠ none ∧ H' b = none)) (hrd : Read I' w') (hm : MemR C.P I' w' H')
    (hz : w.heap.size ≤ w'.heap.size) (hs : Shapes w w') (hfr : ∀ b, b < w.heap.size → st.H b = none → H' b = none ∧ w'.heap[b]? = w.heap[b]?) : Rl C I' { st with H := H' } a w' := by
  have hc : ∀ r o, I r o → w'.cell? ⟨r, o, none⟩ = w.cell? ⟨r, o, none⟩ := fun r o hi => by
    have h0 : st.H r = none := by
      cases hq : st.H r with
      | none => rfl
      | some ob => exact absurd hi ((h.mH r ob hq).2 o)
    exact cell_same (hfr r (h.rd.lt hi) h0).2 o
  exact {
    df := h.df, sz := h.sz
    tm := fun i x hx => let ⟨y, h1, h2⟩ := h.tm i x hx; ⟨y, h1, h2.mono hI hc hs⟩
    mL := fun k r ob hr => by
      obtain ⟨h1, h2, h3, h4⟩ := h.mL k r ob hr
      obtain ⟨f1, f2⟩ := hfr r h3.lt h2
      refine ⟨h1, f1, h3.mono f2 hI hc hs, fun o hi => ?_⟩
      rcases hn r o hi with hi | hi | ⟨hi, _⟩
      · exact h4 o hi
      · exact absurd hi (Nat.not_le.2 h3.lt)
      · exact absurd h2 hi
    inj := h.inj
    mH := hm
    rd := hrd
    i1 := fun b o hb => hI _ _ (h.i1 b o hb)
    i2 := fun b o hi => by
      rcases hn b o hi with hi | hi | ⟨hi, hi'⟩
      · rcases h.i2 b o hi with h1 | h1 | ⟨h1, h2⟩
        · exact .inl h1
        · exact .inr (.inl h1)
        · exact .inr (.inr ⟨h1, (hfr b (h.rd.lt hi) h2).1⟩)
      · exact .inr (.inl (Nat.le_trans h.hs hi))
      · rcases Nat.lt_or_ge b C.w0.heap.size with hb | hb
        · refine .inr (.inr ⟨fun h0 => hi (h.fr b hb h0).1, hi'⟩)
        · exact .inr (.inl hb)
    hs := Nat.le_trans h.hs hz
    sh := h.sh.trans hs
    fr := fun b hb h0 => by
      obtain ⟨h1, h2⟩ := h.fr b hb h0
      obtain ⟨h3, h4⟩ := hfr b (Nat.lt_of_lt_of_le hb h.hs) h1
      exact ⟨h3, h4.trans h2⟩ }

theorem run_call {P : Program} {f : FuncId} {fn : Func} (hf : P.funcs[f]? = some fn) (hn : (fn.name == "runtime.NumGoroutine") = false) (hb : fn.body.isNone = false) (ev : Operand → Value) {x : Operand} {ca : Array Value} (he : ev x = .func (.func f) #[] ca)
    (o : Oper) (args : Array Operand) (ts : Array TypeId) (ho : o.op = .call ⟨.value x, args, ts⟩) : (execOp ev o).run P w = .ok (.enter f (args.map ev ++ ca)) w := by
  obtain ⟨dst, op, ty, pos, after, guard⟩ := o
  simp only at ho
  subst ho
  have hn' : ¬ fn.name = "runtime.NumGoroutine" := by simpa using hn
  have hb' : ¬ fn.body = none := by cases h : fn.body <;> simp_all
  simp [execOp, resolve, Deferred.ofValue, invoke, callFunc, hf, hn', hb', he]

end

/-- What is known of calls. -/
def CallOk (P : Program) (call : CallE) : Prop :=
  ∀ (f : FuncId) (args : List AV) (H : HE) (nx : Nat) (z : AV) (H' : HE) (nx' : Nat), call f args H nx = some (z, H', nx') →
    ∀ (ρ : Nm) (M : Mem) (args' : List AV), Ren ρ (.many args args') → RenH ρ H nx M →
      Fn P f args' M fun z' M' => ∃ ρ', Up nx ρ nx' ρ' ∧ Ren ρ' (.one z z') ∧ RenH ρ' H' nx' M'

structure Nm0 where
  n : Nat
  ρ : Nm
abbrev Nm0.up (p : Nm0) (n : Nat) (ρ : Nm) : Prop := Up p.n p.ρ n ρ

/-- The frame and the world are as the computing machine's state says. -/
def Sim (C : Ctx) (n : Nat) (ρ0 : Nm0) (t : T3) (L : LE) (H : HE) (nx : Nat) (a : Act) (w : World) : Prop :=
  ∃ ρ st I, ρ0.up nx ρ ∧ RenS ρ t L H nx st ∧ Rl C I st a w ∧ n ≤ st.n

/-- What is left to do comes to the answer, and whoever is there has reached the goal. -/
def KOk (C : Ctx) (n : Nat) (ρ0 : Nm0) (K : Kt) (r : AV × HE × Nat) (Q : Act → World → Prop) : Prop :=
  ∀ t L H nx a w, Sim C n ρ0 t L H nx a w → K t L H nx = some r → Q a w

section
variable {w0 : World} {H0 : Mem} {I0 : Nat → Nat → Prop} {G : Cfg} {n : Nat} {ρ0 : Nm0} {t : T3} {L : LE} {H : HE} {nx : Nat} {a : Act} {w : World} {r : AV × HE × Nat}

theorem RenH.swap {ρ ρ' : Nm} {st : St} (hs : RenS ρ t L H nx st) (hl : Nm.le ρ ρ') {H' : HE} {nx' : Nat} {M : Mem} (h : RenH ρ' H' nx' M) : RenS ρ' t L H' nx' { st with H := M } :=
  { h with
    t := fun i x hi hx => let ⟨y, h1, h2⟩ := hs.t i x hi hx; ⟨y, h1.mono hl, h2⟩
    L := fun k m ob ho => let ⟨r, ob', h1, h2, h3⟩ := hs.L k m ob ho; ⟨r, ob', hl _ _ h1, h2.mono hl, h3⟩ }

theorem argsC_run {C : Ctx} {ρ : Nm} {st : St} {I : Nat → Nat → Prop} (hs : RenS ρ t L H nx st) (hr : Rl C I st a w) {xs : List Operand} {K : List AV → Ans} (h : (argsC xs).run t K = some r) :
    ∃ zs zs', Ren ρ (.many zs zs') ∧ R C.P I w (.vals zs' (xs.map a.eval)) ∧ K zs = some r := by
  induction xs generalizing K with
  | nil => exact ⟨[], [], .nil, .vnil, h⟩
  | cons x xs ih =>
    unfold argsC at h
    obtain ⟨z, z', h1, h2, h3⟩ := avC_run hs h
    obtain ⟨zs, zs', k1, k2, k3⟩ := ih h3
    exact ⟨_, _, .cons _ _ _ _ h1 k1, .vcons _ _ _ _ (hr.av h2) k2, k3⟩

theorem pubE_run {C : Ctx} {ρ : Nm} {st : St} {I : Nat → Nat → Prop} (hs : RenS ρ t L H nx st) (hr : Rl C I st a w) {z z' : AV} {c : Value} (hz : Ren ρ (.one z z')) (hv : R C.P I w (.val z' c)) {K : AV → LE → Ans} (h : pubE C.P L z K = some r) :
    ∃ y y' L' st' I', RenS ρ t L' H nx st' ∧ Rl C I' st' a w ∧ (∀ b o, I b o → I' b o) ∧ Ren ρ (.one y y') ∧ R C.P I' w (.val y' c) ∧ K y L' = some r ∧ st'.n = st.n := by
  obtain ⟨y', st', I', ⟨y, L', g1, g2, g3⟩, h2, h3, h4, h5⟩ := hr.pub hv (pubE_ok hs C.P hz h)
  exact ⟨y, y', L', st', I', g2, h2, h3, g1, h4, g3, h5⟩

theorem pubLE_run {C : Ctx} {ρ : Nm} {zs : List AV} : ∀ {st : St} {I : Nat → Nat → Prop} {L : LE} {zs' : List AV} {cs : List Value} {K : List AV → LE → Ans}, RenS ρ t L H nx st → Rl C I st a w → Ren ρ (.many zs zs') → R C.P I w (.vals zs' cs) →
    pubLE C.P zs L K = some r →
    ∃ ys ys' L' st' I', RenS ρ t L' H nx st' ∧ Rl C I' st' a w ∧ (∀ b o, I b o → I' b o) ∧ Ren ρ (.many ys ys') ∧ R C.P I' w (.vals ys' cs) ∧ K ys L' = some r ∧ st'.n = st.n := by
  induction zs with
  | nil =>
    intro st I L zs' cs K hs hr hz hv h
    cases hz
    exact ⟨[], [], L, st, I, hs, hr, fun _ _ => id, .nil, hv, h, rfl⟩
  | cons z zs ih =>
    intro st I L zs' cs K hs hr hz hv h
    cases hz with
    | cons _ z' _ zs' hz1 hz2 =>
      cases hv with
      | vcons _ _ c cs hv1 hv2 =>
        have h' : pubE C.P L z (fun y L' => pubLE C.P zs L' fun ys L'' => K (y :: ys) L'') = some r := h
        obtain ⟨y, y', L1, st1, I1, g1, g2, g3, g4, g5, g6, g7⟩ := pubE_run hs hr hz1 hv1 h'
        obtain ⟨ys, ys', L2, st2, I2, k1, k2, k3, k4, k5, k6, k7⟩ := ih g1 g2 hz2 (hv2.up g3) g6
        exact ⟨_, _, L2, st2, I2, k1, k2, fun b o hi => k3 _ _ (g3 _ _ hi), .cons _ _ _ _ g4 k4, .vcons _ _ _ _ (g5.up k3) k5, k6, k7.trans g7⟩

/-- What follows an operation, with its value. -/
def K1Ok (C : Ctx) (n : Nat) (ρ0 : Nm0) (t : T3) (K : K1) (r : AV × HE × Nat) (next : Value → World → Prop) (a : Act) : Prop :=
  ∀ (ρ : Nm) (st : St) (I : Nat → Nat → Prop) (y y' : AV) (c : Value) (L : LE) (H : HE) (nx : Nat) (w : World), ρ0.up nx ρ → RenS ρ t L H nx st → Rl C I st a w → n ≤ st.n → Ren ρ (.one y y') → R C.P I w (.val y' c) → K y L H nx = some r → next c w

theorem goE_run {call : CallE} (hc : CallOk G.P call) {o : Oper} {f : Operand} {g : FuncId} {args : Array Operand} {ts : Array TypeId} (ho : o.op = .call ⟨.value f, args, ts⟩) {ca : Array Value} (hf : a.eval f = .func (.func g) #[] ca) {K : K1} {next : Act → World → Prop} {Q : Exit → Act → World → Prop}
    {ρ : Nm} {st : St} {I : Nat → Nat → Prop} (hρ : ρ0.up nx ρ) (hs : RenS ρ t L H nx st) (hr : Rl ⟨G.P, w0, H0, I0⟩ I st a w) (hn : n ≤ st.n) {zs zs' : List AV} (g1 : Ren ρ (.many zs zs')) (g2 : R G.P I w (.vals zs' (args.toList.map a.eval ++ ca.toList)))
    (hk : K1Ok ⟨G.P, w0, H0, I0⟩ n ρ0 t K r (fun c w => next (a.put o.dst c) w) a) (h : goE G.P g zs call L H nx K = some r) : o.wp G.P a w next Q := by
  unfold goE at h
  obtain ⟨ys, ys', L1, st1, I1, k1, k2, k3, k4, k5, k6, k7⟩ := pubLE_run (C := ⟨G.P, w0, H0, I0⟩) hs hr g1 g2 h
  cases hcall : call g ys H nx with
  | none => rw [hcall] at k6; cases k6
  | some p =>
    obtain ⟨z, H', nx'⟩ := p
    rw [hcall] at k6
    simp only at k6
    obtain ⟨⟨fn, f1, f2, f3⟩, hfn⟩ := hc g ys H nx z H' nx' hcall ρ st1.H ys' k4 k1.toRenH
    have hrun := run_call (w := w) f1 f2 f3 a.eval hf o args ts ho
    unfold Oper.wp
    rw [hrun, Oper.upon_enter]
    have hv : R G.P I1 w (.vals ys' (args.map a.eval ++ ca).toList) := by simpa using k5
    refine (hfn w I1 _ k2.rd k2.mH hv).mono fun e w' he => ?_
    obtain ⟨z', M', I', c, ⟨ρ', q1, q2, q3⟩, rfl, e1, e2, e3, e4, e5, e6, e7, e8⟩ := he
    exact hk ρ' { st1 with H := M' } I' z z' c L1 H' nx' w' (hρ.trans q1) (RenH.swap k1 q1.le q3) (k2.called e1 e2 e3 e4 e6 e7 e8) (by rw [show ({ st1 with H := M' } : St).n = st1.n from rfl, k7]; exact hn) q2 e5 k6

theorem asFunc_run {ρ : Nm} {x x' : AV} (hx : Ren ρ (.one x x')) {K : FuncId → List AV → Ans} (h : asFunc x K = some r) :
    ∃ g cs cs', (x' = .v (.func (.func g) #[] #[]) ∧ cs = [] ∧ cs' = [] ∨ x' = .clo g cs') ∧ Ren ρ (.many cs cs') ∧ K g cs = some r := by
  unfold asFunc at h
  cases hx with
  | v u => cases u with
    | func f fa ca => cases f with
      | func g =>
        simp only at h
        split at h
        · rename_i h1
          split at h
          · rename_i h2
            have e1 : fa = #[] := by simpa using h1
            have e2 : ca = #[] := by simpa using h2
            subst e1; subst e2
            exact ⟨g, [], [], .inl ⟨rfl, rfl, rfl⟩, .nil, h⟩
          · cases h
        · cases h
      | _ => cases h
    | _ => cases h
  | clo g xs ys hl => exact ⟨g, xs, ys, .inr rfl, hl, h⟩
  | _ => cases h

theorem callC_run {call : CallE} (hc : CallOk G.P call) {o : Oper} {f : Operand} {args : Array Operand} {ts : Array TypeId} (ho : o.op = .call ⟨.value f, args, ts⟩) {K : K1} {next : Act → World → Prop} {Q : Exit → Act → World → Prop}
    (hs : Sim ⟨G.P, w0, H0, I0⟩ n ρ0 t L H nx a w) (hk : K1Ok ⟨G.P, w0, H0, I0⟩ n ρ0 t K r (fun c w => next (a.put o.dst c) w) a) (h : (callC G.P f args.toList).run call t L H nx K = some r) : o.wp G.P a w next Q := by
  obtain ⟨ρ, st, I, hρ, hs, hr, hn⟩ := hs
  unfold callC at h
  cases hcf : calleeOf f with
  | some g =>
    simp only [hcf] at h
    have hf : f = .func g := by
      cases f with
      | func g' => simpa [calleeOf] using hcf
      | _ => cases hcf
    subst hf
    obtain ⟨zs, zs', g1, g2, g3⟩ := argsC_run hs hr h
    exact goE_run hc ho (ca := #[]) rfl hρ hs hr hn g1 (by simpa using g2) hk g3
  | none =>
    simp only [hcf] at h
    obtain ⟨z, z', h1, h2, h3⟩ := avC_run hs h
    obtain ⟨g, cs, cs', hx', hcs, h4⟩ := asFunc_run h1 h3
    have hv := hr.av h2
    obtain ⟨ca, hf, hca⟩ : ∃ ca : Array Value, a.eval f = .func (.func g) #[] ca ∧ R G.P I w (.vals cs' ca.toList) := by
      generalize a.eval f = xv at hv ⊢
      rcases hx' with ⟨rfl, _, rfl⟩ | rfl
      · cases hv
        exact ⟨#[], rfl, .vnil⟩
      · cases hv with
        | clo _ _ ca hv => exact ⟨ca, rfl, hv⟩
    obtain ⟨zs, zs', g1, g2, g3⟩ := argsC_run hs hr h4
    rw [appR_eq] at g3
    exact goE_run hc ho hf hρ hs hr hn (g1.append hcs) (g2.vals_append hca) hk g3

theorem plainC_run {call : CallE} {f : FuncId} {o : Oper} {K : K1} {next : Act → World → Prop} {Q : Exit → Act → World → Prop}
    (hs : Sim ⟨G.P, w0, H0, I0⟩ n ρ0 t L H nx a w) (hk : K1Ok ⟨G.P, w0, H0, I0⟩ n ρ0 t K r (fun c w => next (a.put o.dst c) w) a) (h : (plainC G f o).run call t L H nx K = some r) : o.wp G.P a w next Q := by
  obtain ⟨ρ, st, I, hρ, hs, hr, hn⟩ := hs
  have h' : (opC (G.hp f (o.dst.getD 0)) (G.lm f (o.dst.getD 0)) G.P o).run t L H nx K = some r := h
  have hop := opC_ok _ _ _ _ ρ t L H nx K r st hs h'
  obtain ⟨x, st', I', y, w', ⟨ρ', z, L', H', nx', q1, q2, q3, q4⟩, hrun, h2, h3, h4⟩ := opA_sound (C := ⟨G.P, w0, H0, I0⟩) hr hop
  have hnext : next (a.put o.dst y) w' := hk ρ' st' I' z x y L' H' nx' w' (hρ.trans q1) q3 h2 (by rw [h4]; exact hn) q2 h3 q4
  unfold Oper.wp
  rcases hrun with hrun | ⟨hrun, rfl⟩
  · have hrun' : (execOp a.eval o).run G.P w = .ok (.value y) w' := hrun
    rw [hrun']; exact hnext
  · have hrun' : (execOp a.eval o).run G.P w = .ok .skip w' := hrun
    rw [hrun']; exact hnext

theorem rawC_run {call : CallE} (hc : CallOk G.P call) {f : FuncId} {o : Oper} {K : K1} {next : Act → World → Prop} {Q : Exit → Act → World → Prop}
    (hs : Sim ⟨G.P, w0, H0, I0⟩ n ρ0 t L H nx a w) (hk : K1Ok ⟨G.P, w0, H0, I0⟩ n ρ0 t K r (fun c w => next (a.put o.dst c) w) a) (h : (rawC G f o).run call t L H nx K = some r) : o.wp G.P a w next Q := by
  unfold rawC at h
  split at h
  · rename_i c ho
    obtain ⟨callee, args, ts⟩ := c
    unfold valueC at h
    cases callee with
    | value x => exact callC_run hc ho hs hk h
    | _ => exact plainC_run hs hk h
  · exact plainC_run hs hk h

theorem dstC_run {d : Option Tmp} {z : AV} {K : T3 → Ans} (h : (dstC n d).run t z K = some r) : (d = none ∧ K t = some r) ∨ ∃ i, d = some i ∧ i < n ∧ i < 512 ∧ K (tput t i z) = some r := by
  unfold dstC at h
  cases d with
  | none => exact .inl ⟨rfl, h⟩
  | some i =>
    simp only at h
    cases hb : Nat.blt i n with
    | false => rw [hb] at h; cases h
    | true =>
      rw [hb] at h
      obtain ⟨h1, h2⟩ := putC_run h
      exact .inr ⟨i, rfl, blt_lt hb, h1, h2⟩

/-- A value goes where it belongs. -/
theorem dst_sim {C : Ctx} {ρ : Nm} {st : St} {I : Nat → Nat → Prop} (hρ : ρ0.up nx ρ) (hs : RenS ρ t L H nx st) (hr : Rl C I st a w) (hn : n ≤ st.n) {d : Option Tmp} {y y' : AV} {c : Value} (hy : Ren ρ (.one y y')) (hv : R C.P I w (.val y' c))
    {K : T3 → Ans} (h : (dstC n d).run t y K = some r) : ∃ t', Sim C n ρ0 t' L H nx (a.put d c) w ∧ K t' = some r := by
  rcases dstC_run h with ⟨rfl, h1⟩ | ⟨i, rfl, h2, h3, h4⟩
  · exact ⟨t, ⟨ρ, st, I, hρ, hs, hr, hn⟩, h1⟩
  · refine ⟨tput t i y, ⟨ρ, st.put (some i) y', I, hρ, hs.put hy h3, ?_, hn⟩, h4⟩
    exact hr.put hv (some i) fun j hj => by cases hj; exact Nat.lt_of_lt_of_le h2 hn

def boolAt (x : Option Value) : Option Bool := match x with | some (.bool b) => some b | _ => none

theorem guardE_run {C : Ctx} {ρ : Nm} {st : St} {I : Nat → Nat → Prop} (hs : RenS ρ t L H nx st) (hr : Rl C I st a w) {d : Nat} {want : Bool} {yes no : Ans} (h : (getC d).run t (fun b => guardE b want yes no) = some r) :
    (boolAt a.tmps[d]? = some want ∧ yes = some r) ∨ (boolAt a.tmps[d]? ≠ some want ∧ no = some r) := by
  obtain ⟨z, hi, hz, h1⟩ := getC_run h
  obtain ⟨z', g1, g2⟩ := hs.t d z hi hz
  obtain ⟨c, g3, g4⟩ := hr.tm d z' g2
  unfold guardE at h1
  cases g1 with
  | v u =>
    cases g4 with
    | v _ =>
      rw [g3]
      cases c with
      | bool b => cases b <;> cases want <;> first | exact .inl ⟨rfl, h1⟩ | exact .inr ⟨(by simp [boolAt]), h1⟩
      | tuple cs =>
        right
        simp only at h1
        split at h1
        · exact ⟨(by simp [boolAt]), h1⟩
        · cases h1
      | _ => cases h1
  | _ => cases h1

/-- One operation of a region. -/
theorem stepC_run {call : CallE} (hc : CallOk G.P call) {f : FuncId} {ops : Array Oper} {o : Oper} {K : Kt} {next : Act → World → Prop} {Q : Exit → Act → World → Prop}
    (hs : Sim ⟨G.P, w0, H0, I0⟩ n ρ0 t L H nx a w) (hk : KOk ⟨G.P, w0, H0, I0⟩ n ρ0 K r next) (h : (stepC G f n ops.toList o).run call t L H nx K = some r) :
    if Region.wanted o (yielded ops a.tmps) then o.wp G.P a w next Q else next (a.put o.dst undef) w := by
  unfold stepC at h
  have hdo : ∀ {L : LE} {H : HE} {nx : Nat}, Sim ⟨G.P, w0, H0, I0⟩ n ρ0 t L H nx a w → (rawC G f o).run call t L H nx (fun x L H nx => (dstC n o.dst).run t x fun t => K t L H nx) = some r → o.wp G.P a w next Q := fun hs h =>
    rawC_run hc hs (fun ρ st I y y' c L H nx w hρ hs hr hn hy hv h => by
      obtain ⟨t', h1, h2⟩ := dst_sim hρ hs hr hn hy hv h
      exact hk t' L H nx _ w h1 h2) h
  cases hg : o.guard with
  | none =>
    simp only [hg] at h
    have hw : Region.wanted o (yielded ops a.tmps) = true := by simp [Region.wanted, hg]
    rw [hw, if_pos rfl]
    exact hdo hs h
  | some gw =>
    obtain ⟨g, want⟩ := gw
    simp only [hg, nth_eq] at h
    cases hog : ops.toList[g]? with
    | none => simp only [hog] at h; cases h
    | some og =>
      simp only [hog] at h
      cases hd : og.dst with
      | none => simp only [hd] at h; cases h
      | some d =>
        simp only [hd] at h
        have hy : yielded ops a.tmps g = boolAt a.tmps[d]? := by
          have : ops[g]? = some og := by simpa using hog
          simp only [yielded, this, hd, Option.bind_some]
          rfl
        have hw : Region.wanted o (yielded ops a.tmps) = (yielded ops a.tmps g == some want) := by simp [Region.wanted, hg]
        have hs' := hs
        obtain ⟨ρ, st, I, hρ, hs1, hr1, hn1⟩ := hs
        rcases guardE_run hs1 hr1 h with ⟨h1, h2⟩ | ⟨h1, h2⟩
        · rw [hw, hy, h1]
          simp only [beq_self_eq_true, if_true]
          exact hdo hs' h2
        · rw [hw, hy]
          have : (boolAt a.tmps[d]? == some want) = false := by simpa using h1
          rw [this]
          simp only [Bool.false_eq_true, if_false]
          obtain ⟨t', h3, h4⟩ := dst_sim (c := undef) hρ hs1 hr1 hn1 (.v undef) (.v _) h2
          exact hk t' L H nx _ w h3 h4

/-- Operations in their order. -/
theorem seqC_run {call : CallE} (hc : CallOk G.P call) {f : FuncId} {ops : Array Oper} {Q : Exit → Act → World → Prop} : ∀ (rest : List Oper) (pre : List Oper), ops.toList = pre ++ rest → ∀ {K : Kt} {t : T3} {L : LE} {H : HE} {nx : Nat} {a : Act} {w : World},
    Sim ⟨G.P, w0, H0, I0⟩ n ρ0 t L H nx a w → KOk ⟨G.P, w0, H0, I0⟩ n ρ0 K r (Q .normal) → (seqC G f n ops.toList rest).run call t L H nx K = some r → wpOps G.P ops Q (List.range' pre.length rest.length) a w := by
  intro rest
  induction rest with
  | nil =>
    intro pre hp K t L H nx a w hs hk h
    exact hk t L H nx a w hs h
  | cons o rest ih =>
    intro pre hp K t L H nx a w hs hk h
    have hi : ops[pre.length]? = some o := by
      rw [← Array.getElem?_toList, hp]
      simp
    simp only [List.length_cons, List.range'_succ, wpOps, hi]
    have h' : (stepC G f n ops.toList o).run call t L H nx (fun t L H nx => (seqC G f n ops.toList rest).run call t L H nx K) = some r := h
    have hstep := stepC_run hc (Q := Q) (next := wpOps G.P ops Q (List.range' (pre.length + 1) rest.length)) hs (fun t L H nx a w hs h => by
      have := ih (pre ++ [o]) (by simp [hp]) hs hk h
      simpa using this) h'
    split at hstep
    · rename_i hw; rw [if_pos hw]; exact .inl hstep
    · rename_i hw; rw [if_neg hw]; exact hstep

end
end Go.Am
