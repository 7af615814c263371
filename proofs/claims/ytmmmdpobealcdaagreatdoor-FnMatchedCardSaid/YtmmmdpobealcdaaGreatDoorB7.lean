/- Code, functions: what the computing machine finds of a call is a contract. -/
import Derived.Test.YtmmmdpobealcdaaGreatDoorB6
set_option linter.unusedVariables false
set_option linter.unusedSimpArgs false
namespace Go.Am
open Go

/-- A region that draws is right. -/
def AnyOk (G : Cfg) : Prop :=
  ∀ (fn n : Nat) (ops : Array Oper) (id : Nat) (call : CallE), CallOk G.P call → ∀ (w0 : World) (H0 : Mem) (I0 : Nat → Nat → Prop) (ρ0 : Nm0) (K : Kt) (r : AV × HE × Nat) (Q : Exit → Act → World → Prop) (t : T3) (L : LE) (H : HE) (nx : Nat) (a : Act) (w : World),
    Sim ⟨G.P, w0, H0, I0⟩ n ρ0 t L H nx a w → KOk ⟨G.P, w0, H0, I0⟩ n ρ0 K r (Q .normal) → (anyC G fn n ops).run call t L H nx K = some r → (Code.region id ops true).wp G.P Q a w

section
variable {w0 : World} {H0 : Mem} {I0 : Nat → Nat → Prop} {G : Cfg} {n : Nat} {ρ0 : Nm0} {r : AV × HE × Nat}

theorem condE_run {C : Ctx} {ρ : Nm} {st : St} {I : Nat → Nat → Prop} {t : T3} {L : LE} {H : HE} {nx : Nat} {a : Act} {w : World} (hs : RenS ρ t L H nx st) (hr : Rl C I st a w) {x : Operand} {yes no : Ans}
    (h : (avC x).run t (fun b => condE b yes no) = some r) : ∃ b, a.eval x = .bool b ∧ (if b then yes else no) = some r := by
  obtain ⟨z, z', h1, h2, h3⟩ := avC_run hs h
  have h4 := hr.av h2
  unfold condE at h3
  cases h1 with
  | v u =>
    generalize hxv : a.eval x = xv at h4
    cases h4 with
    | v _ =>
      cases u with
      | bool b => cases b <;> exact ⟨_, rfl, h3⟩
      | _ => cases h3
  | _ => cases h3

/-- A loop, by the number of rounds that are left. -/
theorem wp_loop_ex {P : Program} {c : Code} {Q : Exit → Act → World → Prop} {a : Act} {w : World} (J : Nat → Act → World → Prop) {m : Nat} (h₀ : J m a w)
    (round : ∀ m a w, J m a w → c.wp P (Exit.then (fun a' w' => ∃ m', m' < m ∧ J m' a' w') Q) a w) : (Code.loop c).wp P Q a w := by
  intro b k cs
  have key : ∀ m a w, J m a w → ∃ e a' w', Q e a' w' ∧ Arrives P (lone (b.at a (.code c :: .inLoop c :: k)) cs w) b k cs e a' w' := by
    intro m
    induction m using Nat.strongRecOn with
    | _ m ih =>
      intro a w hJ
      obtain ⟨e, a₁, w₁, hq, harr⟩ := round m a w hJ b (.inLoop c :: k) cs
      cases e with
      | normal =>
        obtain ⟨m', hlt, hJ'⟩ := hq
        obtain ⟨e₂, a₂, w₂, hq₂, harr₂⟩ := ih m' hlt a₁ w₁ hJ'
        exact ⟨e₂, a₂, w₂, hq₂, .of_steps (Steps.trans harr (.one step_inLoop)) harr₂⟩
      | exit id => exact ⟨_, a₁, w₁, hq, .pass (x := .inLoop c) rfl (fun _ _ => .inl (by simp)) harr⟩
      | goto l => exact ⟨_, a₁, w₁, hq, .pass (x := .inLoop c) rfl (fun _ _ => .inl (by simp)) harr⟩
      | ret => exact ⟨_, a₁, w₁, hq, .pass (x := .inLoop c) rfl (fun _ _ => .inl (by simp)) harr⟩
      | panic ch => exact ⟨_, a₁, w₁, hq, .pass (x := .inLoop c) rfl (fun _ _ => .inl (by simp)) harr⟩
      | outgrown => exact ⟨_, a₁, w₁, hq, .pass (x := .inLoop c) rfl (fun _ _ => .inl (by simp)) harr⟩
  obtain ⟨e, a', w', hq, harr⟩ := key m a w h₀
  exact ⟨e, a', w', hq, .of_steps (.one step_loop) harr⟩

theorem codeC_run (ha : AnyOk G) {call : CallE} (hc : CallOk G.P call) {f fuel : Nat} (c : Code) : ∀ {kn : Kt} {kx : Nat → Kt} {kr : Kt} {Q : Exit → Act → World → Prop} {t : T3} {L : LE} {H : HE} {nx : Nat} {a : Act} {w : World},
    Sim ⟨G.P, w0, H0, I0⟩ n ρ0 t L H nx a w → KOk ⟨G.P, w0, H0, I0⟩ n ρ0 kn r (Q .normal) → (∀ id, KOk ⟨G.P, w0, H0, I0⟩ n ρ0 (kx id) r (Q (.exit id))) → KOk ⟨G.P, w0, H0, I0⟩ n ρ0 kr r (Q .ret) →
    (codeC G f n fuel c).run call kn kx kr t L H nx = some r → c.wp G.P Q a w := by
  induction c with
  | skip => intro kn kx kr Q t L H nx a w hs hn hx hr h; exact wp_skip (hn _ _ _ _ _ _ hs h)
  | label l => intro kn kx kr Q t L H nx a w hs hn hx hr h; exact wp_label (hn _ _ _ _ _ _ hs h)
  | exit id => intro kn kx kr Q t L H nx a w hs hn hx hr h; exact wp_exit (hx id _ _ _ _ _ _ hs h)
  | ret => intro kn kx kr Q t L H nx a w hs hn hx hr h; exact wp_ret (hr _ _ _ _ _ _ hs h)
  | seq x y ihx ihy =>
    intro kn kx kr Q t L H nx a w hs hn hx hr h
    refine wp_seq (ihx (kn := fun t L H nx => (codeC G f n fuel y).run call kn kx kr t L H nx) hs (fun t L H nx a w hs h => ihy hs hn hx hr h) hx hr h)
  | cond x c d ihc ihd =>
    intro kn kx kr Q t L H nx a w hs hn hx hr h
    have hs' := hs
    obtain ⟨ρ, st, I, hρ, hs1, hr1, hn1⟩ := hs
    obtain ⟨b, h1, h2⟩ := condE_run hs1 hr1 (x := x) (yes := (codeC G f n fuel c).run call kn kx kr t L H nx) (no := (codeC G f n fuel d).run call kn kx kr t L H nx) h
    refine wp_cond h1 ?_
    cases b with
    | true => exact ihc hs' hn hx hr h2
    | false => exact ihd hs' hn hx hr h2
  | block id c ih =>
    intro kn kx kr Q t L H nx a w hs hn hx hr h
    refine wp_block (ih (kx := fun id' t L H nx => bif Nat.beq id' id then kn t L H nx else kx id' t L H nx) hs hn (fun id' t L H nx a w hs h => ?_) hr h)
    simp only [Exit.inBlock]
    cases hb : Nat.beq id' id with
    | true =>
      rw [hb] at h
      rw [if_pos (beq_eq hb)]
      exact hn _ _ _ _ _ _ hs h
    | false =>
      rw [hb] at h
      rw [if_neg (fun e => by rw [e, beq_self] at hb; cases hb)]
      exact hx id' _ _ _ _ _ _ hs h
  | loop c ih =>
    intro kn kx kr Q t L H nx a w hs hn hx hr h
    let again : Nat → Kt := fun m => Nat.rec (motive := fun _ => Kt) (fun _ _ _ _ => none) (fun _ again t L H nx => (codeC G f n fuel c).run call again kx kr t L H nx) m
    have h' : again fuel t L H nx = some r := h
    refine wp_loop_ex (fun m a w => ∃ t L H nx, Sim ⟨G.P, w0, H0, I0⟩ n ρ0 t L H nx a w ∧ again m t L H nx = some r) (m := fuel) ⟨t, L, H, nx, hs, h'⟩ fun m a w ⟨t, L, H, nx, hs, h⟩ => ?_
    cases m with
    | zero => cases h
    | succ m => exact ih (kn := again m) hs (fun t L H nx a w hs h => ⟨m, Nat.lt_succ_self m, t, L, H, nx, hs, h⟩) hx hr h
  | region id ops draw =>
    intro kn kx kr Q t L H nx a w hs hn hx hr h
    cases draw with
    | false =>
      refine wp_region ?_
      rw [List.range_eq_range']
      have := seqC_run hc (Q := Q) ops.toList [] rfl hs hn h
      simpa using this
    | true => exact ha f n ops id call hc w0 H0 I0 ρ0 kn r Q t L H nx a w hs hn h
  | _ => intro kn kx kr Q t L H nx a w hs hn hx hr h; cases h

/-! ### A function's end -/

theorem run_cell {P : Program} {t : TypeId} {v y : Value} {w : World} (h : (Instr.loadAt t v).run P w = .ok y w) : (do loadVar t (← asAddr v) : Sem Value).run P w = .ok y w := by
  unfold Instr.loadAt Instr.sureAddr at h
  unfold asAddr
  cases v with
  | pointer p => cases p with
    | some a => simpa using h
    | none => simp at h
  | _ => simp at h

theorem loadC_run {C : Ctx} {ρ : Nm} {st : St} {I : Nat → Nat → Prop} {t : T3} {L : LE} {H : HE} {nx : Nat} {a : Act} {w : World} (hs : RenS ρ t L H nx st) (hr : Rl C I st a w) {ty : TypeId} {x : Operand} {K : K1} (h : (loadC C.P ty x).run t L H nx K = some r) :
    ∃ z z' y, Ren ρ (.one z z') ∧ (Instr.loadAt ty (a.eval x)).run C.P w = .ok y w ∧ R C.P I w (.val z' y) ∧ K z L H nx = some r := by
  unfold loadC at h
  obtain ⟨z, z', h1, h2, h3⟩ := avC_run hs h
  have hv := hr.av h2
  cases h1 with
  | ptr k m b i o hm =>
    simp only at h3
    obtain ⟨ob, ob', ho, h4, h5, _⟩ := lookE_run hs hm h3
    obtain ⟨ob2, rfl, hR, _, _⟩ := hr.look (look_of h5 (K := fun o => o = ob') rfl)
    rw [nth_eq] at h4
    cases hx : ob.xs[i]? with
    | none => rw [hx] at h4; cases h4
    | some q =>
      rw [hx] at h4
      obtain ⟨q', hq, hrq⟩ := ho.xs.get hx
      simp only [dropR_eq] at h4
      obtain ⟨u, u', g1, g2, g3⟩ := ldC_run (hrq.cells.drop o) h4
      obtain ⟨c, hc, _⟩ := hR.ex
      have he := hv.ptr_inv hc
      obtain ⟨y, hy, hry⟩ := run_ld g1 (hR.cellsAt hq o)
      exact ⟨u, u', y, g2, by rw [he]; exact hy, hry, g3⟩
  | pref xs ys hc =>
    simp only at h3
    obtain ⟨u, u', g1, g2, g3⟩ := ldC_run hc h3
    generalize a.eval x = xv at hv ⊢
    cases hv with
    | pref _ r off hcs =>
      obtain ⟨y, hy, hry⟩ := run_ld g1 (fun j z hz => let ⟨y, h1, h2, _⟩ := hcs.cells_get j z hz; ⟨y, h1, h2⟩)
      exact ⟨u, u', y, g2, hy, hry, g3⟩
  | _ => cases h3

def resOf (tmps : Array Value) : ResultVar → Sem Value
  | .tmp t => pure (tmps.getD t undef)
  | .cell a t => do loadVar t (← asAddr (tmps.getD a undef))

theorem resC_run {C : Ctx} {ρ : Nm} {st : St} {I : Nat → Nat → Prop} {t : T3} {L : LE} {H : HE} {nx : Nat} {a : Act} {w : World} (hs : RenS ρ t L H nx st) (hr : Rl C I st a w) {xs : List ResultVar} {K : List AV → Ans} (h : (resC C.P xs).run t L H nx K = some r) :
    ∃ zs zs' vs, Ren ρ (.many zs zs') ∧ R C.P I w (.vals zs' vs) ∧ (xs.mapM (resOf a.tmps)).run C.P w = .ok vs w ∧ K zs = some r := by
  induction xs generalizing K with
  | nil => exact ⟨[], [], [], .nil, .vnil, by simp, h⟩
  | cons x xs ih =>
    cases x with
    | tmp i =>
      have h' : (getC i).run t (fun z => (resC C.P xs).run t L H nx fun zs => K (z :: zs)) = some r := h
      obtain ⟨z, hi, hz, h1⟩ := getC_run h'
      obtain ⟨z', g1, g2⟩ := hs.t i z hi hz
      obtain ⟨c, g3, g4⟩ := hr.tm i z' g2
      obtain ⟨zs, zs', vs, k1, k2, k3, k4⟩ := ih h1
      refine ⟨z :: zs, z' :: zs', c :: vs, .cons _ _ _ _ g1 k1, .vcons _ _ _ _ g4 k2, ?_, k4⟩
      have e : a.tmps.getD i undef = c := by simp [Array.getD_eq_getD_getElem?, g3]
      simp [List.mapM_cons, resOf, e, k3]
    | cell i ty =>
      have h' : (loadC C.P ty (.tmp i)).run t L H nx (fun z _ _ _ => (resC C.P xs).run t L H nx fun zs => K (z :: zs)) = some r := h
      obtain ⟨z, z', c, g1, g2, g3, g4⟩ := loadC_run hs hr h'
      obtain ⟨zs, zs', vs, k1, k2, k3, k4⟩ := ih g4
      refine ⟨z :: zs, z' :: zs', c :: vs, .cons _ _ _ _ g1 k1, .vcons _ _ _ _ g3 k2, ?_, k4⟩
      have e : (resOf a.tmps (.cell i ty)).run C.P w = .ok c w := run_cell g2
      simp [List.mapM_cons, e, k3]

theorem startE_run {xs : List AV} : ∀ {i : Nat} {t : T3} {K : T3 → Ans}, startE i xs t K = some r →
    ∃ t', K t' = some r ∧ ∀ j, j < 512 → tget t' j = if i ≤ j ∧ j < i + xs.length then xs[j - i]? else tget t j := by
  induction xs with
  | nil => intro i t K h; exact ⟨t, h, fun j hj => by rw [if_neg (by simp)]⟩
  | cons x xs ih =>
    intro i t K h
    have h' : (putC i).run t x (fun t => startE (i + 1) xs t K) = some r := h
    obtain ⟨h1, h2⟩ := putC_run h'
    obtain ⟨t', h3, h4⟩ := ih h2
    refine ⟨t', h3, fun j hj => ?_⟩
    rw [h4 j hj, tget_tput _ _ _ _ h1 hj]
    by_cases e : j = i
    · subst e; rw [if_neg (by omega), if_pos rfl, if_pos (by simp)]; simp
    · by_cases e2 : i + 1 ≤ j ∧ j < i + 1 + xs.length
      · rw [if_pos e2, if_pos (by simp; omega), show j - i = (j - (i + 1)) + 1 by omega]; simp
      · rw [if_neg e2, if_neg e, if_neg (by simp; omega)]

theorem empty_get (j : Nat) : tget empty3 j = none := by
  have h1 : ∀ i, empty1.get i = none := fun i => by unfold N8.get; split <;> rfl
  have h2 : ∀ i, empty2.get i = empty1 := fun i => by unfold N8.get; split <;> rfl
  have h3 : ∀ i, empty3.get i = empty2 := fun i => by unfold N8.get; split <;> rfl
  unfold tget
  rw [h3, h2, h1]

theorem run_results {P : Program} {fn : Func} {tmps : Array Value} {vs : List Value} {w : World} (h : (fn.results.toList.mapM (resOf tmps)).run P w = .ok vs w) :
    (results fn tmps).run P w = .ok (if h : vs.length = 1 then vs[0]'(by omega) else .tuple vs.toArray) w := by
  have hm : (fn.results.mapM (resOf tmps)).run P w = .ok vs.toArray w := by
    rw [Array.mapM_eq_mapM_toList]
    simp [h]
  have e : results fn tmps = (do
      let vs ← fn.results.mapM (resOf tmps)
      pure (if h : vs.size = 1 then vs[0] else .tuple vs)) := rfl
  rw [e]
  simp [hm]

theorem oneOrMore_ren {ρ : Nm} {zs zs' : List AV} (h : Ren ρ (.many zs zs')) : Ren ρ (.one (oneOrMore zs) (oneOrMore zs')) := by
  cases h with
  | nil => exact .tuple _ _ .nil
  | cons x y xs ys h1 h2 =>
    cases h2 with
    | nil => exact h1
    | cons x2 y2 xs ys h3 h4 => exact .tuple _ _ (.cons _ _ _ _ h1 (.cons _ _ _ _ h3 h4))

theorem oneOrMore_R {P : Program} {I : Nat → Nat → Prop} {w : World} {zs : List AV} {vs : List Value} (h : R P I w (.vals zs vs)) : R P I w (.val (oneOrMore zs) (if h : vs.length = 1 then vs[0]'(by omega) else .tuple vs.toArray)) := by
  cases h with
  | vnil => exact .tuple _ _ .vnil
  | vcons x xs y ys h1 h2 =>
    cases h2 with
    | vnil => exact h1
    | vcons x2 xs y2 ys h3 h4 => exact .tuple _ _ (.vcons _ _ _ _ h1 (.vcons _ _ _ _ h3 h4))

theorem funC_ok (ha : AnyOk G) (hnames : ∀ (f : FuncId) (fn : Func), G.P.funcs[f]? = some fn → (fn.name == "runtime.NumGoroutine") = false) {call : CallE} (hc : CallOk G.P call) {fuel f : Nat} {args : List AV} {H : HE} {nx : Nat} {z : AV} {H' : HE} {nx' : Nat}
    (h : (funC G fuel f).run call args H nx = some (z, H', nx')) {ρ : Nm} {M : Mem} {args' : List AV} (hargs : Ren ρ (.many args args')) (hM : RenH ρ H nx M) :
    Fn G.P f args' M fun z' M' => ∃ ρ', Up nx ρ nx' ρ' ∧ Ren ρ' (.one z z') ∧ RenH ρ' H' nx' M' := by
  unfold funC at h
  cases hf : G.P.funcs[f]? with
  | none => simp only [hf] at h; cases h
  | some fn =>
    simp only [hf] at h
    cases hb : fn.body with
    | none => simp only [hb] at h; cases h
    | some c =>
      simp only [hb] at h
      refine ⟨⟨fn, hf, hnames f fn hf, by simp [hb]⟩, fun w I cs hrd hmem hvals => ?_⟩
      apply calls_of_wp hf hb
      have h' : startE 0 args empty3 (fun t => (codeC G f fn.ntmps fuel c).run call (endE G.P (resC G.P fn.results.toList).run) (fun _ _ _ _ _ => none) (endE G.P (resC G.P fn.results.toList).run) t [] H nx) = some (z, H', nx') := h
      obtain ⟨t', h1, h2⟩ := startE_run h'
      have hlen : args'.length = cs.size := by have := R.vals_length hvals; simpa using this
      have hRl : Rl ⟨G.P, w, M, I⟩ I { n := (cs ++ Array.replicate (fn.ntmps - cs.size) undef).size, t := fun i => args'[i]?, L := fun _ => none, H := M } { tmps := cs ++ Array.replicate (fn.ntmps - cs.size) undef, defers := [] } w :=
        { df := rfl, sz := rfl
          tm := fun i x hx => by
            obtain ⟨y, h3, h4⟩ := R.vals_get hvals i x hx
            refine ⟨y, ?_, h4⟩
            have h5 : cs[i]? = some y := by simpa using h3
            have hlt : i < cs.size := (Array.getElem?_eq_some_iff.1 h5).1
            rw [Array.getElem?_append_left hlt]
            exact h5
          mL := fun k r ob hk => by cases hk
          inj := fun k k' r ob ob' hk => by cases hk
          mH := hmem, rd := hrd, i1 := fun _ _ => id, i2 := fun _ _ => .inl, hs := Nat.le_refl _, sh := .refl _
          fr := fun b _ h0 => ⟨h0, rfl⟩ }
      have hRen : RenS ρ t' [] H nx { n := (cs ++ Array.replicate (fn.ntmps - cs.size) undef).size, t := fun i => args'[i]?, L := fun _ => none, H := M } :=
        { hM with
          t := fun i x hi hx => by
            rw [h2 i hi] at hx
            split at hx
            · obtain ⟨y, h3, h4⟩ := hargs.get (by simpa using hx)
              exact ⟨y, h4, h3⟩
            · rw [empty_get] at hx; cases hx
          L := fun k m ob hk => by cases hk }
      have hn : fn.ntmps ≤ (cs ++ Array.replicate (fn.ntmps - cs.size) undef).size := by simp; omega
      have hE : KOk ⟨G.P, w, M, I⟩ fn.ntmps ⟨nx, ρ⟩ (endE G.P (resC G.P fn.results.toList).run) (z, H', nx') (fun a w' => a.defers = [] ∧ ∃ v, (results fn a.tmps).run G.P w' = .ok v w' ∧
          (fun e w' => ∃ r M' I' c, (∃ ρ', Up nx ρ nx' ρ' ∧ Ren ρ' (.one z r) ∧ RenH ρ' H' nx' M') ∧ e = .returned c ∧ (∀ b o, I b o → I' b o) ∧ (∀ b o, I' b o → I b o ∨ w.heap.size ≤ b ∨ (M b ≠ none ∧ M' b = none)) ∧ Read I' w' ∧ MemR G.P I' w' M' ∧ R G.P I' w' (.val r c) ∧
            w.heap.size ≤ w'.heap.size ∧ Shapes w w' ∧ (∀ b, b < w.heap.size → M b = none → M' b = none ∧ w'.heap[b]? = w.heap[b]?)) (Ending.returned v) w') := by
        intro t L H1 nx1 a w' ⟨ρ1, st, I1, hρ, hs, hr, _⟩ hk
        unfold endE at hk
        obtain ⟨zs, zs', vs, k1, k2, k3, k4⟩ := resC_run hs hr hk
        obtain ⟨y, y', L', st', I2, g1, g2, g3, g4, g5, g6, g7⟩ := pubE_run hs hr (oneOrMore_ren k1) (oneOrMore_R k2) k4
        simp only [Option.some.injEq, Prod.mk.injEq] at g6
        obtain ⟨rfl, rfl, rfl⟩ := g6
        refine ⟨hr.df, _, run_results k3, y', st'.H, I2, _, ⟨ρ1, hρ, g4, g1.toRenH⟩, rfl, g2.i1, g2.i2, g2.rd, g2.mH, g5, g2.hs, g2.sh, g2.fr⟩
      exact codeC_run ha hc c ⟨ρ, _, I, .refl nx ρ, hRen, hRl, hn⟩ hE (fun id t L H nx a w hs h => by cases h) hE h1

theorem callE_ok (ha : AnyOk G) (hnames : ∀ (f : FuncId) (fn : Func), G.P.funcs[f]? = some fn → (fn.name == "runtime.NumGoroutine") = false) {known : CallE} (hk : CallOk G.P known) (fuel d : Nat) : CallOk G.P (callE G known fuel d) := by
  induction d with
  | zero => exact hk
  | succ d ih =>
    intro f args H nx z H' nx' h ρ M args' hargs hM
    have h' : (match known f args H nx with | some p => some p | none => (funC G fuel f).run (callE G known fuel d) args H nx) = some (z, H', nx') := h
    cases hq : known f args H nx with
    | some p =>
      rw [hq] at h'
      simp only [Option.some.injEq] at h'
      subst h'
      exact hk f args H nx z H' nx' hq ρ M args' hargs hM
    | none =>
      rw [hq] at h'
      exact funC_ok ha hnames ih h' hargs hM

theorem noneKnown_ok (P : Program) : CallOk P noneKnown := fun _ _ _ _ _ _ _ h => by cases h

end
end Go.Am
