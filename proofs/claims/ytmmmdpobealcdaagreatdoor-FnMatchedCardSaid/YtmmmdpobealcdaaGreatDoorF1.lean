/- The law's own function: from the middle of its code to its end. -/
import Derived.Test.YtmmmdpobealcdaaGreatDoorE0
set_option linter.unusedVariables false
set_option linter.unusedSimpArgs false
namespace Go.Am
open Go Go.Proofs Go.RowKit

/-- Whether it comes to 'true'. -/
def isTrue (o : Option (AV × HE × Nat)) : Bool := match o with
  | some p => match p.1 with
    | .v u => match u with
      | .bool b => b
      | _ => false
    | _ => false
  | none => false

theorem isTrue_run {o : Option (AV × HE × Nat)} (h : isTrue o = true) : ∃ H nx, o = some (.v (.bool true), H, nx) := by
  unfold isTrue at h
  cases o with
  | none => cases h
  | some p =>
    obtain ⟨z, H, nx⟩ := p
    cases z with
    | v u => cases u with
      | bool b => simp only at h; subst h; exact ⟨H, nx, rfl⟩
      | _ => cases h
    | _ => cases h

theorem rest_wp {G : Cfg} (ha : AnyOk G) {call : CallE} (hc : CallOk G.P call) {fn : Func} {fuel f : Nat} {c : Code} {t : T3} {a : Act} {w : World} (ht : ∀ i x, i < 512 → tget t i = some x → ∃ y, a.tmps[i]? = some y ∧ x = .v y) (hdf : a.defers = []) (hsz : fn.ntmps ≤ a.tmps.size)
    (h : isTrue ((codeC G f fn.ntmps fuel c).run call (endE G.P (resC G.P fn.results.toList).run) (fun _ _ _ _ _ => none) (endE G.P (resC G.P fn.results.toList).run) t [] [] 0) = true) :
    c.wp G.P (bodyPost G.P fn fun e w' => e = .returned (.bool true) ∧ Below w.heap.size w w') a w := by
  obtain ⟨H', nx', h⟩ := isTrue_run h
  let M : Mem := fun _ => none
  let I : Nat → Nat → Prop := fun _ _ => False
  let ρ : Nm := fun _ => none
  let s0 : St := { n := a.tmps.size, t := fun i => if i < 512 then tget t i else none, L := fun _ => none, H := M }
  have hRl : Rl ⟨G.P, w, M, I⟩ I s0 a w :=
    { df := hdf, sz := rfl
      tm := fun i x hx => by
        have hx : (if i < 512 then tget t i else none) = some x := hx
        split at hx
        · rename_i hi
          obtain ⟨y, h1, rfl⟩ := ht i x hi hx
          exact ⟨y, h1, .v y⟩
        · cases hx
      mL := fun k r ob hk => by cases hk
      inj := fun k k' r ob ob' hk => by cases hk
      mH := fun r ob hr => by cases hr
      rd := fun r o hi => hi.elim
      i1 := fun _ _ => id, i2 := fun _ _ => .inl, hs := Nat.le_refl _, sh := .refl _
      fr := fun b _ h0 => ⟨h0, rfl⟩ }
  have hRen : RenS ρ t [] [] 0 s0 :=
    { t := fun i x hi hx => by
        obtain ⟨y, h1, rfl⟩ := ht i x hi hx
        exact ⟨.v y, .v y, by show (if i < 512 then tget t i else none) = _; rw [if_pos hi]; exact hx⟩
      L := fun k m ob hk => by cases hk
      H1 := fun m ob hm => by cases hm
      H2 := fun r ob hr => by cases hr
      inj := fun m m' r h1 => absurd rfl h1
      nx := fun m r hr => by cases hr }
  have hE : KOk ⟨G.P, w, M, I⟩ fn.ntmps ⟨0, ρ⟩ (endE G.P (resC G.P fn.results.toList).run) (.v (.bool true), H', nx') (fun a w' => a.defers = [] ∧ ∃ v, (results fn a.tmps).run G.P w' = .ok v w' ∧
      (fun e w' => e = .returned (.bool true) ∧ Below w.heap.size w w') (Ending.returned v) w') := by
    intro t L H1 nx1 a w' ⟨ρ1, st, I1, hρ, hs, hr, _⟩ hk
    unfold endE at hk
    obtain ⟨zs, zs', vs, k1, k2, k3, k4⟩ := resC_run hs hr hk
    obtain ⟨y, y', L', st', I2, g1, g2, g3, g4, g5, g6, g7⟩ := pubE_run hs hr (oneOrMore_ren k1) (oneOrMore_R k2) k4
    simp only [Option.some.injEq, Prod.mk.injEq] at g6
    obtain ⟨rfl, rfl, rfl⟩ := g6
    cases g4
    generalize hq : (if h : vs.length = 1 then vs[0]'(by omega) else Value.tuple vs.toArray) = q at g5
    cases g5
    refine ⟨hr.df, _, run_results k3, ?_, ⟨g2.sh.env.os, g2.sh.env.tape, g2.sh.env.output, g2.hs, fun k hk => (g2.fr k hk rfl).2⟩⟩
    rw [hq]
  exact codeC_run ha hc c ⟨ρ, s0, I, .refl 0 ρ, hRen, hRl, hsz⟩ hE (fun id t L H nx a w hs h => by cases h) hE h

/-! ### Operations, one by one -/

section
variable {P : Program} {ops : Array Oper} {Q : Exit → Act → World → Prop} {i : Nat} {rest : List Nat} {a : Act} {w : World} {o : Oper}

theorem wpOps_value {v : Value} (ho : ops[i]? = some o) (hg : o.guard = none) (hr : (execOp a.eval o).run P w = .ok (.value v) w) (h : wpOps P ops Q rest (a.put o.dst v) w) : wpOps P ops Q (i :: rest) a w := by
  have hw : Region.wanted o (yielded ops a.tmps) = true := by simp [Region.wanted, hg]
  simp only [wpOps, ho, hw, if_true]
  refine .inl ?_
  unfold Oper.wp
  rw [hr]; exact h

theorem wpOps_call {f : FuncId} {fn : Func} {args : Array Operand} {ts : Array TypeId} (ho : ops[i]? = some o) (hg : o.guard = none) (hop : o.op = .call ⟨.value (.func f), args, ts⟩)
    (hf : P.funcs[f]? = some fn) (hn : (fn.name == "runtime.NumGoroutine") = false) (hb : fn.body.isNone = false) (h : Calls P f (args.map a.eval) w fun e w' => ∃ v, e = .returned v ∧ wpOps P ops Q rest (a.put o.dst v) w') : wpOps P ops Q (i :: rest) a w := by
  have hw : Region.wanted o (yielded ops a.tmps) = true := by simp [Region.wanted, hg]
  simp only [wpOps, ho, hw, if_true]
  refine .inl ?_
  unfold Oper.wp
  rw [run_call (ca := #[]) hf hn hb a.eval (x := .func f) rfl o args ts hop, Oper.upon_enter]
  have h' : Calls P f (args.map a.eval ++ #[]) w fun e w' => ∃ v, e = .returned v ∧ wpOps P ops Q rest (a.put o.dst v) w' := by simpa using h
  refine h'.mono fun e w' ⟨v, he, hk⟩ => ?_
  subst he; exact hk

theorem put_get {d : Nat} {v : Value} {j : Nat} (hd : d < a.tmps.size) : (a.put (some d) v).tmps[j]? = if d = j then some v else a.tmps[j]? := by
  show (a.tmps.setIfInBounds d v)[j]? = _
  by_cases e : d = j
  · subst e; rw [if_pos rfl, Array.getElem?_setIfInBounds_self_of_lt hd]
  · rw [if_neg e, Array.getElem?_setIfInBounds_ne e]
theorem put_size {d : Option Nat} {v : Value} : (a.put d v).tmps.size = a.tmps.size := by cases d <;> simp [Act.put]
theorem put_defers {d : Option Nat} {v : Value} : (a.put d v).defers = a.defers := by cases d <;> rfl
theorem eval_tmp {j : Nat} {v : Value} (h : a.tmps[j]? = some v) : a.eval (.tmp j) = v := by
  simp [Act.eval, h]

end
end Go.Am
