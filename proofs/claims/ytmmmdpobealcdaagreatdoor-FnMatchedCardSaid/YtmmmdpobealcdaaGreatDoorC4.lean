/- Regions that draw: the steps of any order. -/
import Derived.Test.YtmmmdpobealcdaaGreatDoorC3
set_option linter.unusedVariables false
set_option linter.unusedSimpArgs false
namespace Go.Am
open Go

section
variable {S : Reg} {hist : List (RO × AV)} {suf : List RO} {ls : Nat} {H : HE} {nx : Nat} {pd : Pend} {as : List (Nat × Clo AskF)} {bs : List (Nat × Nat)} {ρ : Nm} {st : St} {I : Nat → Nat → Prop} {a : Act} {w : World}

theorem hasM_mark (ls i k : Nat) : hasM (Nat.lor ls (bitN i)) k = true ↔ hasM ls k = true ∨ i = k := by rw [hasM_or, hasM_bit]; simp
theorem hasM_mark' (ls i k : Nat) : hasM (Nat.lor ls (bitN i)) k = false ↔ hasM ls k = false ∧ i ≠ k := by rw [hasM_or, hasM_bit]; simp

theorem hist_inj' : ∀ {hist : List (RO × AV)}, (hist.Pairwise fun a b => a.1.i ≠ b.1.i) → ∀ {e e' : RO × AV}, e ∈ hist → e' ∈ hist → e.1.i = e'.1.i → e = e' := by
  intro hist
  induction hist with
  | nil => intro _ e e' he; cases he
  | cons z zs ih =>
    intro hn e e' he he' h
    cases hn with
    | cons h1 h2 =>
      rcases List.mem_cons.1 he with rfl | he1
      · rcases List.mem_cons.1 he' with rfl | he2
        · rfl
        · exact absurd h (h1 _ he2)
      · rcases List.mem_cons.1 he' with rfl | he2
        · exact absurd h.symm (h1 _ he1)
        · exact ih h2 he1 he2 h

theorem Inv.hist_inj (V : Inv S hist suf ls H nx pd as bs ρ st I a w) (hS : Stat S) {e e' : RO × AV} (he : e ∈ hist) (he' : e' ∈ hist) (h : e.1.i = e'.1.i) : e = e' := by
  have hn := hS.nodup
  rw [V.split, List.pairwise_append] at hn
  have hn1 : hist.Pairwise fun a b => a.1.i ≠ b.1.i := by have h0 := hn.1; rw [List.pairwise_map] at h0; exact h0
  exact hist_inj' hn1 he he' h

/-- What stands in the temporaries when one more is carried out. -/
theorem Inv.mark (V : Inv S hist suf ls H nx pd as bs ρ st I a w) (hS : Stat S) {x : RO} {y : AV} (hx : (x, y) ∈ hist) {j : Nat} (hj : j < 512) :
    tget (tputs S.t0 (sel (Nat.lor ls (bitN x.i)) hist)) j = if x.o.dst = some j then some y else tget (tputs S.t0 (sel ls hist)) j := by
  have hap := V.apart hS
  by_cases hd : x.o.dst = some j
  · rw [if_pos hd]
    exact tputs_some (V.low.sel _) (hap.sel _) (e := (x, y)) (mem_sel.2 ⟨hx, (hasM_mark _ _ _).2 (.inr rfl)⟩) hd _
  · rw [if_neg hd]
    refine tputs_same (V.low.sel _) (V.low.sel _) (hap.sel _) (hap.sel _) hj (fun e he => ?_) _
    rw [mem_sel, mem_sel, hasM_mark]
    refine ⟨fun ⟨h1, h2⟩ => ⟨h1, ?_⟩, fun ⟨h1, h2⟩ => ⟨h1, .inl h2⟩⟩
    rcases h2 with h2 | h2
    · exact h2
    · have := V.hist_inj hS hx h1 h2
      rw [← this] at he
      exact absurd he hd

/-- The one that has been found is carried out: the new state. -/
theorem Inv.listed (V : Inv S hist suf ls H nx pd as bs ρ st I a w) (hS : Stat S) {x : RO} {y : AV} (hx : (x, y) ∈ hist) (hE : ∀ k, hasM x.E k = true → hasM ls k = true)
    {ρ' : Nm} {st' : St} {I' : Nat → Nat → Prop} {w' : World} {y' : AV} {c : Value} (hup : S.ρ0.up nx ρ')
    (hren : RenS ρ' (tputs S.t0 (sel ls hist)) [] (flushE (Nat.lor ls (bitN x.i)) pd H) nx st') (hrl : Rl S.C I' st' a w') (hn : S.n ≤ st'.n) (hy : Ren ρ' (.one y y')) (hv : R S.G.P I' w' (.val y' c))
    (hpd : PdOk ρ' (Nat.lor ls (bitN x.i)) H nx pd) : Inv S hist suf (Nat.lor ls (bitN x.i)) H nx pd as bs ρ' (st'.put x.o.dst y') I' (a.put x.o.dst c) w' := {
  split := V.split
  lsIn := fun i hi => by
    rcases (hasM_mark _ _ _).1 hi with h | rfl
    · exact V.lsIn i h
    · exact ⟨_, hx, rfl⟩
  closed := fun z hz hi k hk => by
    refine (hasM_mark _ _ _).2 (.inl ?_)
    rcases (hasM_mark _ _ _).1 hi with h | h
    · exact V.closed z hz h k hk
    · have : x = z := idx_inj hS.nodup (V.mem hx) hz h
      exact hE k (this ▸ hk)
  hv := fun e he h3 => (hasM_mark _ _ _).2 (.inl (V.hv e he h3))
  low := V.low, lown := V.lown
  fact := fun h1 x1 y1 h2 hh hun => V.fact h1 x1 y1 h2 hh ((hasM_mark' _ _ _).1 hun).1
  hask := V.hask, hpass := V.hpass, hbs := V.hbs, pdn := V.pdn, pdx := V.pdx, pdh := V.pdh, pdo := hpd, pd0 := V.pd0, run := V.run, up := hup
  ren := { hren with
    t := fun i z hi hz => by
      rw [V.mark hS hx hi] at hz
      by_cases hd : x.o.dst = some i
      · rw [if_pos hd] at hz
        cases hz
        exact ⟨y', hy, by rw [hd]; simp [St.put]⟩
      · rw [if_neg hd] at hz
        obtain ⟨u, g1, g2⟩ := hren.t i z hi hz
        refine ⟨u, g1, ?_⟩
        cases hq : x.o.dst with
        | none => exact g2
        | some d =>
          have : i ≠ d := fun e => hd (by rw [hq, e])
          simp only [St.put, if_neg this]
          exact g2
    H1 := by
      have h1 := hren.H1
      cases x.o.dst <;> exact h1
    H2 := by
      have h1 := hren.H2
      cases x.o.dst <;> exact h1
    L := fun k m ob hk => by cases hk }
  rl := hrl.put hv x.o.dst fun i hi => Nat.lt_of_lt_of_le (V.lown _ hx i hi) hn
  n := by
    cases hq : x.o.dst with
    | none => exact hn
    | some d => exact hn }

theorem flushE_same {E E' : Nat} {pd : Pend} {H : HE} (h : ∀ p ∈ pd, hasM E p.1 = hasM E' p.1) : flushE E pd H = flushE E' pd H := by
  induction pd with
  | nil => rfl
  | cons p pd ih => rw [flushE_cons, flushE_cons, h p (List.mem_cons_self ..), ih fun q hq => h q (List.mem_cons_of_mem _ hq)]

theorem hasM_mark_ne {ls i k : Nat} (h : i ≠ k) : hasM (Nat.lor ls (bitN i)) k = hasM ls k := by rw [hasM_or, hasM_bit]; simp [h]

theorem pdok_mark {x : RO} (h : PdOk ρ ls H nx pd) : PdOk ρ (Nat.lor ls (bitN x.i)) H nx pd := fun p hp => let ⟨h1, h2, h3⟩ := h p hp; ⟨h1, h2, fun hl => h3 ((hasM_mark' _ _ _).1 hl).1⟩

theorem ag_of {t t' : T3} {S : Reg} (hS : Stat S) {x : RO} (hx : x ∈ S.xs) (h : ∀ j, j < 512 → hasM x.W j = true → tget t j = tget t' j) : ∀ z ∈ x.o.op.operands.toList, Ag t t' z := fun z hz i hi hlt => by
  subst hi
  exact h i hlt (by rw [hS.W x hx]; exact looks_op _ _ hz)
theorem gate_of {t t' : T3} {S : Reg} (hS : Stat S) {x : RO} (hx : x ∈ S.xs) (h : ∀ j, j < 512 → hasM x.W j = true → tget t j = tget t' j) : (gateC S.l x.o).run t = (gateC S.l x.o).run t' :=
  gateC_cg _ _ fun d hd hlt => h d hlt (by rw [hS.W x hx]; exact looks_guard _ _ hd)

/-- One that has been found is carried out. -/
theorem Inv.do_found (V : Inv S hist suf ls H nx pd as bs ρ st I a w) (hS : Stat S) (hc : CallOk S.G.P S.call) {Q : Exit → Act → World → Prop} {h1 : List (RO × AV)} {x : RO} {y : AV} {h2 : List (RO × AV)} (hh : hist = h1 ++ (x, y) :: h2)
    (hun : hasM ls x.i = false) (hE : ∀ k, hasM x.E k = true → hasM ls k = true) {nxt : Act → World → Prop}
    (hk : ∀ ρ' st' I' a' w', Inv S hist suf (Nat.lor ls (bitN x.i)) H nx pd as bs ρ' st' I' a' w' → nxt a' w') : wpOp S.G.P S.ops Q x.i nxt a w := by
  have hm : (x, y) ∈ hist := by rw [hh]; simp
  have hx : x ∈ S.xs := V.mem hm
  have hcc := hS.c x hx
  have hxs : S.xs = h1.map (·.1) ++ x :: (h2.map (·.1) ++ suf) := by rw [V.split, hh]; simp
  have hag : ∀ j, j < 512 → hasM x.W j = true → tget (tputs S.t0 h1) j = tget (tputs S.t0 (sel ls hist)) j := fun j hj hw => V.agree hS hh hxs hun hE hj hw
  have hgate := gate_of hS hx hag
  have hops := ag_of hS hx hag
  obtain ⟨b, f1, f2, f3⟩ := V.fact h1 x y h2 hh hun
  have hw := gateC_sound (ops := S.ops) V.ren V.rl (o := x.o) (b := b) fun yes no => by
    show (gateC S.l x.o).run _ yes no = _
    rw [← hgate]; exact f1 yes no
  -- no new block of its own
  have hfree : (∀ p ∈ pd, p.1 ≠ x.i) → flushE (Nat.lor ls (bitN x.i)) pd H = flushE ls pd H := fun h => flushE_same fun p hp => hasM_mark_ne (Ne.symm (h p hp))
  have hno : (x.c ≠ 2 ∨ y = .v undef) → ∀ p ∈ pd, p.1 ≠ x.i := fun h p hp e => by
    obtain ⟨e', he', hi, hc2, hne⟩ := V.pdh p hp
    have := V.hist_inj hS he' hm (hi.trans e)
    subst this
    rcases h with h | h
    · exact h hc2
    · exact hne h
  unfold wpOp
  rw [hS.idx x hx]
  simp only [hw]
  cases b with
  | false =>
    simp only [Bool.false_eq_true, if_false]
    have hy := f2 rfl
    subst hy
    refine hk _ _ _ _ _ (V.listed hS hm hE (y' := .v undef) V.up ?_ V.rl V.n (.v _) (.v _) (pdok_mark V.pdo))
    rw [hfree (hno (.inr rfl))]
    exact V.ren
  | true =>
    simp only [if_true]
    refine .inl ?_
    rcases f3 rfl with ⟨h01, hrun⟩ | ⟨hc2, m, ob, hpm, hrun⟩
    · -- a light one
      have hne3 : cls x.o ≠ 3 := fun h => by
        have h' := clsG_three (G := S.G) (fn := S.fn) h
        rw [← hcc] at h'
        rcases h01 with h | h <;> rw [h] at h' <;> cases h'
      have hne2 : x.c ≠ 2 := by rcases h01 with h | h <;> rw [h] <;> decide
      have hraw : (rawC S.G.heap S.fn x.o).run S.call (tputs S.t0 (sel ls hist)) [] (flushE 0 pd H) nx some3 = some (y, H, nx) := by
        rw [rawC_plain _ _ _ hne3, flushE_zero]
        show (opC true (lmH S.G S.fn x.o) S.G.P x.o).run (tputs S.t0 (sel ls hist)) [] H nx some3 = _
        rw [← opC_cg true (lmH S.G S.fn x.o) S.G.P x.o _ _ hops, hrun]; rfl
      refine drop_run (G := S.G.heap) (n := S.n) hc V.ren V.rl V.n V.pdn V.pdo (fun k hk => by rw [hasM_zero] at hk; cases hk) hraw ?_
      intro ρ' I' y' c w' st' hup hren hrl hn hy hv hpd
      rw [keepE_zero] at hren hpd
      refine hk _ _ _ _ _ (V.listed hS hm hE (V.up.trans hup) ?_ hrl (hn ▸ V.n) hy hv (pdok_mark hpd))
      rw [hfree (hno (.inl hne2))]
      exact hren
    · -- a new block
      have hrun' : (opC true .heap S.G.P x.o).run (tputs S.t0 (sel ls hist)) [] [] m some3 = some (y, [(m, ob)], Nat.succ m) := by rw [← opC_cg true .heap S.G.P x.o _ _ hops]; exact hrun
      obtain ⟨ob2, ob', mk, e1, _, rfl, hmk, hob, hop⟩ := float_sound S.G.P x.o (clsG_two (hcc ▸ hc2)) V.ren hrun'
      cases e1
      obtain ⟨g1, g2, g3⟩ := V.pdo _ hpm
      have hρm : ρ m = none := g3 hun
      obtain ⟨z, st1, I', c, w', ⟨b, hb, rfl, rfl⟩, hexec, hrl, hv, hn⟩ := opA_sound V.rl (hop (fun z st1 => ∃ b, st.H b = none ∧ z = mk b ∧ st1 = { st with H := upd st.H b (some ob') }) fun b hb => ⟨b, hb, rfl, rfl⟩)
      have hle : Nm.le ρ (ρ.with m b) := fun k r hr => by
        unfold Nm.with
        by_cases e : k = m
        · rw [e, hρm] at hr; cases hr
        · rw [if_neg e]; exact hr
      have hH : ∀ k, aget k (flushE (Nat.lor ls (bitN x.i)) pd H) = if k = m then some ob else aget k (flushE ls pd H) := fun k => by
        by_cases e : k = m
        · rw [if_pos e, e]
          exact flushE_mem V.pdn hpm ((hasM_mark _ _ _).2 (.inr rfl))
        · rw [if_neg e]
          cases hq : aget k (flushE ls pd H) with
          | some ob3 =>
            by_cases he : ∃ p ∈ pd, p.2.1 = k
            · obtain ⟨p, hp, rfl⟩ := he
              cases hl : hasM ls p.1 with
              | true =>
                rw [flushE_mem V.pdn hp hl] at hq
                rw [flushE_mem V.pdn hp ((hasM_mark _ _ _).2 (.inl hl))]; exact hq
              | false =>
                rw [flushE_other (fun q hq2 hqb e => by rw [names_inj V.pdn hq2 hp e, hl] at hqb; cases hqb), (V.pdo p hp).1] at hq
                cases hq
            · rw [flushE_other fun p hp _ e => he ⟨p, hp, e⟩] at hq ⊢
              exact hq
          | none =>
            by_cases he : ∃ p ∈ pd, p.2.1 = k
            · obtain ⟨p, hp, rfl⟩ := he
              cases hl : hasM ls p.1 with
              | true => rw [flushE_mem V.pdn hp hl] at hq; cases hq
              | false =>
                have hpx : p.1 ≠ x.i := fun e2 => by
                  have : p = (x.i, (m, ob)) := by
                    have := V.pdx
                    clear hq
                    refine Classical.byContradiction fun hne => ?_
                    have key : ∀ {pd : Pend}, (pd.Pairwise fun p q => p.1 ≠ q.1) → ∀ {p q}, p ∈ pd → q ∈ pd → p.1 = q.1 → p = q := fun {pd} => by
                      intro hn
                      induction pd with
                      | nil => intro p q hp; cases hp
                      | cons z zs ih =>
                        intro p q hp hq h
                        cases hn with
                        | cons h1 h2 =>
                          rcases List.mem_cons.1 hp with rfl | hp1
                          · rcases List.mem_cons.1 hq with rfl | hq1
                            · rfl
                            · exact absurd h (h1 _ hq1)
                          · rcases List.mem_cons.1 hq with rfl | hq1
                            · exact absurd h.symm (h1 _ hp1)
                            · exact ih h2 hp1 hq1 h
                    exact hne (key this hp hpm e2)
                  exact e (by rw [this])
                rw [flushE_other fun q hq2 hqb e3 => by
                  rw [names_inj V.pdn hq2 hp e3, hasM_mark_ne (Ne.symm hpx), hl] at hqb; cases hqb]
                exact (V.pdo p hp).1
            · rw [flushE_other fun p hp _ e => he ⟨p, hp, e⟩] at hq ⊢
              exact hq
      have hnew : nxt (a.put x.o.dst c) w' := by
        refine hk _ _ _ _ _ (V.listed hS hm hE (ρ' := ρ.with m b) ⟨V.up.le.trans hle, V.up.ge, fun k hk => ?_⟩ ?_ hrl (by rw [hn]; exact V.n) (hmk _ _ _ (Nm.with_self _ _ _)) hv ?_)
        · have : k ≠ m := fun e => by
            have := V.pd0 _ hpm
            rw [e] at hk
            exact absurd hk (Nat.not_lt.2 this)
          show (if k = m then some b else ρ k) = _
          rw [if_neg this]; exact V.up.ext k hk
        · exact { RenH.newAt V.ren.toRenH hρm g2 hb hob hH with
            t := fun i z hi hz => let ⟨u, k1, k2⟩ := V.ren.t i z hi hz; ⟨u, k1.mono hle, k2⟩
            L := fun k m ob hk => by cases hk }
        · intro p hp
          obtain ⟨k1, k2, k3⟩ := V.pdo p hp
          refine ⟨k1, k2, fun hl => ?_⟩
          obtain ⟨hl1, hl2⟩ := (hasM_mark' _ _ _).1 hl
          have : p.2.1 ≠ m := fun e => hl2 (by rw [names_inj V.pdn hp hpm e])
          show (if p.2.1 = m then some b else ρ p.2.1) = none
          rw [if_neg this]; exact k3 hl1
      unfold Oper.wp
      rcases hexec with hexec | ⟨hexec, rfl⟩
      · have hexec' : (execOp a.eval x.o).run S.G.P w = .ok (.value c) w' := hexec
        rw [hexec']; exact hnew
      · have hexec' : (execOp a.eval x.o).run S.G.P w = .ok .skip w' := hexec
        rw [hexec']; exact hnew

/-! ### A heavy one -/

theorem asksC_some {E : Nat} {as : List (Nat × Clo AskF)} {t : T3} {H : HE} {nx : Nat} (hp : ∀ p ∈ as, Pass p.2) : ∀ {K : Ans} {r : AV × HE × Nat}, (asksC E as).run t H nx K = some r → K = some r ∧ ∀ p ∈ as, hasM E p.1 = false → ∃ K', p.2.run t H nx K' = some r := by
  induction as with
  | nil => intro K r h; exact ⟨h, fun p hp => (by cases hp)⟩
  | cons a as ih =>
    intro K r h
    have ih : ∀ {K : Ans} {r : AV × HE × Nat}, (asksC E as).run t H nx K = some r → K = some r ∧ ∀ p ∈ as, hasM E p.1 = false → ∃ K', p.2.run t H nx K' = some r := ih fun p hp' => hp p (List.mem_cons_of_mem _ hp')
    have e : asksC E (a :: as) = (match hasM E a.1 with | true => asksC E as | false => ⟨fun t H nx K => a.2.run t H nx ((asksC E as).run t H nx K)⟩) := rfl
    rw [e] at h
    cases hb : hasM E a.1 with
    | true =>
      rw [hb] at h
      obtain ⟨h1, h2⟩ := ih h
      exact ⟨h1, fun p hp' hf => by
        rcases List.mem_cons.1 hp' with rfl | hp'
        · rw [hb] at hf; cases hf
        · exact h2 p hp' hf⟩
    | false =>
      rw [hb] at h
      have h' : a.2.run t H nx ((asksC E as).run t H nx K) = some r := h
      have h3 := hp a (List.mem_cons_self ..) _ _ _ _ _ h'
      obtain ⟨h1, h2⟩ := ih h3
      exact ⟨h1, fun p hp' hf => by
        rcases List.mem_cons.1 hp' with rfl | hp'
        · exact ⟨_, h'⟩
        · exact h2 p hp' hf⟩

/-- What asking again has found. -/
theorem askC_run {P : Program} {ops : List Oper} {o : Oper} {t : T3} {H : HE} {nx : Nat} {K : Ans} {r : AV × HE × Nat} (h : (askC P ops o).run t H nx K = some r) (hc : cls o = 0 ∨ cls o = 1) (hg : ∀ yes no, (gateC ops o).run t yes no = yes) :
    ∃ d v, o.dst = some d ∧ d < 512 ∧ tget t d = some v ∧ ∀ nx K, (opC true .heap P o).run t [] H nx K = K v [] H nx := by
  unfold askC at h
  cases hd : o.dst with
  | none => rw [hd] at h; cases h
  | some d =>
    rw [hd] at h
    have h' : (gateC ops o).run t (match (opC true .heap P o).run t [] H nx some3 with
      | some p => (getC d).run t fun v => bif eqAV 200 p.1 v then K else none
      | none => none) K = some r := h
    have h2 := (hg _ _).symm.trans h'
    rcases opC_lt P o hc t H with hl | ⟨y, hl⟩
    · rw [hl] at h2; cases h2
    · rw [hl] at h2
      have h3 : (getC d).run t (fun v => bif eqAV 200 y v then K else none) = some r := h2
      obtain ⟨v, h4, h5, h6⟩ := getC_run h3
      have e := eqAV_eq _ (bif_true h6).1
      subst e
      exact ⟨d, _, rfl, h4, h5, hl⟩

/-- The next heavy one. -/
theorem Inv.do_heavy {x : RO} (V : Inv S hist (x :: suf) ls H nx pd as bs ρ st I a w) (hS : Stat S) (hc : CallOk S.G.P S.call) {Q : Exit → Act → World → Prop} (h3 : x.c = 3) (hE : ∀ k, hasM x.E k = true → hasM ls k = true)
    {nxt : Act → World → Prop} (hk : ∀ hist' H' nx' pd' as' bs' ρ' st' I' a' w', Inv S hist' suf (Nat.lor ls (bitN x.i)) H' nx' pd' as' bs' ρ' st' I' a' w' → nxt a' w') : wpOp S.G.P S.ops Q x.i nxt a w := by
  have hx : x ∈ S.xs := V.mem' (List.mem_cons_self ..)
  have hun : hasM ls x.i = false := V.unl hS (List.mem_cons_self ..)
  have hxs : S.xs = hist.map (·.1) ++ x :: suf := V.split
  have hag : ∀ j, j < 512 → hasM x.W j = true → tget (tputs S.t0 hist) j = tget (tputs S.t0 (sel ls hist)) j := fun j hj hw => V.agree hS (rest := []) (by simp) hxs hun hE hj hw
  have hgate := gate_of hS hx hag
  have hops := ag_of hS hx hag
  have hrun := V.run
  rw [drawC_heavy (by rw [h3]; rfl) (by rw [h3]; rfl)] at hrun
  rcases gateC_dec S.l x.o (tputs S.t0 hist) with hg | ⟨b, hg⟩
  · have := (hg _ _).symm.trans hrun; cases this
  have hw := gateC_sound (ops := S.ops) V.ren V.rl (o := x.o) (b := b) fun yes no => by
    show (gateC S.l x.o).run _ yes no = _
    rw [← hgate]; exact hg yes no
  have hB : ∀ k, hasM (aheadM x.E bs) k = true → hasM ls k = true := fun k hk => by
    rcases aheadM_spec hk with h | ⟨p, h1, h2, h4⟩
    · exact hE k h
    · exact V.hbs p h1 (fun k => hasM ls k = true) V.closed (hE _ h2) k h4
  have hnew : ∀ e ∈ hist, e.1.i ≠ x.i := fun e he => V.new hS (List.mem_cons_self ..) he
  have hnewp : ∀ p ∈ pd, p.1 ≠ x.i := fun p hp e => by
    obtain ⟨e', he', hi, _⟩ := V.pdh p hp
    exact hnew e' he' (hi.trans e)
  -- the new state
  have fin : ∀ {y : AV} {H' : HE} {nx' : Nat} {pd' : Pend} {ρ' : Nm} {st' : St} {I' : Nat → Nat → Prop} {w' : World} {y' : AV} {c : Value}, (∀ i, x.o.dst = some i → i < S.n) → (∀ i, x.o.dst = some i → i < 512) →
      (∀ h1 x1 y1 h2, hist = h1 ++ (x1, y1) :: h2 → hasM ls x1.i = false → Fact S x1 (tputs S.t0 h1) y1 H' pd') → pd'.Sublist pd → (∀ p ∈ pd', p ∈ pd) → PdOk ρ' ls H' nx' pd' →
      (drawC S.G S.fn S.n S.l suf as ((x.i, aheadM x.E bs) :: bs)).run S.call (dput x.o.dst (tputs S.t0 hist) y) H' nx' pd' S.K = some S.r → S.ρ0.up nx' ρ' → RenS ρ' (tputs S.t0 (sel ls hist)) [] (flushE ls pd' H') nx' st' → Rl S.C I' st' a w' → S.n ≤ st'.n →
      Ren ρ' (.one y y') → R S.G.P I' w' (.val y' c) → nxt (a.put x.o.dst c) w' := by
    intro y H' nx' pd' ρ' st' I' w' y' c d1 d2 hfact hsub hsub' hpdo hrun' hup hren hrl hn hy hv
    have hmem : ∀ e ∈ hist ++ [(x, y)], e ∈ hist ∨ e = (x, y) := fun e he => by simpa using he
    -- first the canonical order goes on, then the operation is carried out
    have V1 : Inv S (hist ++ [(x, y)]) suf (Nat.lor ls (bitN x.i)) H' nx' pd' as ((x.i, aheadM x.E bs) :: bs) ρ' (st'.put x.o.dst y') I' (a.put x.o.dst c) w' := {
      split := by rw [V.split]; simp
      lsIn := fun i hi => by
        rcases (hasM_mark _ _ _).1 hi with h | rfl
        · obtain ⟨e, he, h⟩ := V.lsIn i h
          exact ⟨e, List.mem_append_left _ he, h⟩
        · exact ⟨(x, y), by simp, rfl⟩
      closed := fun z hz hi k hk => by
        refine (hasM_mark _ _ _).2 (.inl ?_)
        rcases (hasM_mark _ _ _).1 hi with h | h
        · exact V.closed z hz h k hk
        · have : x = z := idx_inj hS.nodup hx hz h
          exact hE k (this ▸ hk)
      hv := fun e he h => by
        rcases hmem e he with he | rfl
        · exact (hasM_mark _ _ _).2 (.inl (V.hv e he h))
        · exact (hasM_mark _ _ _).2 (.inr rfl)
      low := fun e he i hi => by
        rcases hmem e he with he | rfl
        · exact V.low e he i hi
        · exact d2 i hi
      lown := fun e he i hi => by
        rcases hmem e he with he | rfl
        · exact V.lown e he i hi
        · exact d1 i hi
      fact := fun h1 x1 y1 h2 hh hun1 => by
        rcases snoc_split hh with ⟨rfl, he, rfl⟩ | ⟨h4, rfl, hh'⟩
        · cases he
          rw [(hasM_mark _ _ _).2 (.inr rfl)] at hun1; cases hun1
        · exact hfact h1 x1 y1 h4 hh' ((hasM_mark' _ _ _).1 hun1).1
      hask := fun e he h1 => by
        rcases hmem e he with he | rfl
        · exact V.hask e he h1
        · rw [h3] at h1; cases h1
      hpass := V.hpass
      hbs := V.bs' hx
      pdn := V.pdn.sublist hsub
      pdx := V.pdx.sublist hsub
      pdh := fun p hp => let ⟨e, h1, h2⟩ := V.pdh p (hsub' p hp); ⟨e, List.mem_append_left _ h1, h2⟩
      pdo := pdok_mark hpdo
      pd0 := fun p hp => V.pd0 p (hsub' p hp)
      run := by rw [tputs_snoc]; exact hrun'
      up := hup
      ren := by
        have e1 : sel (Nat.lor ls (bitN x.i)) (hist ++ [(x, y)]) = sel ls hist ++ [(x, y)] := by
          unfold sel
          rw [List.filter_append]
          have e2 : hist.filter (fun e => hasM (Nat.lor ls (bitN x.i)) e.1.i) = hist.filter (fun e => hasM ls e.1.i) := List.filter_congr fun e he => hasM_mark_ne (Ne.symm (hnew e he))
          rw [e2]
          have : hasM (Nat.lor ls (bitN x.i)) x.i = true := (hasM_mark _ _ _).2 (.inr rfl)
          rw [List.filter_cons_of_pos (by exact this), List.filter_nil]
        have e3 : flushE (Nat.lor ls (bitN x.i)) pd' H' = flushE ls pd' H' := flushE_same fun p hp => hasM_mark_ne (Ne.symm (hnewp p (hsub' p hp)))
        rw [e1, tputs_snoc, e3]
        cases hq : x.o.dst with
        | none => exact hren
        | some d => exact hren.put hy (d2 d hq)
      rl := hrl.put hv x.o.dst fun i hi => Nat.lt_of_lt_of_le (d1 i hi) hn
      n := by
        cases hq : x.o.dst with
        | none => exact hn
        | some d => exact hn }
    exact hk _ _ _ _ _ _ _ _ _ _ _ V1
  unfold wpOp
  rw [hS.idx x hx]
  simp only [hw]
  rcases bif_cases ((hg _ _).symm.trans hrun) with ⟨rfl, h1⟩ | ⟨rfl, h1⟩
  · simp only [if_true]
    refine .inl ?_
    cases hq : (rawC S.G.heap S.fn x.o).run S.call (tputs S.t0 hist) [] (flushE (aheadM x.E bs) pd H) nx some3 with
    | none => rw [hq] at h1; cases h1
    | some q =>
      obtain ⟨y, H', nx'⟩ := q
      rw [hq] at h1
      obtain ⟨d1, d2, d3⟩ := dstC_run' h1
      obtain ⟨d4, d5⟩ := asksC_some V.hpass d3
      have hraw : (rawC S.G.heap S.fn x.o).run S.call (tputs S.t0 (sel ls hist)) [] (flushE (aheadM x.E bs) pd H) nx some3 = some (y, H', nx') := by rw [← rawC_cg _ _ _ hops]; exact hq
      refine drop_run (G := S.G.heap) (n := S.n) hc V.ren V.rl V.n V.pdn V.pdo hB hraw ?_
      intro ρ' I' y' c w' st' hup hren hrl hn hy hv hpd
      refine fin d1 d2 ?_ (keepE_sub _ _) (fun p hp => (mem_keepE.1 hp).1) hpd d4 (V.up.trans hup) hren hrl (hn ▸ V.n) hy hv
      intro h1 x1 y1 h2 hh hun1
      have hm1 : (x1, y1) ∈ hist := by rw [hh]; simp
      have hx1 : x1 ∈ S.xs := V.mem hm1
      have hB1 : hasM (aheadM x.E bs) x1.i = false := by
        cases hq : hasM (aheadM x.E bs) x1.i with
        | false => rfl
        | true => have := hB _ hq; rw [hun1] at this; cases this
      obtain ⟨b1, f1, f2, f3⟩ := V.fact h1 x1 y1 h2 hh hun1
      refine ⟨b1, f1, f2, fun hb => ?_⟩
      rcases f3 hb with ⟨h01, f4⟩ | ⟨hc2, m, ob, f5, f6⟩
      · refine .inl ⟨h01, ?_⟩
        rcases h01 with h0 | h0
        · rcases lightC_lp S.G S.fn x1.o (hS.c x1 hx1 ▸ h0) (tputs S.t0 h1) with hl | ⟨z, hl⟩
          · have e := f4 0 some3
            rw [hl] at e; cases e
          · have e := f4 0 some3
            rw [hl] at e
            have : z = y1 := by
              have e2 : (some (z, H, 0) : Ans) = some (y1, H, 0) := e
              simpa using e2
            subst this
            exact fun nx K => hl H' nx K
        · -- one that reads
          obtain ⟨K', hK'⟩ := d5 _ (V.hask _ hm1 h0) hB1
          -- nobody has written what it looks at
          have hlater : ∀ e ∈ (x1, y1) :: h2, offM e.1.D x1.W = true := fun e he => by
            rcases List.mem_cons.1 he with rfl | he
            · exact hS.rs x1 hx1 h0
            · exact pair_of (mid := []) hS.rp (pre := h1.map (·.1)) (suf := h2.map (·.1) ++ x :: suf) (by rw [V.split, hh]; simp) (List.mem_append_left _ (List.mem_map.2 ⟨e, he, rfl⟩)) h0
          have hxW : offM x.D x1.W = true := pair_of (mid := []) hS.rp (pre := h1.map (·.1)) (suf := h2.map (·.1) ++ x :: suf) (x := x1) (by rw [V.split, hh]; simp) (List.mem_append_right _ (List.mem_cons_self ..)) h0
          have hsame : ∀ j, j < 512 → hasM x1.W j = true → tget (tputs S.t0 h1) j = tget (dput x.o.dst (tputs S.t0 hist) y) j := fun j hj hw => by
            rw [dput_get d2 hj, if_neg fun hd => dst_look hS hx hd hw hxW, hh, tputs_append]
            exact (tputs_none (fun e he => V.low e (by rw [hh]; exact List.mem_append_right _ he)) hj (fun e he hd => dst_look hS (V.mem (by rw [hh]; exact List.mem_append_right _ he)) hd hw (hlater e he)) _).symm
          have hg1 : ∀ yes no, (gateC S.l x1.o).run (dput x.o.dst (tputs S.t0 hist) y) yes no = yes := fun yes no => by
            rw [← gate_of hS hx1 hsame, f1, hb]; rfl
          obtain ⟨d, v, k1, k2, k3, k4⟩ := askC_run hK' (.inr (clsG_one (hS.c x1 hx1 ▸ h0)).1) hg1
          have hv1 : v = y1 := by
            have hdx : x.o.dst ≠ some d := fun hd => by
              have := pair_of (mid := []) hS.dp (pre := h1.map (·.1)) (suf := h2.map (·.1) ++ x :: suf) (x := x1) (by rw [V.split, hh]; simp) (List.mem_append_right _ (List.mem_cons_self ..)) d k1
              exact this hd
            rw [dput_get d2 k2, if_neg hdx, tputs_some V.low (V.apart hS) hm1 k1] at k3
            simpa using k3.symm
          subst hv1
          intro nx K
          rw [(clsG_one (hS.c x1 hx1 ▸ h0)).2, opC_cg true .heap S.G.P x1.o _ _ (ag_of hS hx1 hsame)]
          exact k4 nx K
      · exact .inr ⟨hc2, m, ob, mem_keepE.2 ⟨f5, hB1⟩, f6⟩
  · simp only [Bool.false_eq_true, if_false]
    obtain ⟨d1, d2, d3⟩ := dstC_run' h1
    exact fin d1 d2 V.fact (.refl _) (fun p hp => hp) V.pdo d3 V.up V.ren V.rl V.n (.v undef) (.v _)

end
end Go.Am
