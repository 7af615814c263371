/- Regions that draw: one operation, among blocks that others do not know. -/
import Derived.Test.YtmmmdpobealcdaaGreatDoorC1
set_option linter.unusedVariables false
set_option linter.unusedSimpArgs false
namespace Go.Am
open Go

/-! ### Temporaries -/

def dput (d : Option Tmp) (t : T3) (y : AV) : T3 := match d with | none => t | some i => tput t i y
def tputs (t : T3) : List (RO × AV) → T3
  | [] => t
  | e :: r => tputs (dput e.1.o.dst t e.2) r
def sel (ls : Nat) (hs : List (RO × AV)) : List (RO × AV) := hs.filter fun e => hasM ls e.1.i

/-- Temporaries that the tree has. -/
def Low (hs : List (RO × AV)) : Prop := ∀ e ∈ hs, ∀ i, e.1.o.dst = some i → i < 512
/-- Each has its own. -/
def Apart (hs : List (RO × AV)) : Prop := hs.Pairwise fun x y => ∀ i, x.1.o.dst = some i → y.1.o.dst ≠ some i

theorem tputs_append (t : T3) (xs ys : List (RO × AV)) : tputs t (xs ++ ys) = tputs (tputs t xs) ys := by
  induction xs generalizing t with
  | nil => rfl
  | cons x xs ih => exact ih _

theorem dput_get {d : Option Tmp} {t : T3} {y : AV} {j : Nat} (hd : ∀ i, d = some i → i < 512) (hj : j < 512) : tget (dput d t y) j = if d = some j then some y else tget t j := by
  cases d with
  | none => rw [if_neg (by simp)]; rfl
  | some i =>
    show tget (tput t i y) j = _
    rw [tget_tput _ _ _ _ (hd i rfl) hj]
    by_cases e : j = i
    · rw [if_pos e, if_pos (by rw [e])]
    · rw [if_neg e, if_neg (by simpa using Ne.symm e)]

theorem tputs_none {hs : List (RO × AV)} (hl : Low hs) {j : Nat} (hj : j < 512) (h : ∀ e ∈ hs, e.1.o.dst ≠ some j) : ∀ t, tget (tputs t hs) j = tget t j := by
  induction hs with
  | nil => intro t; rfl
  | cons e hs ih =>
    intro t
    show tget (tputs (dput e.1.o.dst t e.2) hs) j = _
    rw [ih (fun e' he' => hl e' (List.mem_cons_of_mem _ he')) (fun e' he' => h e' (List.mem_cons_of_mem _ he')), dput_get (hl e (List.mem_cons_self ..)) hj, if_neg (h e (List.mem_cons_self ..))]

theorem tputs_some {hs : List (RO × AV)} (hl : Low hs) (ha : Apart hs) {e : RO × AV} (he : e ∈ hs) {j : Nat} (hd : e.1.o.dst = some j) : ∀ t, tget (tputs t hs) j = some e.2 := by
  have hj : j < 512 := hl e he j hd
  induction hs with
  | nil => cases he
  | cons e' hs ih =>
    intro t
    have hl' : Low hs := fun e' he' => hl e' (List.mem_cons_of_mem _ he')
    show tget (tputs (dput e'.1.o.dst t e'.2) hs) j = _
    cases ha with
    | cons h1 h2 =>
      rcases List.mem_cons.1 he with rfl | he
      · rw [tputs_none hl' hj (fun e' he' => h1 e' he' j hd), dput_get (hl _ (List.mem_cons_self ..)) hj, if_pos hd]
      · exact ih hl' h2 he _

theorem sel_sub (ls : Nat) (hs : List (RO × AV)) : (sel ls hs).Sublist hs := List.filter_sublist
theorem mem_sel {ls : Nat} {hs : List (RO × AV)} {e : RO × AV} : e ∈ sel ls hs ↔ e ∈ hs ∧ hasM ls e.1.i = true := List.mem_filter
theorem Low.sel {hs : List (RO × AV)} (h : Low hs) (ls : Nat) : Low (sel ls hs) := fun e he => h e (mem_sel.1 he).1
theorem Apart.sel {hs : List (RO × AV)} (h : Apart hs) (ls : Nat) : Apart (sel ls hs) := h.sublist (sel_sub ls hs)

/-- What stands in a temporary depends on who has written it. -/
theorem tputs_same {xs ys : List (RO × AV)} (hx : Low xs) (hy : Low ys) (ax : Apart xs) (ay : Apart ys) {j : Nat} (hj : j < 512) (h : ∀ e : RO × AV, e.1.o.dst = some j → (e ∈ xs ↔ e ∈ ys)) (t : T3) :
    tget (tputs t xs) j = tget (tputs t ys) j := by
  by_cases he : ∃ e ∈ xs, e.1.o.dst = some j
  · obtain ⟨e, he, hd⟩ := he
    rw [tputs_some hx ax he hd, tputs_some hy ay ((h e hd).1 he) hd]
  · have h1 : ∀ e ∈ xs, e.1.o.dst ≠ some j := fun e hx hd => he ⟨e, hx, hd⟩
    have h2 : ∀ e ∈ ys, e.1.o.dst ≠ some j := fun e hy hd => he ⟨e, (h e hd).2 hy, hd⟩
    rw [tputs_none hx hj h1, tputs_none hy hj h2]

/-! ### Operations depend on their operands alone -/

theorem rawC_cg (G : Cfg) (fn : FuncId) (o : Oper) {t t' : T3} (h : ∀ x ∈ o.op.operands.toList, Ag t t' x) (call : CallE) : (rawC G fn o).run call t = (rawC G fn o).run call t' := by
  have hp : (plainC G fn o).run call t = (plainC G fn o).run call t' := by
    show (opC (G.hp fn (o.dst.getD 0)) (G.lm fn (o.dst.getD 0)) G.P o).run t = (opC (G.hp fn (o.dst.getD 0)) (G.lm fn (o.dst.getD 0)) G.P o).run t'
    exact opC_cg _ _ _ _ t t' h
  unfold rawC
  split
  · rename_i c hc
    obtain ⟨callee, args, ts⟩ := c
    unfold valueC
    cases callee with
    | value f =>
      have hf : Ag t t' f := h f (by rw [hc]; simp [Op.operands, Call.operands])
      have ha : ∀ x ∈ args.toList, Ag t t' x := fun x hx => h x (by rw [hc]; simp only [Op.operands, Call.operands]; simp; exact .inr (by simpa using hx))
      show (callC G.P f args.toList).run call t = (callC G.P f args.toList).run call t'
      unfold callC
      cases calleeOf f with
      | some g =>
        funext L H nx K
        show (argsC args.toList).run t _ = (argsC args.toList).run t' _
        rw [argsC_cg ha]
      | none =>
        funext L H nx K
        show (avC f).run t (fun fv => asFunc fv fun g cs => (argsC args.toList).run t fun xs => goE G.P g (appR xs cs) call L H nx K) = (avC f).run t' (fun fv => asFunc fv fun g cs => (argsC args.toList).run t' fun xs => goE G.P g (appR xs cs) call L H nx K)
        rw [argsC_cg ha, avC_cg hf]
    | builtin b => exact hp
    | invoke x m => exact hp
  · exact hp

/-! ### Blocks that are apart -/

theorem names_inj {pd : Pend} (hn : pd.Pairwise fun p q => p.2.1 ≠ q.2.1) {p q : Nat × (Nat × Obj)} (hp : p ∈ pd) (hq : q ∈ pd) (h : p.2.1 = q.2.1) : p = q := by
  induction pd with
  | nil => cases hp
  | cons z pd ih =>
    cases hn with
    | cons h1 h2 =>
      rcases List.mem_cons.1 hp with rfl | hp'
      · rcases List.mem_cons.1 hq with rfl | hq'
        · rfl
        · exact absurd h (h1 q hq')
      · rcases List.mem_cons.1 hq with rfl | hq'
        · exact absurd h.symm (h1 p hp')
        · exact ih h2 hp' hq'

theorem RenH.newAt {ρ : Nm} {H H' : HE} {nx : Nat} {M : Mem} (h : RenH ρ H nx M) {m b : Nat} {ob ob' : Obj} (hm : ρ m = none) (hlt : m < nx) (hb : M b = none) (ho : RenOb ρ ob ob') (hH : ∀ k, aget k H' = if k = m then some ob else aget k H) :
    RenH (ρ.with m b) H' nx (upd M b (some ob')) := by
  have hle : Nm.le ρ (ρ.with m b) := fun k r hr => by
    unfold Nm.with
    by_cases e : k = m
    · rw [e, hm] at hr; cases hr
    · rw [if_neg e]; exact hr
  have hwith : ∀ {k r}, k ≠ m → (ρ.with m b) k = some r → ρ k = some r := fun {k r} e hr => by unfold Nm.with at hr; rwa [if_neg e] at hr
  have hne : ∀ {k r ob2}, aget k H = some ob2 → ρ k = some r → r ≠ b := fun {k r ob2} hk hr e => by
    obtain ⟨r', ob3, h3, _, h5⟩ := h.H1 k ob2 hk
    rw [hr] at h3
    obtain rfl : r = r' := by simpa using h3
    rw [e, hb] at h5
    cases h5
  exact {
    H1 := fun k ob2 hk => by
      rw [hH] at hk
      by_cases e : k = m
      · rw [if_pos e] at hk
        cases hk
        exact ⟨b, ob', by rw [e]; exact Nm.with_self _ _ _, ho.mono hle, upd_same _ _ _⟩
      · rw [if_neg e] at hk
        obtain ⟨r, ob3, h3, h4, h5⟩ := h.H1 k ob2 hk
        exact ⟨r, ob3, hle _ _ h3, h4.mono hle, by rw [upd_ne _ _ _ _ (hne hk h3)]; exact h5⟩
    H2 := fun r ob2 h2 => by
      by_cases e : r = b
      · exact ⟨m, ob, by rw [e]; exact Nm.with_self _ _ _, by rw [hH, if_pos rfl]⟩
      · rw [upd_ne _ _ _ _ e] at h2
        obtain ⟨k, ob3, h3, h4⟩ := h.H2 r ob2 h2
        have hk : k ≠ m := fun e => by rw [e, hm] at h3; cases h3
        exact ⟨k, ob3, hle _ _ h3, by rw [hH, if_neg hk]; exact h4⟩
    inj := fun k k' r h1 h2 h3 h4 => by
      rw [hH] at h1 h2
      by_cases e1 : k = m
      · by_cases e2 : k' = m
        · rw [e1, e2]
        · rw [if_neg e2] at h2
          cases hk : aget k' H with
          | none => exact absurd hk h2
          | some ob2 =>
            have h5 := hne hk (hwith e2 h4)
            rw [e1, Nm.with_self] at h3
            exact absurd (by simpa using h3.symm) h5
      · rw [if_neg e1] at h1
        by_cases e2 : k' = m
        · cases hk : aget k H with
          | none => exact absurd hk h1
          | some ob2 =>
            have h5 := hne hk (hwith e1 h3)
            rw [e2, Nm.with_self] at h4
            exact absurd (by simpa using h4.symm) h5
        · rw [if_neg e2] at h2
          exact h.inj k k' r h1 h2 (hwith e1 h3) (hwith e2 h4)
    nx := fun k r hr => by
      by_cases e : k = m
      · rw [e]; exact hlt
      · exact h.nx k r (hwith e hr) }

section
variable {C : Ctx} {ρ : Nm} {t : T3} {H : HE} {nx : Nat} {st : St} {a : Act} {w : World} {I : Nat → Nat → Prop} {pd : Pend} {ls B : Nat}

/-- What is known of the names of the blocks that are apart. -/
def PdOk (ρ : Nm) (ls : Nat) (H : HE) (nx : Nat) (pd : Pend) : Prop := ∀ p ∈ pd, aget p.2.1 H = none ∧ p.2.1 < nx ∧ (hasM ls p.1 = false → ρ p.2.1 = none)

theorem flush_small (hn : pd.Pairwise fun p q => p.2.1 ≠ q.2.1) (hp : PdOk ρ ls H nx pd) (hB : ∀ k, hasM B k = true → hasM ls k = true) {m : Nat} {ob : Obj} (h : aget m (flushE B pd H) = some ob) :
    aget m (flushE ls pd H) = some ob ∧ ∀ p ∈ pd, p.2.1 = m → hasM B p.1 = true := by
  by_cases he : ∃ p ∈ pd, p.2.1 = m
  · obtain ⟨p, hpd, rfl⟩ := he
    cases hb : hasM B p.1 with
    | true =>
      have h1 := flushE_mem (H := H) hn hpd hb
      rw [h] at h1
      cases h1
      exact ⟨flushE_mem hn hpd (hB _ hb), fun q hq e => by rw [names_inj hn hq hpd e]; exact hb⟩
    | false =>
      rw [flushE_other (fun q hq hqb e => by rw [names_inj hn hq hpd e, hb] at hqb; cases hqb), (hp p hpd).1] at h
      cases h
  · have hno : ∀ p ∈ pd, p.2.1 ≠ m := fun p hpd e => he ⟨p, hpd, e⟩
    rw [flushE_other fun p hpd _ => hno p hpd] at h
    exact ⟨by rw [flushE_other fun p hpd _ => hno p hpd]; exact h, fun p hpd e => absurd e (hno p hpd)⟩

theorem flush_big (hn : pd.Pairwise fun p q => p.2.1 ≠ q.2.1) (hp : PdOk ρ ls H nx pd) (hB : ∀ k, hasM B k = true → hasM ls k = true) {m : Nat} {ob : Obj} (h : aget m (flushE ls pd H) = some ob)
    (hno : ∀ p ∈ pd, p.2.1 = m → hasM ls p.1 = true → hasM B p.1 = true) : aget m (flushE B pd H) = some ob := by
  by_cases he : ∃ p ∈ pd, p.2.1 = m
  · obtain ⟨p, hpd, rfl⟩ := he
    cases hb : hasM ls p.1 with
    | true =>
      have h1 := flushE_mem (H := H) hn hpd hb
      rw [h] at h1
      cases h1
      exact flushE_mem hn hpd (hno p hpd rfl hb)
    | false =>
      rw [flushE_other (fun q hq hqb e => by rw [names_inj hn hq hpd e, hb] at hqb; cases hqb), (hp p hpd).1] at h
      cases h
  · have hno : ∀ p ∈ pd, p.2.1 ≠ m := fun p hpd e => he ⟨p, hpd, e⟩
    rw [flushE_other fun p hpd _ => hno p hpd] at h
    rw [flushE_other fun p hpd _ => hno p hpd]; exact h

/-- An operation sees a part of the blocks only; the others are left alone. -/
theorem drop_run {G : Cfg} {w0 : World} {H0 : Mem} {I0 : Nat → Nat → Prop} {n : Nat} {call : CallE} (hc : CallOk G.P call) (hs : RenS ρ t [] (flushE ls pd H) nx st) (hr : Rl ⟨G.P, w0, H0, I0⟩ I st a w) (hst : n ≤ st.n)
    (hn : pd.Pairwise fun p q => p.2.1 ≠ q.2.1) (hp : PdOk ρ ls H nx pd) (hB : ∀ k, hasM B k = true → hasM ls k = true) {fn : FuncId} {o : Oper} {y : AV} {H' : HE} {nx' : Nat}
    (h : (rawC G fn o).run call t [] (flushE B pd H) nx some3 = some (y, H', nx')) {next : Act → World → Prop} {Q : Exit → Act → World → Prop}
    (hk : ∀ (ρ' : Nm) (I' : Nat → Nat → Prop) (y' : AV) (c : Value) (w' : World) (st' : St), Up nx ρ nx' ρ' → RenS ρ' t [] (flushE ls (keepE B pd) H') nx' st' → Rl ⟨G.P, w0, H0, I0⟩ I' st' a w' → st'.n = st.n → Ren ρ' (.one y y') → R G.P I' w' (.val y' c) →
      PdOk ρ' ls H' nx' (keepE B pd) → next (a.put o.dst c) w') : o.wp G.P a w next Q := by
  classical
  let Dn : Nat → Prop := fun b => ∃ p ∈ pd, hasM ls p.1 = true ∧ hasM B p.1 = false ∧ ρ p.2.1 = some b
  let M : Mem := fun b => if Dn b then none else st.H b
  have hM : ∀ {b ob}, M b = some ob → ¬ Dn b ∧ st.H b = some ob := fun {b ob} hb => by
    by_cases e : Dn b
    · have : M b = none := if_pos e
      rw [this] at hb; cases hb
    · have : M b = st.H b := if_neg e
      exact ⟨e, this ▸ hb⟩
  have hMD : ∀ {b}, Dn b → M b = none := fun e => if_pos e
  have hMn : ∀ {b}, st.H b = none → M b = none := fun {b} e => by
    cases hq : M b with
    | none => rfl
    | some ob => rw [(hM hq).2] at e; cases e
  -- a block that is dropped
  have hDn : ∀ {b}, Dn b → ∃ p ∈ pd, hasM ls p.1 = true ∧ hasM B p.1 = false ∧ ρ p.2.1 = some b ∧ aget p.2.1 (flushE ls pd H) = some p.2.2 ∧ ∃ ob', RenOb ρ p.2.2 ob' ∧ st.H b = some ob' := fun {b} ⟨p, h1, h2, h3, h4⟩ => by
    have h5 := flushE_mem (H := H) hn h1 h2
    obtain ⟨r, ob', g1, g2, g3⟩ := hs.H1 _ _ h5
    rw [h4] at g1
    cases g1
    exact ⟨p, h1, h2, h3, h4, h5, ob', g2, g3⟩
  have hRenH : RenH ρ (flushE B pd H) nx M := {
    H1 := fun m ob hm => by
      obtain ⟨h1, h2⟩ := flush_small hn hp hB hm
      obtain ⟨r, ob', g1, g2, g3⟩ := hs.H1 m ob h1
      have hnd : ¬ Dn r := fun hd => by
        obtain ⟨p, k1, k2, k3, k4, k5, _⟩ := hDn hd
        have := hs.inj _ _ _ (by rw [k5]; simp) (by rw [h1]; simp) k4 g1
        rw [h2 p k1 this] at k3; cases k3
      exact ⟨r, ob', g1, g2, by show (if Dn r then none else st.H r) = _; rw [if_neg hnd]; exact g3⟩
    H2 := fun r ob' hb => by
      obtain ⟨h1, h2⟩ := hM hb
      obtain ⟨m, ob, g1, g2⟩ := hs.H2 r ob' h2
      refine ⟨m, ob, g1, flush_big hn hp hB g2 fun p hpd e hl => ?_⟩
      cases hb : hasM B p.1 with
      | true => rfl
      | false => exact absurd ⟨p, hpd, hl, hb, e ▸ g1⟩ h1
    inj := fun m m' r h1 h2 h3 h4 => by
      refine hs.inj m m' r ?_ ?_ h3 h4
      · cases hq : aget m (flushE B pd H) with
        | none => exact absurd hq h1
        | some ob => rw [(flush_small hn hp hB hq).1]; simp
      · cases hq : aget m' (flushE B pd H) with
        | none => exact absurd hq h2
        | some ob => rw [(flush_small hn hp hB hq).1]; simp
    nx := hs.nx }
  have hs0 : RenS ρ t [] (flushE B pd H) nx { st with L := fun _ => none, H := M } := { hRenH with t := hs.t, L := fun k m ob hk => by cases hk }
  have hr0 : Rl ⟨G.P, w, M, I⟩ I { st with L := fun _ => none, H := M } a w := {
    df := hr.df, sz := hr.sz, tm := hr.tm
    mL := fun k r ob hk => by cases hk
    inj := fun k k' r ob ob' hk => by cases hk
    mH := fun r ob hb => hr.mH r ob (hM hb).2
    rd := hr.rd, i1 := fun _ _ => id, i2 := fun _ _ => .inl, hs := Nat.le_refl _, sh := .refl _, fr := fun b _ h0 => ⟨h0, rfl⟩ }
  refine rawC_run (ρ0 := ⟨nx, ρ⟩) (n := n) (K := some3) (r := (y, H', nx')) hc ⟨ρ, _, I, Up.refl nx ρ, hs0, hr0, hst⟩ ?_ h
  intro ρ' st' I' y1 y' c L1 H1 nx1 w' hup hs' hr' hn' hy hv hk1
  obtain ⟨rfl, he⟩ := some3_run hk1
  cases he
  -- what was dropped comes back
  let M' : Mem := fun b => if Dn b then st.H b else st'.H b
  have hlt : ∀ {b}, Dn b → b < w.heap.size := fun hd => by
    obtain ⟨p, _, _, _, _, _, ob', _, g⟩ := hDn hd
    exact (hr.mH _ _ g).1.lt
  have hgone : ∀ {b}, Dn b → st'.H b = none := fun hd => (hr'.fr _ (hlt hd) (hMD hd)).1
  have hI : ∀ b o, I b o → I' b o := hr'.i1
  have hfree : ∀ {b o}, I b o → M b = none := fun {b o} hi => by
    cases hq : M b with
    | none => rfl
    | some ob => exact absurd hi ((hr.mH b ob (hM hq).2).2 o)
  have hc' : ∀ b o, I b o → w'.cell? ⟨b, o, none⟩ = w.cell? ⟨b, o, none⟩ := fun b o hi => cell_same (hr'.fr b (hr.rd.lt hi) (hfree hi)).2 o
  have hM'1 : ∀ {b}, Dn b → M' b = st.H b := fun e => if_pos e
  have hM'2 : ∀ {b}, ¬ Dn b → M' b = st'.H b := fun e => if_neg e
  have hm : MemR G.P I' w' M' := fun b ob hb => by
    by_cases e : Dn b
    · rw [hM'1 e] at hb
      obtain ⟨g1, g2⟩ := hr.mH b ob hb
      refine ⟨g1.mono (hr'.fr b (hlt e) (hMD e)).2 hI hc' hr'.sh, fun o hi => ?_⟩
      rcases hr'.i2 b o hi with hi | hi | ⟨hi, _⟩
      · exact g2 o hi
      · exact absurd hi (Nat.not_le.2 (hlt e))
      · exact hi (hMD e)
    · rw [hM'2 e] at hb
      exact hr'.mH b ob hb
  have hr2 := hr.called (H' := M') hI (fun b o hi => by
      rcases hr'.i2 b o hi with hi | hi | ⟨hi, hi'⟩
      · exact .inl hi
      · exact .inr (.inl hi)
      · have hi : M b ≠ none := hi
        cases hq : M b with
        | none => exact absurd hq hi
        | some ob =>
          obtain ⟨g1, g2⟩ := hM hq
          exact .inr (.inr ⟨by rw [g2]; simp, by rw [hM'2 g1]; exact hi'⟩)) hr'.rd hm hr'.hs hr'.sh (fun b hb h0 => by
      obtain ⟨g1, g2⟩ := hr'.fr b hb (hMn h0)
      refine ⟨?_, g2⟩
      by_cases e : Dn b
      · rw [hM'1 e]; exact h0
      · rw [hM'2 e]; exact g1)
  have hpd' : PdOk ρ' ls H' nx' (keepE B pd) := fun p hpk => by
    obtain ⟨hpd, hpb⟩ := mem_keepE.1 hpk
    obtain ⟨g1, g2, g3⟩ := hp p hpd
    have g4 : hasM ls p.1 = false → ρ' p.2.1 = none := fun hl => (hup.ext _ g2).trans (g3 hl)
    refine ⟨?_, Nat.lt_of_lt_of_le g2 hup.ge, g4⟩
    cases hq : aget p.2.1 H' with
    | none => rfl
    | some ob =>
      exfalso
      obtain ⟨r, ob', k1, k2, k3⟩ := hs'.H1 _ _ hq
      cases hl : hasM ls p.1 with
      | false => rw [g4 hl] at k1; cases k1
      | true =>
        obtain ⟨r0, ob0, j1, j2, j3⟩ := hs.H1 _ _ (flushE_mem (H := H) hn hpd hl)
        have hd : Dn r0 := ⟨p, hpd, hl, hpb, j1⟩
        have := hup.le _ _ j1
        rw [k1] at this
        obtain rfl : r = r0 := by simpa using this
        rw [hgone hd] at k3; cases k3
  have hn2 : (keepE B pd).Pairwise fun p q => p.2.1 ≠ q.2.1 := hn.sublist (keepE_sub B pd)
  -- where a block of the new blocks comes from
  have hcase : ∀ {m ob}, aget m (flushE ls (keepE B pd) H') = some ob → (∃ b, Dn b ∧ ρ m = some b ∧ aget m (flushE ls pd H) = some ob) ∨ aget m H' = some ob := fun {m ob} hm => by
    by_cases he : ∃ p ∈ keepE B pd, hasM ls p.1 = true ∧ p.2.1 = m
    · obtain ⟨p, hpk, hl, rfl⟩ := he
      obtain ⟨hpd, hpb⟩ := mem_keepE.1 hpk
      rw [flushE_mem hn2 hpk hl] at hm
      cases hm
      have h5 := flushE_mem (H := H) hn hpd hl
      obtain ⟨r, ob', g1, g2, g3⟩ := hs.H1 _ _ h5
      exact .inl ⟨r, ⟨p, hpd, hl, hpb, g1⟩, g1, h5⟩
    · rw [flushE_other fun p hpk hl e => he ⟨p, hpk, hl, e⟩] at hm
      exact .inr hm
  have hRen2 : RenH ρ' (flushE ls (keepE B pd) H') nx' M' := {
    H1 := fun m ob hm => by
      rcases hcase hm with ⟨b, hd, h1, h2⟩ | h1
      · obtain ⟨r, ob', g1, g2, g3⟩ := hs.H1 _ _ h2
        rw [h1] at g1
        cases g1
        exact ⟨b, ob', hup.le _ _ h1, g2.mono hup.le, by rw [hM'1 hd]; exact g3⟩
      · obtain ⟨r, ob', g1, g2, g3⟩ := hs'.H1 _ _ h1
        have hnd : ¬ Dn r := fun hd => by rw [hgone hd] at g3; cases g3
        exact ⟨r, ob', g1, g2, by rw [hM'2 hnd]; exact g3⟩
    H2 := fun r ob' hb => by
      by_cases e : Dn r
      · obtain ⟨p, k1, k2, k3, k4, k5, _⟩ := hDn e
        exact ⟨p.2.1, p.2.2, hup.le _ _ k4, flushE_mem hn2 (mem_keepE.2 ⟨k1, k3⟩) k2⟩
      · rw [hM'2 e] at hb
        obtain ⟨m, ob, g1, g2⟩ := hs'.H2 _ _ hb
        exact ⟨m, ob, g1, by rw [flushE_other fun p hpk _ e => by rw [← e, (hpd' p hpk).1] at g2; cases g2]; exact g2⟩
    inj := fun m m' r h1 h2 h3 h4 => by
      cases hq : aget m (flushE ls (keepE B pd) H') with
      | none => exact absurd hq h1
      | some ob => cases hq' : aget m' (flushE ls (keepE B pd) H') with
        | none => exact absurd hq' h2
        | some ob' =>
          have mixed : ∀ {m m' ob ob'}, (∃ b, Dn b ∧ ρ m = some b ∧ aget m (flushE ls pd H) = some ob) → aget m' H' = some ob' → ρ' m = some r → ρ' m' = some r → False := fun {m m' ob ob'} ⟨b, hd, k1, k2⟩ k3 k4 k5 => by
            have := hup.le _ _ k1
            rw [k4] at this
            obtain rfl : r = b := by simpa using this
            obtain ⟨r', ob3, g1, g2, g3⟩ := hs'.H1 _ _ k3
            rw [k5] at g1
            cases g1
            rw [hgone hd] at g3; cases g3
          rcases hcase hq with c1 | c1
          · rcases hcase hq' with c2 | c2
            · obtain ⟨b, hd, k1, k2⟩ := c1
              obtain ⟨b', hd', k1', k2'⟩ := c2
              have e1 := hup.le _ _ k1
              have e2 := hup.le _ _ k1'
              rw [h3] at e1
              rw [h4] at e2
              obtain rfl : r = b := by simpa using e1
              obtain rfl : r = b' := by simpa using e2
              exact hs.inj m m' r (by rw [k2]; simp) (by rw [k2']; simp) k1 k1'
            · exact (mixed c1 c2 h3 h4).elim
          · rcases hcase hq' with c2 | c2
            · exact (mixed c2 c1 h4 h3).elim
            · exact hs'.inj m m' r (by rw [c1]; simp) (by rw [c2]; simp) h3 h4
    nx := hs'.nx }
  exact hk ρ' I' y' c w' { st with H := M' } hup { hRen2 with t := fun i x hi hx => let ⟨z, g1, g2⟩ := hs.t i x hi hx; ⟨z, g1.mono hup.le, g2⟩, L := fun k m ob hk => by cases hk } hr2 rfl hy hv hpd'

end
end Go.Am
