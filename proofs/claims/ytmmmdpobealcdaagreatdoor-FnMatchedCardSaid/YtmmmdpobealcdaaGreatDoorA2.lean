/- What an operation does to the state, as a condition on what follows it; and that the machine does so. -/
import Derived.Test.YtmmmdpobealcdaaGreatDoorA1
import GoSem.Dispatch
set_option linter.unusedVariables false
set_option linter.unusedSimpArgs false
namespace Go.Am
open Go

def ofConst : Value → AV
  | .agg cs => .agg (cs.toList.map .v)
  | x => .v x

def av (st : St) : Operand → Option AV
  | .tmp i => st.t i
  | .const c => some (ofConst c)
  | .func f => some (.v (.func (.func f) #[] #[]))
  | .global _ => none

def zeroAV (P : Program) (t : TypeId) : Option AV := ((P.info? t).bind (·.zero)).map ofConst

def isAggT (P : Program) (t : TypeId) : Option Bool :=
  match P.underlying t, P.info? t with
  | some (.struct _), some _ | some (.array _ _), some _ => some true
  | some _, some _ => some false
  | _, _ => none

/-- Where a field lies in its struct: how many cells ahead of it, how many it has. -/
def placeOf (P : Program) (f : Field) : Option (Nat × Nat) := (P.info? f.type).map fun i => (f.offset, i.size)
def places (P : Program) (t : TypeId) : Option (List (Nat × Nat)) :=
  match P.underlying t with
  | some (.struct fs) => fs.toList.mapM (placeOf P)
  | _ => none

def elemT (P : Program) (t : TypeId) : Option TypeId :=
  match P.underlying t with
  | some (.slice e) => if (P.info? e).isSome then some e else none
  | _ => none

/-- The value of a type at the head of these cells. -/
def ld (P : Program) (t : TypeId) (cells : List AV) : Option AV :=
  match isAggT P t with
  | some true => if P.cellsOf t ≤ cells.length then some (.agg (cells.take (P.cellsOf t))) else none
  | some false => cells.head?
  | none => none

def look (st : St) (k : Option Nat) (r : Nat) (K : Obj → Prop) : Prop :=
  match k with
  | some k => match st.L k with
    | some (r', ob) => r' = r ∧ K ob
    | none => False
  | none => match st.H r with
    | some ob => ob.map = none ∧ K ob
    | none => False

def St.setOb (st : St) (k : Option Nat) (r : Nat) (ob : Obj) : St :=
  match k with
  | some k => { st with L := upd st.L k (some (r, ob)) }
  | none => { st with H := upd st.H r (some ob) }

def newK (heap : Bool) (key : Nat) (st : St) (ob : Obj) (K : Option Nat → Nat → St → Prop) : Prop :=
  match heap with
  | true => ∀ r, st.H r = none → K none r { st with H := upd st.H r (some ob) }
  | false => ∀ r, K (some key) r { st with L := upd st.L key (some (r, ob)) }

def pub1K (P : Program) (st : St) (x : AV) (K : AV → St → Prop) : Prop :=
  match x with
  | .vec (some k) r n => match st.L k with
    | some (r', ob) => (r' = r ∧ n ≤ ob.xs.length) ∧ K (.list (P.cellsOf ob.elem) (ob.xs.take n)) { st with L := upd st.L k (some (r, { ob with frozen := ob.xs.length })) }
    | none => False
  | y => K y st

def pubsK (P : Program) (st : St) (xs : List AV) (K : List AV → St → Prop) : Prop :=
  match xs with
  | [] => K [] st
  | x :: xs => pub1K P st x fun y st' => pubsK P st' xs fun ys st'' => K (y :: ys) st''

/-- Slices of the call's own become lists that nobody writes any more. -/
def pubK (P : Program) (st : St) (x : AV) (K : AV → St → Prop) : Prop :=
  match x with
  | .agg cs => pubsK P st cs fun cs' st' => K (.agg cs') st'
  | .tuple cs => pubsK P st cs fun cs' st' => K (.tuple cs') st'
  | y => pub1K P st y K

section
variable {C : Ctx} {I I' : Nat → Nat → Prop} {st : St} {a : Act} {w w' : World}

theorem R.ofConst (P : Program) (I : Nat → Nat → Prop) (w : World) (x : Value) : R P I w (.val (ofConst x) x) := by
  cases x with
  | agg cs =>
    refine .agg _ _ (.vals_of (by simp) fun j x y hx hy => ?_)
    simp only [List.getElem?_map, Option.map_eq_some_iff] at hx
    obtain ⟨z, hz, rfl⟩ := hx
    rw [hz] at hy
    simp only [Option.some.injEq] at hy
    subst hy
    exact .v _
  | _ => exact .v _

theorem Rl.av (h : Rl C I st a w) {x : Operand} {z : AV} (hx : av st x = some z) : R C.P I w (.val z (a.eval x)) := by
  cases x with
  | tmp i =>
    obtain ⟨y, h1, h2⟩ := h.tm i z hx
    have : a.eval (.tmp i) = y := by simp [Act.eval, Array.getD_eq_getD_getElem?, h1]
    rw [this]; exact h2
  | const c =>
    simp only [Go.Am.av, Option.some.injEq] at hx
    subst hx
    exact .ofConst _ _ _ c
  | func f =>
    simp only [Go.Am.av, Option.some.injEq] at hx
    subst hx
    exact .v _
  | global g => cases hx

theorem R.cells_vals {P : Program} {I : Nat → Nat → Prop} {w : World} {x : AV} {y : Value} (h : R P I w (.val x y)) (h1 : ∀ c ∈ x.cells, c.one = true) : R P I w (.vals x.cells y.cells.toList) := by
  cases x with
  | agg cs => cases h with | agg _ cs h => exact h
  | tuple cs => have := h1 (.tuple cs) (by simp [AV.cells]); simp [AV.one] at this
  | _ =>
    have ho := h1 _ (List.mem_singleton.2 rfl)
    have hy := h.one ho
    have : y.cells = #[y] := by cases y <;> simp_all [Value.cells, Value.oneCell']
    rw [this]
    exact .vcons _ _ _ _ h .vnil

theorem Rl.look (h : Rl C I st a w) {k : Option Nat} {r : Nat} {K : Obj → Prop} (hl : look st k r K) : ∃ ob, K ob ∧ ObjR C.P I w r ob ∧ (∀ o, I r o → o < ob.frozen * C.P.cellsOf ob.elem) ∧
    (match k with | some k => st.L k = some (r, ob) | none => st.H r = some ob ∧ ob.map = none) := by
  unfold Go.Am.look at hl
  cases k with
  | some k =>
    simp only at hl ⊢
    cases hq : st.L k with
    | none => rw [hq] at hl; exact hl.elim
    | some p =>
      obtain ⟨r', ob⟩ := p
      rw [hq] at hl
      obtain ⟨rfl, hK⟩ := hl
      obtain ⟨h1, h2, h3, h4⟩ := h.mL k r' ob hq
      exact ⟨ob, hK, h3, h4, rfl⟩
  | none =>
    simp only at hl ⊢
    cases hq : st.H r with
    | none => rw [hq] at hl; exact hl.elim
    | some ob =>
      rw [hq] at hl
      obtain ⟨h3, h4⟩ := h.mH r ob hq
      exact ⟨ob, hl.2, h3.cells hl.1, fun o ho => (h4 o ho).elim, rfl, hl.1⟩

/-- A new block behind pointers. -/
theorem Rl.heap (h : Rl C I st a w) (c : Array Value) (e : TypeId) (xs : List AV) (var : Bool) (hl : (flat xs).length ≤ c.size) (hv : ∀ (j : Nat) (x : AV), (flat xs)[j]? = some x → ∃ y, c[j]? = some y ∧ R C.P I w (.val x y))
    (hu : ∀ x ∈ xs, x.cells.length = C.P.cellsOf e) (hp : 0 < C.P.cellsOf e) :
    Rl C I { st with H := upd st.H w.heap.size (some { elem := e, xs, var }) } a (w.alloc (.cells c e (0, 0))) := by
  have h' := h.alloc (.cells c e (0, 0))
  exact {
    df := h'.df, sz := h'.sz, tm := h'.tm, inj := h'.inj, rd := h'.rd, i1 := h'.i1, hs := h'.hs, sh := h'.sh
    mL := fun k r ob hr => by
      obtain ⟨h1, h2, h3, h4⟩ := h'.mL k r ob hr
      exact ⟨h1, by simp only [upd_ne _ _ _ _ (h.newL k r ob hr)]; exact h2, h3, h4⟩
    mH := fun r ob hr => by
      by_cases hr' : r = w.heap.size
      · subst hr'
        simp only [upd_same, Option.some.injEq] at hr
        subst hr
        refine ⟨.of_cells ⟨⟨c, push_new, hl, fun j x hx => ?_⟩, hu, hp, Nat.zero_le _⟩ rfl, fun o hi => absurd (h.rd.lt hi) (Nat.lt_irrefl _)⟩
        obtain ⟨y, h1, h2⟩ := hv j x hx
        exact ⟨y, h1, h2.mono (fun _ _ => id) (fun r o hi => cell_same (push_old (h.rd.lt hi)) o) (.alloc _ _)⟩
      · simp only [upd_ne _ _ _ _ hr'] at hr
        exact h'.mH r ob hr
    i2 := fun b o hi => by
      rcases h'.i2 b o hi with h1 | h1 | ⟨h1, h2⟩
      · exact .inl h1
      · exact .inr (.inl h1)
      · exact .inr (.inr ⟨h1, by simp only [upd_ne _ _ _ _ (Nat.ne_of_lt (h.rd.lt hi))]; exact h2⟩)
    fr := fun b hb h0 => by
      obtain ⟨h1, h2⟩ := h'.fr b hb h0
      exact ⟨by simp only [upd_ne _ _ _ _ (Nat.ne_of_lt (Nat.lt_of_lt_of_le hb h.hs))]; exact h1, h2⟩ }

theorem Rl.new (h : Rl C I st a w) {hp : Bool} {key : Nat} {K : Option Nat → Nat → St → Prop} (c : Array Value) (e : TypeId) (xs : List AV) (var : Bool) (hl : (flat xs).length ≤ c.size)
    (hv : ∀ (j : Nat) (x : AV), (flat xs)[j]? = some x → ∃ y, c[j]? = some y ∧ R C.P I w (.val x y))
    (hu : ∀ x ∈ xs, x.cells.length = C.P.cellsOf e) (hpos : 0 < C.P.cellsOf e) (hk : newK hp key st { elem := e, xs, var } K) :
    ∃ k st', K k w.heap.size st' ∧ Rl C I st' a (w.alloc (.cells c e (0, 0))) ∧ st'.n = st.n := by
  cases hp with
  | true => exact ⟨none, _, hk w.heap.size h.newH, h.heap c e xs var hl hv hu hpos, rfl⟩
  | false => exact ⟨some key, _, hk w.heap.size, h.own key c e xs var hl hv hu hpos, rfl⟩

/-- Cells become cells that nobody writes. -/
theorem Rl.freeze (h : Rl C I st a w) {k r : Nat} {ob : Obj} (hr : st.L k = some (r, ob)) :
    ∃ I', Rl C I' { st with L := upd st.L k (some (r, { ob with frozen := ob.xs.length })) } a w ∧ (∀ b o, I b o → I' b o) ∧ (∀ o, o < (flat ob.xs).length → I' r o) := by
  obtain ⟨hr1, hr2, hr3, hr4⟩ := h.mL k r ob hr
  let I' : Nat → Nat → Prop := fun b o => I b o ∨ (b = r ∧ o < (flat ob.xs).length)
  have hI : ∀ b o, I b o → I' b o := fun _ _ => .inl
  have hc : ∀ r o, I r o → w.cell? ⟨r, o, none⟩ = w.cell? ⟨r, o, none⟩ := fun _ _ _ => rfl
  have hfl := flat_length hr3.uni
  refine ⟨I', ?_, hI, fun o ho => .inr ⟨rfl, ho⟩⟩
  have hob : ∀ o, I' r o → o < ob.xs.length * C.P.cellsOf ob.elem ∨ o < ob.frozen * C.P.cellsOf ob.elem := fun o ho => by
    rcases ho with ho | ⟨_, ho⟩
    · exact .inr (hr4 o ho)
    · rw [hfl] at ho; exact .inl ho
  exact {
    df := h.df, sz := h.sz
    tm := fun i x hx => let ⟨y, h1, h2⟩ := h.tm i x hx; ⟨y, h1, h2.mono hI hc (.refl _)⟩
    mL := fun k' b o hq => by
      by_cases e : k' = k
      · subst e
        simp only [upd_same, Option.some.injEq, Prod.mk.injEq] at hq
        obtain ⟨rfl, rfl⟩ := hq
        refine ⟨hr1, hr2, ⟨let ⟨c, h1, h2, h3⟩ := hr3.ex; ⟨c, h1, h2, fun j x hx => let ⟨y, h4, h5⟩ := h3 j x hx; ⟨y, h4, h5.mono hI hc (.refl _)⟩⟩, hr3.uni, hr3.pos, Nat.le_refl _⟩, fun o ho => ?_⟩
        rcases ho with ho | ⟨_, ho⟩
        · exact Nat.lt_of_lt_of_le (hr4 o ho) (Nat.mul_le_mul_right _ hr3.fz)
        · rw [hfl] at ho; exact ho
      · simp only [upd_ne _ _ _ _ e] at hq
        obtain ⟨h1, h2, h3, h4⟩ := h.mL k' b o hq
        have hne : b ≠ r := fun e' => e (h.inj k' k r o ob (e' ▸ hq) hr)
        refine ⟨h1, h2, h3.mono rfl hI hc (.refl _), fun o ho => ?_⟩
        rcases ho with ho | ⟨e', _⟩
        · exact h4 o ho
        · exact absurd e' hne
    inj := fun k1 k2 b o1 o2 h1 h2 => by
      by_cases e1 : k1 = k
      · by_cases e2 : k2 = k
        · rw [e1, e2]
        · subst e1
          simp only [upd_same, Option.some.injEq, Prod.mk.injEq] at h1
          simp only [upd_ne _ _ _ _ e2] at h2
          exact (h.inj k2 k1 r o2 ob (h1.1 ▸ h2) hr).symm
      · simp only [upd_ne _ _ _ _ e1] at h1
        by_cases e2 : k2 = k
        · subst e2
          simp only [upd_same, Option.some.injEq, Prod.mk.injEq] at h2
          exact h.inj k1 k2 r o1 ob (h2.1 ▸ h1) hr
        · simp only [upd_ne _ _ _ _ e2] at h2
          exact h.inj k1 k2 b o1 o2 h1 h2
    mH := fun b o hq => by
      have e : b ≠ r := fun e => by rw [e, hr2] at hq; cases hq
      obtain ⟨h1, h2⟩ := h.mH b o hq
      refine ⟨h1.mono rfl hI hc (.refl _), fun o ho => ?_⟩
      rcases ho with ho | ⟨e', _⟩
      · exact h2 o ho
      · exact e e'
    rd := fun b o ho => by
      rcases ho with ho | ⟨rfl, ho⟩
      · exact h.rd b o ho
      · obtain ⟨c, h1, h2, _⟩ := hr3.ex
        exact ⟨c, _, _, h1, by omega⟩
    i1 := fun b o hb => .inl (h.i1 b o hb)
    i2 := fun b o ho => by
      rcases ho with ho | ⟨rfl, _⟩
      · exact h.i2 b o ho
      · exact .inr (.inl hr1)
    hs := h.hs, sh := h.sh, fr := h.fr }

end
end Go.Am
