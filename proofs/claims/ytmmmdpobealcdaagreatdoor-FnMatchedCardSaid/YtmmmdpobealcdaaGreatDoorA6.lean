/- Structs and slices that are made; lengths; append. -/
import Derived.Test.YtmmmdpobealcdaaGreatDoorA5
set_option linter.unusedVariables false
set_option linter.unusedSimpArgs false
namespace Go.Am
open Go

def avsI (st : St) : List (Nat × Operand) → Option (List (Nat × AV))
  | [] => some []
  | (i, x) :: r => match av st x, avsI st r with
    | some z, some zs => some ((i, z) :: zs)
    | _, _ => none

def fillAV (ps : List (Nat × Nat)) (cells : List AV) : List (Nat × AV) → Option (List AV)
  | [] => some cells
  | (i, x) :: rest => match ps[i]? with
    | some (off, size) => if x.cells.length = size ∧ off + size ≤ cells.length ∧ x.ones = true then fillAV ps (cells.take off ++ x.cells ++ cells.drop (off + size)) rest else none
    | none => none

def buildK (P : Program) (st : St) (t : TypeId) (parts : Array (Nat × Operand)) (K : AV → St → Prop) : Prop :=
  match zeroAV P t, places P t, avsI st parts.toList with
  | some z, some ps, some xs => match fillAV ps z.cells xs with
    | some cs => K (.agg cs) st
    | none => False
  | _, _, _ => False

def setsAV (s : Nat) (xs : List AV) : List (Nat × AV) → Option (List AV)
  | [] => some xs
  | (i, x) :: rest => if i < xs.length ∧ x.cells.length = s ∧ x.ones = true then setsAV s (xs.set i x) rest else none

/-- The parts' values, published. -/
def pubsI (P : Program) (st : St) : List (Nat × AV) → (List (Nat × AV) → St → Prop) → Prop
  | [], K => K [] st
  | (i, x) :: r, K => pubK P st x fun y st' => pubsI P st' r fun ys st'' => K ((i, y) :: ys) st''

inductive LitMode where
  | list | vec | heap

def buildSliceK (P : Program) (md : LitMode) (key : Nat) (st : St) (t : TypeId) (len : Nat) (parts : Array (Nat × Operand)) (K : AV → St → Prop) : Prop :=
  match elemT P t, avsI st parts.toList with
  | some e, some ps => match zeroAV P e with
    | some z => (z.cells.length = P.cellsOf e ∧ 0 < P.cellsOf e ∧ len * P.cellsOf e ≤ 16777216) ∧ pubsI P st ps fun ps' st' => match setsAV (P.cellsOf e) (List.replicate len z) ps' with
      | some xs => match md with
        | .list => K (.list (P.cellsOf e) xs) st'
        | .vec => newK false key st' { elem := e, xs } fun k r st'' => K (.vec k r len) st''
        | .heap => newK true key st' { elem := e, xs } fun k r st'' => K (.vec k r len) st''
      | none => False
    | none => False
  | _, _ => False

def lenK (P : Program) (st : St) (t : TypeId) (x : Operand) (K : AV → St → Prop) : Prop :=
  match av st x with
  | some (.v (.string s)) => P.underlying t = some .string ∧ K (.v (.int .i64 s.size)) st
  | some (.list _ xs) => (elemT P t).isSome = true ∧ K (.v (.int .i64 xs.length)) st
  | some (.vec _ _ n) => (elemT P t).isSome = true ∧ K (.v (.int .i64 n)) st
  | some (.sub _ _ _ n) => (elemT P t).isSome = true ∧ K (.v (.int .i64 n)) st
  | some (.v (.slice _ n _)) => (elemT P t).isSome = true ∧ K (.v (.int .i64 n)) st
  | _ => False

def makeK (P : Program) (hp : Bool) (key : Nat) (st : St) (t : TypeId) (l c : Operand) (K : AV → St → Prop) : Prop :=
  match elemT P t, av st l, av st c with
  | some e, some (.v (.int _ n)), some (.v (.int _ m)) => match zeroAV P e with
    | some z => (z.cells.length = P.cellsOf e ∧ 0 < P.cellsOf e ∧ n = m ∧ 0 ≤ n ∧ (P.bytesOf e : Int) * n ≤ 281474976710656 ∧ n ≤ 9223372036854775807) ∧
      newK hp key st { elem := e, xs := List.replicate n.toNat z } fun k r st' => K (.vec k r n.toNat) st'
    | none => False
  | _, _, _ => False

/-- The elements of what is appended. -/
def elemsK (P : Program) (st : St) (e : TypeId) (x : Operand) (K : List AV → Prop) : Prop :=
  match av st x with
  | some (.list s ys) => (s = P.cellsOf e ∨ ys = []) ∧ K ys
  | some (.vec k r n) => look st k r fun ob => (P.cellsOf ob.elem = P.cellsOf e ∧ n ≤ ob.xs.length) ∧ K (ob.xs.take n)
  | some (.sub k r o n) => look st k r fun ob => (P.cellsOf ob.elem = P.cellsOf e ∧ o + n ≤ ob.xs.length) ∧ K ((ob.xs.drop o).take n)
  | some (.v (.slice none 0 0)) => K []
  | _ => False

def St.moved (st : St) (k : Option Nat) (r r' : Nat) (ob : Obj) : St :=
  match k with
  | some k => { st with L := upd st.L k (some (r', ob)) }
  | none => { st with H := upd (upd st.H r none) r' (some ob) }

def allOnes (xs : List AV) : Prop := ∀ x ∈ xs, x.ones = true

def appendK (P : Program) (hp : Bool) (key : Nat) (st : St) (t : TypeId) (s x : Operand) (K : AV → St → Prop) : Prop :=
  match elemT P t with
  | some e => match zeroAV P e with
    | some z => (z.cells.length = P.cellsOf e ∧ 0 < P.cellsOf e) ∧ elemsK P st e x fun ys => match av st s with
      | some (.v (.slice none 0 0)) => (ys = [] ∧ K (.v (.slice none 0 0)) st) ∨
          ((ys ≠ [] ∧ ys.length * P.bytesOf e ≤ 140737488355328 ∧ ys.length ≤ 9223372036854775807) ∧ newK hp key st { elem := e, xs := ys } fun k r st' => K (.vec k r ys.length) st')
      | some (.vec k r n) => look st k r fun ob => ((n = ob.xs.length ∧ ob.elem = e ∧ (n + ys.length) * P.bytesOf e ≤ 140737488355328 ∧ n + ys.length ≤ 9223372036854775807 ∧ allOnes ys) ∧
          ∀ r', (k = none → r' = r ∨ st.H r' = none) → K (.vec k r' (n + ys.length)) (st.moved k r r' { ob with xs := ob.xs ++ ys })) ∨
          ((n + ys.length ≤ ob.xs.length ∧ ob.elem = e ∧ ob.frozen ≤ n ∧ allOnes ys) ∧ K (.vec k r (n + ys.length)) (st.setOb k r { ob with xs := ob.xs.take n ++ ys ++ ob.xs.drop (n + ys.length) }))
      | _ => False
    | none => False
  | none => False

section
variable {C : Ctx} {I I' : Nat → Nat → Prop} {st : St} {a : Act} {w w' : World}

theorem vals_drop {P : Program} {xs : List AV} {ys : List Value} (h : R P I w (.vals xs ys)) (n : Nat) : R P I w (.vals (xs.drop n) (ys.drop n)) := by
  induction n generalizing xs ys with
  | zero => exact h
  | succ n ih =>
    cases h with
    | vnil => exact .vnil
    | vcons x xs y ys h1 h2 => exact ih h2

theorem vals_take {P : Program} {xs : List AV} {ys : List Value} (h : R P I w (.vals xs ys)) (n : Nat) : R P I w (.vals (xs.take n) (ys.take n)) := by
  induction n generalizing xs ys with
  | zero => exact .vnil
  | succ n ih =>
    cases h with
    | vnil => exact .vnil
    | vcons x xs y ys h1 h2 => exact .vcons _ _ _ _ h1 (ih h2)

theorem ofConst_cells (P : Program) (I : Nat → Nat → Prop) (w : World) (y : Value) : R P I w (.vals (ofConst y).cells y.cells.toList) := by
  cases y with
  | agg cs =>
    have := R.ofConst P I w (.agg cs)
    simp only [ofConst] at this ⊢
    cases this with
    | agg _ _ h => exact h
  | _ => exact .vcons _ _ _ _ (.v _) .vnil

theorem fold_set (vs : List Value) : ∀ (n off : Nat) (cs : Array Value), off + n + vs.length ≤ cs.size →
    ((vs.zipIdx n).foldl (fun cs (p : Value × Nat) => cs.setIfInBounds (off + p.2) p.1) cs).toList = cs.toList.take (off + n) ++ vs ++ cs.toList.drop (off + n + vs.length) := by
  induction vs with
  | nil => intro n off cs _; simp
  | cons v vs ih =>
    intro n off cs h
    simp only [List.length_cons] at h
    rw [List.zipIdx_cons, List.foldl_cons, ih (n + 1) off _ (by simp; omega)]
    apply List.ext_getElem?
    intro j
    have e1 := splice_get (cs.setIfInBounds (off + n) v).toList (off + (n + 1)) vs (by simp; omega) j
    have e2 := splice_get cs.toList (off + n) (v :: vs) (by simp; omega) j
    rw [e1, e2]
    by_cases h1 : off + (n + 1) ≤ j ∧ j < off + (n + 1) + vs.length
    · rw [if_pos h1, if_pos (by simp; omega), show j - (off + n) = (j - (off + (n + 1))) + 1 from by omega, List.getElem?_cons_succ]
    · rw [if_neg h1]
      by_cases h2 : j = off + n
      · subst h2
        rw [if_pos (by simp), Nat.sub_self, List.getElem?_cons_zero]
        simp [show off + n < cs.size from by omega]
      · rw [if_neg (by simp; omega)]
        rw [Array.getElem?_toList, Array.getElem?_toList, Array.getElem?_setIfInBounds_ne (Ne.symm h2)]

theorem fold_cells (v : Value) (off : Nat) (cs : Array Value) (h : off + v.cells.size ≤ cs.size) :
    (v.cells.zipIdx.foldl (fun cs (p : Value × Nat) => cs.setIfInBounds (off + p.2) p.1) cs).toList = cs.toList.take off ++ v.cells.toList ++ cs.toList.drop (off + v.cells.size) := by
  rw [← Array.foldl_toList, Array.toList_zipIdx]
  have := fold_set v.cells.toList 0 off cs (by simpa using h)
  simpa using this

/-- Parts that are these values, place by place. -/
inductive Al (P : Program) (I : Nat → Nat → Prop) (w : World) : List (Nat × AV) → List (Nat × Value) → Prop
  | nil : Al P I w [] []
  | cons (i : Nat) (x : AV) (y : Value) (xs : List (Nat × AV)) (ys : List (Nat × Value)) : R P I w (.val x y) → Al P I w xs ys → Al P I w ((i, x) :: xs) ((i, y) :: ys)

theorem fill_sound {P : Program} (place : Nat → Option (Nat × Nat)) (ps : List (Nat × Nat)) (hp : ∀ i, place i = ps[i]?) :
    ∀ (parts : List (Nat × AV)) (vparts : List (Nat × Value)) (cells : List AV) (vcells : Array Value) (cs : List AV),
      Al P I w parts vparts → R P I w (.vals cells vcells.toList) → fillAV ps cells parts = some cs →
      ∃ out, Instr.fill place vcells vparts = some out ∧ R P I w (.vals cs out.toList) := by
  intro parts
  induction parts with
  | nil =>
    intro vparts cells vcells cs hf hc h
    cases hf
    simp only [fillAV, Option.some.injEq] at h
    subst h
    exact ⟨vcells, rfl, hc⟩
  | cons p parts ih =>
    intro vparts cells vcells cs hf hc h
    cases hf with
    | cons i x v _ vparts hr hf =>
      simp only [fillAV] at h
      split at h
      · rename_i off size hps
        split at h
        · rename_i hcond
          obtain ⟨h1, h2, h3⟩ := hcond
          have hv := hr.cells_vals (ones_mem h3)
          have hl := R.vals_length hv
          have hcl := R.vals_length hc
          simp only [Array.length_toList] at hl hcl
          have hfold := fold_cells v off vcells (by omega)
          have hspl : R P I w (.vals (cells.take off ++ x.cells ++ cells.drop (off + size)) (v.cells.zipIdx.foldl (fun cs (p : Value × Nat) => cs.setIfInBounds (off + p.2) p.1) vcells).toList) := by
            rw [hfold]
            have e : off + size = off + v.cells.size := by omega
            rw [e]
            exact R.vals_append (R.vals_append (vals_take hc off) hv) (vals_drop hc _)
          obtain ⟨out, ho, hro⟩ := ih vparts _ _ cs hf hspl h
          refine ⟨out, ?_, hro⟩
          have hb : v.cells.size = size ∧ off + v.cells.size ≤ vcells.size := by omega
          have e : Instr.fill place vcells ((i, v) :: vparts) = if v.cells.size ≠ size ∨ off + v.cells.size > vcells.size then none else Instr.fill place (v.cells.zipIdx.foldl (fun cs (p : Value × Nat) => cs.setIfInBounds (off + p.2) p.1) vcells) vparts := by
            simp only [Instr.fill, hp, hps, Bool.or_eq_true, decide_eq_true_eq]
          rw [e, if_neg (by omega)]
          exact ho
        · cases h
      · cases h

theorem avsI_sound (h : Rl C I st a w) : ∀ (parts : List (Nat × Operand)) (xs : List (Nat × AV)), avsI st parts = some xs →
    Al C.P I w xs (parts.map fun p => (p.1, a.eval p.2)) := by
  intro parts
  induction parts with
  | nil => intro xs hx; simp only [avsI, Option.some.injEq] at hx; subst hx; exact .nil
  | cons p parts ih =>
    intro xs hx
    obtain ⟨i, x⟩ := p
    simp only [avsI] at hx
    split at hx
    · rename_i z zs hz hzs
      simp only [Option.some.injEq] at hx
      subst hx
      exact .cons _ _ _ _ _ (h.av hz) (ih zs hzs)
    · cases hx

theorem run_places {P : Program} {fs : Array Field} {ps : List (Nat × Nat)} (h : fs.toList.mapM (placeOf P) = some ps) (w : World) :
    (fs.mapM fun f => Prod.mk f.offset <$> sizeOf f.type : Sem (Array (Nat × Nat))).run P w = .ok ps.toArray w := by
  rw [Array.mapM_eq_mapM_toList]
  have key : ∀ (l : List Field) (ps : List (Nat × Nat)), l.mapM (placeOf P) = some ps → (l.mapM fun f => Prod.mk f.offset <$> sizeOf f.type : Sem (List (Nat × Nat))).run P w = .ok ps w := by
    intro l
    induction l with
    | nil => intro ps h; simp at h; subst h; simp
    | cons f l ih =>
      intro ps h
      rw [List.mapM_cons] at h
      simp only [Option.bind_eq_bind, Option.bind_eq_some_iff, Option.pure_def, Option.some.injEq] at h
      obtain ⟨p, hp, qs, hq, rfl⟩ := h
      unfold placeOf at hp
      simp only [Option.map_eq_some_iff] at hp
      obtain ⟨i, hi, rfl⟩ := hp
      rw [List.mapM_cons]
      simp [run_sizeOf hi, ih qs hq]
  simp [key _ _ h]

theorem places_spec {P : Program} {t : TypeId} {ps : List (Nat × Nat)} (h : places P t = some ps) : ∃ fs, P.underlying t = some (.struct fs) ∧ fs.toList.mapM (placeOf P) = some ps := by
  unfold places at h
  split at h
  · exact ⟨_, ‹_›, h⟩
  · cases h

theorem buildK_sound (h : Rl C I st a w) {t : TypeId} {parts : Array (Nat × Operand)} {K : AV → St → Prop} (hk : buildK C.P st t parts K) :
    Comes1 C I st a w (do pure (.value (← Instr.build t (parts.map fun (i, x) => (i, a.eval x))))) K := by
  unfold buildK at hk
  split at hk
  · rename_i z ps xs hz hps hxs
    split at hk
    · rename_i cs hcs
      obtain ⟨y, hy, rfl⟩ := run_zero hz w
      obtain ⟨fs, hu, hm⟩ := places_spec hps
      obtain ⟨out, ho, hr⟩ := fill_sound (fun i => ps.toArray[i]?) ps (fun i => by simp) xs (parts.toList.map fun p => (p.1, a.eval p.2)) _ y.cells cs (avsI_sound h _ _ hxs) (ofConst_cells _ _ _ y) hcs
      refine .value hk (y := .agg out) ?_ h (.agg _ _ hr) rfl
      change ((do pure (.value (← Instr.build t (parts.map fun p => (p.1, a.eval p.2)))) : Sem Next)).run C.P w = _
      have hpl : (parts.map fun p => (p.1, a.eval p.2)).toList = parts.toList.map fun p => (p.1, a.eval p.2) := by simp
      have hb : (Instr.build t (parts.map fun p => (p.1, a.eval p.2))).run C.P w = .ok (.agg out) w := by
        simp only [Instr.build, Sem.run_bind, hy, run_underlying hu, Result.andThen_ok, bind_pure_comp, run_places hm, hpl, ho, Sem.run_pure]
      simp [hb]
    · exact hk.elim
  · exact hk.elim

end
end Go.Am
