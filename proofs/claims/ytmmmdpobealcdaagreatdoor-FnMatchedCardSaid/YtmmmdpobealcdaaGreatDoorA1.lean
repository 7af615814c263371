/- The state of a frame as a proof sees it, and how it lives through what the machine does to its memory. -/
import Derived.Test.YtmmmdpobealcdaaGreatDoorA0
import Derived.Laws.Entries
import Derived.Laws.Rows
import Derived.Laws.CopyRow
import Derived.Laws.AppendOwn
import Derived.Laws.MakeOwn
set_option linter.unusedVariables false
set_option linter.unusedSimpArgs false
namespace Go.Am
open Go

structure Ctx where
  P : Program
  w0 : World
  H0 : Mem
  I0 : Nat → Nat → Prop

structure St where
  n : Nat
  t : Nat → Option AV
  L : Own
  H : Mem

structure Rl (C : Ctx) (I : Nat → Nat → Prop) (st : St) (a : Act) (w : World) : Prop where
  df : a.defers = []
  sz : a.tmps.size = st.n
  tm : ∀ (i : Nat) (x : AV), st.t i = some x → ∃ y, a.tmps[i]? = some y ∧ R C.P I w (.val x y)
  mL : ∀ k r ob, st.L k = some (r, ob) → C.w0.heap.size ≤ r ∧ st.H r = none ∧ ObjR C.P I w r ob ∧ ∀ o, I r o → o < ob.frozen * C.P.cellsOf ob.elem
  inj : ∀ k k' r ob ob', st.L k = some (r, ob) → st.L k' = some (r, ob') → k = k'
  mH : MemR C.P I w st.H
  rd : Read I w
  i1 : ∀ b o, C.I0 b o → I b o
  i2 : ∀ b o, I b o → C.I0 b o ∨ C.w0.heap.size ≤ b ∨ (C.H0 b ≠ none ∧ st.H b = none)
  hs : C.w0.heap.size ≤ w.heap.size
  sh : Shapes C.w0 w
  fr : ∀ b, b < C.w0.heap.size → C.H0 b = none → st.H b = none ∧ w.heap[b]? = C.w0.heap[b]?

def Rel (C : Ctx) (st : St) (a : Act) (w : World) : Prop := ∃ I, Rl C I st a w

/-! ### Worlds -/

theorem cell_eq (w : World) (r o : Nat) : w.cell? ⟨r, o, none⟩ = match w.heap[r]? with | some (.cells c _ _) => c[o]? | _ => none := by
  unfold World.cell?
  cases h : w.heap[r]? with
  | none => rfl
  | some o => cases o <;> rfl

theorem cell_row {w : World} {r : Nat} {c : Array Value} {e : TypeId} {z : Nat × Nat} (h : w.heap[r]? = some (.cells c e z)) (o : Nat) : w.cell? ⟨r, o, none⟩ = c[o]? := by
  rw [cell_eq, h]

theorem cell_same {w w' : World} {r : Nat} (h : w'.heap[r]? = w.heap[r]?) (o : Nat) : w'.cell? ⟨r, o, none⟩ = w.cell? ⟨r, o, none⟩ := by
  rw [cell_eq, cell_eq, h]

theorem lt_of_heap {w : World} {r : Nat} {o : Go.Obj} (h : w.heap[r]? = some o) : r < w.heap.size := by
  rcases Nat.lt_or_ge r w.heap.size with h' | h'
  · exact h'
  · simp [Array.getElem?_eq_none h'] at h

theorem Read.lt {I : Nat → Nat → Prop} {w : World} (h : Read I w) {r o : Nat} (hi : I r o) : r < w.heap.size := by
  obtain ⟨c, e, z, h1, _⟩ := h r o hi
  exact lt_of_heap h1

theorem ObjR.lt {P : Program} {I : Nat → Nat → Prop} {w : World} {r : Nat} {ob : Obj} (h : ObjR P I w r ob) : r < w.heap.size := by
  obtain ⟨c, h1, _⟩ := h.ex
  exact lt_of_heap h1

theorem ObjR.mono {P : Program} {I I' : Nat → Nat → Prop} {w w' : World} {r : Nat} {ob : Obj} (h : ObjR P I w r ob) (hb : w'.heap[r]? = w.heap[r]?) (hI : ∀ r o, I r o → I' r o)
    (hc : ∀ r o, I r o → w'.cell? ⟨r, o, none⟩ = w.cell? ⟨r, o, none⟩) (hs : Shapes w w') : ObjR P I' w' r ob := by
  obtain ⟨⟨c, h1, h2, h3⟩, hu, hp, hz⟩ := h
  exact ⟨⟨c, hb.trans h1, h2, fun j x hx => let ⟨y, hy, hr⟩ := h3 j x hx; ⟨y, hy, hr.mono hI hc hs⟩⟩, hu, hp, hz⟩

theorem MapR.lt {P : Program} {I : Nat → Nat → Prop} {w : World} {r : Nat} {es : List (AV × AV)} (h : MapR P I w r es) : r < w.heap.size := by
  obtain ⟨ms, c, h1, _⟩ := h.ex
  exact lt_of_heap h1

theorem MapR.mono {P : Program} {I I' : Nat → Nat → Prop} {w w' : World} {r : Nat} {es : List (AV × AV)} (h : MapR P I w r es) (hb : w'.heap[r]? = w.heap[r]?) (hI : ∀ r o, I r o → I' r o)
    (hc : ∀ r o, I r o → w'.cell? ⟨r, o, none⟩ = w.cell? ⟨r, o, none⟩) (hs : Shapes w w') : MapR P I' w' r es := by
  obtain ⟨ms, c, h1, h2, h3, h4⟩ := h.ex
  exact ⟨ms, c, hb.trans h1, h2, fun j x hx => let ⟨m, hm, hk, hv⟩ := h3 j x hx; ⟨m, hm, hk.mono hI hc hs, hv.mono hI hc hs⟩, h4⟩

theorem AnyR.lt {P : Program} {I : Nat → Nat → Prop} {w : World} {r : Nat} {ob : Obj} (h : AnyR P I w r ob) : r < w.heap.size := by
  unfold AnyR at h
  split at h
  · exact h.lt
  · exact h.lt

theorem AnyR.mono {P : Program} {I I' : Nat → Nat → Prop} {w w' : World} {r : Nat} {ob : Obj} (h : AnyR P I w r ob) (hb : w'.heap[r]? = w.heap[r]?) (hI : ∀ r o, I r o → I' r o)
    (hc : ∀ r o, I r o → w'.cell? ⟨r, o, none⟩ = w.cell? ⟨r, o, none⟩) (hs : Shapes w w') : AnyR P I' w' r ob := by
  unfold AnyR at h ⊢
  split at h
  · exact ObjR.mono h hb hI hc hs
  · exact MapR.mono h hb hI hc hs

theorem AnyR.of_cells {P : Program} {I : Nat → Nat → Prop} {w : World} {r : Nat} {ob : Obj} (h : ObjR P I w r ob) (hm : ob.map = none) : AnyR P I w r ob := by
  unfold AnyR; rw [hm]; exact h
theorem AnyR.cells {P : Program} {I : Nat → Nat → Prop} {w : World} {r : Nat} {ob : Obj} (h : AnyR P I w r ob) (hm : ob.map = none) : ObjR P I w r ob := by
  unfold AnyR at h; rw [hm] at h; exact h

theorem Shapes.of_heap {w w' : World} (h : w'.heap = w.heap) (he : Env w w') : Shapes w w' := ⟨fun r c _ z hr => ⟨c, z, by rw [h]; exact hr, rfl⟩, he⟩

theorem push_old {w : World} {o : Go.Obj} {r : Nat} (h : r < w.heap.size) : (w.alloc o).heap[r]? = w.heap[r]? := heap_alloc_old w o r h
theorem push_new {w : World} {o : Go.Obj} : (w.alloc o).heap[w.heap.size]? = some o := heap_alloc_new w o

theorem Shapes.alloc (w : World) (o : Go.Obj) : Shapes w (w.alloc o) := ⟨fun _ c _ z hr => ⟨c, z, by rw [push_old (lt_of_heap hr)]; exact hr, rfl⟩, ⟨rfl, rfl, rfl⟩⟩

/-! ### The relation -/

section
variable {C : Ctx} {I I' : Nat → Nat → Prop} {st : St} {a : Act} {w w' : World}

/-- The world turns outside of what the state speaks of. -/
theorem Rl.world (h : Rl C I st a w) (hb : ∀ r, r < w.heap.size → w'.heap[r]? = w.heap[r]?) (hz : w.heap.size ≤ w'.heap.size) (he : Env w w') : Rl C I st a w' := by
  have hc : ∀ r o, I r o → w'.cell? ⟨r, o, none⟩ = w.cell? ⟨r, o, none⟩ := fun r o hi => cell_same (hb r (h.rd.lt hi)) o
  have hs : Shapes w w' := ⟨fun r c e z hr => ⟨c, z, (hb r (lt_of_heap hr)).trans hr, rfl⟩, he⟩
  exact {
    df := h.df, sz := h.sz
    tm := fun i x hx => let ⟨y, h1, h2⟩ := h.tm i x hx; ⟨y, h1, h2.mono (fun _ _ => id) hc hs⟩
    mL := fun k r ob hr => let ⟨h1, h2, h3, h4⟩ := h.mL k r ob hr; ⟨h1, h2, h3.mono (hb r h3.lt) (fun _ _ => id) hc hs, h4⟩
    inj := h.inj
    mH := fun r ob hr => let ⟨h1, h2⟩ := h.mH r ob hr; ⟨h1.mono (hb r h1.lt) (fun _ _ => id) hc hs, h2⟩
    rd := fun r o hi => let ⟨c, e, z, h1, h2⟩ := h.rd r o hi; ⟨c, e, z, (hb r (lt_of_heap h1)).trans h1, h2⟩
    i1 := h.i1, i2 := h.i2
    hs := Nat.le_trans h.hs hz
    sh := h.sh.trans hs
    fr := fun b hb' h0 => let ⟨h1, h2⟩ := h.fr b hb' h0; ⟨h1, (hb b (Nat.lt_of_lt_of_le hb' h.hs)).trans h2⟩ }

theorem Rl.drew (h : Rl C I st a w) : Rl C I st a w.drew := h.world (fun _ _ => rfl) (Nat.le_refl _) ⟨rfl, rfl, rfl⟩
theorem Rl.alloc (h : Rl C I st a w) (o : Go.Obj) : Rl C I st a (w.alloc o) := h.world (fun _ hr => push_old hr) (by simp) ⟨rfl, rfl, rfl⟩

/-- A temporary is written. -/
def St.put (st : St) (d : Option Tmp) (x : AV) : St := match d with | some d => { st with t := fun i => if i = d then some x else st.t i } | none => st

theorem Rl.put (h : Rl C I st a w) {x : AV} {y : Value} (hr : R C.P I w (.val x y)) (d : Option Tmp) (hd : ∀ i, d = some i → i < st.n) : Rl C I (st.put d x) (a.put d y) w := by
  cases d with
  | none => exact h
  | some d =>
    have hlt := hd d rfl
    exact {
      df := h.df, sz := by simpa [Act.put, St.put] using h.sz
      tm := fun i z hz => by
        simp only [St.put, Act.put] at *
        by_cases hi : i = d
        · subst hi
          simp only [if_true, Option.some.injEq] at hz
          subst hz
          exact ⟨y, by rw [Array.getElem?_setIfInBounds_self_of_lt (by rw [h.sz]; exact hlt)], hr⟩
        · simp only [hi, if_false] at hz
          obtain ⟨y', h1, h2⟩ := h.tm i z hz
          exact ⟨y', by rw [Array.getElem?_setIfInBounds_ne (fun e => hi e.symm)]; exact h1, h2⟩
      mL := h.mL, inj := h.inj, mH := h.mH, rd := h.rd, i1 := h.i1, i2 := h.i2, hs := h.hs, sh := h.sh, fr := h.fr }

theorem Rl.newL (h : Rl C I st a w) (k : Nat) (r : Nat) (ob : Obj) (hr : st.L k = some (r, ob)) : r ≠ w.heap.size := fun e => by
  have := (h.mL k r ob hr).2.2.1.lt
  omega

theorem Rl.newH (h : Rl C I st a w) : st.H w.heap.size = none := by
  cases hq : st.H w.heap.size with
  | none => rfl
  | some ob => exact absurd ((h.mH _ _ hq).1.lt) (Nat.lt_irrefl _)

/-- A new block of the call's own. -/
theorem Rl.own (h : Rl C I st a w) (k : Nat) (c : Array Value) (e : TypeId) (xs : List AV) (var : Bool) (hl : (flat xs).length ≤ c.size) (hv : ∀ (j : Nat) (x : AV), (flat xs)[j]? = some x → ∃ y, c[j]? = some y ∧ R C.P I w (.val x y))
    (hu : ∀ x ∈ xs, x.cells.length = C.P.cellsOf e) (hp : 0 < C.P.cellsOf e) :
    Rl C I { st with L := upd st.L k (some (w.heap.size, { elem := e, xs, var })) } a (w.alloc (.cells c e (0, 0))) := by
  have h' := h.alloc (.cells c e (0, 0))
  refine { df := h'.df, sz := h'.sz, tm := h'.tm, mL := fun k' r ob hr => ?_, inj := fun k1 k2 r ob ob' h1 h2 => ?_, mH := h'.mH, rd := h'.rd, i1 := h'.i1, i2 := h'.i2, hs := h'.hs, sh := h'.sh, fr := h'.fr }
  · by_cases hk : k' = k
    · subst hk
      simp only [upd_same, Option.some.injEq, Prod.mk.injEq] at hr
      obtain ⟨rfl, rfl⟩ := hr
      refine ⟨h.hs, h.newH, ⟨⟨c, push_new, hl, fun j x hx => ?_⟩, hu, hp, Nat.zero_le _⟩, fun o hi => absurd (h.rd.lt hi) (Nat.lt_irrefl _)⟩
      obtain ⟨y, h1, h2⟩ := hv j x hx
      exact ⟨y, h1, h2.mono (fun _ _ => id) (fun r o hi => cell_same (push_old (h.rd.lt hi)) o) (.alloc _ _)⟩
    · simp only [upd_ne _ _ _ _ hk] at hr
      exact h'.mL k' r ob hr
  · by_cases e1 : k1 = k
    · by_cases e2 : k2 = k
      · rw [e1, e2]
      · subst e1
        simp only [upd_same, Option.some.injEq, Prod.mk.injEq] at h1
        simp only [upd_ne _ _ _ _ e2] at h2
        exact absurd h1.1.symm (h.newL k2 r ob' h2)
    · simp only [upd_ne _ _ _ _ e1] at h1
      by_cases e2 : k2 = k
      · subst e2
        simp only [upd_same, Option.some.injEq, Prod.mk.injEq] at h2
        exact absurd h2.1.symm (h.newL k1 r ob h1)
      · simp only [upd_ne _ _ _ _ e2] at h2
        exact h.inj k1 k2 r ob ob' h1 h2

/-- A new block whose cells nobody writes. -/
theorem Rl.shut (h : Rl C I st a w) (c : Array Value) (e : TypeId) (z : Nat × Nat := (0, 0)) :
    ∃ I', Rl C I' st a (w.alloc (.cells c e z)) ∧ (∀ b o, I b o → I' b o) ∧ (∀ o, o < c.size → I' w.heap.size o) := by
  have h' := h.alloc (.cells c e z)
  let I' : Nat → Nat → Prop := fun b o => I b o ∨ (b = w.heap.size ∧ o < c.size)
  have hI : ∀ b o, I b o → I' b o := fun _ _ => .inl
  have hc : ∀ r o, I r o → (w.alloc (.cells c e z)).cell? ⟨r, o, none⟩ = (w.alloc (.cells c e z)).cell? ⟨r, o, none⟩ := fun _ _ _ => rfl
  refine ⟨I', ?_, hI, fun o ho => .inr ⟨rfl, ho⟩⟩
  exact {
    df := h'.df, sz := h'.sz
    tm := fun i x hx => let ⟨y, h1, h2⟩ := h'.tm i x hx; ⟨y, h1, h2.mono hI hc (.refl _)⟩
    mL := fun k r ob hr => by
      obtain ⟨h1, h2, h3, h4⟩ := h'.mL k r ob hr
      refine ⟨h1, h2, h3.mono rfl hI hc (.refl _), fun o hi => ?_⟩
      rcases hi with hi | ⟨e, _⟩
      · exact h4 o hi
      · exact absurd e (h.newL k r ob hr)
    inj := h'.inj
    mH := fun r ob hr => by
      obtain ⟨h1, h2⟩ := h'.mH r ob hr
      refine ⟨h1.mono rfl hI hc (.refl _), fun o hi => ?_⟩
      rcases hi with hi | ⟨rfl, _⟩
      · exact h2 o hi
      · rw [h.newH] at hr; cases hr
    rd := fun r o hi => by
      rcases hi with hi | ⟨rfl, ho⟩
      · exact h'.rd r o hi
      · exact ⟨c, e, z, push_new, ho⟩
    i1 := fun b o hb => .inl (h'.i1 b o hb)
    i2 := fun b o hi => by
      rcases hi with hi | ⟨rfl, _⟩
      · exact h'.i2 b o hi
      · exact .inr (.inl h.hs)
    hs := h'.hs, sh := h'.sh, fr := h'.fr }

/-! ### Writing -/

theorem flat_cons (x : AV) (xs : List AV) : flat (x :: xs) = x.cells ++ flat xs := rfl

theorem flat_length {xs : List AV} {s : Nat} (h : ∀ x ∈ xs, x.cells.length = s) : (flat xs).length = xs.length * s := by
  induction xs with
  | nil => simp [flat]
  | cons x xs ih =>
    rw [flat_cons, List.length_append, h x (by simp), ih fun y hy => h y (by simp [hy]), List.length_cons, Nat.add_mul, Nat.one_mul, Nat.add_comm]

theorem flat_get {xs : List AV} {s : Nat} (h : ∀ x ∈ xs, x.cells.length = s) (i j : Nat) (hj : j < s) : (flat xs)[i * s + j]? = (xs[i]?).bind fun x => x.cells[j]? := by
  induction xs generalizing i with
  | nil => simp [flat]
  | cons x xs ih =>
    have hx := h x (by simp)
    rw [flat_cons]
    cases i with
    | zero => rw [List.getElem?_append_left (by omega)]; simp
    | succ i =>
      have e : (i + 1) * s + j = s + (i * s + j) := by rw [Nat.add_mul]; omega
      rw [e, List.getElem?_append_right (by omega), hx, show s + (i * s + j) - s = i * s + j from by omega, ih fun y hy => h y (by simp [hy])]
      simp

/-- Cells k .. of a value become others. -/
def AV.up (x : AV) (k : Nat) (new : List AV) : AV :=
  match x with
  | .agg cs => .agg (cs.take k ++ new ++ cs.drop (k + new.length))
  | y => new.headD y

def AV.one : AV → Bool
  | .v y => y.oneCell'
  | .agg _ | .tuple _ => false
  | _ => true

theorem AV.cells_up {x : AV} {k : Nat} {new : List AV} (h : k + new.length ≤ x.cells.length) (h0 : 0 < new.length) (h1 : ∀ y ∈ new, y.one = true) :
    (x.up k new).cells = x.cells.take k ++ new ++ x.cells.drop (k + new.length) := by
  cases x with
  | agg cs => rfl
  | _ =>
    simp only [AV.cells, List.length_cons, List.length_nil] at h
    obtain ⟨y, hy⟩ : ∃ y, new = [y] := List.length_eq_one_iff.1 (by omega)
    subst hy
    obtain rfl : k = 0 := by simp at h; exact h
    have := h1 y (by simp)
    cases y <;> simp_all [AV.up, AV.cells, AV.one]

theorem R.one {P : Program} {I : Nat → Nat → Prop} {w : World} {x : AV} {y : Value} (h : R P I w (.val x y)) (h1 : x.one = true) : y.oneCell' = true := by
  cases h <;> simp_all [AV.one, Value.oneCell']

theorem ones_of_vals {P : Program} {I : Nat → Nat → Prop} {w : World} {xs : List AV} {ys : List Value} (h : R P I w (.vals xs ys)) (h1 : ∀ x ∈ xs, x.one = true) : ∀ y ∈ ys, y.oneCell' = true := by
  induction xs generalizing ys with
  | nil => cases h; simp
  | cons x xs ih =>
    cases h with
    | vcons _ _ y ys h2 h3 =>
      intro z hz
      rcases List.mem_cons.1 hz with rfl | hz
      · exact h2.one (h1 x (by simp))
      · exact ih h3 (fun x hx => h1 x (by simp [hx])) z hz

theorem splice_get (c : List Value) (off : Nat) (vs : List Value) (h : off + vs.length ≤ c.length) (j : Nat) :
    (c.take off ++ vs ++ c.drop (off + vs.length))[j]? = if off ≤ j ∧ j < off + vs.length then vs[j - off]? else c[j]? := by
  by_cases h1 : j < off
  · rw [if_neg (by omega), List.append_assoc, List.getElem?_append_left (by simp; omega), List.getElem?_take_of_lt h1]
  · by_cases h2 : j < off + vs.length
    · rw [if_pos ⟨by omega, h2⟩, List.append_assoc, List.getElem?_append_right (by simp; omega), List.getElem?_append_left (by simp; omega)]
      congr 1; simp; omega
    · rw [if_neg (by omega), List.getElem?_append_right (by simp; omega), List.getElem?_drop]
      congr 1; simp; omega

/-- What an object's block holds behind a store. -/
theorem ObjR.store {P : Program} {r : Nat} {ob : Obj} (h : ObjR P I w r ob) {i : Nat} {x : AV} (hx : ob.xs[i]? = some x) {k : Nat} {new : List AV} {vs : List Value}
    (hk : k + new.length ≤ x.cells.length) (h0 : 0 < new.length) (hv : R P I w (.vals new vs)) (h1 : ∀ y ∈ new, y.one = true) (hfr : ∀ o, I r o → o < i * P.cellsOf ob.elem) :
    ∃ w', (storeCells ⟨r, i * P.cellsOf ob.elem + k, none⟩ vs 0).run P w = .ok () w' ∧ ObjR P I w' r { ob with xs := ob.xs.set i (x.up k new) } ∧
      (∀ b, b ≠ r → w'.heap[b]? = w.heap[b]?) ∧ w'.heap.size = w.heap.size ∧ (∀ r o, I r o → w'.cell? ⟨r, o, none⟩ = w.cell? ⟨r, o, none⟩) ∧ Shapes w w' := by
  obtain ⟨⟨c, hc, hl, hg⟩, hu, hp, hfz⟩ := h
  have hlen := R.vals_length hv
  have hi : i < ob.xs.length := (List.getElem?_eq_some_iff.1 hx).1
  have hxu := hu x (List.mem_of_getElem? hx)
  have hfl := flat_length hu
  have hoff : i * P.cellsOf ob.elem + k + vs.length ≤ c.size := by
    have : (i + 1) * P.cellsOf ob.elem ≤ ob.xs.length * P.cellsOf ob.elem := Nat.mul_le_mul_right _ hi
    rw [Nat.add_mul, Nat.one_mul] at this
    omega
  have hrun := run_storeCells_at (P := P) r (i * P.cellsOf ob.elem + k) ob.elem vs 0 c w hc (by omega) (ones_of_vals hv h1)
  simp only [Nat.add_zero] at hrun
  let c' : Array Value := (c.toList.take (i * P.cellsOf ob.elem + k) ++ vs ++ c.toList.drop (i * P.cellsOf ob.elem + k + vs.length)).toArray
  have hget : ∀ j, c'[j]? = if i * P.cellsOf ob.elem + k ≤ j ∧ j < i * P.cellsOf ob.elem + k + vs.length then vs[j - (i * P.cellsOf ob.elem + k)]? else c[j]? := fun j => by
    have := splice_get c.toList (i * P.cellsOf ob.elem + k) vs (by simpa using hoff) j
    simpa [c'] using this
  have hsz : c'.size = c.size := by simp [c']; omega
  have hh := setRow_heap w r c c' ob.elem (0, 0) hc
  have hother : ∀ b, b ≠ r → (w.setRow r c').heap[b]? = w.heap[b]? := fun b hb => setRow_other w r b c' hb
  have hcells : ∀ b o, I b o → (w.setRow r c').cell? ⟨b, o, none⟩ = w.cell? ⟨b, o, none⟩ := fun b o hi' => by
    by_cases hb : b = r
    · subst hb
      rw [cell_row hh, cell_row hc, hget, if_neg]
      have := hfr o hi'
      omega
    · exact cell_same (hother b hb) o
  have hshape : Shapes w (w.setRow r c') := ⟨fun b d e z hd => by
    by_cases hb : b = r
    · subst hb
      rw [hc] at hd
      simp only [Option.some.injEq, Obj.cells.injEq] at hd
      obtain ⟨rfl, rfl, rfl⟩ := hd
      exact ⟨c', (0, 0), hh, hsz⟩
    · exact ⟨d, z, (hother b hb).trans hd, rfl⟩, ⟨rfl, rfl, rfl⟩⟩
  refine ⟨_, hrun, ⟨⟨c', hh, ?_, fun j y hy => ?_⟩, fun y hy => ?_, hp, by simpa using hfz⟩, hother, size_setRow _ _ _, hcells, hshape⟩
  · have hu' : ∀ y ∈ ob.xs.set i (x.up k new), y.cells.length = P.cellsOf ob.elem := fun y hy => by
      rcases List.mem_or_eq_of_mem_set hy with hy | rfl
      · exact hu y hy
      · rw [AV.cells_up hk h0 h1]; simp; omega
    rw [hsz, flat_length hu', List.length_set, ← hfl]
    exact hl
  · have hu' : ∀ y ∈ ob.xs.set i (x.up k new), y.cells.length = P.cellsOf ob.elem := fun y hy => by
      rcases List.mem_or_eq_of_mem_set hy with hy | rfl
      · exact hu y hy
      · rw [AV.cells_up hk h0 h1]; simp; omega
    have hq : j / P.cellsOf ob.elem * P.cellsOf ob.elem + j % P.cellsOf ob.elem = j := by rw [Nat.mul_comm]; exact Nat.div_add_mod j _
    have hm := Nat.mod_lt j hp
    rw [← hq, flat_get hu' _ _ hm] at hy
    rw [hget]
    by_cases hji : j / P.cellsOf ob.elem = i
    · rw [hji, List.getElem?_set_self hi, Option.bind_some, AV.cells_up hk h0 h1] at hy
      rw [hji] at hq
      by_cases hin : i * P.cellsOf ob.elem + k ≤ j ∧ j < i * P.cellsOf ob.elem + k + vs.length
      · rw [if_pos hin]
        rw [List.append_assoc, List.getElem?_append_right (by simp; omega), List.getElem?_append_left (by simp; omega)] at hy
        have e : j % P.cellsOf ob.elem - (List.take k x.cells).length = j - (i * P.cellsOf ob.elem + k) := by simp; omega
        rw [e] at hy
        obtain ⟨z, h2, h3⟩ := hv.vals_get _ _ hy
        exact ⟨z, h2, h3.mono (fun _ _ => id) hcells hshape⟩
      · rw [if_neg hin]
        have hy' : x.cells[j % P.cellsOf ob.elem]? = some y := by
          by_cases hlt : j % P.cellsOf ob.elem < k
          · rwa [List.append_assoc, List.getElem?_append_left (by simp; omega), List.getElem?_take_of_lt hlt] at hy
          · rw [List.getElem?_append_right (by simp; omega), List.getElem?_drop] at hy
            rw [← hy]; congr 1; simp; omega
        obtain ⟨z, h2, h3⟩ := hg j y (by rw [← hq, flat_get hu _ _ hm, hx]; exact hy')
        exact ⟨z, h2, h3.mono (fun _ _ => id) hcells hshape⟩
    · have hne : ¬(i * P.cellsOf ob.elem + k ≤ j ∧ j < i * P.cellsOf ob.elem + k + vs.length) := by
        rintro ⟨ha, hb⟩
        apply hji
        have h5 : i * P.cellsOf ob.elem ≤ j := by omega
        have h6 : j < (i + 1) * P.cellsOf ob.elem := by rw [Nat.add_mul, Nat.one_mul]; omega
        have h7 := (Nat.le_div_iff_mul_le hp).2 h5
        have h8 := (Nat.div_lt_iff_lt_mul hp).2 h6
        omega
      rw [if_neg hne]
      rw [List.getElem?_set_ne (fun e => hji e.symm), ← flat_get hu _ _ hm, hq] at hy
      obtain ⟨z, h2, h3⟩ := hg j y hy
      exact ⟨z, h2, h3.mono (fun _ _ => id) hcells hshape⟩
  · rcases List.mem_or_eq_of_mem_set hy with hy | rfl
    · exact hu y hy
    · rw [AV.cells_up hk h0 h1]; simp; omega

/-- One object is another one, in a world that parts in its block alone. -/
theorem Rl.objL (h : Rl C I st a w) {k r : Nat} {ob ob' : Obj} (hr : st.L k = some (r, ob)) (ho : ObjR C.P I w' r ob') (he : ob'.elem = ob.elem) (hf : ob.frozen ≤ ob'.frozen)
    (hb : ∀ b, b ≠ r → w'.heap[b]? = w.heap[b]?) (hz : w'.heap.size = w.heap.size) (hc : ∀ r o, I r o → w'.cell? ⟨r, o, none⟩ = w.cell? ⟨r, o, none⟩) (hs : Shapes w w') :
    Rl C I { st with L := upd st.L k (some (r, ob')) } a w' := by
  obtain ⟨hr1, hr2, hr3, hr4⟩ := h.mL k r ob hr
  exact {
    df := h.df, sz := h.sz
    tm := fun i x hx => let ⟨y, h1, h2⟩ := h.tm i x hx; ⟨y, h1, h2.mono (fun _ _ => id) hc hs⟩
    mL := fun k' b o hq => by
      by_cases e : k' = k
      · subst e
        simp only [upd_same, Option.some.injEq, Prod.mk.injEq] at hq
        obtain ⟨rfl, rfl⟩ := hq
        refine ⟨hr1, hr2, ho, fun o hi => Nat.lt_of_lt_of_le (hr4 o hi) ?_⟩
        rw [he]; exact Nat.mul_le_mul_right _ hf
      · simp only [upd_ne _ _ _ _ e] at hq
        obtain ⟨h1, h2, h3, h4⟩ := h.mL k' b o hq
        have hne : b ≠ r := fun e' => e (h.inj k' k r o ob (e' ▸ hq) hr)
        exact ⟨h1, h2, h3.mono (hb b hne) (fun _ _ => id) hc hs, h4⟩
    inj := fun k1 k2 b o1 o2 h1 h2 => by
      by_cases e1 : k1 = k
      · by_cases e2 : k2 = k
        · rw [e1, e2]
        · subst e1
          simp only [upd_same, Option.some.injEq, Prod.mk.injEq] at h1
          simp only [upd_ne _ _ _ _ e2] at h2
          exact (h.inj k2 k1 r o2 ob (h1.1 ▸ h2) hr).symm
      · simp only [upd_ne _ _ _ _ e1] at h1
        by_cases e2 : k2 = k
        · subst e2
          simp only [upd_same, Option.some.injEq, Prod.mk.injEq] at h2
          exact h.inj k1 k2 r o1 ob (h2.1 ▸ h1) hr
        · simp only [upd_ne _ _ _ _ e2] at h2
          exact h.inj k1 k2 b o1 o2 h1 h2
    mH := fun b o hq => by
      have e : b ≠ r := fun e => by rw [e, hr2] at hq; cases hq
      obtain ⟨h1, h2⟩ := h.mH b o hq
      exact ⟨h1.mono (hb b e) (fun _ _ => id) hc hs, h2⟩
    rd := fun b o hi => by
      obtain ⟨c, e, z, h1, h2⟩ := h.rd b o hi
      obtain ⟨c', z', h3, h4⟩ := hs.sh b c e z h1
      exact ⟨c', e, z', h3, by omega⟩
    i1 := h.i1, i2 := h.i2
    hs := by rw [hz]; exact h.hs
    sh := h.sh.trans hs
    fr := fun b hb' h0 => let ⟨h1, h2⟩ := h.fr b hb' h0; ⟨h1, (hb b (by omega)).trans h2⟩ }

theorem Rl.objH (h : Rl C I st a w) {r : Nat} {ob ob' : Obj} (hr : st.H r = some ob) (ho : AnyR C.P I w' r ob')
    (hb : ∀ b, b ≠ r → w'.heap[b]? = w.heap[b]?) (hz : w'.heap.size = w.heap.size) (hc : ∀ r o, I r o → w'.cell? ⟨r, o, none⟩ = w.cell? ⟨r, o, none⟩) (hs : Shapes w w') :
    Rl C I { st with H := upd st.H r (some ob') } a w' := by
  obtain ⟨hr3, hr4⟩ := h.mH r ob hr
  exact {
    df := h.df, sz := h.sz
    tm := fun i x hx => let ⟨y, h1, h2⟩ := h.tm i x hx; ⟨y, h1, h2.mono (fun _ _ => id) hc hs⟩
    mL := fun k b o hq => by
      obtain ⟨h1, h2, h3, h4⟩ := h.mL k b o hq
      have e : b ≠ r := fun e => by rw [e, hr] at h2; cases h2
      exact ⟨h1, by simp only [upd_ne _ _ _ _ e]; exact h2, h3.mono (hb b e) (fun _ _ => id) hc hs, h4⟩
    inj := h.inj
    mH := fun b o hq => by
      by_cases e : b = r
      · subst e
        simp only [upd_same, Option.some.injEq] at hq
        subst hq
        exact ⟨ho, hr4⟩
      · simp only [upd_ne _ _ _ _ e] at hq
        obtain ⟨h1, h2⟩ := h.mH b o hq
        exact ⟨h1.mono (hb b e) (fun _ _ => id) hc hs, h2⟩
    rd := fun b o hi => by
      obtain ⟨c, e, z, h1, h2⟩ := h.rd b o hi
      obtain ⟨c', z', h3, h4⟩ := hs.sh b c e z h1
      exact ⟨c', e, z', h3, by omega⟩
    i1 := h.i1
    i2 := fun b o hi => by
      rcases h.i2 b o hi with h1 | h1 | ⟨h1, h2⟩
      · exact .inl h1
      · exact .inr (.inl h1)
      · have e : b ≠ r := fun e => by rw [e, hr] at h2; cases h2
        exact .inr (.inr ⟨h1, by simp only [upd_ne _ _ _ _ e]; exact h2⟩)
    hs := by rw [hz]; exact h.hs
    sh := h.sh.trans hs
    fr := fun b hb' h0 => by
      obtain ⟨h1, h2⟩ := h.fr b hb' h0
      have e : b ≠ r := fun e => by rw [e, hr] at h1; cases h1
      exact ⟨by simp only [upd_ne _ _ _ _ e]; exact h1, (hb b e).trans h2⟩ }

end
end Go.Am
