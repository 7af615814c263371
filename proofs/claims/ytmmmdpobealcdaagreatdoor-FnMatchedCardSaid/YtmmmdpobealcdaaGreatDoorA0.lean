/- The abstract values, and what it says that a value of the machine is one of them. -/
import Derived.Orders
import Derived.Laws.Sem
set_option linter.unusedVariables false
set_option linter.unusedSimpArgs false
namespace Go.Am
open Go

/-- What a value is, as a proof sees it. 'v': the value itself; 'vec': a slice over a block of the call's own (k: under which key it stands), or over one behind pointers (none); 'list': a slice whose elements nobody writes any more; 'ptr': an address in a block (element, cell); 'pref': an address of cells that nobody writes; 'agg': a struct, its cells; 'tuple': several results; 'clo': a function with what it has taken along; 'sub': a part of a slice over such a block; 'mp': a map, by its block. -/
inductive AV where
  | v (x : Value)
  | vec (k : Option Nat) (r len : Nat)
  | list (s : Nat) (xs : List AV)
  | ptr (k : Option Nat) (r i o : Nat)
  | pref (cells : List AV)
  | agg (cells : List AV)
  | tuple (vs : List AV)
  | clo (g : Nat) (cap : List AV)
  | sub (k : Option Nat) (r off len : Nat)
  | mp (k : Option Nat) (r : Nat)
  deriving Inhabited

def AV.cells : AV → List AV
  | .agg cs => cs
  | x => [x]

def flat (xs : List AV) : List AV := xs.flatMap AV.cells

inductive Goal where
  | val (a : AV) (c : Value)
  | cells (xs : List AV) (r off : Nat)
  | vals (xs : List AV) (cs : List Value)

/-- 'I r o': the cell o of block r is never written again. -/
inductive R (P : Program) (I : Nat → Nat → Prop) (w : World) : Goal → Prop
  | v (x : Value) : R P I w (.val (.v x) x)
  | vec (k : Option Nat) (r len cap : Nat) (e : TypeId) (c : Array Value) (z : Nat × Nat) : w.heap[r]? = some (.cells c e z) → c.size = cap * P.cellsOf e → len ≤ cap →
      R P I w (.val (.vec k r len) (.slice (some ⟨r, 0, none⟩) len cap))
  | lnil (s cap : Nat) (a : Option Addr) : R P I w (.val (.list s []) (.slice a 0 cap))
  | list (s : Nat) (xs : List AV) (r off len cap : Nat) : len = xs.length → len ≤ cap → (∀ x ∈ xs, x.cells.length = s) → R P I w (.cells (flat xs) r off) →
      R P I w (.val (.list s xs) (.slice (some ⟨r, off, none⟩) len cap))
  | ptr (k : Option Nat) (r i o off : Nat) (e : TypeId) (c : Array Value) (z : Nat × Nat) : w.heap[r]? = some (.cells c e z) → off = i * P.cellsOf e + o →
      R P I w (.val (.ptr k r i o) (.pointer (some ⟨r, off, none⟩)))
  | pref (cells : List AV) (r off : Nat) : R P I w (.cells cells r off) → R P I w (.val (.pref cells) (.pointer (some ⟨r, off, none⟩)))
  | agg (xs : List AV) (cs : Array Value) : R P I w (.vals xs cs.toList) → R P I w (.val (.agg xs) (.agg cs))
  | tuple (xs : List AV) (cs : Array Value) : R P I w (.vals xs cs.toList) → R P I w (.val (.tuple xs) (.tuple cs))
  | clo (g : Nat) (xs : List AV) (cs : Array Value) : R P I w (.vals xs cs.toList) → R P I w (.val (.clo g xs) (.func (.func g) #[] cs))
  | sub (k : Option Nat) (r off len cap : Nat) (e : TypeId) (c : Array Value) (z : Nat × Nat) : w.heap[r]? = some (.cells c e z) → len ≤ cap →
      R P I w (.val (.sub k r off len) (.slice (some ⟨r, off * P.cellsOf e, none⟩) len cap))
  | mp (k : Option Nat) (r : Nat) : R P I w (.val (.mp k r) (.map (some r)))
  | cnil (r off : Nat) : R P I w (.cells [] r off)
  | ccons (x : AV) (xs : List AV) (r off : Nat) (y : Value) : I r off → w.cell? ⟨r, off, none⟩ = some y → R P I w (.val x y) → R P I w (.cells xs r (off + 1)) →
      R P I w (.cells (x :: xs) r off)
  | vnil : R P I w (.vals [] [])
  | vcons (x : AV) (xs : List AV) (y : Value) (ys : List Value) : R P I w (.val x y) → R P I w (.vals xs ys) → R P I w (.vals (x :: xs) (y :: ys))

/-- Nothing outside of memory has turned. -/
structure Env (w w' : World) : Prop where
  os : w'.os = w.os
  tape : w'.tape = w.tape
  output : w'.output = w.output
theorem Env.refl (w : World) : Env w w := ⟨rfl, rfl, rfl⟩
theorem Env.trans {w₁ w₂ w₃ : World} (h : Env w₁ w₂) (h' : Env w₂ w₃) : Env w₁ w₃ := ⟨h'.os.trans h.os, h'.tape.trans h.tape, h'.output.trans h.output⟩

/-- The blocks that were rows of cells are so still, of the same size and type. -/
structure Shapes (w w' : World) : Prop where
  sh : ∀ (r : Nat) (c : Array Value) (e : TypeId) (z : Nat × Nat), w.heap[r]? = some (.cells c e z) → ∃ c' z', w'.heap[r]? = some (.cells c' e z') ∧ c'.size = c.size
  env : Env w w'

theorem Shapes.refl (w : World) : Shapes w w := ⟨fun _ c _ z h => ⟨c, z, h, rfl⟩, .refl w⟩
theorem Shapes.trans {w₁ w₂ w₃ : World} (h : Shapes w₁ w₂) (h' : Shapes w₂ w₃) : Shapes w₁ w₃ := ⟨fun r c e z hr => by
  obtain ⟨c', z', h1, h2⟩ := h.sh r c e z hr
  obtain ⟨c'', z'', h3, h4⟩ := h'.sh r c' e z' h1
  exact ⟨c'', z'', h3, h4.trans h2⟩, h.env.trans h'.env⟩

section
variable {P : Program} {I I' : Nat → Nat → Prop} {w w' : World}

theorem R.mono {g : Goal} (h : R P I w g) (hI : ∀ r o, I r o → I' r o) (hc : ∀ r o, I r o → w'.cell? ⟨r, o, none⟩ = w.cell? ⟨r, o, none⟩) (hs : Shapes w w') : R P I' w' g := by
  induction h with
  | v x => exact .v x
  | vec k r len cap e c z h1 h2 h3 =>
    obtain ⟨c', z', h4, h5⟩ := hs.sh r c e z h1
    exact .vec k r len cap e c' z' h4 (h5.trans h2) h3
  | lnil s cap a => exact .lnil s cap a
  | list s xs r off len cap h1 h1' h2 _ ih => exact .list s xs r off len cap h1 h1' h2 ih
  | ptr k r i o off e c z h1 h2 =>
    obtain ⟨c', z', h4, _⟩ := hs.sh r c e z h1
    exact .ptr k r i o off e c' z' h4 h2
  | pref cells r off _ ih => exact .pref cells r off ih
  | agg xs cs _ ih => exact .agg xs cs ih
  | tuple xs cs _ ih => exact .tuple xs cs ih
  | clo g xs cs _ ih => exact .clo g xs cs ih
  | sub k r off len cap e c z h1 h2 =>
    obtain ⟨c', z', h4, _⟩ := hs.sh r c e z h1
    exact .sub k r off len cap e c' z' h4 h2
  | mp k r => exact .mp k r
  | cnil r off => exact .cnil r off
  | ccons x xs r off y h1 h2 _ _ ih1 ih2 => exact .ccons x xs r off y (hI _ _ h1) ((hc _ _ h1).trans h2) ih1 ih2
  | vnil => exact .vnil
  | vcons x xs y ys _ _ ih1 ih2 => exact .vcons x xs y ys ih1 ih2

theorem R.vals_length {xs : List AV} {ys : List Value} (h : R P I w (.vals xs ys)) : xs.length = ys.length := by
  induction xs generalizing ys with
  | nil => cases h; rfl
  | cons x xs ih => cases h with | vcons _ _ y ys h1 h2 => simp [ih h2]

theorem R.vals_get {xs : List AV} {ys : List Value} (h : R P I w (.vals xs ys)) (j : Nat) (x : AV) (hx : xs[j]? = some x) : ∃ y, ys[j]? = some y ∧ R P I w (.val x y) := by
  induction xs generalizing ys j with
  | nil => simp at hx
  | cons a xs ih =>
    cases h with
    | vcons _ _ y ys h1 h2 =>
      cases j with
      | zero => simp at hx; subst hx; exact ⟨y, rfl, h1⟩
      | succ j => simpa using ih h2 j (by simpa using hx)

theorem R.vals_of {xs : List AV} {ys : List Value} (hl : xs.length = ys.length) (h : ∀ (j : Nat) (x : AV) (y : Value), xs[j]? = some x → ys[j]? = some y → R P I w (.val x y)) : R P I w (.vals xs ys) := by
  induction xs generalizing ys with
  | nil => cases ys with
    | nil => exact .vnil
    | cons y ys => simp at hl
  | cons x xs ih =>
    cases ys with
    | nil => simp at hl
    | cons y ys =>
      refine .vcons x xs y ys (h 0 x y rfl rfl) (ih (by simpa using hl) fun j x y hx hy => h (j + 1) x y (by simpa using hx) (by simpa using hy))

theorem R.vals_append {xs xs' : List AV} {ys ys' : List Value} (h : R P I w (.vals xs ys)) (h' : R P I w (.vals xs' ys')) : R P I w (.vals (xs ++ xs') (ys ++ ys')) := by
  induction xs generalizing ys with
  | nil => cases h; exact h'
  | cons x xs ih => cases h with | vcons _ _ y ys h1 h2 => exact .vcons x _ y _ h1 (ih h2)

theorem R.cells_get {xs : List AV} {r off : Nat} (h : R P I w (.cells xs r off)) (j : Nat) (x : AV) (hx : xs[j]? = some x) :
    ∃ y, w.cell? ⟨r, off + j, none⟩ = some y ∧ R P I w (.val x y) ∧ I r (off + j) := by
  induction xs generalizing off j with
  | nil => simp at hx
  | cons a xs ih =>
    cases h with
    | ccons _ _ _ _ y h1 h2 h3 h4 =>
      cases j with
      | zero => simp at hx; subst hx; exact ⟨y, h2, h3, h1⟩
      | succ j =>
        have := ih h4 j (by simpa using hx)
        rwa [show off + 1 + j = off + (j + 1) from by omega] at this

theorem R.cells_of {xs : List AV} {r off : Nat} (h : ∀ (j : Nat) (x : AV), xs[j]? = some x → ∃ y, w.cell? ⟨r, off + j, none⟩ = some y ∧ R P I w (.val x y) ∧ I r (off + j)) : R P I w (.cells xs r off) := by
  induction xs generalizing off with
  | nil => exact .cnil _ _
  | cons a xs ih =>
    obtain ⟨y, h1, h2, h3⟩ := h 0 a rfl
    refine .ccons a xs r off y h3 h1 h2 (ih fun j x hx => ?_)
    have := h (j + 1) x (by simpa using hx)
    rwa [show off + (j + 1) = off + 1 + j from by omega] at this

theorem R.cells_drop {xs : List AV} {r off : Nat} (h : R P I w (.cells xs r off)) (k : Nat) : R P I w (.cells (xs.drop k) r (off + k)) := by
  refine .cells_of fun j x hx => ?_
  have := h.cells_get (k + j) x (by simpa [List.getElem?_drop] using hx)
  rwa [show off + k + j = off + (k + j) from by omega]

theorem R.cells_take {xs : List AV} {r off : Nat} (h : R P I w (.cells xs r off)) (k : Nat) : R P I w (.cells (xs.take k) r off) := by
  refine .cells_of fun j x hx => ?_
  refine h.cells_get j x ?_
  rw [List.getElem?_take] at hx
  split at hx
  · exact hx
  · simp at hx

end

/-! ### Objects: what a block of the call's own, or a block behind a pointer, holds -/

structure Obj where
  elem : TypeId
  xs : List AV
  frozen : Nat := 0
  var : Bool := false
  map : Option (List (AV × AV)) := none

abbrev Mem := Nat → Option Obj
/-- The call's own blocks, by keys of the proof's choice. -/
abbrev Own := Nat → Option (Nat × Obj)

def upd {α : Type} (m : Nat → Option α) (r : Nat) (o : Option α) : Nat → Option α := fun x => if x = r then o else m x
theorem upd_same {α : Type} (m : Nat → Option α) (r : Nat) (o : Option α) : upd m r o r = o := by simp [upd]
theorem upd_ne {α : Type} (m : Nat → Option α) (r x : Nat) (o : Option α) (h : x ≠ r) : upd m r o x = m x := by simp [upd, h]

/-- Block r holds what the object says. -/
structure ObjR (P : Program) (I : Nat → Nat → Prop) (w : World) (r : Nat) (ob : Obj) : Prop where
  ex : ∃ c : Array Value, w.heap[r]? = some (.cells c ob.elem (0, 0)) ∧ (flat ob.xs).length ≤ c.size ∧ ∀ (j : Nat) (x : AV), (flat ob.xs)[j]? = some x → ∃ y, c[j]? = some y ∧ R P I w (.val x y)
  uni : ∀ x ∈ ob.xs, x.cells.length = P.cellsOf ob.elem
  pos : 0 < P.cellsOf ob.elem
  fz : ob.frozen ≤ ob.xs.length

/-- Block r is a map with these entries. -/
structure MapR (P : Program) (I : Nat → Nat → Prop) (w : World) (r : Nat) (es : List (AV × AV)) : Prop where
  ex : ∃ (ms : Array MapEntry) (clock : Nat), w.heap[r]? = some (.map ms clock) ∧ ms.size = es.length ∧ (∀ (j : Nat) (x : AV × AV), es[j]? = some x → ∃ m, ms[j]? = some m ∧ R P I w (.val x.1 m.key) ∧ R P I w (.val x.2 m.val)) ∧ ∀ m ∈ ms.toList, m.born < clock

def AnyR (P : Program) (I : Nat → Nat → Prop) (w : World) (r : Nat) (ob : Obj) : Prop :=
  match ob.map with
  | none => ObjR P I w r ob
  | some es => MapR P I w r es

/-- All blocks behind pointers. -/
def MemR (P : Program) (I : Nat → Nat → Prop) (w : World) (H : Mem) : Prop := ∀ r ob, H r = some ob → AnyR P I w r ob ∧ ∀ o, ¬ I r o

/-- What is claimed of cells can be read. -/
def Read (I : Nat → Nat → Prop) (w : World) : Prop := ∀ r o, I r o → ∃ c e z, w.heap[r]? = some (.cells c e z) ∧ o < c.size

/-- A contract: called with arguments that are these values, with these blocks behind pointers, the function returns a value, and leaves blocks, of which Q speaks; other blocks that were there are as they were. -/
def Fn (P : Program) (f : FuncId) (args : List AV) (H : Mem) (Q : AV → Mem → Prop) : Prop :=
  (∃ fn, P.funcs[f]? = some fn ∧ (fn.name == "runtime.NumGoroutine") = false ∧ fn.body.isNone = false) ∧
  ∀ (w : World) (I : Nat → Nat → Prop) (cs : Array Value), Read I w → MemR P I w H → R P I w (.vals args cs.toList) →
    Calls P f cs w fun e w' => ∃ r H' I' c, Q r H' ∧ e = .returned c ∧ (∀ b o, I b o → I' b o) ∧ (∀ b o, I' b o → I b o ∨ w.heap.size ≤ b ∨ (H b ≠ none ∧ H' b = none)) ∧ Read I' w' ∧ MemR P I' w' H' ∧ R P I' w' (.val r c) ∧
      w.heap.size ≤ w'.heap.size ∧ Shapes w w' ∧ (∀ b, b < w.heap.size → H b = none → H' b = none ∧ w'.heap[b]? = w.heap[b]?)

theorem Fn.mono {P : Program} {f : FuncId} {args : List AV} {H : Mem} {Q Q' : AV → Mem → Prop} (h : Fn P f args H Q) (hq : ∀ r H', Q r H' → Q' r H') : Fn P f args H Q' :=
  ⟨h.1, fun w I cs h1 h2 h3 => (h.2 w I cs h1 h2 h3).mono fun _ _ ⟨r, H', I', c, q, rest⟩ => ⟨r, H', I', c, hq _ _ q, rest⟩⟩

end Go.Am
