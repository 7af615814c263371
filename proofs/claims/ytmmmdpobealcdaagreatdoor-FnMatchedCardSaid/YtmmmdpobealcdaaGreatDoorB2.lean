/- What it says that the computing machine's state, with names, is a state of the proof's. -/
import Derived.Test.YtmmmdpobealcdaaGreatDoorB1
set_option linter.unusedVariables false
set_option linter.unusedSimpArgs false
namespace Go.Am
open Go

abbrev Nm := Nat → Option Nat
def Nm.le (ρ ρ' : Nm) : Prop := ∀ m r, ρ m = some r → ρ' m = some r
theorem Nm.le.refl (ρ : Nm) : Nm.le ρ ρ := fun _ _ h => h
/-- Further names, all of them from n on. -/
structure Up (n : Nat) (ρ : Nm) (n' : Nat) (ρ' : Nm) : Prop where
  le : Nm.le ρ ρ'
  ge : n ≤ n'
  ext : ∀ m, m < n → ρ' m = ρ m
theorem Up.refl (n : Nat) (ρ : Nm) : Up n ρ n ρ := ⟨.refl ρ, Nat.le_refl n, fun _ _ => rfl⟩
theorem Up.trans {n n' n'' : Nat} {ρ ρ' ρ'' : Nm} (h : Up n ρ n' ρ') (h' : Up n' ρ' n'' ρ'') : Up n ρ n'' ρ'' :=
  ⟨fun m r hr => h'.le m r (h.le m r hr), Nat.le_trans h.ge h'.ge, fun m hm => (h'.ext m (Nat.lt_of_lt_of_le hm h.ge)).trans (h.ext m hm)⟩
theorem Nm.le.trans {ρ ρ' ρ'' : Nm} (h : Nm.le ρ ρ') (h' : Nm.le ρ' ρ'') : Nm.le ρ ρ'' := fun m r hr => h' m r (h m r hr)

inductive G2 where
  | one (x y : AV)
  | many (xs ys : List AV)

/-- The same value, blocks by names on the left. -/
inductive Ren (ρ : Nm) : G2 → Prop
  | v (x : Value) : Ren ρ (.one (.v x) (.v x))
  | vec (k : Option Nat) (m r n : Nat) : ρ m = some r → Ren ρ (.one (.vec k m n) (.vec k r n))
  | list (s : Nat) (xs ys : List AV) : Ren ρ (.many xs ys) → Ren ρ (.one (.list s xs) (.list s ys))
  | ptr (k : Option Nat) (m r i o : Nat) : ρ m = some r → Ren ρ (.one (.ptr k m i o) (.ptr k r i o))
  | pref (xs ys : List AV) : Ren ρ (.many xs ys) → Ren ρ (.one (.pref xs) (.pref ys))
  | agg (xs ys : List AV) : Ren ρ (.many xs ys) → Ren ρ (.one (.agg xs) (.agg ys))
  | tuple (xs ys : List AV) : Ren ρ (.many xs ys) → Ren ρ (.one (.tuple xs) (.tuple ys))
  | clo (g : Nat) (xs ys : List AV) : Ren ρ (.many xs ys) → Ren ρ (.one (.clo g xs) (.clo g ys))
  | sub (k : Option Nat) (m r o n : Nat) : ρ m = some r → Ren ρ (.one (.sub k m o n) (.sub k r o n))
  | mp (k : Option Nat) (m r : Nat) : ρ m = some r → Ren ρ (.one (.mp k m) (.mp k r))
  | nil : Ren ρ (.many [] [])
  | cons (x y : AV) (xs ys : List AV) : Ren ρ (.one x y) → Ren ρ (.many xs ys) → Ren ρ (.many (x :: xs) (y :: ys))

section
variable {ρ ρ' : Nm}

theorem Ren.mono {g : G2} (h : Ren ρ g) (hl : Nm.le ρ ρ') : Ren ρ' g := by
  induction h with
  | v x => exact .v x
  | vec k m r n h => exact .vec k m r n (hl _ _ h)
  | list s xs ys _ ih => exact .list s xs ys ih
  | ptr k m r i o h => exact .ptr k m r i o (hl _ _ h)
  | pref xs ys _ ih => exact .pref xs ys ih
  | agg xs ys _ ih => exact .agg xs ys ih
  | tuple xs ys _ ih => exact .tuple xs ys ih
  | clo g xs ys _ ih => exact .clo g xs ys ih
  | sub k m r o n h => exact .sub k m r o n (hl _ _ h)
  | mp k m r h => exact .mp k m r (hl _ _ h)
  | nil => exact .nil
  | cons x y xs ys _ _ ih1 ih2 => exact .cons x y xs ys ih1 ih2

theorem Ren.length {xs ys : List AV} (h : Ren ρ (.many xs ys)) : xs.length = ys.length := by
  induction xs generalizing ys with
  | nil => cases h; rfl
  | cons x xs ih => cases h with | cons _ y _ ys h1 h2 => simp [ih h2]

theorem Ren.get {xs ys : List AV} (h : Ren ρ (.many xs ys)) {j : Nat} {x : AV} (hx : xs[j]? = some x) : ∃ y, ys[j]? = some y ∧ Ren ρ (.one x y) := by
  induction xs generalizing ys j with
  | nil => simp at hx
  | cons a xs ih =>
    cases h with
    | cons _ y _ ys h1 h2 =>
      cases j with
      | zero => simp at hx; subst hx; exact ⟨y, rfl, h1⟩
      | succ j => simpa using ih h2 (by simpa using hx)

theorem Ren.append {xs ys xs' ys' : List AV} (h : Ren ρ (.many xs ys)) (h' : Ren ρ (.many xs' ys')) : Ren ρ (.many (xs ++ xs') (ys ++ ys')) := by
  induction xs generalizing ys with
  | nil => cases h; exact h'
  | cons x xs ih => cases h with | cons _ y _ ys h1 h2 => exact .cons x y _ _ h1 (ih h2)

theorem Ren.take {xs ys : List AV} (h : Ren ρ (.many xs ys)) (n : Nat) : Ren ρ (.many (xs.take n) (ys.take n)) := by
  induction xs generalizing ys n with
  | nil => cases h; simp; exact .nil
  | cons x xs ih =>
    cases h with
    | cons _ y _ ys h1 h2 =>
      cases n with
      | zero => simp; exact .nil
      | succ n => simp; exact .cons x y _ _ h1 (ih h2 n)

theorem Ren.drop {xs ys : List AV} (h : Ren ρ (.many xs ys)) (n : Nat) : Ren ρ (.many (xs.drop n) (ys.drop n)) := by
  induction xs generalizing ys n with
  | nil => cases h; simp; exact .nil
  | cons x xs ih =>
    cases h with
    | cons _ y _ ys h1 h2 =>
      cases n with
      | zero => simp; exact .cons x y _ _ h1 h2
      | succ n => simp; exact ih h2 n

theorem Ren.set {xs ys : List AV} (h : Ren ρ (.many xs ys)) (n : Nat) {x y : AV} (hx : Ren ρ (.one x y)) : Ren ρ (.many (xs.set n x) (ys.set n y)) := by
  induction xs generalizing ys n with
  | nil => cases h; simp; exact .nil
  | cons a xs ih =>
    cases h with
    | cons _ b _ ys h1 h2 =>
      cases n with
      | zero => simp; exact .cons x y _ _ hx h2
      | succ n => simp; exact .cons a b _ _ h1 (ih h2 n)

theorem Ren.consts (cs : List Value) : Ren ρ (.many (cs.map .v) (cs.map .v)) := by
  induction cs with
  | nil => exact .nil
  | cons c cs ih => exact .cons _ _ _ _ (.v c) ih

theorem Ren.ofConst (c : Value) : Ren ρ (.one (ofConst c) (ofConst c)) := by
  cases c with
  | agg cs => exact .agg _ _ (.consts _)
  | _ => exact .v _

theorem Ren.zero {P : Program} {t : TypeId} {z : AV} (h : zeroAV P t = some z) : Ren ρ (.one z z) := by
  unfold zeroAV at h
  obtain ⟨c, _, rfl⟩ := Option.map_eq_some_iff.1 h
  exact .ofConst c

theorem Ren.replicate {x y : AV} (h : Ren ρ (.one x y)) (n : Nat) : Ren ρ (.many (List.replicate n x) (List.replicate n y)) := by
  induction n with
  | zero => exact .nil
  | succ n ih => exact .cons _ _ _ _ h ih

theorem Ren.cells {x y : AV} (h : Ren ρ (.one x y)) : Ren ρ (.many x.cells y.cells) := by
  cases h with
  | agg xs ys h => exact h
  | v x => exact .cons _ _ _ _ (.v x) .nil
  | vec k m r n h => exact .cons _ _ _ _ (.vec k m r n h) .nil
  | list s xs ys h => exact .cons _ _ _ _ (.list s xs ys h) .nil
  | ptr k m r i o h => exact .cons _ _ _ _ (.ptr k m r i o h) .nil
  | pref xs ys h => exact .cons _ _ _ _ (.pref xs ys h) .nil
  | tuple xs ys h => exact .cons _ _ _ _ (.tuple xs ys h) .nil
  | clo g xs ys h => exact .cons _ _ _ _ (.clo g xs ys h) .nil
  | sub k m r o n h => exact .cons _ _ _ _ (.sub k m r o n h) .nil
  | mp k m r h => exact .cons _ _ _ _ (.mp k m r h) .nil

theorem Ren.one_eq {x y : AV} (h : Ren ρ (.one x y)) : x.one = y.one := by cases h <;> rfl

theorem Ren.all_one {xs ys : List AV} (h : Ren ρ (.many xs ys)) : xs.all AV.one = ys.all AV.one := by
  induction xs generalizing ys with
  | nil => cases h; rfl
  | cons x xs ih => cases h with | cons _ y _ ys h1 h2 => simp [List.all_cons, ih h2, h1.one_eq]

theorem Ren.ones_eq {x y : AV} (h : Ren ρ (.one x y)) : x.ones = y.ones := h.cells.all_one

theorem Ren.all_ones {xs ys : List AV} (h : Ren ρ (.many xs ys)) : xs.all AV.ones = ys.all AV.ones := by
  induction xs generalizing ys with
  | nil => cases h; rfl
  | cons x xs ih => cases h with | cons _ y _ ys h1 h2 => simp [List.all_cons, ih h2, h1.ones_eq]

theorem Ren.up {x y : AV} (h : Ren ρ (.one x y)) (k : Nat) {new new' : List AV} (hn : Ren ρ (.many new new')) : Ren ρ (.one (x.up k new) (y.up k new')) := by
  cases h with
  | agg xs ys h => exact .agg _ _ (((h.take k).append hn).append (by rw [hn.length]; exact h.drop _))
  | v x => cases hn with | nil => exact .v x | cons a b _ _ h1 h2 => exact h1
  | vec k m r n h => cases hn with | nil => exact .vec k m r n h | cons a b _ _ h1 h2 => exact h1
  | list s xs ys h => cases hn with | nil => exact .list s xs ys h | cons a b _ _ h1 h2 => exact h1
  | ptr k m r i o h => cases hn with | nil => exact .ptr k m r i o h | cons a b _ _ h1 h2 => exact h1
  | pref xs ys h => cases hn with | nil => exact .pref xs ys h | cons a b _ _ h1 h2 => exact h1
  | tuple xs ys h => cases hn with | nil => exact .tuple xs ys h | cons a b _ _ h1 h2 => exact h1
  | clo g xs ys h => cases hn with | nil => exact .clo g xs ys h | cons a b _ _ h1 h2 => exact h1
  | sub k m r o n h => cases hn with | nil => exact .sub k m r o n h | cons a b _ _ h1 h2 => exact h1
  | mp k m r h => cases hn with | nil => exact .mp k m r h | cons a b _ _ h1 h2 => exact h1

end

inductive RenE (ρ : Nm) : List (AV × AV) → List (AV × AV) → Prop
  | nil : RenE ρ [] []
  | cons (x y : AV × AV) (xs ys : List (AV × AV)) : Ren ρ (.one x.1 y.1) → Ren ρ (.one x.2 y.2) → RenE ρ xs ys → RenE ρ (x :: xs) (y :: ys)

theorem RenE.mono {ρ ρ' : Nm} {xs ys : List (AV × AV)} (h : RenE ρ xs ys) (hl : Nm.le ρ ρ') : RenE ρ' xs ys := by
  induction h with
  | nil => exact .nil
  | cons x y xs ys h1 h2 _ ih => exact .cons x y xs ys (h1.mono hl) (h2.mono hl) ih
theorem RenE.get {ρ : Nm} {xs ys : List (AV × AV)} (h : RenE ρ xs ys) {j : Nat} {x : AV × AV} (hx : xs[j]? = some x) : ∃ y, ys[j]? = some y ∧ Ren ρ (.one x.1 y.1) ∧ Ren ρ (.one x.2 y.2) := by
  induction h generalizing j with
  | nil => simp at hx
  | cons a b xs ys h1 h2 _ ih =>
    cases j with
    | zero => simp at hx; subst hx; exact ⟨b, rfl, h1, h2⟩
    | succ j => simpa using ih (by simpa using hx)
theorem RenE.snoc {ρ : Nm} {xs ys : List (AV × AV)} (h : RenE ρ xs ys) {x y : AV × AV} (h1 : Ren ρ (.one x.1 y.1)) (h2 : Ren ρ (.one x.2 y.2)) : RenE ρ (xs ++ [x]) (ys ++ [y]) := by
  induction h with
  | nil => exact .cons _ _ _ _ h1 h2 .nil
  | cons a b xs ys h3 h4 _ ih => exact .cons _ _ _ _ h3 h4 ih
theorem RenE.set {ρ : Nm} {xs ys : List (AV × AV)} (h : RenE ρ xs ys) (j : Nat) {x y : AV × AV} (h1 : Ren ρ (.one x.1 y.1)) (h2 : Ren ρ (.one x.2 y.2)) : RenE ρ (xs.set j x) (ys.set j y) := by
  induction h generalizing j with
  | nil => exact .nil
  | cons a b xs ys h3 h4 h5 ih =>
    cases j with
    | zero => exact .cons _ _ _ _ h1 h2 h5
    | succ j => exact .cons _ _ _ _ h3 h4 (ih j)

def RenMp (ρ : Nm) : Option (List (AV × AV)) → Option (List (AV × AV)) → Prop
  | none, none => True
  | some xs, some ys => RenE ρ xs ys
  | _, _ => False

theorem RenMp.mono {ρ ρ' : Nm} {x y : Option (List (AV × AV))} (h : RenMp ρ x y) (hl : Nm.le ρ ρ') : RenMp ρ' x y := by
  cases x <;> cases y <;> first | exact h | exact RenE.mono h hl
theorem RenMp.none {ρ : Nm} {x y : Option (List (AV × AV))} (h : RenMp ρ x y) (hx : x = .none) : y = .none := by
  subst hx; cases y <;> first | rfl | exact h.elim
theorem RenMp.some {ρ : Nm} {x y : Option (List (AV × AV))} (h : RenMp ρ x y) {es : List (AV × AV)} (hx : x = .some es) : ∃ es', y = .some es' ∧ RenE ρ es es' := by
  subst hx; cases y with | none => exact h.elim | some es' => exact ⟨es', rfl, h⟩

structure RenOb (ρ : Nm) (ob ob' : Obj) : Prop where
  elem : ob.elem = ob'.elem
  xs : Ren ρ (.many ob.xs ob'.xs)
  frozen : ob.frozen = ob'.frozen
  var : ob.var = ob'.var
  map : RenMp ρ ob.map ob'.map

theorem RenOb.mono {ρ ρ' : Nm} {ob ob' : Obj} (h : RenOb ρ ob ob') (hl : Nm.le ρ ρ') : RenOb ρ' ob ob' := ⟨h.elem, h.xs.mono hl, h.frozen, h.var, h.map.mono hl⟩

/-! ### The helpers that compute are the usual ones -/

theorem nth_eq {α : Type} (xs : List α) (n : Nat) : nth xs n = xs[n]? := by
  unfold nth
  induction xs generalizing n with
  | nil => rfl
  | cons x xs ih => cases n with
    | zero => rfl
    | succ n => simpa using ih n
theorem lenR_eq {α : Type} (xs : List α) : lenR xs = xs.length := by
  unfold lenR
  induction xs with
  | nil => rfl
  | cons x xs ih => simpa using ih
theorem takeR_eq {α : Type} (n : Nat) (xs : List α) : takeR n xs = xs.take n := by
  unfold takeR
  induction xs generalizing n with
  | nil => simp
  | cons x xs ih => cases n with
    | zero => rfl
    | succ n => simpa using ih n
theorem dropR_eq {α : Type} (n : Nat) (xs : List α) : dropR n xs = xs.drop n := by
  unfold dropR
  induction n generalizing xs with
  | zero => rfl
  | succ n ih => cases xs with
    | nil => rfl
    | cons x xs => simpa using ih xs
theorem appR_eq {α : Type} (xs ys : List α) : appR xs ys = xs ++ ys := by
  unfold appR
  induction xs with
  | nil => rfl
  | cons x xs ih => simpa using ih
theorem setR_eq {α : Type} (xs : List α) (n : Nat) (y : α) : setR xs n y = xs.set n y := by
  unfold setR
  induction xs generalizing n with
  | nil => rfl
  | cons x xs ih => cases n with
    | zero => rfl
    | succ n => simpa using ih n
theorem repR_eq {α : Type} (n : Nat) (x : α) : repR n x = List.replicate n x := by
  unfold repR
  induction n with
  | zero => rfl
  | succ n ih => simpa [List.replicate_succ] using ih
theorem allR_eq {α : Type} (f : α → Bool) (xs : List α) : allR f xs = xs.all f := by
  unfold allR
  induction xs with
  | nil => rfl
  | cons x xs ih =>
    simp only [List.all_cons]
    cases f x
    · rfl
    · simpa using ih
theorem onesR_eq (x : AV) : onesR x = x.ones := allR_eq _ _
theorem onesR_eq' : onesR = AV.ones := funext onesR_eq
theorem upR_eq (x : AV) (k : Nat) (new : List AV) : upR x k new = x.up k new := by
  unfold upR AV.up
  cases x <;> first
    | (simp only [appR_eq, takeR_eq, dropR_eq, lenR_eq]; rw [List.append_assoc])
    | (cases new <;> rfl)

theorem beq_ne {k j : Nat} (h : k ≠ j) : Nat.beq k j = false := by
  cases hb : Nat.beq k j with
  | false => rfl
  | true => exact absurd (Nat.eq_of_beq_eq_true hb) h
theorem beq_eq {k j : Nat} (h : Nat.beq k j = true) : k = j := Nat.eq_of_beq_eq_true h
theorem beq_self (k : Nat) : Nat.beq k k = true := Nat.beq_refl k

theorem aget_nil {α : Type} (k : Nat) : aget k ([] : List (Nat × α)) = none := rfl
theorem aget_cons {α : Type} (k : Nat) (v : α) (m : List (Nat × α)) (j : Nat) : aget j ((k, v) :: m) = if j = k then some v else aget j m := by
  unfold aget
  by_cases h : j = k
  · subst h; simp only [beq_self, if_true]
  · simp only [beq_ne (fun e => h e.symm), if_neg h]
theorem aset_cons {α : Type} (k : Nat) (v : α) (p : Nat × α) (m : List (Nat × α)) : aset k v (p :: m) = if p.1 = k then (k, v) :: m else p :: aset k v m := by
  unfold aset
  by_cases h : p.1 = k
  · subst h; simp only [beq_self, if_true]
  · simp only [beq_ne h, if_neg h]
theorem adel_cons {α : Type} (k : Nat) (p : Nat × α) (m : List (Nat × α)) : adel k (p :: m) = if p.1 = k then adel k m else p :: adel k m := by
  unfold adel
  by_cases h : p.1 = k
  · subst h; simp only [beq_self, if_true]
  · simp only [beq_ne h, if_neg h]

theorem aget_set {α : Type} (k : Nat) (v : α) (m : List (Nat × α)) (j : Nat) : aget j (aset k v m) = if j = k then some v else aget j m := by
  induction m with
  | nil => exact aget_cons k v [] j
  | cons p m ih =>
    obtain ⟨i, u⟩ := p
    rw [aset_cons]
    by_cases hp : i = k
    · rw [if_pos hp, aget_cons, aget_cons]
      by_cases h : j = k
      · rw [if_pos h, if_pos h]
      · rw [if_neg h, if_neg h, if_neg (fun e => h (e.trans hp))]
    · rw [if_neg hp, aget_cons, aget_cons, ih]
      by_cases h : j = k
      · rw [if_pos h, if_pos h, if_neg (fun e => hp (e.symm.trans h))]
      · rw [if_neg h, if_neg h]

theorem aget_del {α : Type} (k : Nat) (m : List (Nat × α)) (j : Nat) : aget j (adel k m) = if j = k then none else aget j m := by
  induction m with
  | nil => show none = _; split <;> rfl
  | cons p m ih =>
    obtain ⟨i, u⟩ := p
    rw [adel_cons]
    by_cases hp : i = k
    · rw [if_pos hp, aget_cons, ih]
      by_cases h : j = k
      · rw [if_pos h, if_pos h]
      · rw [if_neg h, if_neg h, if_neg (fun e => h (e.trans hp))]
    · rw [if_neg hp, aget_cons, aget_cons, ih]
      by_cases h : j = k
      · rw [if_pos h, if_pos h, if_neg (fun e => hp (e.symm.trans h))]
      · rw [if_neg h, if_neg h]

/-! ### The temporaries -/

def N8.get {α : Type} (e : N8 α) (i : Nat) : α :=
  match i with
  | 0 => e.a0
  | 1 => e.a1
  | 2 => e.a2
  | 3 => e.a3
  | 4 => e.a4
  | 5 => e.a5
  | 6 => e.a6
  | _ => e.a7
def N8.put {α : Type} (e : N8 α) (i : Nat) (y : α) : N8 α :=
  match i with
  | 0 => { e with a0 := y }
  | 1 => { e with a1 := y }
  | 2 => { e with a2 := y }
  | 3 => { e with a3 := y }
  | 4 => { e with a4 := y }
  | 5 => { e with a5 := y }
  | 6 => { e with a6 := y }
  | _ => { e with a7 := y }

theorem N8.sel_eq {α β : Type} (i : Nat) (k : (N8 α → α) → β) : N8.sel i k = k (fun e => e.get i) := by
  match i with
  | 0 | 1 | 2 | 3 | 4 | 5 | 6 => rfl
  | n + 7 => rfl
theorem N8.foc_eq {α β γ : Type} (i : Nat) (k : (N8 α → (α → (α → N8 α) → γ) → γ) → β) : N8.foc i k = k (fun e r => r (e.get i) (e.put i)) := by
  match i with
  | 0 | 1 | 2 | 3 | 4 | 5 | 6 => rfl
  | n + 7 => rfl
theorem N8.get_put {α : Type} (e : N8 α) (i j : Nat) (y : α) (hi : i < 8) (hj : j < 8) : (e.put i y).get j = if j = i then y else e.get j := by
  match i, hi with
  | 0, _ | 1, _ | 2, _ | 3, _ | 4, _ | 5, _ | 6, _ | 7, _ => match j, hj with
    | 0, _ | 1, _ | 2, _ | 3, _ | 4, _ | 5, _ | 6, _ | 7, _ => rfl
  | n + 8, h => omega

def tget (t : T3) (i : Nat) : Option AV := ((t.get (i / 64)).get (i / 8 % 8)).get (i % 8)
def tput (t : T3) (i : Nat) (x : AV) : T3 := t.put (i / 64) ((t.get (i / 64)).put (i / 8 % 8) (((t.get (i / 64)).get (i / 8 % 8)).put (i % 8) (some x)))

theorem tget_tput (t : T3) (i j : Nat) (x : AV) (hi : i < 512) (hj : j < 512) : tget (tput t i x) j = if j = i then some x else tget t j := by
  unfold tget tput
  rw [N8.get_put _ _ _ _ (by omega) (by omega)]
  by_cases h1 : j / 64 = i / 64
  · rw [if_pos h1, N8.get_put _ _ _ _ (by omega) (by omega)]
    by_cases h2 : j / 8 % 8 = i / 8 % 8
    · rw [if_pos h2, N8.get_put _ _ _ _ (by omega) (by omega)]
      by_cases h3 : j % 8 = i % 8
      · rw [if_pos h3, if_pos (by omega)]
      · rw [if_neg h3, if_neg (by omega), h1, h2]
    · rw [if_neg h2, if_neg (by omega), h1]
  · rw [if_neg h1, if_neg (by omega)]

theorem getC_run {i : Nat} {t : T3} {K : AV → Ans} {r : AV × HE × Nat} (h : (getC i).run t K = some r) : ∃ x, i < 512 ∧ tget t i = some x ∧ K x = some r := by
  unfold getC at h
  split at h
  · rename_i hi
    rw [N8.sel_eq, N8.sel_eq, N8.sel_eq] at h
    simp only at h
    split at h
    · rename_i x hx
      exact ⟨x, by have := Nat.le_of_ble_eq_true hi; omega, hx, h⟩
    · cases h
  · cases h

theorem putC_run {i : Nat} {t : T3} {x : AV} {K : T3 → Ans} {r : AV × HE × Nat} (h : (putC i).run t x K = some r) : i < 512 ∧ K (tput t i x) = some r := by
  unfold putC at h
  split at h
  · rename_i hi
    rw [N8.foc_eq, N8.foc_eq, N8.foc_eq] at h
    exact ⟨by have := Nat.le_of_ble_eq_true hi; omega, h⟩
  · cases h

/-! ### The state -/

structure RenH (ρ : Nm) (H : HE) (nx : Nat) (M : Mem) : Prop where
  H1 : ∀ m ob, aget m H = some ob → ∃ r ob', ρ m = some r ∧ RenOb ρ ob ob' ∧ M r = some ob'
  H2 : ∀ r ob', M r = some ob' → ∃ m ob, ρ m = some r ∧ aget m H = some ob
  inj : ∀ m m' r, aget m H ≠ none → aget m' H ≠ none → ρ m = some r → ρ m' = some r → m = m'
  nx : ∀ m r, ρ m = some r → m < nx

structure RenS (ρ : Nm) (t : T3) (L : LE) (H : HE) (nx : Nat) (st : St) : Prop extends RenH ρ H nx st.H where
  t : ∀ i x, i < 512 → tget t i = some x → ∃ y, Ren ρ (.one x y) ∧ st.t i = some y
  L : ∀ k m ob, aget k L = some (m, ob) → ∃ r ob', ρ m = some r ∧ RenOb ρ ob ob' ∧ st.L k = some (r, ob')

/-- What is left to do behind an operation comes to the answer. -/
def Post (ρ : Nm) (n0 : Nat) (t : T3) (K : K1) (r : AV × HE × Nat) (y' : AV) (st' : St) : Prop :=
  ∃ ρ' y L H nx, Up n0 ρ nx ρ' ∧ Ren ρ' (.one y y') ∧ RenS ρ' t L H nx st' ∧ K y L H nx = some r

/-- An operation's function is right. -/
def OpOk (c : Clo OpF) (k : St → (AV → St → Prop) → Prop) : Prop :=
  ∀ (ρ : Nm) (t : T3) (L : LE) (H : HE) (nx : Nat) (K : K1) (r : AV × HE × Nat) (st : St), RenS ρ t L H nx st → c.run t L H nx K = some r → k st (Post ρ nx t K r)

theorem OpOk.fail {k : St → (AV → St → Prop) → Prop} : OpOk ⟨fun _ _ _ _ _ => none⟩ k := fun _ _ _ _ _ _ _ _ _ h => by cases h

section
variable {ρ : Nm} {t : T3} {L : LE} {H : HE} {nx : Nat} {st : St} {r : AV × HE × Nat}

theorem RenS.post (h : RenS ρ t L H nx st) {K : K1} {x y : AV} (hr : Ren ρ (.one x y)) (hk : K x L H nx = some r) : Post ρ nx t K r y st := ⟨ρ, x, L, H, nx, .refl nx ρ, hr, h, hk⟩

theorem avC_run (h : RenS ρ t L H nx st) {x : Operand} {K : AV → Ans} (hk : (avC x).run t K = some r) : ∃ z z', Ren ρ (.one z z') ∧ av st x = some z' ∧ K z = some r := by
  unfold avC at hk
  split at hk
  · rename_i i
    obtain ⟨z, hi, hz, hk⟩ := getC_run hk
    obtain ⟨z', h1, h2⟩ := h.t i z hi hz
    exact ⟨z, z', h1, h2, hk⟩
  · rename_i c
    exact ⟨_, _, .ofConst c, rfl, hk⟩
  · exact ⟨_, _, .v _, rfl, hk⟩
  · cases hk

def atOb (st : St) (k : Option Nat) (b : Nat) (ob' : Obj) : Prop := match k with | some k => st.L k = some (b, ob') | none => st.H b = some ob' ∧ ob'.map = none
def inE (L : LE) (H : HE) (k : Option Nat) (m : Nat) (ob : Obj) : Prop := match k with | some k => aget k L = some (m, ob) | none => aget m H = some ob

theorem lookE_run (h : RenS ρ t L H nx st) {k : Option Nat} {m b : Nat} (hm : ρ m = some b) {K : Obj → Ans} (hk : lookE L H k m K = some r) :
    ∃ ob ob', RenOb ρ ob ob' ∧ K ob = some r ∧ atOb st k b ob' ∧ inE L H k m ob := by
  unfold lookE at hk
  cases k with
  | some k =>
    simp only at hk
    cases hp : aget k L with
    | none => rw [hp] at hk; cases hk
    | some p =>
      obtain ⟨m', ob⟩ := p
      rw [hp] at hk
      simp only at hk
      cases he : Nat.beq m' m with
      | false => rw [he] at hk; cases hk
      | true =>
        rw [he] at hk
        obtain rfl : m' = m := beq_eq he
        obtain ⟨b', ob', h1, h2, h3⟩ := h.L k m' ob hp
        rw [hm] at h1
        obtain rfl : b = b' := by simpa using h1
        exact ⟨ob, ob', h2, hk, h3, hp⟩
  | none =>
    simp only at hk
    cases hp : aget m H with
    | none => rw [hp] at hk; cases hk
    | some ob =>
      rw [hp] at hk
      simp only at hk
      cases hmp : ob.map with
      | some es => rw [hmp] at hk; cases hk
      | none =>
        rw [hmp] at hk
        obtain ⟨b', ob', h1, h2, h3⟩ := h.H1 m ob hp
        rw [hm] at h1
        obtain rfl : b = b' := by simpa using h1
        exact ⟨ob, ob', h2, hk, ⟨h3, h2.map.none hmp⟩, hp⟩

theorem look_of {k : Option Nat} {b : Nat} {ob' : Obj} {K : Obj → Prop} (h : atOb st k b ob') (hK : K ob') : look st k b K := by
  unfold look
  cases k with
  | some k =>
    have h' : st.L k = some (b, ob') := h
    simp only [h']
    exact ⟨trivial, hK⟩
  | none =>
    have h' : st.H b = some ob' ∧ ob'.map = none := h
    simp only [h'.1]
    exact ⟨h'.2, hK⟩

/-- A new name. -/
def Nm.with (ρ : Nm) (m b : Nat) : Nm := fun i => if i = m then some b else ρ i
theorem Nm.with_self (ρ : Nm) (m b : Nat) : ρ.with m b m = some b := by simp [Nm.with]

theorem RenH.fresh {M : Mem} (h : RenH ρ H nx M) : ρ nx = none := by
  cases hq : ρ nx with
  | none => rfl
  | some b => exact absurd (h.nx _ _ hq) (Nat.lt_irrefl _)

theorem RenH.le_with {M : Mem} (h : RenH ρ H nx M) (b : Nat) : Nm.le ρ (ρ.with nx b) := fun m r hr => by
  have : m ≠ nx := fun e => by rw [e, h.fresh] at hr; cases hr
  simpa [Nm.with, this] using hr

theorem RenH.up_with {M : Mem} (h : RenH ρ H nx M) (b : Nat) : Up nx ρ (Nat.succ nx) (ρ.with nx b) :=
  ⟨h.le_with b, Nat.le_succ nx, fun m hm => by simp [Nm.with, Nat.ne_of_lt hm]⟩

theorem RenH.lt {M : Mem} (h : RenH ρ H nx M) {m : Nat} {ob : Obj} (ho : aget m H = some ob) : m ≠ nx := fun e => by
  obtain ⟨b, _, h1, _⟩ := h.H1 m ob ho
  rw [e, h.fresh] at h1
  cases h1

theorem RenH.grow {M : Mem} (h : RenH ρ H nx M) (b : Nat) : RenH (ρ.with nx b) H (Nat.succ nx) M where
  H1 := fun m ob ho => let ⟨r, ob', h1, h2, h3⟩ := h.H1 m ob ho; ⟨r, ob', h.le_with b _ _ h1, h2.mono (h.le_with b), h3⟩
  H2 := fun r ob' ho => let ⟨m, ob, h1, h2⟩ := h.H2 r ob' ho; ⟨m, ob, h.le_with b _ _ h1, h2⟩
  inj := fun m m' r h1 h2 h3 h4 => by
    have e : ∀ i, aget i H ≠ none → (ρ.with nx b) i = ρ i := fun i hi => by
      have hne : i ≠ nx := fun e => by
        cases hq : aget i H with
        | none => exact hi hq
        | some ob => exact h.lt hq e
      simp [Nm.with, hne]
    rw [e m h1] at h3
    rw [e m' h2] at h4
    exact h.inj m m' r h1 h2 h3 h4
  nx := fun m r hr => by
    by_cases e : m = nx
    · omega
    · have := h.nx m r (by simpa [Nm.with, e] using hr)
      omega

theorem RenS.grow (h : RenS ρ t L H nx st) (b : Nat) : RenS (ρ.with nx b) t L H (Nat.succ nx) st :=
  { h.toRenH.grow b with
    t := fun i x hi hx => let ⟨y, h1, h2⟩ := h.t i x hi hx; ⟨y, h1.mono (h.le_with b), h2⟩
    L := fun k m ob ho => let ⟨r, ob', h1, h2, h3⟩ := h.L k m ob ho; ⟨r, ob', h.le_with b _ _ h1, h2.mono (h.le_with b), h3⟩ }

/-- A block of the call's own. -/
theorem RenS.ownL (h : RenS ρ t L H nx st) {m b : Nat} {ob ob' : Obj} (hm : ρ m = some b) (ho : RenOb ρ ob ob') (k : Nat) : RenS ρ t (aset k (m, ob) L) H nx { st with L := upd st.L k (some (b, ob')) } :=
  { H1 := h.H1, H2 := h.H2, inj := h.inj, nx := h.nx, t := h.t
    L := fun k' m' ob2 h2 => by
      rw [aget_set] at h2
      by_cases e : k' = k
      · rw [if_pos e] at h2
        simp only [Option.some.injEq, Prod.mk.injEq] at h2
        obtain ⟨rfl, rfl⟩ := h2
        exact ⟨b, ob', hm, ho, by rw [e]; exact upd_same _ _ _⟩
      · rw [if_neg e] at h2
        obtain ⟨r, ob3, h3, h4, h5⟩ := h.L k' m' ob2 h2
        exact ⟨r, ob3, h3, h4, (upd_ne _ _ _ _ e).trans h5⟩ }

/-- A block behind pointers is written. -/
theorem RenS.setH (h : RenS ρ t L H nx st) {m b : Nat} {ob ob' : Obj} (hm : ρ m = some b) (hold : aget m H ≠ none) (ho : RenOb ρ ob ob') : RenS ρ t L (aset m ob H) nx { st with H := upd st.H b (some ob') } :=
  { L := h.L, t := h.t, nx := h.nx
    H1 := fun m' ob2 h2 => by
      rw [aget_set] at h2
      by_cases e : m' = m
      · rw [if_pos e] at h2
        simp only [Option.some.injEq] at h2
        subst h2
        exact ⟨b, ob', e ▸ hm, ho, upd_same _ _ _⟩
      · rw [if_neg e] at h2
        obtain ⟨r, ob3, h3, h4, h5⟩ := h.H1 m' ob2 h2
        have hne : r ≠ b := fun e' => e (h.inj m' m r (by simp [h2]) hold h3 (e' ▸ hm))
        exact ⟨r, ob3, h3, h4, by simp only [upd_ne _ _ _ _ hne]; exact h5⟩
    H2 := fun r ob2 h2 => by
      by_cases e : r = b
      · exact ⟨m, ob, e ▸ hm, by rw [aget_set, if_pos rfl]⟩
      · simp only [upd_ne _ _ _ _ e] at h2
        obtain ⟨m', ob3, h3, h4⟩ := h.H2 r ob2 h2
        have hne : m' ≠ m := fun e' => e (by rw [e', hm] at h3; simpa using h3.symm)
        exact ⟨m', ob3, h3, by rw [aget_set, if_neg hne]; exact h4⟩
    inj := fun m1 m2 r h1 h2 h3 h4 => by
      refine h.inj m1 m2 r ?_ ?_ h3 h4
      · rw [aget_set] at h1
        by_cases e : m1 = m
        · exact e ▸ hold
        · rwa [if_neg e] at h1
      · rw [aget_set] at h2
        by_cases e : m2 = m
        · exact e ▸ hold
        · rwa [if_neg e] at h2 }

/-- A new block behind pointers. -/
theorem RenS.newH (h : RenS ρ t L H nx st) {b : Nat} {ob ob' : Obj} (hb : st.H b = none) (ho : RenOb ρ ob ob') :
    RenS (ρ.with nx b) t L ((nx, ob) :: H) (Nat.succ nx) { st with H := upd st.H b (some ob') } := by
  have g := h.grow b
  have hne : ∀ m r, aget m H ≠ none → (ρ.with nx b) m = some r → r ≠ b := fun m r hm hr e => by
    cases hq : aget m H with
    | none => exact hm hq
    | some ob2 =>
      obtain ⟨r', ob3, h3, _, h5⟩ := g.H1 m ob2 hq
      rw [hr] at h3
      obtain rfl : r = r' := by simpa using h3
      rw [e, hb] at h5
      cases h5
  exact
  { L := g.L, t := g.t, nx := g.nx
    H1 := fun m ob2 h2 => by
      rw [aget_cons] at h2
      by_cases e : m = nx
      · rw [if_pos e] at h2
        simp only [Option.some.injEq] at h2
        subst h2
        exact ⟨b, ob', by rw [e]; exact Nm.with_self _ _ _, ho.mono (h.le_with b), upd_same _ _ _⟩
      · rw [if_neg e] at h2
        obtain ⟨r, ob3, h3, h4, h5⟩ := g.H1 m ob2 h2
        exact ⟨r, ob3, h3, h4, by simp only [upd_ne _ _ _ _ (hne m r (by simp [h2]) h3)]; exact h5⟩
    H2 := fun r ob2 h2 => by
      by_cases e : r = b
      · exact ⟨nx, ob, by rw [e]; exact Nm.with_self _ _ _, by rw [aget_cons, if_pos rfl]⟩
      · simp only [upd_ne _ _ _ _ e] at h2
        obtain ⟨m, ob3, h3, h4⟩ := g.H2 r ob2 h2
        exact ⟨m, ob3, h3, by rw [aget_cons, if_neg (h.lt h4)]; exact h4⟩
    inj := fun m1 m2 r h1 h2 h3 h4 => by
      rw [aget_cons] at h1 h2
      by_cases e1 : m1 = nx
      · by_cases e2 : m2 = nx
        · rw [e1, e2]
        · rw [if_neg e2] at h2
          have : r = b := by rw [e1, Nm.with_self] at h3; simpa using h3.symm
          exact absurd this (hne m2 r h2 h4)
      · rw [if_neg e1] at h1
        by_cases e2 : m2 = nx
        · have : r = b := by rw [e2, Nm.with_self] at h4; simpa using h4.symm
          exact absurd this (hne m1 r h1 h3)
        · rw [if_neg e2] at h2
          exact g.inj m1 m2 r h1 h2 h3 h4 }

/-- A block behind pointers is gone. -/
theorem RenS.delH (h : RenS ρ t L H nx st) {m b : Nat} (hm : ρ m = some b) (hold : aget m H ≠ none) : RenS ρ t L (adel m H) nx { st with H := upd st.H b none } :=
  { L := h.L, t := h.t, nx := h.nx
    H1 := fun m' ob2 h2 => by
      rw [aget_del] at h2
      by_cases e : m' = m
      · rw [if_pos e] at h2; cases h2
      · rw [if_neg e] at h2
        obtain ⟨r, ob3, h3, h4, h5⟩ := h.H1 m' ob2 h2
        have hne : r ≠ b := fun e' => e (h.inj m' m r (by simp [h2]) hold h3 (e' ▸ hm))
        exact ⟨r, ob3, h3, h4, by simp only [upd_ne _ _ _ _ hne]; exact h5⟩
    H2 := fun r ob2 h2 => by
      by_cases e : r = b
      · subst e; simp only [upd_same] at h2; cases h2
      · simp only [upd_ne _ _ _ _ e] at h2
        obtain ⟨m', ob3, h3, h4⟩ := h.H2 r ob2 h2
        have hne : m' ≠ m := fun e' => e (by rw [e', hm] at h3; simpa using h3.symm)
        exact ⟨m', ob3, h3, by rw [aget_del, if_neg hne]; exact h4⟩
    inj := fun m1 m2 r h1 h2 h3 h4 => by
      rw [aget_del] at h1 h2
      refine h.inj m1 m2 r ?_ ?_ h3 h4
      · by_cases e : m1 = m
        · rw [if_pos e] at h1; exact absurd rfl h1
        · rwa [if_neg e] at h1
      · by_cases e : m2 = m
        · rw [if_pos e] at h2; exact absurd rfl h2
        · rwa [if_neg e] at h2 }

/-- A temporary is written. -/
theorem RenS.put (h : RenS ρ t L H nx st) {x y : AV} (hr : Ren ρ (.one x y)) {d : Nat} (hd : d < 512) : RenS ρ (tput t d x) L H nx (st.put (some d) y) :=
  { h with
    t := fun i z hi hz => by
      rw [tget_tput _ _ _ _ hd hi] at hz
      simp only [St.put]
      by_cases e : i = d
      · rw [if_pos e] at hz
        simp only [Option.some.injEq] at hz
        subst hz
        exact ⟨y, hr, by rw [if_pos e]⟩
      · rw [if_neg e] at hz
        rw [if_neg e]
        exact h.t i z hi hz }

end
end Go.Am
