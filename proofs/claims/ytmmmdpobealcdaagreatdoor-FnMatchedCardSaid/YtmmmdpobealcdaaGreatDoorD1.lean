/- Values without names: the blocks of a result that nobody writes any more. -/
import Derived.Test.YtmmmdpobealcdaaGreatDoorC5
set_option linter.unusedVariables false
set_option linter.unusedSimpArgs false
namespace Go.Am
open Go

/-! ### What is asked, as functions that compute -/

noncomputable section

def mapO {α β : Type} (f : α → Option β) (xs : List α) : Option (List β) :=
  List.rec (motive := fun _ => Option (List β)) (some []) (fun x _ ih => match f x with | some y => (match ih with | some ys => some (y :: ys) | none => none) | none => none) xs

/-- A value whose blocks are read, for ever. -/
def purE (P : Program) (H : HE) (n : Nat) : AV → Option AV :=
  Nat.rec (motive := fun _ => AV → Option AV) (fun _ => none) (fun _ ih x => match x with
    | .v u => some (.v u)
    | .vec k m l => match k with
      | none => match aget m H with
        | some ob => match ob.map with
          | none => (match Nat.ble l (lenR ob.xs) with | true => (match mapO ih (takeR l ob.xs) with | some ys => some (.list (P.cellsOf ob.elem) ys) | none => none) | false => none)
          | some _ => none
        | none => none
      | some _ => none
    | .ptr k m i o => match k with
      | none => match aget m H with
        | some ob => match ob.map with
          | none => (match nth ob.xs i with | some z => (match mapO ih (dropR o z.cells) with | some ys => some (.pref ys) | none => none) | none => none)
          | some _ => none
        | none => none
      | some _ => none
    | .list s xs => (match mapO ih xs with | some ys => some (.list s ys) | none => none)
    | .pref xs => (match mapO ih xs with | some ys => some (.pref ys) | none => none)
    | .agg xs => (match mapO ih xs with | some ys => some (.agg ys) | none => none)
    | .tuple xs => (match mapO ih xs with | some ys => some (.tuple ys) | none => none)
    | .clo g xs => (match mapO ih xs with | some ys => some (.clo g ys) | none => none)
    | .sub _ _ _ _ => none
    | .mp _ _ => none) n

/-- A value without names. -/
def pureB (n : Nat) : AV → Bool :=
  Nat.rec (motive := fun _ => AV → Bool) (fun _ => false) (fun _ ih x => match x with
    | .v _ => true
    | .list _ xs => allR ih xs
    | .pref xs => allR ih xs
    | .agg xs => allR ih xs
    | .tuple xs => allR ih xs
    | .clo _ xs => allR ih xs
    | _ => false) n

end

/-! ### The same as relations -/

inductive Pu (P : Program) (H : HE) : G2 → Prop
  | v (u : Value) : Pu P H (.one (.v u) (.v u))
  | vec (m l : Nat) (ob : Obj) (ys : List AV) : aget m H = some ob → ob.map = none → l ≤ ob.xs.length → Pu P H (.many (ob.xs.take l) ys) → Pu P H (.one (.vec none m l) (.list (P.cellsOf ob.elem) ys))
  | ptr (m i o : Nat) (ob : Obj) (z : AV) (ys : List AV) : aget m H = some ob → ob.map = none → ob.xs[i]? = some z → Pu P H (.many (z.cells.drop o) ys) → Pu P H (.one (.ptr none m i o) (.pref ys))
  | list (s : Nat) (xs ys : List AV) : Pu P H (.many xs ys) → Pu P H (.one (.list s xs) (.list s ys))
  | pref (xs ys : List AV) : Pu P H (.many xs ys) → Pu P H (.one (.pref xs) (.pref ys))
  | agg (xs ys : List AV) : Pu P H (.many xs ys) → Pu P H (.one (.agg xs) (.agg ys))
  | tuple (xs ys : List AV) : Pu P H (.many xs ys) → Pu P H (.one (.tuple xs) (.tuple ys))
  | clo (g : Nat) (xs ys : List AV) : Pu P H (.many xs ys) → Pu P H (.one (.clo g xs) (.clo g ys))
  | nil : Pu P H (.many [] [])
  | cons (x y : AV) (xs ys : List AV) : Pu P H (.one x y) → Pu P H (.many xs ys) → Pu P H (.many (x :: xs) (y :: ys))

theorem mapO_cons {α β : Type} (f : α → Option β) (x : α) (xs : List α) : mapO f (x :: xs) = (f x).bind fun y => (mapO f xs).bind fun ys => some (y :: ys) := by
  unfold mapO
  simp only
  cases f x with
  | none => rfl
  | some y => simp only [Option.bind_some]; split <;> simp_all

theorem mapO_pu {P : Program} {H : HE} {f : AV → Option AV} (hf : ∀ x y, f x = some y → Pu P H (.one x y)) : ∀ {xs ys : List AV}, mapO f xs = some ys → Pu P H (.many xs ys) := by
  intro xs
  induction xs with
  | nil => intro ys h; cases h; exact .nil
  | cons x xs ih =>
    intro ys h
    rw [mapO_cons] at h
    cases hx : f x with
    | none => rw [hx] at h; cases h
    | some y =>
      rw [hx] at h
      cases hm : mapO f xs with
      | none => rw [hm] at h; cases h
      | some zs =>
        rw [hm] at h
        cases h
        exact .cons _ _ _ _ (hf x y hx) (ih hm)

theorem purE_pu {P : Program} {H : HE} (n : Nat) : ∀ x y, purE P H n x = some y → Pu P H (.one x y) := by
  induction n with
  | zero => intro x y h; cases h
  | succ n ih =>
    intro x y h
    have many : ∀ {xs : List AV} {g : List AV → AV}, (match mapO (purE P H n) xs with | some ys => some (g ys) | none => none) = some y → ∃ ys, Pu P H (.many xs ys) ∧ y = g ys := fun {xs g} h => by
      cases hm : mapO (purE P H n) xs with
      | none => rw [hm] at h; cases h
      | some ys => rw [hm] at h; cases h; exact ⟨ys, mapO_pu ih hm, rfl⟩
    cases x with
    | v u => cases h; exact .v u
    | vec k m l => cases k with
      | some k => cases h
      | none =>
        have h' : (match aget m H with
          | some ob => match ob.map with
            | none => (match Nat.ble l (lenR ob.xs) with | true => (match mapO (purE P H n) (takeR l ob.xs) with | some ys => some (AV.list (P.cellsOf ob.elem) ys) | none => none) | false => none)
            | some _ => none
          | none => none) = some y := h
        cases ho : aget m H with
        | none => rw [ho] at h'; cases h'
        | some ob =>
          rw [ho] at h'
          simp only at h'
          cases hm : ob.map with
          | some es => rw [hm] at h'; cases h'
          | none =>
            rw [hm] at h'
            simp only at h'
            cases hb : Nat.ble l (lenR ob.xs) with
            | false => rw [hb] at h'; cases h'
            | true =>
              rw [hb] at h'
              obtain ⟨ys, h1, rfl⟩ := many h'
              rw [takeR_eq] at h1
              rw [lenR_eq] at hb
              exact .vec m l ob ys ho hm (ble_le hb) h1
    | ptr k m i o => cases k with
      | some k => cases h
      | none =>
        have h' : (match aget m H with
          | some ob => match ob.map with
            | none => (match nth ob.xs i with | some z => (match mapO (purE P H n) (dropR o z.cells) with | some ys => some (AV.pref ys) | none => none) | none => none)
            | some _ => none
          | none => none) = some y := h
        cases ho : aget m H with
        | none => rw [ho] at h'; cases h'
        | some ob =>
          rw [ho] at h'
          simp only at h'
          cases hm : ob.map with
          | some es => rw [hm] at h'; cases h'
          | none =>
            rw [hm] at h'
            simp only at h'
            rw [nth_eq] at h'
            cases hz : ob.xs[i]? with
            | none => rw [hz] at h'; cases h'
            | some z =>
              rw [hz] at h'
              obtain ⟨ys, h1, rfl⟩ := many h'
              rw [dropR_eq] at h1
              exact .ptr m i o ob z ys ho hm hz h1
    | list s xs => obtain ⟨ys, h1, rfl⟩ := many (g := .list s) h; exact .list s xs ys h1
    | pref xs => obtain ⟨ys, h1, rfl⟩ := many (g := .pref) h; exact .pref xs ys h1
    | agg xs => obtain ⟨ys, h1, rfl⟩ := many (g := .agg) h; exact .agg xs ys h1
    | tuple xs => obtain ⟨ys, h1, rfl⟩ := many (g := .tuple) h; exact .tuple xs ys h1
    | clo g xs => obtain ⟨ys, h1, rfl⟩ := many (g := .clo g) h; exact .clo g xs ys h1
    | sub k m o l => cases h
    | mp k m => cases h

/-! ### Values without names are the same by any names -/

theorem pureB_ren {ρ : Nm} (n : Nat) : ∀ {x : AV}, pureB n x = true → Ren ρ (.one x x) ∧ ∀ y, Ren ρ (.one x y) → y = x := by
  induction n with
  | zero => intro x h; cases h
  | succ n ih =>
    intro x h
    have many : ∀ {xs : List AV}, allR (pureB n) xs = true → Ren ρ (.many xs xs) ∧ ∀ ys, Ren ρ (.many xs ys) → ys = xs := fun {xs} => by
      rw [allR_eq]
      induction xs with
      | nil => intro _; exact ⟨.nil, fun ys h => by cases h; rfl⟩
      | cons a xs ihx =>
        intro hx
        rw [List.all_cons, Bool.and_eq_true] at hx
        obtain ⟨h1, h2⟩ := ih hx.1
        obtain ⟨h3, h4⟩ := ihx hx.2
        exact ⟨.cons _ _ _ _ h1 h3, fun ys h => by cases h with | cons _ b _ ys k1 k2 => rw [h2 b k1, h4 ys k2]⟩
    cases x with
    | v u => exact ⟨.v u, fun y h => by cases h; rfl⟩
    | list s xs => obtain ⟨h1, h2⟩ := many (xs := xs) h; exact ⟨.list s _ _ h1, fun y hy => by cases hy with | list _ _ ys k => rw [h2 ys k]⟩
    | pref xs => obtain ⟨h1, h2⟩ := many (xs := xs) h; exact ⟨.pref _ _ h1, fun y hy => by cases hy with | pref _ ys k => rw [h2 ys k]⟩
    | agg xs => obtain ⟨h1, h2⟩ := many (xs := xs) h; exact ⟨.agg _ _ h1, fun y hy => by cases hy with | agg _ ys k => rw [h2 ys k]⟩
    | tuple xs => obtain ⟨h1, h2⟩ := many (xs := xs) h; exact ⟨.tuple _ _ h1, fun y hy => by cases hy with | tuple _ ys k => rw [h2 ys k]⟩
    | clo g xs => obtain ⟨h1, h2⟩ := many (xs := xs) h; exact ⟨.clo g _ _ h1, fun y hy => by cases hy with | clo _ _ ys k => rw [h2 ys k]⟩
    | vec k m l => cases h
    | ptr k m i o => cases h
    | sub k m o l => cases h
    | mp k m => cases h

theorem pureB_many {ρ : Nm} (n : Nat) {xs : List AV} (h : allR (pureB n) xs = true) : Ren ρ (.many xs xs) ∧ ∀ ys, Ren ρ (.many xs ys) → ys = xs := by
  have h1 : pureB (n + 1) (.tuple xs) = true := h
  obtain ⟨h2, h3⟩ := pureB_ren (ρ := ρ) (n + 1) h1
  cases h2 with
  | tuple _ _ h2 => exact ⟨h2, fun ys k => by have := h3 _ (.tuple _ _ k); simpa using this⟩

/-! ### The blocks of a result are read, for ever -/

inductive F2 {α : Type} (R : α → α → Prop) : List α → List α → Prop
  | nil : F2 R [] []
  | cons (x y : α) (xs ys : List α) : R x y → F2 R xs ys → F2 R (x :: xs) (y :: ys)

theorem F2.length {α : Type} {R : α → α → Prop} {xs ys : List α} (h : F2 R xs ys) : xs.length = ys.length := by
  induction h with
  | nil => rfl
  | cons _ _ _ _ _ _ ih => simp [ih]
theorem F2.append {α : Type} {R : α → α → Prop} {xs ys xs' ys' : List α} (h : F2 R xs ys) (h' : F2 R xs' ys') : F2 R (xs ++ xs') (ys ++ ys') := by
  induction h with
  | nil => exact h'
  | cons x y _ _ h1 _ ih => exact .cons x y _ _ h1 ih
theorem F2.get {α : Type} {R : α → α → Prop} {xs ys : List α} (h : F2 R xs ys) {j : Nat} {y : α} (hy : ys[j]? = some y) : ∃ x, xs[j]? = some x ∧ R x y := by
  induction h generalizing j with
  | nil => cases hy
  | cons x y' _ _ h1 _ ih =>
    cases j with
    | zero => simp at hy; subst hy; exact ⟨x, rfl, h1⟩
    | succ j => simpa using ih (by simpa using hy)

theorem Ren.flat {ρ : Nm} {xs ys : List AV} (h : Ren ρ (.many xs ys)) : Ren ρ (.many (flat xs) (flat ys)) := by
  induction xs generalizing ys with
  | nil => cases h; exact .nil
  | cons x xs ih =>
    cases h with
    | cons _ y _ ys h1 h2 =>
      rw [flat_cons, flat_cons]
      exact h1.cells.append (ih h2)

section
variable {P : Program} {I : Nat → Nat → Prop} {w : World} {ρ : Nm} {H : HE} {nx : Nat} {M : Mem}

/-- All cells of the blocks, too. -/
def Froz (I : Nat → Nat → Prop) (M : Mem) (w : World) (b o : Nat) : Prop := I b o ∨ (M b ≠ none ∧ ∃ c e z, w.heap[b]? = some (.cells c e z) ∧ o < c.size)

def One (P : Program) (I : Nat → Nat → Prop) (M : Mem) (w : World) (ρ : Nm) (x y : AV) : Prop := ∀ x' c, Ren ρ (.one x x') → R P I w (.val x' c) → R P (Froz I M w) w (.val y c)
def Elt (P : Program) (I : Nat → Nat → Prop) (M : Mem) (w : World) (ρ : Nm) (x y : AV) : Prop := One P I M w ρ x y ∧ F2 (One P I M w ρ) x.cells y.cells

theorem F2.flat {xs ys : List AV} (h : F2 (Elt P I M w ρ) xs ys) : F2 (One P I M w ρ) (Am.flat xs) (Am.flat ys) := by
  induction h with
  | nil => exact .nil
  | cons x y xs ys h1 _ ih => rw [flat_cons, flat_cons]; exact h1.2.append ih
theorem F2.ones {xs ys : List AV} (h : F2 (Elt P I M w ρ) xs ys) : F2 (One P I M w ρ) xs ys := by
  induction h with
  | nil => exact .nil
  | cons x y xs ys h1 _ ih => exact .cons _ _ _ _ h1.1 ih
theorem F2.sizes {xs ys : List AV} (h : F2 (Elt P I M w ρ) xs ys) {s : Nat} (hs : ∀ x ∈ xs, x.cells.length = s) : ∀ y ∈ ys, y.cells.length = s := by
  induction h with
  | nil => intro y hy; cases hy
  | cons x y xs ys h1 _ ih =>
    intro z hz
    rcases List.mem_cons.1 hz with rfl | hz
    · rw [← h1.2.length]; exact hs x (List.mem_cons_self ..)
    · exact ih (fun x hx => hs x (List.mem_cons_of_mem _ hx)) z hz

theorem One.vals {xs ys : List AV} (h : F2 (One P I M w ρ) xs ys) : ∀ {xs' : List AV} {cs : List Value}, Ren ρ (.many xs xs') → R P I w (.vals xs' cs) → R P (Froz I M w) w (.vals ys cs) := by
  induction h with
  | nil => intro xs' cs hr hv; cases hr; cases hv; exact .vnil
  | cons x y xs ys h1 _ ih =>
    intro xs' cs hr hv
    cases hr with
    | cons _ x' _ xs' r1 r2 => cases hv with
      | vcons _ _ c cs v1 v2 => exact .vcons _ _ _ _ (h1 _ _ r1 v1) (ih r2 v2)

/-- Cells that are what they were. -/
theorem One.cells {xs ys : List AV} (h : F2 (One P I M w ρ) xs ys) {xs' : List AV} {r off : Nat} (hr : Ren ρ (.many xs xs')) (hc : ∀ (j : Nat) (x : AV), xs'[j]? = some x → ∃ y, w.cell? ⟨r, off + j, none⟩ = some y ∧ R P I w (.val x y) ∧ Froz I M w r (off + j)) :
    R P (Froz I M w) w (.cells ys r off) := by
  refine .cells_of fun j y hy => ?_
  obtain ⟨x, hx, h1⟩ := h.get hy
  obtain ⟨x', hx', r1⟩ := hr.get hx
  obtain ⟨c, h2, h3, h4⟩ := hc j x' hx'
  exact ⟨c, h2, h1 _ _ r1 h3, h4⟩

theorem Elt.of_one {x y : AV} (h : One P I M w ρ x y) (hx : x.cells = [x]) (hy : y.cells = [y]) : Elt P I M w ρ x y := ⟨h, by rw [hx, hy]; exact .cons _ _ _ _ h .nil⟩

def PuOk (P : Program) (I : Nat → Nat → Prop) (M : Mem) (w : World) (ρ : Nm) (g : G2) : Prop := match g with
  | .one x y => Elt P I M w ρ x y
  | .many xs ys => F2 (Elt P I M w ρ) xs ys

theorem pu_ok (hH : RenH ρ H nx M) (hM : MemR P I w M) {g : G2} (h : Pu P H g) : PuOk P I M w ρ g := by
  have hI : ∀ b o, I b o → Froz I M w b o := fun _ _ => .inl
  have block : ∀ {m ob b}, aget m H = some ob → ob.map = none → ρ m = some b → ∃ ob', RenOb ρ ob ob' ∧ ObjR P I w b ob' ∧ M b = some ob' := fun {m ob b} h1 h2 h3 => by
    obtain ⟨r, ob', g1, g2, g3⟩ := hH.H1 m ob h1
    rw [h3] at g1
    cases g1
    exact ⟨ob', g2, (hM _ _ g3).1.cells (g2.map.none h2), g3⟩
  induction h with
  | v u => exact .of_one (fun x' c hr hv => by cases hr; cases hv; exact .v u) rfl rfl
  | vec m l ob ys h1 h2 h3 _ ih =>
    refine .of_one (fun x' c hr hv => ?_) rfl rfl
    cases hr with
    | vec _ _ b _ hm =>
      obtain ⟨ob', g1, g2, g3⟩ := block h1 h2 hm
      cases hv with
      | vec _ _ _ cap e c2 z k1 k2 k3 =>
        obtain ⟨c3, f1, f2, f3⟩ := g2.ex
        have hlen : l = ys.length := by rw [← F2.length ih, List.length_take, Nat.min_eq_left h3]
        have hren : Ren ρ (.many (ob.xs.take l) (ob'.xs.take l)) := g1.xs.take l
        refine .list _ ys b 0 l cap hlen k3 (F2.sizes ih fun x hx => ?_) (One.cells (F2.flat ih) hren.flat fun j x hx => ?_)
        · obtain ⟨i, hi, hix⟩ := List.getElem_of_mem hx
          have hx' : (ob.xs.take l)[i]? = some x := by rw [List.getElem?_eq_getElem hi, hix]
          obtain ⟨y, hy, hxy⟩ := hren.get hx'
          rw [hxy.cells.length, g1.elem]
          exact g2.uni y (List.mem_of_mem_take (List.mem_of_getElem? hy))
        · have hx' := flat_take_get hx
          obtain ⟨y, hy, hry⟩ := f3 j x hx'
          refine ⟨y, by rw [Nat.zero_add, cell_row f1]; exact hy, hry, .inr ⟨by rw [g3]; simp, c3, _, _, f1, ?_⟩⟩
          rw [Nat.zero_add]
          exact (Array.getElem?_eq_some_iff.1 hy).1
  | ptr m i o ob z ys h1 h2 h3 _ ih =>
    refine .of_one (fun x' c hr hv => ?_) rfl rfl
    cases hr with
    | ptr _ _ b _ _ hm =>
      obtain ⟨ob', g1, g2, g3⟩ := block h1 h2 hm
      obtain ⟨c3, f1, f2, f3⟩ := g2.ex
      obtain ⟨z', hz', hrz⟩ := g1.xs.get h3
      have he := hv.ptr_inv f1
      rw [he]
      refine .pref ys b _ (One.cells (F2.ones ih) (hrz.cells.drop o) fun j x hx => ?_)
      obtain ⟨y, hy, hry⟩ := g2.cellsAt hz' o j x hx
      refine ⟨y, hy, hry, .inr ⟨by rw [g3]; simp, c3, _, _, f1, ?_⟩⟩
      rw [cell_row f1] at hy
      exact (Array.getElem?_eq_some_iff.1 hy).1
  | list s xs ys _ ih =>
    refine .of_one (fun x' c hr hv => ?_) rfl rfl
    cases hr with
    | list _ _ xs' hl =>
      cases hv with
      | lnil _ cap a => cases hl; cases ih; exact .lnil s cap a
      | list _ _ r off len cap k1 k2 k3 k4 =>
        refine .list s ys r off len cap (by rw [k1, ← hl.length, F2.length ih]) k2 (F2.sizes ih fun x hx => ?_) (One.cells (F2.flat ih) hl.flat fun j x hx => ?_)
        · obtain ⟨i, hi, hix⟩ := List.getElem_of_mem hx
          have hx' : xs[i]? = some x := by rw [List.getElem?_eq_getElem hi, hix]
          obtain ⟨y, hy, hxy⟩ := hl.get hx'
          rw [hxy.cells.length]
          exact k3 y (List.mem_of_getElem? hy)
        · obtain ⟨y, g1, g2, g3⟩ := k4.cells_get j x hx
          exact ⟨y, g1, g2, .inl g3⟩
  | pref xs ys _ ih =>
    refine .of_one (fun x' c hr hv => ?_) rfl rfl
    cases hr with
    | pref _ xs' hl =>
      cases hv with
      | pref _ r off k =>
        exact .pref ys r off (One.cells (F2.ones ih) hl fun j x hx => let ⟨y, g1, g2, g3⟩ := k.cells_get j x hx; ⟨y, g1, g2, .inl g3⟩)
  | agg xs ys _ ih =>
    refine ⟨fun x' c hr hv => ?_, F2.ones ih⟩
    cases hr with
    | agg _ xs' hl => cases hv with
      | agg _ cs k => exact .agg ys cs (One.vals (F2.ones ih) hl k)
  | tuple xs ys _ ih =>
    refine .of_one (fun x' c hr hv => ?_) rfl rfl
    cases hr with
    | tuple _ xs' hl => cases hv with
      | tuple _ cs k => exact .tuple ys cs (One.vals (F2.ones ih) hl k)
  | clo g xs ys _ ih =>
    refine .of_one (fun x' c hr hv => ?_) rfl rfl
    cases hr with
    | clo _ _ xs' hl => cases hv with
      | clo _ _ cs k => exact .clo g ys cs (One.vals (F2.ones ih) hl k)
  | nil => exact .nil
  | cons x y xs ys _ _ ih1 ih2 => exact .cons _ _ _ _ ih1 ih2

end

/-! ### Contracts without blocks -/

/-- Called with these values, the function returns that one; whatever the blocks, they stay. -/
def PureC (P : Program) (f : FuncId) (args : List AV) (res : AV) : Prop := ∀ M : Mem, Fn P f args M fun z M' => z = res ∧ M' = M

/-- From a contract where there are no blocks. -/
theorem pure_of_fn {P : Program} {f : FuncId} {args : List AV} {z res : AV} {H' : HE} {nx' : Nat} (h : Fn P f args (fun _ => none) fun z' M' => ∃ ρ', Ren ρ' (.one z z') ∧ RenH ρ' H' nx' M') (hp : Pu P H' (.one z res)) : PureC P f args res := by
  intro M
  refine ⟨h.1, fun w I cs hrd hM hargs => ?_⟩
  refine (h.2 w I cs hrd (fun r ob hr => by cases hr) hargs).mono fun e w' he => ?_
  obtain ⟨z', M', I', c, ⟨ρ', q1, q2⟩, rfl, e1, e2, e3, e4, e5, e6, e7, e8⟩ := he
  have hR := (pu_ok q2 e4 hp).1 z' c q1 e5
  have hold : ∀ b, b < w.heap.size → M' b = none ∧ w'.heap[b]? = w.heap[b]? := fun b hb => e8 b hb rfl
  have hc : ∀ b o, I b o → w'.cell? ⟨b, o, none⟩ = w.cell? ⟨b, o, none⟩ := fun b o hi => cell_same (hold b (hrd.lt hi)).2 o
  have hF : ∀ b o, I b o → Froz I' M' w' b o := fun b o hi => .inl (e1 b o hi)
  refine ⟨res, M, Froz I' M' w', c, ⟨rfl, rfl⟩, rfl, hF, fun b o hi => ?_, fun b o hi => ?_, fun b ob hb => ?_, hR, e6, e7, fun b hb h0 => ⟨h0, (hold b hb).2⟩⟩
  · rcases hi with hi | ⟨hi, c2, e, z2, h1, h2⟩
    · rcases e2 b o hi with hi | hi | ⟨hi, _⟩
      · exact .inl hi
      · exact .inr (.inl hi)
      · exact absurd rfl hi
    · refine .inr (.inl (Nat.not_lt.1 fun hlt => hi (hold b hlt).1))
  · rcases hi with hi | ⟨_, c2, e, z2, h1, h2⟩
    · exact e3 b o hi
    · exact ⟨c2, e, z2, h1, h2⟩
  · obtain ⟨g1, g2⟩ := hM b ob hb
    have hlt := g1.lt
    refine ⟨g1.mono (hold b hlt).2 hF hc e7, fun o hi => ?_⟩
    rcases hi with hi | ⟨hi, _⟩
    · rcases e2 b o hi with hi | hi | ⟨hi, _⟩
      · exact g2 o hi
      · exact absurd hlt (Nat.not_lt.2 hi)
      · exact absurd rfl hi
    · exact hi (hold b hlt).1

noncomputable def pureRun (G : Cfg) (known : CallE) (fuel d : Nat) (f : FuncId) (args : List AV) (res : AV) : Bool :=
  match callE G known fuel d f args [] 0 with
  | some p => (match p with | (z, q) => match q with | (H, _) => (match purE G.P H 200 z with | some y => eqAV 200 y res | none => false))
  | none => false

theorem pure_of_run {G : Cfg} (ha : AnyOk G) (hnames : ∀ (f : FuncId) (fn : Func), G.P.funcs[f]? = some fn → (fn.name == "runtime.NumGoroutine") = false) {known : CallE} (hk : CallOk G.P known) {fuel d f : Nat} {args : List AV} {res : AV}
    (hp : allR (pureB 200) args = true) (h : pureRun G known fuel d f args res = true) : PureC G.P f args res := by
  unfold pureRun at h
  cases hr : callE G known fuel d f args [] 0 with
  | none => rw [hr] at h; cases h
  | some p =>
    obtain ⟨z, H, nx⟩ := p
    rw [hr] at h
    simp only at h
    cases hq : purE G.P H 200 z with
    | none => rw [hq] at h; cases h
    | some y =>
      rw [hq] at h
      obtain rfl := eqAV_eq _ h
      have hfn := callE_ok ha hnames hk fuel d f args [] 0 z H nx hr (fun _ => none) (fun _ => none) args (pureB_many 200 hp).1 { H1 := fun m ob h => (by cases h), H2 := fun r ob h => (by cases h), inj := fun m m' r h => absurd rfl h, nx := fun m r h => (by cases h) }
      exact pure_of_fn (hfn.mono fun z' M' ⟨ρ', _, h2, h3⟩ => ⟨ρ', h2, h3⟩) (purE_pu _ _ _ hq)

end Go.Am
