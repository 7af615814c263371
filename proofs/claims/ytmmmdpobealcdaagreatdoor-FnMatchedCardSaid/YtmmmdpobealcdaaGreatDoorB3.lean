/- Each function of an operation is right: what it computes is what the operation asks for. First part. -/
import Derived.Test.YtmmmdpobealcdaaGreatDoorB2
set_option linter.unusedVariables false
set_option linter.unusedSimpArgs false
namespace Go.Am
open Go

section
variable {ρ : Nm} {t : T3} {L : LE} {H : HE} {nx : Nat} {st : St} {r : AV × HE × Nat}

theorem bif_true {α : Type} {b : Bool} {x : Option α} {r : α} (h : (bif b then x else none) = some r) : b = true ∧ x = some r := by
  cases b with
  | true => exact ⟨rfl, h⟩
  | false => cases h

theorem ble_le {a b : Nat} (h : Nat.ble a b = true) : a ≤ b := Nat.le_of_ble_eq_true h
theorem blt_lt {a b : Nat} (h : Nat.blt a b = true) : a < b := Nat.le_of_ble_eq_true h

theorem forceN_run {n : Nat} {K : Nat → Ans} (h : forceN n K = some r) : K n = some r := by
  unfold forceN at h
  cases n <;> exact h
theorem forceI_run {n : Int} {K : Int → Ans} (h : forceI n K = some r) : K n = some r := by
  unfold forceI at h
  cases n <;> exact forceN_run h

theorem moveC_ok (x : Operand) : OpOk (moveC x) (fun st => moveK st x) := by
  intro ρ t L H nx K r st hs h
  unfold moveC at h
  obtain ⟨z, z', h1, h2, h3⟩ := avC_run hs h
  show moveK st x _
  unfold moveK
  rw [h2]
  exact hs.post h1 h3

theorem moveK_of {x : Operand} {K : AV → St → Prop} {z : AV} (h : av st x = some z) (hK : K z st) : moveK st x K := by unfold moveK; rw [h]; exact hK

theorem pickC_ok (c x y : Operand) : OpOk (pickC c x y) (fun st => pickK st c x y) := by
  intro ρ t L H nx K r st hs h
  unfold pickC at h
  obtain ⟨z, z', h1, h2, h3⟩ := avC_run hs h
  show pickK st c x y _
  unfold pickK
  rw [h2]
  cases h1 with
  | v u =>
    cases u with
    | bool b =>
      cases b with
      | true =>
        obtain ⟨q, q', k1, k2, k3⟩ := avC_run hs h3
        exact ⟨fun _ => moveK_of k2 (hs.post k1 k3), fun e => by cases e⟩
      | false =>
        obtain ⟨q, q', k1, k2, k3⟩ := avC_run hs h3
        exact ⟨(fun e => by cases e), fun _ => moveK_of k2 (hs.post k1 k3)⟩
    | _ => cases h3
  | _ => cases h3

/-- A new block. -/
theorem newE_ok (hs : RenS ρ t L H nx st) {hp : Bool} {key : Nat} {ob ob' : Obj} (ho : RenOb ρ ob ob') {mk mk' : Option Nat → Nat → AV} {K : K1}
    (hm : ∀ (ρ' : Nm) (k : Option Nat) (m b : Nat), ρ' m = some b → Ren ρ' (.one (mk k m) (mk' k b))) (h : newE hp key L H nx ob mk K = some r) :
    newK hp key st ob' fun k b st' => Post ρ nx t K r (mk' k b) st' := by
  unfold newE at h
  unfold newK
  cases hp with
  | true => exact fun b hb => ⟨ρ.with nx b, _, _, _, _, hs.up_with b, hm _ none nx b (Nm.with_self _ _ _), hs.newH hb ho, h⟩
  | false =>
    intro b
    have g := (hs.grow b).ownL (k := key) (Nm.with_self ρ nx b) (ho.mono (hs.le_with b))
    exact ⟨ρ.with nx b, _, _, _, _, hs.up_with b, hm _ (some key) nx b (Nm.with_self _ _ _), g, h⟩

theorem boxOk_run {P : Program} {e : TypeId} {z : AV} (h : boxOk P e z = true) : z.cells.length = P.cellsOf e ∧ 0 < P.cellsOf e ∧ z.ones = true := by
  unfold boxOk at h
  simp only [Bool.and_eq_true] at h
  obtain ⟨⟨h1, h2⟩, h3⟩ := h
  rw [lenR_eq] at h1
  rw [onesR_eq] at h3
  exact ⟨beq_eq h1, blt_lt h2, h3⟩

theorem allocC_ok (P : Program) (hp : Bool) (key : Nat) (e : TypeId) : OpOk (allocC P hp key e) (fun st => allocK P hp key st e) := by
  intro ρ t L H nx K r st hs h
  unfold allocC at h
  show allocK P hp key st e _
  unfold allocK
  cases hz : zeroAV P e with
  | none => rw [hz] at h; cases h
  | some z =>
    rw [hz] at h
    simp only at h
    cases hb : boxOk P e z with
    | false => rw [hb] at h; cases h
    | true =>
      rw [hb] at h
      exact ⟨boxOk_run hb, newE_ok hs (ob := { elem := e, xs := [z], var := true }) (ob' := { elem := e, xs := [z], var := true }) ⟨rfl, .cons _ _ _ _ (.zero hz) .nil, rfl, rfl, trivial⟩ (fun _ k m b hm => .ptr k m b 0 0 hm) h⟩

theorem boxC_ok (P : Program) (hp : Bool) (key : Nat) (e : TypeId) (x : Operand) : OpOk (boxC P hp key e x) (fun st => boxK P hp key st e x) := by
  intro ρ t L H nx K r st hs h
  unfold boxC at h
  obtain ⟨z, z', h1, h2, h3⟩ := avC_run hs h
  show boxK P hp key st e x _
  unfold boxK
  rw [h2]
  obtain ⟨hb, h4⟩ := bif_true h3
  have hb' := boxOk_run hb
  refine ⟨⟨?_, hb'.2.1, h1.ones_eq ▸ hb'.2.2⟩, newE_ok hs (ob := { elem := e, xs := [z], var := true }) (ob' := { elem := e, xs := [z'], var := true }) ⟨rfl, .cons _ _ _ _ h1 .nil, rfl, rfl, trivial⟩ (fun _ k m b hm => .ptr k m b 0 0 hm) h4⟩
  rw [← h1.cells.length]; exact hb'.1

/-- Loading from cells. -/
theorem ldC_run {P : Program} {ty : TypeId} {cs cs' : List AV} (hc : Ren ρ (.many cs cs')) {K : AV → Ans} (h : (ldC P ty).run cs K = some r) : ∃ u u', ld P ty cs' = some u' ∧ Ren ρ (.one u u') ∧ K u = some r := by
  unfold ldC at h
  unfold ld
  cases hA : isAggT P ty with
  | none => rw [hA] at h; cases h
  | some b =>
    rw [hA] at h
    cases b with
    | true =>
      simp only at h ⊢
      obtain ⟨h1, h2⟩ := bif_true h
      rw [lenR_eq] at h1
      rw [takeR_eq] at h2
      have h3 := ble_le h1
      rw [hc.length] at h3
      exact ⟨_, _, by rw [if_pos h3], .agg _ _ (hc.take _), h2⟩
    | false =>
      simp only at h ⊢
      cases hc with
      | nil => cases h
      | cons x y xs ys h1 h2 => exact ⟨x, y, rfl, h1, h⟩

theorem loadC_ok (P : Program) (ty : TypeId) (x : Operand) : OpOk (loadC P ty x) (fun st => loadK P st ty x) := by
  intro ρ t L H nx K r st hs h
  unfold loadC at h
  obtain ⟨z, z', h1, h2, h3⟩ := avC_run hs h
  show loadK P st ty x _
  unfold loadK
  rw [h2]
  cases h1 with
  | ptr k m b i o hm =>
    simp only at h3 ⊢
    obtain ⟨ob, ob', ho, h4, h5, _⟩ := lookE_run hs hm h3
    refine look_of h5 ?_
    rw [nth_eq] at h4
    cases hx : ob.xs[i]? with
    | none => rw [hx] at h4; cases h4
    | some q =>
      rw [hx] at h4
      obtain ⟨q', hq, hr⟩ := ho.xs.get hx
      simp only [hq]
      simp only [dropR_eq] at h4
      obtain ⟨u, u', g1, g2, g3⟩ := ldC_run (hr.cells.drop o) h4
      unfold ldK
      rw [g1]
      exact hs.post g2 g3
  | pref xs ys hc =>
    simp only at h3 ⊢
    obtain ⟨u, u', g1, g2, g3⟩ := ldC_run hc h3
    unfold ldK
    rw [g1]
    exact hs.post g2 g3
  | _ => cases h3

/-! ### Publishing -/

/-- What is left to do behind a step that turns the call's own blocks alone. -/
def PostL (ρ : Nm) (t : T3) (H : HE) (nx : Nat) (K : AV → LE → Ans) (r : AV × HE × Nat) (y' : AV) (st' : St) : Prop :=
  ∃ y L, Ren ρ (.one y y') ∧ RenS ρ t L H nx st' ∧ K y L = some r

theorem pub1E_ok (hs : RenS ρ t L H nx st) (P : Program) {x x' : AV} (hx : Ren ρ (.one x x')) {K : AV → LE → Ans} (h : pub1E P L x K = some r) : pub1K P st x' (PostL ρ t H nx K r) := by
  unfold pub1E at h
  unfold pub1K
  cases hx with
  | vec k m b n hm =>
    cases k with
    | none => exact ⟨_, _, .vec none m b n hm, hs, h⟩
    | some k =>
      simp only at h ⊢
      cases hp : aget k L with
      | none => rw [hp] at h; cases h
      | some p =>
        obtain ⟨m', ob⟩ := p
        rw [hp] at h
        simp only at h
        obtain ⟨hb, h1⟩ := bif_true h
        simp only [Bool.and_eq_true] at hb
        obtain ⟨hb1, hb2⟩ := hb
        obtain rfl : m' = m := beq_eq hb1
        rw [lenR_eq] at hb2
        obtain ⟨b', ob', g1, g2, g3⟩ := hs.L k m' ob hp
        rw [hm] at g1
        obtain rfl : b = b' := by simpa using g1
        rw [g3]
        simp only
        rw [takeR_eq, lenR_eq] at h1
        refine ⟨⟨trivial, g2.xs.length ▸ ble_le hb2⟩, _, _, ?_, hs.ownL hm (ob := { ob with frozen := ob.xs.length }) (ob' := { ob' with frozen := ob'.xs.length }) ⟨g2.elem, g2.xs, g2.xs.length, g2.var, g2.map⟩ k, h1⟩
        rw [g2.elem]
        exact .list _ _ _ (g2.xs.take n)
  | v x => exact ⟨_, _, .v x, hs, h⟩
  | list s xs ys hl => exact ⟨_, _, .list s xs ys hl, hs, h⟩
  | ptr k m b i o hm => exact ⟨_, _, .ptr k m b i o hm, hs, h⟩
  | pref xs ys hl => exact ⟨_, _, .pref xs ys hl, hs, h⟩
  | agg xs ys hl => exact ⟨_, _, .agg xs ys hl, hs, h⟩
  | tuple xs ys hl => exact ⟨_, _, .tuple xs ys hl, hs, h⟩
  | clo g xs ys hl => exact ⟨_, _, .clo g xs ys hl, hs, h⟩
  | sub k m b o n hm => exact ⟨_, _, .sub k m b o n hm, hs, h⟩
  | mp k m b hm => exact ⟨_, _, .mp k m b hm, hs, h⟩

theorem pub1K_mono {P : Program} {x : AV} {K K' : AV → St → Prop} (h : pub1K P st x K) (hk : ∀ y st', K y st' → K' y st') : pub1K P st x K' := by
  unfold pub1K at *
  split
  · rename_i k r n
    simp only at h
    cases hq : st.L k with
    | none => rw [hq] at h; exact h.elim
    | some p => rw [hq] at h; exact ⟨h.1, hk _ _ h.2⟩
  · rename_i y hy
    cases x with
    | vec k r n => cases k with
      | none => exact hk _ _ h
      | some k => exact absurd rfl (hy k r n)
    | _ => exact hk _ _ h

theorem pubsK_mono {P : Program} {xs : List AV} {K K' : List AV → St → Prop} (h : pubsK P st xs K) (hk : ∀ y st', K y st' → K' y st') : pubsK P st xs K' := by
  induction xs generalizing st K K' with
  | nil => exact hk _ _ h
  | cons x xs ih => exact pub1K_mono h fun y st' h' => ih h' fun ys st'' h'' => hk _ _ h''

theorem pubK_mono {P : Program} {x : AV} {K K' : AV → St → Prop} (h : pubK P st x K) (hk : ∀ y st', K y st' → K' y st') : pubK P st x K' := by
  unfold pubK at *
  cases x with
  | agg cs => exact pubsK_mono h fun _ _ h' => hk _ _ h'
  | tuple cs => exact pubsK_mono h fun _ _ h' => hk _ _ h'
  | _ => exact pub1K_mono h hk

def PostLs (ρ : Nm) (t : T3) (H : HE) (nx : Nat) (K : List AV → LE → Ans) (r : AV × HE × Nat) (ys' : List AV) (st' : St) : Prop :=
  ∃ ys L, Ren ρ (.many ys ys') ∧ RenS ρ t L H nx st' ∧ K ys L = some r

theorem pubsE_ok (P : Program) {xs xs' : List AV} (hx : Ren ρ (.many xs xs')) : ∀ {L : LE} {st : St} {K : List AV → LE → Ans}, RenS ρ t L H nx st → pubsE P xs L K = some r → pubsK P st xs' (PostLs ρ t H nx K r) := by
  induction xs generalizing xs' with
  | nil =>
    intro L st K hs h
    cases hx
    exact ⟨_, _, .nil, hs, h⟩
  | cons x xs ih =>
    intro L st K hs h
    cases hx with
    | cons _ y _ ys h1 h2 =>
      refine pub1K_mono (pub1E_ok hs P h1 h) fun z st' ⟨z0, L', g1, g2, g3⟩ => ?_
      exact pubsK_mono (ih h2 g2 g3) fun zs st'' ⟨zs0, L'', k1, k2, k3⟩ => ⟨_, _, .cons _ _ _ _ g1 k1, k2, k3⟩

theorem pubE_ok (hs : RenS ρ t L H nx st) (P : Program) {x x' : AV} (hx : Ren ρ (.one x x')) {K : AV → LE → Ans} (h : pubE P L x K = some r) : pubK P st x' (PostL ρ t H nx K r) := by
  unfold pubE at h
  unfold pubK
  cases hx with
  | agg xs ys hl => exact pubsK_mono (pubsE_ok P hl hs h) fun zs st'' ⟨zs0, L'', k1, k2, k3⟩ => ⟨_, _, .agg _ _ k1, k2, k3⟩
  | tuple xs ys hl => exact pubsK_mono (pubsE_ok P hl hs h) fun zs st'' ⟨zs0, L'', k1, k2, k3⟩ => ⟨_, _, .tuple _ _ k1, k2, k3⟩
  | vec k m b n hm => exact pub1E_ok hs P (.vec k m b n hm) h
  | v x => exact pub1E_ok hs P (.v x) h
  | list s xs ys hl => exact pub1E_ok hs P (.list s xs ys hl) h
  | ptr k m b i o hm => exact pub1E_ok hs P (.ptr k m b i o hm) h
  | pref xs ys hl => exact pub1E_ok hs P (.pref xs ys hl) h
  | clo g xs ys hl => exact pub1E_ok hs P (.clo g xs ys hl) h
  | sub k m b o n hm => exact pub1E_ok hs P (.sub k m b o n hm) h
  | mp k m b hm => exact pub1E_ok hs P (.mp k m b hm) h

theorem pubToE_ok (hs : RenS ρ t L H nx st) (P : Program) {k : Option Nat} {x x' : AV} (hx : Ren ρ (.one x x')) {K : AV → LE → Ans} (h : pubToE P L k x K = some r) : pubTo P st k x' (PostL ρ t H nx K r) := by
  unfold pubToE at h
  unfold pubTo
  cases k with
  | none => exact pubE_ok hs P hx h
  | some k =>
    simp only at h ⊢
    cases hp : aget k L with
    | none => rw [hp] at h; cases h
    | some p =>
      obtain ⟨m, ob⟩ := p
      rw [hp] at h
      simp only at h
      obtain ⟨b, ob', g1, g2, g3⟩ := hs.L k m ob hp
      rw [g3]
      simp only
      rw [← g2.var]
      cases hv : ob.var with
      | true => rw [hv] at h; exact ⟨_, _, hx, hs, h⟩
      | false => rw [hv] at h; exact pubE_ok hs P hx h

theorem pubTo_mono {P : Program} {k : Option Nat} {x : AV} {K K' : AV → St → Prop} (h : pubTo P st k x K) (hk : ∀ y st', K y st' → K' y st') : pubTo P st k x K' := by
  unfold pubTo at *
  cases k with
  | none => exact pubK_mono h hk
  | some k =>
    simp only at h ⊢
    cases hq : st.L k with
    | none => rw [hq] at h; exact h.elim
    | some p =>
      obtain ⟨_, ob⟩ := p
      rw [hq] at h
      simp only at h ⊢
      cases hv : ob.var with
      | true => rw [hv] at h; exact hk _ _ h
      | false => rw [hv] at h; exact pubK_mono h hk

/-- A block is written. -/
theorem setObE_run (hs : RenS ρ t L H nx st) {k : Option Nat} {m b : Nat} (hm : ρ m = some b) {ob0 ob ob' : Obj} (hi : inE L H k m ob0) (ho : RenOb ρ ob ob') {K : LE → HE → Ans} (h : setObE L H k m ob K = some r) :
    ∃ L' H', RenS ρ t L' H' nx (st.setOb k b ob') ∧ K L' H' = some r := by
  unfold setObE at h
  unfold St.setOb
  cases k with
  | some k => exact ⟨_, _, hs.ownL hm ho k, h⟩
  | none =>
    have hi' : aget m H = some ob0 := hi
    exact ⟨_, _, hs.setH hm (by rw [hi']; simp) ho, h⟩

theorem storeC_ok (P : Program) (ty : TypeId) (x y : Operand) : OpOk (storeC P ty x y) (fun st => storeK P st ty x y) := by
  intro ρ t L H nx K r st hs h
  unfold storeC at h
  show storeK P st ty x y _
  unfold storeK
  cases hi : (P.info? ty).isSome && Nat.blt 0 (P.cellsOf ty) with
  | false => simp only [hi] at h; cases h
  | true =>
    simp only [hi] at h
    simp only [Bool.and_eq_true] at hi
    obtain ⟨z, z', h1, h2, h3⟩ := avC_run hs h
    rw [h2]
    cases h1 with
    | ptr k m b i o hm =>
      simp only at h3
      obtain ⟨u, u', k1, k2, k3⟩ := avC_run hs h3
      rw [k2]
      simp only
      refine pubTo_mono (pubToE_ok hs P k1 k3) fun v st' ⟨v0, L', g1, g2, g3⟩ => ?_
      obtain ⟨ob, ob', ho, h4, h5, h6⟩ := lookE_run g2 hm g3
      unfold putK
      refine look_of h5 ?_
      rw [nth_eq] at h4
      cases hx : ob.xs[i]? with
      | none => rw [hx] at h4; cases h4
      | some q =>
        rw [hx] at h4
        obtain ⟨q', hq, hr⟩ := ho.xs.get hx
        simp only [hq]
        simp only at h4
        obtain ⟨hb, h7⟩ := bif_true h4
        unfold putOk at hb
        simp only [Bool.and_eq_true] at hb
        obtain ⟨⟨⟨b1, b2⟩, b3⟩, b4⟩ := hb
        rw [lenR_eq] at b1 b2
        rw [onesR_eq] at b4
        rw [setR_eq, upR_eq] at h7
        refine ⟨⟨hi.1, g1.cells.length ▸ beq_eq b1, blt_lt hi.2, hr.cells.length ▸ ble_le b2, ho.frozen ▸ ble_le b3, g1.ones_eq ▸ b4⟩, ?_⟩
        obtain ⟨L2, H2, s1, s2⟩ := setObE_run g2 hm h6 (ob := { ob with xs := ob.xs.set i (q.up o v0.cells) }) (ob' := { ob' with xs := ob'.xs.set i (q'.up o v.cells) }) ⟨ho.elem, ho.xs.set i (hr.up o g1.cells), ho.frozen, ho.var, ho.map⟩ h7
        exact s1.post (.v _) s2
    | _ => cases h3

theorem nilCheckC_ok (x : Operand) : OpOk (nilCheckC x) (fun st => nilCheckK st x) := by
  intro ρ t L H nx K r st hs h
  unfold nilCheckC at h
  obtain ⟨z, z', h1, h2, h3⟩ := avC_run hs h
  show nilCheckK st x _
  unfold nilCheckK
  rw [h2]
  cases h1 with
  | ptr k m b i o hm => exact hs.post (.ptr k m b i o hm) h3
  | pref xs ys hl => exact hs.post (.pref xs ys hl) h3
  | _ => cases h3

theorem fieldAddrC_ok (P : Program) (s : TypeId) (x : Operand) (f : Nat) : OpOk (fieldAddrC P s x f) (fun st => fieldAddrK P st s x f) := by
  intro ρ t L H nx K r st hs h
  unfold fieldAddrC at h
  show fieldAddrK P st s x f _
  unfold fieldAddrK
  cases hf : fieldOf P s f with
  | none => rw [hf] at h; cases h
  | some q =>
    obtain ⟨off, ft⟩ := q
    rw [hf] at h
    simp only at h ⊢
    obtain ⟨z, z', h1, h2, h3⟩ := avC_run hs h
    rw [h2]
    cases h1 with
    | ptr k m b i o hm => exact hs.post (.ptr k m b i (o + off) hm) h3
    | pref xs ys hl =>
      simp only [dropR_eq] at h3
      exact hs.post (.pref _ _ (hl.drop off)) h3
    | _ => cases h3

theorem asNat_run {x x' : AV} (hx : Ren ρ (.one x x')) {K : Nat → Ans} (h : asNat x K = some r) : ∃ k n, x' = .v (.int k (.ofNat n)) ∧ K n = some r := by
  unfold asNat at h
  cases hx with
  | v u => cases u with
    | int k j => cases j with
      | ofNat n => exact ⟨k, n, rfl, h⟩
      | negSucc n => cases h
    | _ => cases h
  | _ => cases h

theorem asInt_run {x x' : AV} (hx : Ren ρ (.one x x')) {K : IntKind → Int → Ans} (h : asInt x K = some r) : ∃ k n, x' = .v (.int k n) ∧ K k n = some r := by
  unfold asInt at h
  cases hx with
  | v u => cases u with
    | int k j => exact ⟨k, j, rfl, h⟩
    | _ => cases h
  | _ => cases h

theorem indexAddrC_ok (P : Program) (ty : TypeId) (x ix : Operand) : OpOk (indexAddrC P ty x ix) (fun st => indexAddrK P st ty x ix) := by
  intro ρ t L H nx K r st hs h
  unfold indexAddrC at h
  show indexAddrK P st ty x ix _
  unfold indexAddrK
  cases he : elemT P ty with
  | some e =>
    simp only [he] at h
    obtain ⟨z, z', h1, h2, h3⟩ := avC_run hs h
    obtain ⟨y, y', k1, k2, k3⟩ := avC_run hs h3
    obtain ⟨kd, j, rfl, k4⟩ := asNat_run k1 k3
    rw [h2, k2]
    cases h1 with
    | vec k m b n hm =>
      simp only at k4 ⊢
      obtain ⟨ob, ob', ho, h4, h5, _⟩ := lookE_run hs hm k4
      obtain ⟨hb, h6⟩ := bif_true h4
      simp only [Bool.and_eq_true] at hb
      refine look_of h5 ⟨⟨?_, by simp, ?_⟩, ?_⟩
      · rw [← ho.elem]; exact beq_eq hb.1
      · have := blt_lt hb.2; simpa using this
      · exact hs.post (.ptr k m b j 0 hm) h6
    | sub k m b o n hm =>
      simp only at k4 ⊢
      obtain ⟨ob, ob', ho, h4, h5, _⟩ := lookE_run hs hm k4
      obtain ⟨hb, h6⟩ := bif_true h4
      simp only [Bool.and_eq_true] at hb
      have h6 := forceN_run h6
      refine look_of h5 ⟨⟨?_, by simp, ?_⟩, ?_⟩
      · rw [← ho.elem]; exact beq_eq hb.1
      · have := blt_lt hb.2; simpa using this
      · exact hs.post (.ptr k m b (o + j) 0 hm) h6
    | list s xs ys hl =>
      simp only at k4 ⊢
      obtain ⟨hb, h6⟩ := bif_true k4
      rw [nth_eq] at h6
      refine ⟨⟨beq_eq hb, by simp⟩, ?_⟩
      cases hx : xs[j]? with
      | none => rw [hx] at h6; cases h6
      | some q =>
        rw [hx] at h6
        obtain ⟨q', hq, hr⟩ := hl.get hx
        simp only [Int.toNat_natCast, Int.ofNat_eq_natCast, hq]
        exact hs.post (.pref _ _ hr.cells) h6
    | _ => cases k4
  | none =>
    simp only [he] at h
    cases ha : arrT P ty with
    | none => simp only [ha] at h; cases h
    | some p =>
      obtain ⟨n, s⟩ := p
      simp only [ha] at h
      obtain ⟨z, z', h1, h2, h3⟩ := avC_run hs h
      obtain ⟨y, y', k1, k2, k3⟩ := avC_run hs h3
      obtain ⟨kd, j, rfl, k4⟩ := asNat_run k1 k3
      rw [h2, k2]
      cases h1 with
      | ptr k m b i o hm =>
        simp only at k4 ⊢
        obtain ⟨hb, h6⟩ := bif_true k4
        have := blt_lt hb
        exact ⟨⟨by simp, by simpa using this⟩, hs.post (.ptr k m b i (o + j * s) hm) h6⟩
      | _ => cases k4

end
end Go.Am
