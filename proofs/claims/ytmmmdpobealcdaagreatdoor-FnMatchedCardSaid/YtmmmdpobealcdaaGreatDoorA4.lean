/- Operations: moves, tests, memory, addresses. -/
import Derived.Test.YtmmmdpobealcdaaGreatDoorA3
import Derived.Laws.Small
import Derived.Laws.Strings
import Derived.Laws.Unary
import Derived.Laws.Shifts
set_option linter.unusedVariables false
set_option linter.unusedSimpArgs false
namespace Go.Am
open Go

def AV.ones (x : AV) : Bool := x.cells.all AV.one

def moveK (st : St) (x : Operand) (K : AV → St → Prop) : Prop :=
  match av st x with
  | some z => K z st
  | none => False

def pickK (st : St) (c x y : Operand) (K : AV → St → Prop) : Prop :=
  match av st c with
  | some (.v (.bool b)) => (b = true → moveK st x K) ∧ (b = false → moveK st y K)
  | _ => False

def allocK (P : Program) (hp : Bool) (key : Nat) (st : St) (e : TypeId) (K : AV → St → Prop) : Prop :=
  match zeroAV P e with
  | some z => (z.cells.length = P.cellsOf e ∧ 0 < P.cellsOf e ∧ z.ones = true) ∧ newK hp key st { elem := e, xs := [z], var := true } fun k r st' => K (.ptr k r 0 0) st'
  | none => False

def boxK (P : Program) (hp : Bool) (key : Nat) (st : St) (e : TypeId) (x : Operand) (K : AV → St → Prop) : Prop :=
  match av st x with
  | some z => (z.cells.length = P.cellsOf e ∧ 0 < P.cellsOf e ∧ z.ones = true) ∧ newK hp key st { elem := e, xs := [z], var := true } fun k r st' => K (.ptr k r 0 0) st'
  | none => False

def ldK (P : Program) (t : TypeId) (cells : List AV) (st : St) (K : AV → St → Prop) : Prop :=
  match ld P t cells with
  | some u => K u st
  | none => False

def loadK (P : Program) (st : St) (t : TypeId) (x : Operand) (K : AV → St → Prop) : Prop :=
  match av st x with
  | some (.ptr k r i j) => look st k r fun ob => match ob.xs[i]? with
    | some z => ldK P t (z.cells.drop j) st K
    | none => False
  | some (.pref cs) => ldK P t cs st K
  | _ => False

/-- A store's value is published, but for one into a variable of the call's own. -/
def pubTo (P : Program) (st : St) (k : Option Nat) (u : AV) (K : AV → St → Prop) : Prop :=
  match k with
  | none => pubK P st u K
  | some k => match st.L k with
    | some (_, ob) => if ob.var then K u st else pubK P st u K
    | none => False

def putK (P : Program) (st : St) (t : TypeId) (k : Option Nat) (r i j : Nat) (u : AV) (K : St → Prop) : Prop :=
  look st k r fun ob => match ob.xs[i]? with
    | some z => ((P.info? t).isSome = true ∧ u.cells.length = P.cellsOf t ∧ 0 < P.cellsOf t ∧ j + P.cellsOf t ≤ z.cells.length ∧ ob.frozen ≤ i ∧ u.ones = true) ∧ K (st.setOb k r { ob with xs := ob.xs.set i (z.up j u.cells) })
    | none => False

def storeK (P : Program) (st : St) (t : TypeId) (x y : Operand) (K : AV → St → Prop) : Prop :=
  match av st x, av st y with
  | some (.ptr k r i j), some u => pubTo P st k u fun u' st' => putK P st' t k r i j u' fun st'' => K (.v undef) st''
  | _, _ => False

def nilCheckK (st : St) (x : Operand) (K : AV → St → Prop) : Prop :=
  match av st x with
  | some (.ptr k r i j) => K (.ptr k r i j) st
  | some (.pref cs) => K (.pref cs) st
  | _ => False

def fieldOf (P : Program) (t : TypeId) (f : Nat) : Option (Nat × TypeId) :=
  match P.underlying t with
  | some (.struct fs) => match fs[f]? with
    | some g => if (P.info? g.type).isSome ∧ 0 < P.cellsOf g.type then some (g.offset, g.type) else none
    | none => none
  | _ => none

def fieldAddrK (P : Program) (st : St) (s : TypeId) (x : Operand) (f : Nat) (K : AV → St → Prop) : Prop :=
  match fieldOf P s f, av st x with
  | some (off, _), some (.ptr k r i j) => K (.ptr k r i (j + off)) st
  | some (off, _), some (.pref cs) => K (.pref (cs.drop off)) st
  | _, _ => False

def arrT (P : Program) (t : TypeId) : Option (Nat × Nat) :=
  match P.underlying t with
  | some (.array n e) => match P.info? e with
    | some i => if 1 < n then some (n, i.size) else none
    | none => none
  | _ => none

def indexAddrK (P : Program) (st : St) (t : TypeId) (x ix : Operand) (K : AV → St → Prop) : Prop :=
  match av st x, av st ix with
  | some (.vec k r n), some (.v (.int _ j)) => match elemT P t with
    | some e => look st k r fun ob => (P.cellsOf ob.elem = P.cellsOf e ∧ 0 ≤ j ∧ j < n) ∧ K (.ptr k r j.toNat 0) st
    | none => False
  | some (.sub k r o n), some (.v (.int _ j)) => match elemT P t with
    | some e => look st k r fun ob => (P.cellsOf ob.elem = P.cellsOf e ∧ 0 ≤ j ∧ j < n) ∧ K (.ptr k r (o + j.toNat) 0) st
    | none => False
  | some (.list s xs), some (.v (.int _ j)) => match elemT P t with
    | some e => (s = P.cellsOf e ∧ 0 ≤ j) ∧ match xs[j.toNat]? with
      | some z => K (.pref z.cells) st
      | none => False
    | none => False
  | some (.ptr k r i o), some (.v (.int _ j)) => match arrT P t with
    | some (n, s) => (0 ≤ j ∧ j < n) ∧ K (.ptr k r i (o + j.toNat * s)) st
    | none => False
  | _, _ => False

section
variable {C : Ctx} {I I' : Nat → Nat → Prop} {st : St} {a : Act} {w w' : World}

/-- What a step that calls nothing comes to. -/
def Comes1 (C : Ctx) (I : Nat → Nat → Prop) (st : St) (a : Act) (w : World) (s : Sem Next) (K : AV → St → Prop) : Prop :=
  ∃ x st' I' y w', K x st' ∧ (s.run C.P w = .ok (.value y) w' ∨ (s.run C.P w = .ok .skip w' ∧ y = undef)) ∧ Rl C I' st' a w' ∧ R C.P I' w' (.val x y) ∧ st'.n = st.n

theorem Comes1.value {s : Sem Next} {K : AV → St → Prop} {x : AV} {st' : St} {y : Value} (hk : K x st') (hs : s.run C.P w = .ok (.value y) w') (h : Rl C I' st' a w') (hr : R C.P I' w' (.val x y)) (hn : st'.n = st.n) :
    Comes1 C I st a w s K := ⟨x, st', I', y, w', hk, .inl hs, h, hr, hn⟩

theorem ones_mem {x : AV} (h : x.ones = true) : ∀ c ∈ x.cells, c.one = true := by
  unfold AV.ones at h
  exact List.all_eq_true.1 h

theorem moveK_sound (h : Rl C I st a w) {x : Operand} {K : AV → St → Prop} (hk : moveK st x K) : ∃ z, K z st ∧ R C.P I w (.val z (a.eval x)) := by
  unfold moveK at hk
  cases hz : av st x with
  | none => rw [hz] at hk; exact hk.elim
  | some z => rw [hz] at hk; exact ⟨z, hk, h.av hz⟩

theorem pickK_sound (h : Rl C I st a w) {c x y : Operand} {K : AV → St → Prop} (hk : pickK st c x y K) :
    Comes1 C I st a w (do pure (.value (if ← asBool (a.eval c) then a.eval x else a.eval y))) K := by
  unfold pickK at hk
  split at hk
  · rename_i b hc
    have hcv := h.av hc
    generalize a.eval c = cv at hcv ⊢
    cases hcv with
    | v =>
      obtain ⟨h1, h2⟩ := hk
      cases b with
      | true =>
        obtain ⟨z, hz, hr⟩ := moveK_sound h (h1 rfl)
        exact .value hz (y := a.eval x) (by simp [asBool]) h hr rfl
      | false =>
        obtain ⟨z, hz, hr⟩ := moveK_sound h (h2 rfl)
        exact .value hz (y := a.eval y) (by simp [asBool]) h hr rfl
  · exact hk.elim

theorem run_zero {P : Program} {t : TypeId} {z : AV} (h : zeroAV P t = some z) (w : World) : ∃ y, (zeroValue t).run P w = .ok y w ∧ z = ofConst y := by
  unfold zeroAV at h
  simp only [Option.map_eq_some_iff, Option.bind_eq_some_iff] at h
  obtain ⟨y, ⟨i, hi, hz⟩, rfl⟩ := h
  exact ⟨y, by simp [zeroValue, typeInfo, hi, hz], rfl⟩

theorem newVar_sound (h : Rl C I st a w) {hp : Bool} {key : Nat} {e : TypeId} {z : AV} {y : Value} {K : AV → St → Prop} (hr : R C.P I w (.val z y))
    (h1 : z.cells.length = C.P.cellsOf e) (h2 : 0 < C.P.cellsOf e) (h3 : z.ones = true)
    (hk : newK hp key st { elem := e, xs := [z], var := true } fun k r st' => K (.ptr k r 0 0) st') :
    ∃ st' k, K (.ptr k w.heap.size 0 0) st' ∧ (newVar e y).run C.P w = .ok ⟨w.heap.size, 0, none⟩ (w.alloc (.cells y.cells e (0, 0))) ∧ Rl C I st' a (w.alloc (.cells y.cells e (0, 0))) ∧
      R C.P I (w.alloc (.cells y.cells e (0, 0))) (.val (.ptr k w.heap.size 0 0) (.pointer (some ⟨w.heap.size, 0, none⟩))) ∧ st'.n = st.n := by
  have hv := hr.cells_vals (ones_mem h3)
  have hl := R.vals_length hv
  have hfl : flat [z] = z.cells := by simp [flat]
  obtain ⟨k, st', hK, hR, hn⟩ := h.new (hp := hp) (key := key) y.cells e [z] true (by rw [hfl]; simp at hl; omega) (fun j x hx => by
    rw [hfl] at hx
    obtain ⟨u, hu, hru⟩ := hv.vals_get j x hx
    exact ⟨u, by simpa using hu, hru⟩) (by simpa using h1) h2 hk
  exact ⟨st', k, hK, by simp [newVar, newRow], hR, .ptr _ _ _ _ _ _ _ _ push_new (by simp), hn⟩

theorem allocK_sound (h : Rl C I st a w) {hp : Bool} {key : Nat} {e : TypeId} {K : AV → St → Prop} (hk : allocK C.P hp key st e K) :
    Comes1 C I st a w (do pure (.value (← Instr.alloc e true (.tuple #[])))) K := by
  unfold allocK at hk
  split at hk
  · rename_i z hz
    obtain ⟨⟨h1, h2, h3⟩, hk⟩ := hk
    obtain ⟨y, hy, rfl⟩ := run_zero hz w
    obtain ⟨st', k, hK, hrun, hR, hr, hn⟩ := newVar_sound h (.ofConst _ _ _ y) h1 h2 h3 hk
    exact .value hK (by simp [Instr.alloc, hy, hrun]) hR hr hn
  · exact hk.elim

theorem boxK_sound (h : Rl C I st a w) {hp : Bool} {key : Nat} {e : TypeId} {x : Operand} {K : AV → St → Prop} (hk : boxK C.P hp key st e x K) :
    Comes1 C I st a w (do pure (.value (← Instr.box e (a.eval x)))) K := by
  unfold boxK at hk
  split at hk
  · rename_i z hz
    obtain ⟨⟨h1, h2, h3⟩, hk⟩ := hk
    obtain ⟨st', k, hK, hrun, hR, hr, hn⟩ := newVar_sound h (h.av hz) h1 h2 h3 hk
    exact .value hK (by simp [Instr.box, hrun]) hR hr hn
  · exact hk.elim

theorem loadK_sound (h : Rl C I st a w) {t : TypeId} {x : Operand} {K : AV → St → Prop} (hk : loadK C.P st t x K) :
    Comes1 C I st a w (do pure (.value (← Instr.loadAt t (a.eval x)))) K := by
  unfold loadK at hk
  split at hk
  · rename_i k r i j hx
    obtain ⟨ob, hob, hR, _, _⟩ := h.look hk
    split at hob
    · rename_i z hz
      unfold ldK at hob
      split at hob
      · rename_i u hu
        obtain ⟨c, hc, _⟩ := hR.ex
        have he := (h.av hx).ptr_inv hc
        obtain ⟨y, hy, hr⟩ := run_ld hu (hR.cellsAt hz j)
        exact .value hob (by rw [he]; simp [hy]) h hr rfl
      · exact hob.elim
    · exact hob.elim
  · rename_i cs hx
    unfold ldK at hk
    split at hk
    · rename_i u hu
      have hv := h.av hx
      generalize a.eval x = xv at hv ⊢
      cases hv with
      | pref _ r off hcs =>
        obtain ⟨y, hy, hr⟩ := run_ld hu (fun j z hz => let ⟨y, h1, h2, _⟩ := hcs.cells_get j z hz; ⟨y, h1, h2⟩)
        exact .value hk (by simp [hy]) h hr rfl
    · exact hk.elim
  · exact hk.elim

theorem pubTo_sound (h : Rl C I st a w) {k : Option Nat} {u : AV} {y : Value} {K : AV → St → Prop} (hr : R C.P I w (.val u y)) (hk : pubTo C.P st k u K) :
    ∃ x' st' I', K x' st' ∧ Rl C I' st' a w ∧ (∀ b o, I b o → I' b o) ∧ R C.P I' w (.val x' y) ∧ st'.n = st.n := by
  unfold pubTo at hk
  split at hk
  · exact h.pub hr hk
  · split at hk
    · split at hk
      · exact ⟨u, st, I, hk, h, fun _ _ => id, hr, rfl⟩
      · exact h.pub hr hk
    · exact hk.elim

theorem putK_sound (h : Rl C I st a w) {t : TypeId} {k : Option Nat} {r i j : Nat} {u : AV} {x y : Value} {K : St → Prop} (hx : R C.P I w (.val (.ptr k r i j) x)) (hr : R C.P I w (.val u y))
    (hk : putK C.P st t k r i j u K) : ∃ st' w', K st' ∧ (Instr.storeAt t x y).run C.P w = .ok () w' ∧ Rl C I st' a w' ∧ st'.n = st.n := by
  unfold putK at hk
  obtain ⟨ob, hob, hR, hI, hloc⟩ := h.look hk
  split at hob
  · rename_i z hz
    obtain ⟨⟨h1, h2, h3, h4, h5, h6⟩, hK⟩ := hob
    obtain ⟨c, hc, _⟩ := hR.ex
    have he := hx.ptr_inv hc
    have hv := hr.cells_vals (ones_mem h6)
    have hl := R.vals_length hv
    obtain ⟨ti, hti⟩ := Option.isSome_iff_exists.1 h1
    obtain ⟨w', hrun, hR', hoth, hsz, hcells, hsh⟩ := hR.store hz (k := j) (by omega) (by omega) hv (ones_mem h6) (fun o ho => Nat.lt_of_lt_of_le (hI o ho) (Nat.mul_le_mul_right _ h5))
    have hst : (Instr.storeAt t x y).run C.P w = .ok () w' := by
      have hys : y.cells.size = C.P.cellsOf t := by simp at hl; omega
      rw [he]
      simp only [Instr.storeAt, Instr.sureAddr, storeVar, Sem.run_bind, Sem.run_pure, Result.andThen_ok, run_sizeOf hti]
      rw [if_neg (by rw [hys, cellsOf_eq hti]; simp)]
      exact hrun
    cases k with
    | some k => exact ⟨_, w', hK, hst, h.objL hloc hR' rfl (Nat.le_refl _) hoth hsz hcells hsh, rfl⟩
    | none => exact ⟨_, w', hK, hst, h.objH hloc.1 (.of_cells hR' hloc.2) hoth hsz hcells hsh, rfl⟩
  · exact hob.elim

theorem storeK_sound (h : Rl C I st a w) {t : TypeId} {x y : Operand} {K : AV → St → Prop} (hk : storeK C.P st t x y K) :
    Comes1 C I st a w (do Instr.storeAt t (a.eval x) (a.eval y); pure .skip) K := by
  unfold storeK at hk
  split at hk
  · rename_i k r i j u hx hy
    obtain ⟨u', st', I', hk', h', hI, hu, hn⟩ := pubTo_sound h (h.av hy) hk
    obtain ⟨st'', w', hK, hrun, h'', hn'⟩ := putK_sound h' ((h.av hx).up hI) hu hk'
    exact ⟨_, st'', I', undef, w', hK, .inr ⟨by simp [hrun], rfl⟩, h'', .v _, hn'.trans hn⟩
  · exact hk.elim

theorem nilCheckK_sound (h : Rl C I st a w) {x : Operand} {K : AV → St → Prop} (hk : nilCheckK st x K) :
    ∃ z, K z st ∧ R C.P I w (.val z (a.eval x)) ∧ ∃ p, a.eval x = .pointer (some p) := by
  unfold nilCheckK at hk
  split at hk
  · rename_i k r i j hx
    have hv := h.av hx
    generalize a.eval x = xv at hv ⊢
    refine ⟨_, hk, hv, ?_⟩
    cases hv; exact ⟨_, rfl⟩
  · rename_i cs hx
    have hv := h.av hx
    generalize a.eval x = xv at hv ⊢
    refine ⟨_, hk, hv, ?_⟩
    cases hv; exact ⟨_, rfl⟩
  · exact hk.elim

theorem addr_add (r o n : Nat) : (⟨r, o, none⟩ : Addr).add n = ⟨r, o + n, none⟩ := by unfold Addr.add; split <;> simp_all

theorem run_fieldAt {P : Program} {s : TypeId} {f off : Nat} {ft : TypeId} (hf : fieldOf P s f = some (off, ft)) (r o : Nat) (w : World) :
    (Instr.fieldAt s (.pointer (some ⟨r, o, none⟩)) f).run P w = .ok (.pointer (some ⟨r, o + off, none⟩)) w := by
  unfold fieldOf at hf
  split at hf
  · rename_i fs hu
    split at hf
    · rename_i g hg
      split at hf
      · rename_i hc
        simp only [Option.some.injEq, Prod.mk.injEq] at hf
        obtain ⟨rfl, rfl⟩ := hf
        obtain ⟨i, hi⟩ := Option.isSome_iff_exists.1 hc.1
        have hs : i.size ≠ 0 := by have := hc.2; rw [cellsOf_eq hi] at this; omega
        simp [Instr.fieldAt, run_underlying hu, hg, Instr.sureAddr, fieldPlace, run_sizeOf hi, hs, addr_add]
      · cases hf
    · cases hf
  · cases hf

theorem fieldAddrK_sound (h : Rl C I st a w) {s : TypeId} {x : Operand} {f : Nat} {K : AV → St → Prop} (hk : fieldAddrK C.P st s x f K) :
    Comes1 C I st a w (do pure (.value (← Instr.fieldAt s (a.eval x) f))) K := by
  unfold fieldAddrK at hk
  split at hk
  · rename_i off ft k r i j hf hx
    have hv := h.av hx
    generalize a.eval x = xv at hv ⊢
    cases hv with
    | ptr _ _ _ _ o e c z h1 h2 => exact .value hk (y := .pointer (some ⟨r, o + off, none⟩)) (by simp [run_fieldAt hf]) h (.ptr _ _ _ _ _ e c z h1 (by omega)) rfl
  · rename_i off ft cs hf hx
    have hv := h.av hx
    generalize a.eval x = xv at hv ⊢
    cases hv with
    | pref _ r o hcs => exact .value hk (y := .pointer (some ⟨r, o + off, none⟩)) (by simp [run_fieldAt hf]) h (.pref _ _ _ (hcs.cells_drop off)) rfl
  · exact hk.elim

theorem elemT_spec {P : Program} {t e : TypeId} (h : elemT P t = some e) : P.underlying t = some (.slice e) ∧ ∃ i, P.info? e = some i := by
  unfold elemT at h
  split at h
  · rename_i e' hu
    split at h
    · rename_i hi
      simp only [Option.some.injEq] at h
      subst h
      exact ⟨hu, Option.isSome_iff_exists.1 hi⟩
    · cases h
  · cases h

theorem run_indexAt {P : Program} {t e : TypeId} {i : TypeInfo} (hu : P.underlying t = some (.slice e)) (hi : P.info? e = some i) (r o n cap : Nat) (k : IntKind) (j : Int) (h0 : 0 ≤ j) (hn : j < n) (w : World) :
    (Instr.indexAt t (.slice (some ⟨r, o, none⟩) n cap) (.int k j)).run P w = .ok (.pointer (some ⟨r, o + j.toNat * i.size, none⟩)) w := by
  simp [Instr.indexAt, asIntOf, run_underlying hu, h0, hn, run_sizeOf hi, addr_add]

theorem indexAddrK_sound (h : Rl C I st a w) {t : TypeId} {x ix : Operand} {K : AV → St → Prop} (hk : indexAddrK C.P st t x ix K) :
    Comes1 C I st a w (do pure (.value (← Instr.indexAt t (a.eval x) (a.eval ix)))) K := by
  unfold indexAddrK at hk
  split at hk
  · rename_i k r n kk j hx hix
    split at hk
    · rename_i e he
      obtain ⟨hu, i, hi⟩ := elemT_spec he
      obtain ⟨ob, ⟨⟨h1, h2, h3⟩, hK⟩, hR, _, _⟩ := h.look hk
      obtain ⟨c, hc, _⟩ := hR.ex
      obtain ⟨cap, hy, h4, h5⟩ := (h.av hx).vec_inv hc
      have hj := h.av hix
      generalize a.eval ix = jv at hj ⊢
      cases hj
      rw [hy]
      refine .value hK (y := .pointer (some ⟨r, 0 + j.toNat * i.size, none⟩)) (by simp only [Sem.run_bind, run_indexAt hu hi r 0 n cap kk j h2 h3, Result.andThen_ok, Sem.run_pure]) h (.ptr _ _ _ _ _ _ _ _ hc ?_) rfl
      rw [h1, cellsOf_eq hi, Nat.zero_add, Nat.add_zero]
    · exact hk.elim
  · rename_i k r o n kk j hx hix
    split at hk
    · rename_i e he
      obtain ⟨hu, i, hi⟩ := elemT_spec he
      obtain ⟨ob, ⟨⟨h1, h2, h3⟩, hK⟩, hR, _, _⟩ := h.look hk
      obtain ⟨c, hc, _⟩ := hR.ex
      obtain ⟨cap, hy, h5⟩ := (h.av hx).sub_inv hc
      have hj := h.av hix
      generalize a.eval ix = jv at hj ⊢
      cases hj
      rw [hy]
      refine .value hK (y := .pointer (some ⟨r, o * C.P.cellsOf ob.elem + j.toNat * i.size, none⟩)) (by simp only [Sem.run_bind, run_indexAt hu hi r (o * C.P.cellsOf ob.elem) n cap kk j h2 h3, Result.andThen_ok, Sem.run_pure]) h (.ptr _ _ _ _ _ _ _ _ hc ?_) rfl
      rw [h1, cellsOf_eq hi, Nat.add_mul, Nat.add_zero]
    · exact hk.elim
  · rename_i s xs kk j hx hix
    split at hk
    · rename_i e he
      obtain ⟨hu, i, hi⟩ := elemT_spec he
      obtain ⟨⟨h1, h2⟩, hk⟩ := hk
      split at hk
      · rename_i z hz
        have hlt : j.toNat < xs.length := (List.getElem?_eq_some_iff.1 hz).1
        have hj := h.av hix
        have hv := h.av hx
        generalize a.eval ix = jv at hj ⊢
        generalize a.eval x = xv at hv ⊢
        cases hj
        cases hv with
        | lnil => simp at hlt
        | list _ _ r off len cap hl _ hs hcs =>
          refine .value hk (y := .pointer (some ⟨r, off + j.toNat * i.size, none⟩)) (by simp only [Sem.run_bind, run_indexAt hu hi r off len cap kk j h2 (by omega), Result.andThen_ok, Sem.run_pure]) h (.pref _ _ _ (.cells_of fun q y hy => ?_)) rfl
          have hq : q < s := by
            have := (List.getElem?_eq_some_iff.1 hy).1
            rwa [hs z (List.mem_of_getElem? hz)] at this
          have := hcs.cells_get (j.toNat * s + q) y (by rw [flat_get hs _ _ hq, hz]; exact hy)
          rw [h1, cellsOf_eq hi] at this
          rwa [show off + j.toNat * i.size + q = off + (j.toNat * i.size + q) from by omega]
      · exact hk.elim
    · exact hk.elim
  · rename_i k r i o kk j hx hix
    split at hk
    · rename_i n s ha
      obtain ⟨⟨h1, h2⟩, hK⟩ := hk
      unfold arrT at ha
      split at ha
      · rename_i n' e hu
        split at ha
        · rename_i ti hi
          split at ha
          · rename_i hn1
            simp only [Option.some.injEq, Prod.mk.injEq] at ha
            obtain ⟨rfl, rfl⟩ := ha
            have hj := h.av hix
            have hv := h.av hx
            generalize a.eval ix = jv at hj ⊢
            generalize a.eval x = xv at hv ⊢
            cases hj
            cases hv with
            | ptr _ _ _ _ off e' c z h3 h4 =>
              refine .value hK (y := .pointer (some ⟨r, off + j.toNat * ti.size, none⟩)) ?_ h (.ptr _ _ _ _ _ e' c z h3 (by omega)) rfl
              simp [Instr.indexAt, asIntOf, run_underlying hu, Instr.sureAddr, h1, h2, run_sizeOf hi, addr_add]
          · cases ha
        · cases ha
      · cases ha
    · exact hk.elim
  · exact hk.elim

end
end Go.Am
