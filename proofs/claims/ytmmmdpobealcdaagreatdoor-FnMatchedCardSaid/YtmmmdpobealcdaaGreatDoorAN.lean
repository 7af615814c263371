/- Further operations: parts of blocks, pointers and slices compared, cap, max, min, a slice that is lengthened by empty elements, functions that take something along. -/
import Derived.Test.YtmmmdpobealcdaaGreatDoorA9
import Derived.IntWalk
set_option linter.unusedVariables false
set_option linter.unusedSimpArgs false
namespace Go.Am
open Go

def nilS : AV := .v (.slice none 0 0)

def sliceX (P : Program) (st : St) (t : TypeId) (x : Operand) (lo hi mx : Option Operand) (K : AV → St → Prop) : Prop :=
  match mx, av st x with
  | none, some (.vec k r n) => match optI st 0 lo, optI st n hi, elemT P t with
    | some l, some u, some e => (0 ≤ l ∧ l ≤ u ∧ u ≤ n) ∧ look st k r fun ob => P.cellsOf ob.elem = P.cellsOf e ∧
        ((l = 0 ∧ K (.vec k r u.toNat) st) ∨ (l = u ∧ K (.list (P.cellsOf e) []) st) ∨ ((0 < l ∧ l < u) ∧ K (.sub k r l.toNat (u.toNat - l.toNat)) st))
    | _, _, _ => False
  | none, some (.sub k r o n) => match optI st 0 lo, optI st n hi, elemT P t with
    | some l, some u, some e => (0 ≤ l ∧ l ≤ u ∧ u ≤ n) ∧ look st k r fun ob => P.cellsOf ob.elem = P.cellsOf e ∧
        ((l = u ∧ K (.list (P.cellsOf e) []) st) ∨ (l < u ∧ K (.sub k r (o + l.toNat) (u.toNat - l.toNat)) st))
    | _, _, _ => False
  | none, some (.v (.slice none 0 0)) => match optI st 0 lo, optI st 0 hi, elemT P t with
    | some l, some u, some _ => (l = 0 ∧ u = 0) ∧ K (.v (.slice none 0 0)) st
    | _, _, _ => False
  | _, _ => False

def eqOpK (op : BinOp) (b : Bool) (K : AV → Prop) : Prop :=
  match op with
  | .eql => K (.v (.bool b))
  | .neq => K (.v (.bool (!b)))
  | _ => False

def isSliceT (P : Program) (t : TypeId) : Prop := match P.underlying t with | some (.slice _) => True | _ => False

def binX (P : Program) (st : St) (op : BinOp) (t : TypeId) (x y : Operand) (K : AV → St → Prop) : Prop :=
  match av st x, av st y with
  | some (.ptr k r i o), some (.ptr k' r' i' o') => ptrEqK P st t (.ptr k r i o) (.ptr k' r' i' o') fun b => eqOpK op b fun z => K z st
  | some (.v (.slice none 0 0)), some (.v (.slice none 0 0)) => isSliceT P t ∧ eqOpK op true fun z => K z st
  | some (.vec _ _ _), some (.v (.slice none 0 0)) | some (.sub _ _ _ _), some (.v (.slice none 0 0)) => isSliceT P t ∧ eqOpK op false fun z => K z st
  | some (.list _ (_ :: _)), some (.v (.slice none 0 0)) => isSliceT P t ∧ eqOpK op false fun z => K z st
  | _, _ => False

def capK (P : Program) (st : St) (t : TypeId) (x : Operand) (K : AV → St → Prop) : Prop :=
  match av st x with
  | some (.v (.slice none 0 0)) => (elemT P t).isSome = true ∧ K (.v (.int .i64 0)) st
  | _ => False

def mostK (mx : Bool) (st : St) (x y : Operand) (K : AV → St → Prop) : Prop :=
  match av st x, av st y with
  | some (.v (.int k n)), some (.v (.int _ m)) => K (.v (.int k (if mx then (if m > n then m else n) else (if m < n then m else n)))) st
  | _, _ => False

def clearK (P : Program) (st : St) (t : TypeId) (x : Operand) (K : AV → St → Prop) : Prop :=
  match av st x with
  | some (.list _ []) | some (.v (.slice none 0 0)) => (elemT P t).isSome = true ∧ K (.tuple []) st
  | _ => False

def intT (P : Program) (t : TypeId) : Prop := match P.underlying t with | some (.int _) => True | _ => False

def growK (P : Program) (hp : Bool) (key : Nat) (st : St) (t t' : TypeId) (s x : Operand) (K : AV → St → Prop) : Prop :=
  match elemT P t, av st s, av st x with
  | some e, some (.v (.slice none 0 0)), some (.v (.int _ n)) => match zeroAV P e with
    | some z => (z.cells.length = P.cellsOf e ∧ 0 < P.cellsOf e ∧ 0 < n ∧ n.toNat * P.bytesOf e ≤ 140737488355328 ∧ n ≤ 9223372036854775807 ∧ intT P t') ∧
        newK hp key st { elem := e, xs := List.replicate n.toNat z } fun k r st' => K (.vec k r n.toNat) st'
    | none => False
  | _, _, _ => False

def avsO (st : St) : List Operand → Option (List AV)
  | [] => some []
  | x :: r => match av st x, avsO st r with
    | some z, some zs => some (z :: zs)
    | _, _ => none

def closeK (st : St) (fn : Go.Fn) (first captured : Array Operand) (K : AV → St → Prop) : Prop :=
  match fn, avsO st captured.toList with
  | .func g, some xs => first = #[] ∧ K (.clo g xs) st
  | _, _ => False

def builtinX (hp : Bool) (P : Program) (st : St) (key : Nat) (b : Builtin) (args : List Operand) (ts : List TypeId) (K : AV → St → Prop) : Prop :=
  match b, args, ts with
  | .cap, [x], [t] => capK P st t x K
  | .max, [x, y], _ => mostK true st x y K
  | .min, [x, y], _ => mostK false st x y K
  | .clear, [x], [t] => clearK P st t x K
  | .append, [x, y], [t, t'] => growK P hp key st t t' x y K
  | _, _, _ => False

def opX (hp : Bool) (P : Program) (st : St) (o : Oper) (K : AV → St → Prop) : Prop :=
  match o.op with
  | .binOp op t x y _ => binX P st op t x y K
  | .makeFunc fn first captured => closeK st fn first captured K
  | .makeMap t res => makeMapK P st t res K
  | .lookup t x ix ok => lookupK P st t x ix ok K
  | .mapUpdate t x ix y => mapUpdateK P st t x ix y K
  | .slice t x lo hi mx => sliceX P st t x lo hi mx K
  | .call c => match c.callee with
    | .builtin b => builtinX hp P st (o.dst.getD 0) b c.args.toList c.argTypes.toList K
    | _ => False
  | _ => False

/-- All operations but calls of functions of the text. -/
def opA (hp : Bool) (lm : LitMode) (P : Program) (st : St) (o : Oper) (K : AV → St → Prop) : Prop := opK hp lm P st o K ∨ opX hp P st o K

section
variable {C : Ctx} {I I' : Nat → Nat → Prop} {st : St} {a : Act} {w w' : World}

theorem sliceX_sound (h : Rl C I st a w) {t : TypeId} {x : Operand} {lo hi mx : Option Operand} {K : AV → St → Prop} (hk : sliceX C.P st t x lo hi mx K) :
    Comes1 C I st a w (do pure (.value (← Instr.sliceAt t (a.eval x) (lo.map a.eval) (hi.map a.eval) (mx.map a.eval)))) K := by
  unfold sliceX at hk
  split at hk
  · rename_i k r n hx
    split at hk
    · rename_i l u e hl hu he
      obtain ⟨⟨h0, h1, h2⟩, hk⟩ := hk
      obtain ⟨ht, ti, hti⟩ := elemT_spec he
      have hsz := cellsOf_eq hti
      obtain ⟨ob, ⟨hc1, hk⟩, hR, _, _⟩ := h.look hk
      obtain ⟨c, hc, _⟩ := hR.ex
      obtain ⟨cap, hy, hcap, hle⟩ := (h.av hx).vec_inv hc
      rw [hy]
      have hb := run_bounds (C := C) h (len := n) (cap := cap) hl hu h0 h1 h2 hle true
      have hrun : (Instr.sliceAt t (.slice (some ⟨r, 0, none⟩) n cap) (lo.map a.eval) (hi.map a.eval) none).run C.P w =
          .ok (.slice (if cap = l.toNat then some ⟨r, 0, none⟩ else some ⟨r, 0 + l.toNat * ti.size, none⟩) (u.toNat - l.toNat) (cap - l.toNat)) w := by
        simp [Instr.sliceAt, Instr.slice, run_underlying ht, hb, run_sizeOf hti, addr_add]
      rcases hk with ⟨rfl, hK⟩ | ⟨rfl, hK⟩ | ⟨⟨h3, h4⟩, hK⟩
      · refine .value hK (y := .slice (some ⟨r, 0, none⟩) u.toNat cap) ?_ h (.vec k r u.toNat cap ob.elem c (0, 0) hc hcap (by omega)) rfl
        simp only [Option.map_none, Sem.run_bind, hrun]
        simp
      · refine .value hK (y := .slice (if cap = l.toNat then some ⟨r, 0, none⟩ else some ⟨r, 0 + l.toNat * ti.size, none⟩) (l.toNat - l.toNat) (cap - l.toNat)) (by simp only [Option.map_none, Sem.run_bind, hrun, Result.andThen_ok, Sem.run_pure]) h ?_ rfl
        rw [Nat.sub_self]
        exact .lnil _ _ _
      · refine .value hK (y := .slice (some ⟨r, l.toNat * C.P.cellsOf ob.elem, none⟩) (u.toNat - l.toNat) (cap - l.toNat)) ?_ h (.sub k r l.toNat (u.toNat - l.toNat) (cap - l.toNat) ob.elem c (0, 0) hc (by omega)) rfl
        simp only [Option.map_none, Sem.run_bind, hrun, Result.andThen_ok, Sem.run_pure]
        rw [if_neg (by omega), Nat.zero_add, hc1, hsz]
    · exact hk.elim
  · rename_i k r o n hx
    split at hk
    · rename_i l u e hl hu he
      obtain ⟨⟨h0, h1, h2⟩, hk⟩ := hk
      obtain ⟨ht, ti, hti⟩ := elemT_spec he
      have hsz := cellsOf_eq hti
      obtain ⟨ob, ⟨hc1, hk⟩, hR, _, _⟩ := h.look hk
      obtain ⟨c, hc, _⟩ := hR.ex
      obtain ⟨cap, hy, hle⟩ := (h.av hx).sub_inv hc
      rw [hy]
      have hb := run_bounds (C := C) h (len := n) (cap := cap) hl hu h0 h1 h2 hle true
      have hrun : (Instr.sliceAt t (.slice (some ⟨r, o * C.P.cellsOf ob.elem, none⟩) n cap) (lo.map a.eval) (hi.map a.eval) none).run C.P w =
          .ok (.slice (if cap = l.toNat then some ⟨r, o * C.P.cellsOf ob.elem, none⟩ else some ⟨r, o * C.P.cellsOf ob.elem + l.toNat * ti.size, none⟩) (u.toNat - l.toNat) (cap - l.toNat)) w := by
        simp [Instr.sliceAt, Instr.slice, run_underlying ht, hb, run_sizeOf hti, addr_add]
      rcases hk with ⟨rfl, hK⟩ | ⟨h4, hK⟩
      · refine .value hK (y := .slice (if cap = l.toNat then some ⟨r, o * C.P.cellsOf ob.elem, none⟩ else some ⟨r, o * C.P.cellsOf ob.elem + l.toNat * ti.size, none⟩) (l.toNat - l.toNat) (cap - l.toNat)) (by simp only [Option.map_none, Sem.run_bind, hrun, Result.andThen_ok, Sem.run_pure]) h ?_ rfl
        rw [Nat.sub_self]
        exact .lnil _ _ _
      · refine .value hK (y := .slice (some ⟨r, (o + l.toNat) * C.P.cellsOf ob.elem, none⟩) (u.toNat - l.toNat) (cap - l.toNat)) ?_ h (.sub k r (o + l.toNat) (u.toNat - l.toNat) (cap - l.toNat) ob.elem c (0, 0) hc (by omega)) rfl
        simp only [Option.map_none, Sem.run_bind, hrun, Result.andThen_ok, Sem.run_pure]
        rw [if_neg (by omega), hc1, hsz, Nat.add_mul]
    · exact hk.elim
  · rename_i hx
    split at hk
    · rename_i l u e hl hu he
      obtain ⟨⟨rfl, rfl⟩, hK⟩ := hk
      obtain ⟨ht, ti, hti⟩ := elemT_spec he
      have h1 := h.av hx
      generalize a.eval x = xv at h1 ⊢
      cases h1
      have hb := run_bounds (C := C) h (len := 0) (cap := 0) hl hu (by omega) (by omega) (by omega) (by omega) true
      exact .value hK (y := .slice none 0 0) (by simp [Instr.sliceAt, Instr.slice, run_underlying ht, hb, run_sizeOf hti]) h (.v _) rfl
    · exact hk.elim
  · exact hk.elim

theorem run_equal_slices {P : Program} {t : TypeId} (ht : isSliceT P t) (x : Option Addr) (n c : Nat) (w : World) : (Op.equal t (.slice x n c) (.slice none 0 0)).run P w = .ok x.isNone w := by
  unfold isSliceT at ht
  split at ht
  · rename_i e hu
    show (Op.equalIn (9999 + 1) t (.slice x n c) (.slice none 0 0)).run P w = _
    unfold Op.equalIn
    cases x <;> simp [run_underlying hu]
  · exact ht.elim

theorem eqOp_sound {u v : Value} {b : Bool} {op : BinOp} {t : TypeId} {K : AV → Prop} (he : (Op.equal t u v).run C.P w = .ok b w)
    (h1 : ∀ k n, u ≠ .int k n) (h2 : ∀ s, u ≠ .string s) (h3 : ∀ k n, u ≠ .float k n) (h4 : ∀ k n m, u ≠ .complex k n m) (hk : eqOpK op b K) : ∃ y, K (.v y) ∧ (binOp op t u v).run C.P w = .ok y w := by
  unfold eqOpK at hk
  split at hk
  · refine ⟨_, hk, ?_⟩
    cases u <;> simp_all [binOp]
  · refine ⟨_, hk, ?_⟩
    cases u <;> simp_all [binOp]
  · exact hk.elim

theorem binX_sound (h : Rl C I st a w) {op : BinOp} {t : TypeId} {x y : Operand} {K : AV → St → Prop} (hk : binX C.P st op t x y K) :
    Comes1 C I st a w (do pure (.value (← do eqGuard op t x y (a.eval x) (a.eval y); binOp op t (a.eval x) (a.eval y)))) K := by
  unfold binX at hk
  split at hk
  · rename_i k r i o k' r' i' o' hx hy
    have h1 := h.av hx
    have h2 := h.av hy
    obtain ⟨b, hb, heq, p, q, hp, hq, _⟩ := ptrEqK_sound h h1 h2 hk
    rw [hp, hq] at heq ⊢
    obtain ⟨z, hz, hrun⟩ := eqOp_sound (C := C) (w := w) (t := t) (u := .pointer (some p)) (v := .pointer (some q)) (heq 9999) (by simp) (by simp) (by simp) (by simp) hb
    exact .value hz (by simp [eqGuard_plain (C := C) (u := .pointer (some p)) rfl (by simp), hrun]) h (.v _) rfl
  · rename_i hx hy
    obtain ⟨ht, hk⟩ := hk
    have h1 := h.av hx
    have h2 := h.av hy
    generalize a.eval x = xv at h1 ⊢
    generalize a.eval y = yv at h2 ⊢
    cases h1; cases h2
    obtain ⟨z, hz, hrun⟩ := eqOp_sound (C := C) (w := w) (run_equal_slices ht none 0 0 w) (by simp) (by simp) (by simp) (by simp) hk
    exact .value hz (by simp [eqGuard_plain (C := C) (u := .slice none 0 0) rfl (by simp), hrun]) h (.v _) rfl
  · rename_i k r n hx hy
    obtain ⟨ht, hk⟩ := hk
    have h1 := h.av hx
    have h2 := h.av hy
    generalize a.eval x = xv at h1 ⊢
    generalize a.eval y = yv at h2 ⊢
    cases h2
    cases h1 with
    | vec _ _ _ cap e c z hc _ _ =>
      obtain ⟨u, hu, hrun⟩ := eqOp_sound (C := C) (w := w) (run_equal_slices ht (some ⟨r, 0, none⟩) n cap w) (by simp) (by simp) (by simp) (by simp) hk
      exact .value hu (by simp [eqGuard_plain (C := C) (u := .slice (some ⟨r, 0, none⟩) n cap) rfl (by simp), hrun]) h (.v _) rfl
  · rename_i k r o n hx hy
    obtain ⟨ht, hk⟩ := hk
    have h1 := h.av hx
    have h2 := h.av hy
    generalize a.eval x = xv at h1 ⊢
    generalize a.eval y = yv at h2 ⊢
    cases h2
    cases h1 with
    | sub _ _ _ _ cap e c z hc _ =>
      obtain ⟨u, hu, hrun⟩ := eqOp_sound (C := C) (w := w) (run_equal_slices ht (some ⟨r, o * C.P.cellsOf e, none⟩) n cap w) (by simp) (by simp) (by simp) (by simp) hk
      exact .value hu (by simp [eqGuard_plain (C := C) (u := .slice (some ⟨r, o * C.P.cellsOf e, none⟩) n cap) rfl (by simp), hrun]) h (.v _) rfl
  · rename_i s z xs hx hy
    obtain ⟨ht, hk⟩ := hk
    have h1 := h.av hx
    have h2 := h.av hy
    generalize a.eval x = xv at h1 ⊢
    generalize a.eval y = yv at h2 ⊢
    cases h2
    cases h1 with
    | list _ _ r off len cap _ _ _ _ =>
      obtain ⟨u, hu, hrun⟩ := eqOp_sound (C := C) (w := w) (run_equal_slices ht (some ⟨r, off, none⟩) len cap w) (by simp) (by simp) (by simp) (by simp) hk
      exact .value hu (by simp [eqGuard_plain (C := C) (u := .slice (some ⟨r, off, none⟩) len cap) rfl (by simp), hrun]) h (.v _) rfl
  · exact hk.elim

theorem capK_sound (h : Rl C I st a w) {t ty : TypeId} {x : Operand} {K : AV → St → Prop} (hk : capK C.P st t x K) : Comes1 C I st a w (do pure (.value (← Builtin.cap_ #[t] ty #[a.eval x]))) K := by
  unfold capK at hk
  split at hk
  · rename_i hx
    obtain ⟨e, he⟩ := Option.isSome_iff_exists.1 hk.1
    obtain ⟨hu, _⟩ := elemT_spec he
    have h1 := h.av hx
    generalize a.eval x = xv at h1 ⊢
    cases h1
    exact .value hk.2 (by simp [Builtin.cap_, run_underlying hu, goInt]) h (.v _) rfl
  · exact hk.elim

theorem clearK_sound (h : Rl C I st a w) {t ty : TypeId} {x : Operand} {K : AV → St → Prop} (hk : clearK C.P st t x K) : Comes1 C I st a w (do pure (.value (← Builtin.clear_ #[t] ty #[a.eval x]))) K := by
  unfold clearK at hk
  split at hk
  · rename_i s hx
    obtain ⟨e, he⟩ := Option.isSome_iff_exists.1 hk.1
    obtain ⟨hu, _⟩ := elemT_spec he
    have h1 := h.av hx
    generalize a.eval x = xv at h1 ⊢
    have hrun : (Builtin.clear_ #[t] ty #[xv]).run C.P w = .ok (.tuple #[]) w := by
      cases h1 with
      | lnil _ cap ad => cases ad <;> simp [Builtin.clear_, run_underlying hu]
      | list _ _ r off len cap hl => simp at hl; subst hl; simp [Builtin.clear_, run_underlying hu]
    exact .value hk.2 (by simp [hrun]) h (.tuple _ _ .vnil) rfl
  · rename_i hx
    obtain ⟨e, he⟩ := Option.isSome_iff_exists.1 hk.1
    obtain ⟨hu, _⟩ := elemT_spec he
    have h1 := h.av hx
    generalize a.eval x = xv at h1 ⊢
    cases h1
    exact .value hk.2 (by simp [Builtin.clear_, run_underlying hu]) h (.tuple _ _ .vnil) rfl
  · exact hk.elim

theorem maxK_sound (h : Rl C I st a w) {ts : Array TypeId} {ty : TypeId} {x y : Operand} {K : AV → St → Prop} (hk : mostK true st x y K) : Comes1 C I st a w (do pure (.value (← Builtin.max_ ts ty #[a.eval x, a.eval y]))) K := by
  unfold mostK at hk
  split at hk
  · rename_i k n k' m hx hy
    have h1 := h.av hx
    have h2 := h.av hy
    generalize a.eval x = xv at h1 ⊢
    generalize a.eval y = yv at h2 ⊢
    cases h1; cases h2
    exact .value hk (by simp [Builtin.max_, Builtin.max2]) h (.v _) rfl
  · exact hk.elim

theorem minK_sound (h : Rl C I st a w) {ts : Array TypeId} {ty : TypeId} {x y : Operand} {K : AV → St → Prop} (hk : mostK false st x y K) : Comes1 C I st a w (do pure (.value (← Builtin.min_ ts ty #[a.eval x, a.eval y]))) K := by
  unfold mostK at hk
  split at hk
  · rename_i k n k' m hx hy
    have h1 := h.av hx
    have h2 := h.av hy
    generalize a.eval x = xv at h1 ⊢
    generalize a.eval y = yv at h2 ⊢
    cases h1; cases h2
    exact .value hk (by simp [Builtin.min_, Builtin.min2]) h (.v _) rfl
  · exact hk.elim

theorem growK_sound (h : Rl C I st a w) {hp : Bool} {key : Nat} {t t' ty : TypeId} {s x : Operand} {K : AV → St → Prop} (hk : growK C.P hp key st t t' s x K) :
    Comes1 C I st a w (do pure (.value (← Builtin.append_ #[t, t'] ty #[a.eval s, a.eval x]))) K := by
  unfold growK at hk
  split at hk
  · rename_i e k n he hs hx
    split at hk
    · rename_i z hz
      obtain ⟨⟨h1, h2, h3, h4, h5, h6⟩, hk⟩ := hk
      obtain ⟨hu, _⟩ := elemT_spec he
      obtain ⟨ti, y, hti, hty, rfl⟩ := zeroAV_info hz
      have hsv := h.av hs
      have hxv := h.av hx
      generalize a.eval s = sv at hsv ⊢
      generalize a.eval x = xv at hxv ⊢
      cases hsv; cases hxv
      unfold intT at h6
      split at h6
      rotate_left
      · exact h6.elim
      rename_i d hd
      have hby : C.P.bytesOf e = ti.bytes := by simp [Program.bytesOf, hti]
      rw [hby] at h4
      have hsz := cellsOf_eq hti
      obtain ⟨m, rfl⟩ : ∃ m : Nat, n = m := ⟨n.toNat, by omega⟩
      simp only [Int.toNat_natCast] at h4 hk
      have hm0 : 0 < m := by omega
      have hw : IntKind.i64.wrap (m : Int) = m := IntWalk.i64_in _ (by omega)
      obtain ⟨hrv, hur⟩ := flat_replicate_vals (P := C.P) (I := I) (w := w.drew) h1 h2 m
      have hvl := R.vals_length hrv
      have hyc : y.cells.size = C.P.cellsOf e := by
        have := R.vals_length (ofConst_cells C.P I w y)
        simp only [Array.length_toList] at this
        omega
      have hge := grownCap_ge w m 0 e
      have hzc : Builtin.zeroCells y.cells m = (Array.range (m * C.P.cellsOf e)).map (y.cells[· % y.cells.size]!) := by simp [Builtin.zeroCells, hyc]
      rw [← hzc] at hrv hvl
      have hm1 : ¬ m = 0 := by omega
      have hsz0 : ¬ m * ti.size = 0 := by rw [← hsz]; exact Nat.ne_of_gt (Nat.mul_pos hm0 h2)
      have h48 : ¬ (281474976710656 < (m : Int) * (ti.bytes : Int)) := by
        have h4' := Int.ofNat_le.2 h4
        rw [Int.natCast_mul] at h4'
        have e48 : ((140737488355328 : Nat) : Int) = 140737488355328 := rfl
        omega
      have h48' : ¬ (281474976710656 < Builtin.nextslicecap m 0 * ti.bytes) := by rw [nextslicecap_zero hm0]; omega
      have h63 : ¬ (IntKind.i64.max < (m : Int)) := by
        have e63 : IntKind.i64.max = 9223372036854775807 := rfl
        omega
      have hneg : ¬ ((m : Int) < 0) := by omega
      have h63' : ¬ (9223372036854775807 < (m : Int)) := by omega
      have hrun : (Builtin.append_ #[t, t'] ty #[.slice none 0 0, .int k m]).run C.P w =
          .ok (.slice (some ⟨w.heap.size, 0, none⟩) m (grownCap w m 0 e)) (w.drew.alloc (.cells (Builtin.zeroCells y.cells m ++ Builtin.zeroCells y.cells (grownCap w m 0 e - m)) e)) := by
        simp [Builtin.append_, run_underlying hu, run_underlying hd, asInt, asIntOf, sizeOf, typeInfo, zeroValue, hti, hty, hw, hm1, hsz0, h48, h48', h63', hneg, Question.forced, run_firstCells_none, newRow, grownCap]
      have hcs : (Builtin.zeroCells y.cells m ++ Builtin.zeroCells y.cells (grownCap w m 0 e - m)).size = grownCap w m 0 e * C.P.cellsOf e := by
        rw [Array.size_append, size_zeroCells, size_zeroCells, hyc, ← Nat.add_mul]; congr 1; omega
      obtain ⟨kk, st', hK, hR, hn⟩ := h.drew.new (hp := hp) (key := key) (Builtin.zeroCells y.cells m ++ Builtin.zeroCells y.cells (grownCap w m 0 e - m)) e (List.replicate m (ofConst y)) false (by
          rw [hcs, flat_length hur, List.length_replicate]; exact Nat.mul_le_mul_right _ hge) (fun j u hu' => by
        obtain ⟨q, hq, hrq⟩ := hrv.vals_get j u hu'
        refine ⟨q, ?_, hrq⟩
        have hlt : j < (Builtin.zeroCells y.cells m).size := by have := (List.getElem?_eq_some_iff.1 hq).1; simpa using this
        rw [Array.getElem?_append_left hlt]
        simpa using hq) hur h2 hk
      exact .value hK (y := .slice (some ⟨w.heap.size, 0, none⟩) m (grownCap w m 0 e)) (by simp [hrun]) hR (.vec _ _ _ _ e _ (0, 0) push_new hcs hge) hn
    · exact hk.elim
  · exact hk.elim

theorem avsO_sound (h : Rl C I st a w) : ∀ {xs : List Operand} {zs : List AV}, avsO st xs = some zs → R C.P I w (.vals zs (xs.map a.eval)) := by
  intro xs
  induction xs with
  | nil => intro zs hz; simp [avsO] at hz; subst hz; exact .vnil
  | cons x xs ih =>
    intro zs hz
    unfold avsO at hz
    split at hz
    · rename_i z zs' h1 h2
      simp only [Option.some.injEq] at hz
      subst hz
      exact .vcons _ _ _ _ (h.av h1) (ih h2)
    · cases hz

theorem opX_sound (h : Rl C I st a w) {hp : Bool} {o : Oper} {K : AV → St → Prop} (hk : opX hp C.P st o K) : Comes1 C I st a w (execOp a.eval o) K := by
  obtain ⟨dst, op, ty, pos, after, guard⟩ := o
  unfold opX at hk
  simp only at hk
  split at hk
  · obtain ⟨z, st', I', y, w', h1, h2, h3⟩ := binX_sound h hk
    refine ⟨z, st', I', y, w', h1, ?_, h3⟩
    simpa [execOp] using h2
  · rename_i fn first captured
    unfold closeK at hk
    split at hk
    · rename_i g xs hxs
      obtain ⟨rfl, hK⟩ := hk
      refine .value hK (y := .func (.func g) #[] (captured.map a.eval)) (by simp [execOp, Instr.makeFunc]) h (.clo g xs _ ?_) rfl
      have := avsO_sound h hxs
      simpa using this
    · exact hk.elim
  · obtain ⟨z, st', I', y, w', h1, h2, h3⟩ := makeMapK_sound h hk
    refine ⟨z, st', I', y, w', h1, ?_, h3⟩
    simpa [execOp] using h2
  · exact lookupK_sound h hk
  · obtain ⟨z, st', I', y, w', h1, h2, h3⟩ := mapUpdateK_sound h hk
    refine ⟨z, st', I', y, w', h1, ?_, h3⟩
    simpa [execOp] using h2
  · exact sliceX_sound h hk
  · rename_i c
    obtain ⟨callee, args, ts⟩ := c
    simp only at hk
    split at hk
    · rename_i b
      unfold builtinX at hk
      split at hk
      · rename_i x t ha ht
        have ha' : args = #[x] := by rw [← Array.toArray_toList (xs := args), ha]
        have ht' : ts = #[t] := by rw [← Array.toArray_toList (xs := ts), ht]
        subst ha'; subst ht'
        obtain ⟨z, st', I', y, w', h1, h2, h3⟩ := capK_sound (ty := ty) h hk
        refine ⟨z, st', I', y, w', h1, ?_, h3⟩
        simpa [execOp, resolve, invoke, builtin] using h2
      · rename_i x y ha
        have ha' : args = #[x, y] := by rw [← Array.toArray_toList (xs := args), ha]
        subst ha'
        obtain ⟨z, st', I', y', w', h1, h2, h3⟩ := maxK_sound (ts := ts) (ty := ty) h hk
        refine ⟨z, st', I', y', w', h1, ?_, h3⟩
        simpa [execOp, resolve, invoke, builtin] using h2
      · rename_i x y ha
        have ha' : args = #[x, y] := by rw [← Array.toArray_toList (xs := args), ha]
        subst ha'
        obtain ⟨z, st', I', y', w', h1, h2, h3⟩ := minK_sound (ts := ts) (ty := ty) h hk
        refine ⟨z, st', I', y', w', h1, ?_, h3⟩
        simpa [execOp, resolve, invoke, builtin] using h2
      · rename_i x t ha ht
        have ha' : args = #[x] := by rw [← Array.toArray_toList (xs := args), ha]
        have ht' : ts = #[t] := by rw [← Array.toArray_toList (xs := ts), ht]
        subst ha'; subst ht'
        obtain ⟨z, st', I', y, w', h1, h2, h3⟩ := clearK_sound (ty := ty) h hk
        refine ⟨z, st', I', y, w', h1, ?_, h3⟩
        simpa [execOp, resolve, invoke, builtin] using h2
      · rename_i x y t t' ha ht
        have ha' : args = #[x, y] := by rw [← Array.toArray_toList (xs := args), ha]
        have ht' : ts = #[t, t'] := by rw [← Array.toArray_toList (xs := ts), ht]
        subst ha'; subst ht'
        obtain ⟨z, st', I', y', w', h1, h2, h3⟩ := growK_sound (ty := ty) h hk
        refine ⟨z, st', I', y', w', h1, ?_, h3⟩
        simpa [execOp, resolve, invoke, builtin] using h2
      · exact hk.elim
    · exact hk.elim
  · exact hk.elim

theorem opA_sound (h : Rl C I st a w) {hp : Bool} {lm : LitMode} {o : Oper} {K : AV → St → Prop} (hk : opA hp lm C.P st o K) : Comes1 C I st a w (execOp a.eval o) K := by
  rcases hk with hk | hk
  · exact opK_sound h hk
  · exact opX_sound h hk

end
end Go.Am
