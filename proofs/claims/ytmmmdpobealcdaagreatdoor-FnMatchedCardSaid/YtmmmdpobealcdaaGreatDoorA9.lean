/- Parts of texts and slices; fields of values; each operation, and that the machine does it. -/
import Derived.Test.YtmmmdpobealcdaaGreatDoorAM
set_option linter.unusedVariables false
set_option linter.unusedSimpArgs false
namespace Go.Am
open Go

section
variable {C : Ctx} {I I' : Nat → Nat → Prop} {st : St} {a : Act} {w w' : World}

theorem optI_none {d : Int} : optI st d none = some d := rfl

theorem run_bounds (h : Rl C I st a w) {len cap : Nat} {lo hi : Option Operand} {l u : Int} (hl : optI st 0 lo = some l) (hu : optI st len hi = some u) (h0 : 0 ≤ l) (h1 : l ≤ u) (h2 : u ≤ len) (h3 : len ≤ cap) (b : Bool) :
    (Instr.sliceBounds b len cap (lo.map a.eval) (hi.map a.eval) none).run C.P w = .ok (l.toNat, u.toNat, cap) w := by
  have key : ∀ {x : Option Operand} {d n : Int}, optI st d x = some n → (x = none ∧ n = d) ∨ ∃ o k, x = some o ∧ a.eval o = .int k n := by
    intro x d n hx
    cases x with
    | none => simp only [optI, Option.some.injEq] at hx; exact .inl ⟨rfl, hx.symm⟩
    | some o =>
      simp only [optI] at hx
      split at hx
      · rename_i k n' hav
        simp only [Option.some.injEq] at hx
        subst hx
        have := h.av hav
        generalize hov : a.eval o = ov at this
        cases this
        exact .inr ⟨o, k, rfl, hov⟩
      · cases hx
  have hun : ((u.toNat : Nat) : Int) = u := Int.toNat_of_nonneg (by omega)
  have hbl : ∀ (k : IntKind) (n : Int) (y : Nat) (code : BoundsCode), 0 ≤ n → n ≤ y → (Instr.sliceBound (.int k n) y code).run C.P w = .ok n.toNat w := fun k n y code h5 h6 => run_sliceBound w k n y code h5 h6
  rcases key hl with ⟨rfl, rfl⟩ | ⟨lo, kl, rfl, hlo⟩ <;> rcases key hu with ⟨rfl, rfl⟩ | ⟨hi, kh, rfl, hhi⟩
  · simp [Instr.sliceBounds]
  · simp [Instr.sliceBounds, hhi, hbl _ _ _ _ (show 0 ≤ u by omega) (show u ≤ cap by omega)]
  · simp [Instr.sliceBounds, hlo, hbl _ _ _ _ h0 h1]
  · simp [Instr.sliceBounds, hlo, hhi, hbl _ _ _ _ (show 0 ≤ u by omega) (show u ≤ cap by omega), hbl _ _ _ _ h0 (show l ≤ (u.toNat : Nat) by omega)]

theorem flat_drop_cells {P : Program} {xs : List AV} {s r off : Nat} (hu : ∀ x ∈ xs, x.cells.length = s) (h : R P I w (.cells (flat xs) r off)) (l u : Nat) (hl : l ≤ u) (hun : u ≤ xs.length) :
    R P I w (.cells (flat ((xs.take u).drop l)) r (off + l * s)) := by
  refine .cells_of fun j x hx => ?_
  have hut : ∀ x ∈ xs.take u, x.cells.length = s := fun x hx => hu x (List.mem_of_mem_take hx)
  have e : flat (xs.take u) = flat ((xs.take u).take l) ++ flat ((xs.take u).drop l) := by rw [← flat_append, List.take_append_drop]
  have hlen : (flat ((xs.take u).take l)).length = l * s := by
    rw [flat_length fun x hx => hut x (List.mem_of_mem_take hx)]
    simp only [List.length_take]; congr 1; omega
  have hx' : (flat (xs.take u))[l * s + j]? = some x := by
    rw [e, List.getElem?_append_right (by omega), hlen, Nat.add_sub_cancel_left]; exact hx
  have := h.cells_get (l * s + j) x (flat_take_get hx')
  rwa [show off + l * s + j = off + (l * s + j) from by omega]

theorem sliceK_sound (h : Rl C I st a w) {t : TypeId} {x : Operand} {lo hi mx : Option Operand} {K : AV → St → Prop} (hk : sliceK C.P st t x lo hi mx K) :
    Comes1 C I st a w (do pure (.value (← Instr.sliceAt t (a.eval x) (lo.map a.eval) (hi.map a.eval) (mx.map a.eval)))) K := by
  unfold sliceK at hk
  split at hk
  · rename_i s hx
    split at hk
    · rename_i l u hl hu
      obtain ⟨⟨ht, h0, h1, h2⟩, hK⟩ := hk
      have h4 := h.av hx
      generalize a.eval x = xv at h4 ⊢
      cases h4
      have hb := run_bounds (C := C) h hl hu h0 h1 h2 (Nat.le_refl _) false
      refine .value hK (y := .string (s.extract l.toNat u.toNat)) ?_ h (.v _) rfl
      simp [Instr.sliceAt, Instr.slice, run_underlying ht, hb]
    · exact hk.elim
  · rename_i s xs hx
    split at hk
    · rename_i l u e hl hu he
      obtain ⟨⟨hs, h0, h1, h2⟩, hK⟩ := hk
      obtain ⟨ht, ti, hti⟩ := elemT_spec he
      have hsz := cellsOf_eq hti
      have h4 := h.av hx
      generalize a.eval x = xv at h4 ⊢
      cases h4 with
      | lnil _ cap ad =>
        have hl0 : l = 0 := by simp at h2; omega
        have hu0 : u = 0 := by simp at h2; omega
        subst hl0; subst hu0
        have hb := run_bounds (C := C) h (len := 0) (cap := cap) hl (by simpa using hu) (by omega) (by omega) (by omega) (by omega) true
        refine .value hK (y := .slice (if cap = 0 then ad else ad.map (·.add (0 * ti.size))) 0 cap) ?_ h (by simpa using .lnil _ _ _) rfl
        simp [Instr.sliceAt, Instr.slice, run_underlying ht, hb, run_sizeOf hti]
      | list _ _ r off len cap hlen hcap hst hcs =>
        subst hlen
        have hb := run_bounds (C := C) h (len := xs.length) (cap := cap) hl hu h0 h1 h2 hcap true
        have hrun : (Instr.sliceAt t (.slice (some ⟨r, off, none⟩) xs.length cap) (lo.map a.eval) (hi.map a.eval) none).run C.P w =
            .ok (.slice (if cap = l.toNat then some ⟨r, off, none⟩ else some ⟨r, off + l.toNat * ti.size, none⟩) (u.toNat - l.toNat) (cap - l.toNat)) w := by
          simp [Instr.sliceAt, Instr.slice, run_underlying ht, hb, run_sizeOf hti, addr_add]
        refine .value hK (y := .slice (if cap = l.toNat then some ⟨r, off, none⟩ else some ⟨r, off + l.toNat * ti.size, none⟩) (u.toNat - l.toNat) (cap - l.toNat)) (by simp only [Option.map_none, Sem.run_bind, hrun, Result.andThen_ok, Sem.run_pure]) h ?_ rfl
        by_cases hlu : l = u
        · subst hlu
          have : (xs.take l.toNat).drop l.toNat = [] := List.drop_of_length_le (by simp; omega)
          rw [this, Nat.sub_self]
          exact .lnil _ _ _
        · rw [if_neg (by omega)]
          have := flat_drop_cells hst hcs l.toNat u.toNat (by omega) (by omega)
          rw [hs, hsz] at this
          refine .list _ _ r _ _ _ (by simp; omega) (by omega) (fun z hz => hst z (List.mem_of_mem_take (List.mem_of_mem_drop hz))) ?_
          exact this
    · exact hk.elim
  · exact hk.elim

theorem run_part {P : Program} {t : TypeId} {cells : List AV} {cs : Array Value} {off : Nat} {x : AV} (hv : R P I w (.vals cells cs.toList)) (hld : ld P t (cells.drop off) = some x) :
    ∃ y, (part t cs off).run P w = .ok y w ∧ R P I w (.val x y) := by
  unfold ld at hld
  cases hA : isAggT P t with
  | none => rw [hA] at hld; cases hld
  | some b =>
    rw [hA] at hld
    obtain ⟨i, hi⟩ := isAggT_info hA
    have hl := R.vals_length hv
    simp only [Array.length_toList] at hl
    cases b with
    | true =>
      simp only at hld
      split at hld
      · rename_i hle
        simp only [Option.some.injEq] at hld
        subst hld
        refine ⟨.agg (cs.extract off (off + i.size)), by simp [part, run_isAgg hA, run_sizeOf hi], .agg _ _ ?_⟩
        have := vals_take (vals_drop hv off) (P.cellsOf t)
        rw [cellsOf_eq hi] at this ⊢
        simpa [List.extract_eq_take_drop] using this
      · cases hld
    | false =>
      simp only at hld
      have hx : cells[off]? = some x := by
        rw [← hld, List.head?_drop]
      obtain ⟨y, hy, hr⟩ := hv.vals_get off x hx
      exact ⟨y, by simp [part, run_isAgg hA, show cs[off]? = some y from by simpa using hy], hr⟩

theorem fieldK_sound (h : Rl C I st a w) {t : TypeId} {x : Operand} {f : Nat} {K : AV → St → Prop} (hk : fieldK C.P st t x f K) : Comes1 C I st a w (do pure (.value (← Instr.field t (a.eval x) f))) K := by
  unfold fieldK at hk
  split at hk
  · rename_i cs off ft hx hf
    unfold ldK at hk
    split at hk
    · rename_i u hu
      have h1 := h.av hx
      generalize a.eval x = xv at h1 ⊢
      cases h1 with
      | agg _ vs hv =>
        obtain ⟨y, hy, hr⟩ := run_part hv hu
        unfold fieldOf at hf
        split at hf
        · rename_i fs hun
          split at hf
          · rename_i g hg
            split at hf
            · simp only [Option.some.injEq, Prod.mk.injEq] at hf
              obtain ⟨rfl, rfl⟩ := hf
              exact .value hk (y := y) (by simp [Instr.field, run_underlying hun, hg, asAgg, hy]) h hr rfl
            · cases hf
          · cases hf
        · cases hf
    · exact hk.elim
  · exact hk.elim

/-! ### One operation -/

/-- What the proof decides: at which places new blocks stand behind pointers, and which slice literals are a block of the call's own. -/
def builtinK (hp : Bool) (P : Program) (st : St) (key : Nat) (b : Builtin) (args : List Operand) (ts : List TypeId) (K : AV → St → Prop) : Prop :=
  match b, args, ts with
  | .len, [x], [t] => lenK P st t x K
  | .append, [x, y], [t, t'] => t = t' ∧ appendK P hp key st t x y K
  | _, _, _ => False

/-- All operations but calls of functions of the text. -/
def opK (hp : Bool) (lm : LitMode) (P : Program) (st : St) (o : Oper) (K : AV → St → Prop) : Prop :=
  match o.op with
  | .move x | .assign x => moveK st x K
  | .pick c x y => pickK st c x y K
  | .alloc e => allocK P hp (o.dst.getD 0) st e K
  | .box e x => boxK P hp (o.dst.getD 0) st e x K
  | .build t parts => buildK P st t parts K
  | .buildSlice t len parts => buildSliceK P lm (o.dst.getD 0) st t len parts K
  | .load t x => loadK P st t x K
  | .store t x y => storeK P st t x y K
  | .nilCheck x => nilCheckK st x K
  | .binOp op t x y _ => binK P st op t x y K
  | .unOp op _ x => unK st op x K
  | .convert s d x => convK P st s d x K
  | .makeFunc fn first captured => first = #[] ∧ captured = #[] ∧ K (.v (.func fn #[] #[])) st
  | .makeSlice t l c => makeK P hp (o.dst.getD 0) st t l c K
  | .slice t x lo hi mx => sliceK P st t x lo hi mx K
  | .fieldAddr s x f => fieldAddrK P st s x f K
  | .field t x f => fieldK P st t x f K
  | .indexAddr t x ix => indexAddrK P st t x ix K
  | .index t x ix => indexK P st t x ix K
  | .extract x i => extractK st x i K
  | .call c => match c.callee with
    | .builtin b => builtinK hp P st (o.dst.getD 0) b c.args.toList c.argTypes.toList K
    | _ => False
  | _ => False

theorem opK_sound (h : Rl C I st a w) {hp : Bool} {lm : LitMode} {o : Oper} {K : AV → St → Prop} (hk : opK hp lm C.P st o K) : Comes1 C I st a w (execOp a.eval o) K := by
  obtain ⟨dst, op, ty, pos, after, guard⟩ := o
  unfold opK at hk
  simp only at hk
  split at hk
  · rename_i x
    obtain ⟨z, hz, hr⟩ := moveK_sound h hk
    exact .value hz (by simp [execOp]) h hr rfl
  · rename_i x
    obtain ⟨z, hz, hr⟩ := moveK_sound h hk
    exact .value hz (by simp [execOp]) h hr rfl
  · exact pickK_sound h hk
  · exact allocK_sound h hk
  · exact boxK_sound h hk
  · exact buildK_sound h hk
  · exact buildSliceK_sound h hk
  · exact loadK_sound h hk
  · exact storeK_sound h hk
  · rename_i x
    obtain ⟨z, hz, hr, p, hp⟩ := nilCheckK_sound h hk
    rw [hp] at hr
    refine .value hz (y := .pointer (some p)) ?_ h hr rfl
    simp [execOp, hp]
  · obtain ⟨z, st', I', y, w', h1, h2, h3⟩ := binK_sound h hk
    refine ⟨z, st', I', y, w', h1, ?_, h3⟩
    simpa [execOp] using h2
  · exact unK_sound h hk
  · exact convK_sound h hk
  · obtain ⟨rfl, rfl, hk⟩ := hk
    exact .value hk (by simp [execOp, Instr.makeFunc]) h (.v _) rfl
  · exact makeK_sound h hk
  · exact sliceK_sound h hk
  · exact fieldAddrK_sound h hk
  · exact fieldK_sound h hk
  · exact indexAddrK_sound h hk
  · exact indexK_sound h hk
  · exact extractK_sound h hk
  · rename_i c
    obtain ⟨callee, args, ts⟩ := c
    simp only at hk
    split at hk
    · rename_i b
      unfold builtinK at hk
      split at hk
      · rename_i x t ha ht
        have ha' : args = #[x] := by rw [← Array.toArray_toList (xs := args), ha]
        have ht' : ts = #[t] := by rw [← Array.toArray_toList (xs := ts), ht]
        subst ha'; subst ht'
        obtain ⟨z, st', I', y, w', h1, h2, h3⟩ := lenK_sound (ty := ty) h hk
        refine ⟨z, st', I', y, w', h1, ?_, h3⟩
        simpa [execOp, resolve, invoke, builtin] using h2
      · rename_i x y t t' ha ht
        have ha' : args = #[x, y] := by rw [← Array.toArray_toList (xs := args), ha]
        have ht' : ts = #[t, t'] := by rw [← Array.toArray_toList (xs := ts), ht]
        subst ha'; subst ht'
        obtain ⟨rfl, hk⟩ := hk
        obtain ⟨z, st', I', y', w', h1, h2, h3⟩ := appendK_sound (ty := ty) h hk
        refine ⟨z, st', I', y', w', h1, ?_, h3⟩
        simpa [execOp, resolve, invoke, builtin] using h2
      · exact hk.elim
    · exact hk.elim
  · exact hk.elim

end
end Go.Am
