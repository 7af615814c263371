/- Append; fields; parts of slices and texts. -/
import Derived.Test.YtmmmdpobealcdaaGreatDoorA7
set_option linter.unusedVariables false
set_option linter.unusedSimpArgs false
namespace Go.Am
open Go

section
variable {C : Ctx} {I I' : Nat → Nat → Prop} {st : St} {a : Act} {w w' : World}

/-- What is appended: the cells that are read, or nothing. -/
inductive Src (P : Program) (I : Nat → Nat → Prop) (w : World) (size : Nat) (ys : List AV) : Value → Prop
  | some (b : Nat) (off cap : Nat) (news : List Value) : R P I w (.vals (flat ys) news) → news.length = ys.length * size → (∀ (j : Nat) (v : Value), news[j]? = some v → w.cell? ⟨b, off + j, none⟩ = some v) →
      Src P I w size ys (.slice (some ⟨b, off, none⟩) ys.length cap)
  | none (x : Option Addr) (cap : Nat) : ys = [] → Src P I w size ys (.slice x 0 cap)

theorem vals_of_cells {P : Program} {xs : List AV} {r off : Nat} (h : ∀ (j : Nat) (x : AV), xs[j]? = some x → ∃ y, w.cell? ⟨r, off + j, none⟩ = some y ∧ R P I w (.val x y)) :
    ∃ ys : List Value, R P I w (.vals xs ys) ∧ ∀ (j : Nat) (v : Value), ys[j]? = some v → w.cell? ⟨r, off + j, none⟩ = some v := by
  induction xs generalizing off with
  | nil => exact ⟨[], .vnil, by simp⟩
  | cons x xs ih =>
    obtain ⟨y, h1, h2⟩ := h 0 x rfl
    obtain ⟨ys, h3, h4⟩ := ih (off := off + 1) fun j z hz => by
      have := h (j + 1) z (by simpa using hz)
      rwa [show off + (j + 1) = off + 1 + j from by omega] at this
    refine ⟨y :: ys, .vcons _ _ _ _ h2 h3, fun j v hv => ?_⟩
    cases j with
    | zero => simp at hv; subst hv; exact h1
    | succ j =>
      have := h4 j v (by simpa using hv)
      rwa [show off + (j + 1) = off + 1 + j from by omega]

theorem flat_drop_get {xs : List AV} {s o j : Nat} {x : AV} (hu : ∀ y ∈ xs, y.cells.length = s) (h : (flat (xs.drop o))[j]? = some x) : (flat xs)[o * s + j]? = some x := by
  by_cases ho : o ≤ xs.length
  · have e : flat xs = flat (xs.take o) ++ flat (xs.drop o) := by rw [← flat_append, List.take_append_drop]
    have hl : (flat (xs.take o)).length = o * s := by rw [flat_length fun y hy => hu y (List.mem_of_mem_take hy), List.length_take, Nat.min_eq_left ho]
    rw [e, List.getElem?_append_right (by omega), hl, Nat.add_sub_cancel_left]; exact h
  · rw [List.drop_of_length_le (by omega)] at h; simp [flat] at h

theorem elemsK_sound (h : Rl C I st a w) {e : TypeId} {x : Operand} {K : List AV → Prop} (h0 : 0 < C.P.cellsOf e) (hk : elemsK C.P st e x K) :
    ∃ ys, K ys ∧ Src C.P I w (C.P.cellsOf e) ys (a.eval x) ∧ ∀ y ∈ ys, y.cells.length = C.P.cellsOf e := by
  unfold elemsK at hk
  split at hk
  · rename_i s ys hx
    obtain ⟨hs, hK⟩ := hk
    have h1 := h.av hx
    generalize a.eval x = xv at h1 ⊢
    cases h1 with
    | lnil _ cap ad => exact ⟨[], hK, .none ad cap rfl, by simp⟩
    | list _ _ r off len cap hl _ hst hcs =>
      rcases hs with rfl | rfl
      · obtain ⟨vs, h2, h3⟩ := vals_of_cells (fun j z hz => let ⟨y, h4, h5, _⟩ := hcs.cells_get j z hz; ⟨y, h4, h5⟩)
        have hl2 := R.vals_length h2
        rw [flat_length hst] at hl2
        subst hl
        exact ⟨ys, hK, .some r off cap vs h2 hl2.symm h3, hst⟩
      · subst hl
        exact ⟨[], hK, .none _ cap rfl, by simp⟩
  · rename_i k r n hx
    obtain ⟨ob, ⟨⟨h1, h2⟩, hK⟩, hR, _, _⟩ := h.look hk
    obtain ⟨c, hc, hl, hg⟩ := hR.ex
    obtain ⟨cap, hy, _, _⟩ := (h.av hx).vec_inv hc
    have hu : ∀ y ∈ ob.xs.take n, y.cells.length = C.P.cellsOf e := fun y hy => by rw [← h1]; exact hR.uni y (List.mem_of_mem_take hy)
    obtain ⟨vs, h3, h4⟩ := vals_of_cells (w := w) (P := C.P) (I := I) (xs := flat (ob.xs.take n)) (r := r) (off := 0) (fun j z hz => by
      obtain ⟨y, h5, h6⟩ := hg j z (flat_take_get hz)
      exact ⟨y, by rw [Nat.zero_add, cell_row hc]; exact h5, h6⟩)
    have hl2 := R.vals_length h3
    rw [flat_length hu] at hl2
    refine ⟨_, hK, ?_, hu⟩
    have hn : (ob.xs.take n).length = n := by simp; omega
    have := Src.some (P := C.P) (size := C.P.cellsOf e) r 0 cap vs h3 hl2.symm h4
    rw [hn] at this
    rw [hy]; exact this
  · rename_i k r o n hx
    obtain ⟨ob, ⟨⟨h1, h2⟩, hK⟩, hR, _, _⟩ := h.look hk
    obtain ⟨c, hc, hl, hg⟩ := hR.ex
    obtain ⟨cap, hy, _⟩ := (h.av hx).sub_inv hc
    have hu : ∀ y ∈ (ob.xs.drop o).take n, y.cells.length = C.P.cellsOf e := fun y hy => by rw [← h1]; exact hR.uni y (List.mem_of_mem_drop (List.mem_of_mem_take hy))
    obtain ⟨vs, h3, h4⟩ := vals_of_cells (w := w) (P := C.P) (I := I) (xs := flat ((ob.xs.drop o).take n)) (r := r) (off := o * C.P.cellsOf ob.elem) (fun j z hz => by
      obtain ⟨y, h5, h6⟩ := hg (o * C.P.cellsOf ob.elem + j) z (flat_drop_get hR.uni (flat_take_get hz))
      exact ⟨y, by rw [cell_row hc]; exact h5, h6⟩)
    have hl2 := R.vals_length h3
    rw [flat_length hu] at hl2
    refine ⟨_, hK, ?_, hu⟩
    have hn : ((ob.xs.drop o).take n).length = n := by simp; omega
    have := Src.some (P := C.P) (size := C.P.cellsOf e) r (o * C.P.cellsOf ob.elem) cap vs h3 hl2.symm h4
    rw [hn] at this
    rw [hy]; exact this
  · rename_i hx
    have h1 := h.av hx
    generalize a.eval x = xv at h1 ⊢
    cases h1
    exact ⟨[], hk, .none _ _ rfl, by simp⟩
  · exact hk.elim

theorem run_append_zero {P : Program} {t ty e : TypeId} (hu : P.underlying t = some (.slice e)) {i : TypeInfo} (hi : P.info? e = some i) (b x : Option Addr) (n cap cap' : Nat) (hle : n ≤ cap) (w : World) :
    (Builtin.append_ #[t, t] ty #[.slice b n cap, .slice x 0 cap']).run P w = .ok (.slice b n cap) w := by
  have hf : (Builtin.firstCells i.size 0 (.slice x 0 cap')).run P w = .ok #[] w := by
    cases x <;> simp [Builtin.firstCells, loadCells, loadCellsFrom]
  cases b with
  | none => simp [Builtin.append_, run_underlying hu, sizeOf, typeInfo, hi, Builtin.lenOf, hle, hf]
  | some b => simp [Builtin.append_, run_underlying hu, sizeOf, typeInfo, hi, Builtin.lenOf, hle, hf, storeCells]

/-- A block behind pointers is let go. -/
theorem Rl.dropH (h : Rl C I st a w) (r : Nat) : Rl C I { st with H := upd st.H r none } a w := {
  df := h.df, sz := h.sz, tm := h.tm, inj := h.inj, rd := h.rd, i1 := h.i1, hs := h.hs, sh := h.sh
  mL := fun k b ob hq => by
    obtain ⟨h1, h2, h3, h4⟩ := h.mL k b ob hq
    refine ⟨h1, ?_, h3, h4⟩
    by_cases e : b = r
    · subst e; exact upd_same _ _ _
    · simp only [upd_ne _ _ _ _ e]; exact h2
  mH := fun b ob hq => by
    by_cases e : b = r
    · subst e; simp only [upd_same] at hq; cases hq
    · simp only [upd_ne _ _ _ _ e] at hq; exact h.mH b ob hq
  i2 := fun b o hi => by
    rcases h.i2 b o hi with h1 | h1 | ⟨h1, h2⟩
    · exact .inl h1
    · exact .inr (.inl h1)
    · refine .inr (.inr ⟨h1, ?_⟩)
      by_cases e : b = r
      · subst e; exact upd_same _ _ _
      · simp only [upd_ne _ _ _ _ e]; exact h2
  fr := fun b hb h0 => by
    obtain ⟨h1, h2⟩ := h.fr b hb h0
    refine ⟨?_, h2⟩
    by_cases e : b = r
    · subst e; exact upd_same _ _ _
    · simp only [upd_ne _ _ _ _ e]; exact h1 }

theorem flat_ones {ys : List AV} (h : allOnes ys) : ∀ y ∈ flat ys, y.one = true := fun y hy => by
  obtain ⟨x, hx, hxy⟩ := List.mem_flatMap.1 hy
  exact ones_mem (h x hx) y hxy

/-- An object whose elements are followed by more, in its own block. -/
theorem ObjR.room {P : Program} {r : Nat} {ob : Obj} (h : ObjR P I w r ob) (hI : ∀ o, I r o → o < ob.frozen * P.cellsOf ob.elem) {ys : List AV} {news : List Value} (hv : R P I w (.vals (flat ys) news)) (hu : ∀ y ∈ ys, y.cells.length = P.cellsOf ob.elem)
    {c : Array Value} (hc : w.heap[r]? = some (.cells c ob.elem (0, 0))) (hfit : ob.xs.length * P.cellsOf ob.elem + news.length ≤ c.size) :
    ∃ w', w' = w.setRow r (c.toList.take (ob.xs.length * P.cellsOf ob.elem) ++ news ++ c.toList.drop (ob.xs.length * P.cellsOf ob.elem + news.length)).toArray ∧ ObjR P I w' r { ob with xs := ob.xs ++ ys } ∧
      (∀ b, b ≠ r → w'.heap[b]? = w.heap[b]?) ∧ w'.heap.size = w.heap.size ∧ (∀ r o, I r o → w'.cell? ⟨r, o, none⟩ = w.cell? ⟨r, o, none⟩) ∧ Shapes w w' ∧
      ∃ c', w'.heap[r]? = some (.cells c' ob.elem (0, 0)) ∧ c'.size = c.size := by
  obtain ⟨⟨c0, hc0, hl, hg⟩, huo, hp, hfz⟩ := h
  rw [hc] at hc0
  simp only [Option.some.injEq, Obj.cells.injEq, and_true] at hc0
  subst hc0
  let off := ob.xs.length * P.cellsOf ob.elem
  let c' : Array Value := (c.toList.take off ++ news ++ c.toList.drop (off + news.length)).toArray
  have hfl := flat_length huo
  have hnl := R.vals_length hv
  have hget : ∀ j, c'[j]? = if off ≤ j ∧ j < off + news.length then news[j - off]? else c[j]? := fun j => by
    have := splice_get c.toList off news (by simpa [off] using hfit) j
    simpa [c'] using this
  have hsz : c'.size = c.size := by simp [c']; omega
  have hh := setRow_heap w r c c' ob.elem (0, 0) hc
  have hother : ∀ b, b ≠ r → (w.setRow r c').heap[b]? = w.heap[b]? := fun b hb => setRow_other w r b c' hb
  have hcells : ∀ b o, I b o → (w.setRow r c').cell? ⟨b, o, none⟩ = w.cell? ⟨b, o, none⟩ := fun b o hi' => by
    by_cases hb : b = r
    · subst hb
      rw [cell_row hh, cell_row hc, hget, if_neg]
      have := hI o hi'
      have := Nat.mul_le_mul_right (P.cellsOf ob.elem) hfz
      simp only [off]
      omega
    · exact cell_same (hother b hb) o
  have hshape : Shapes w (w.setRow r c') := ⟨fun b d e z hd => by
    by_cases hb : b = r
    · subst hb
      rw [hc] at hd
      simp only [Option.some.injEq, Obj.cells.injEq] at hd
      obtain ⟨rfl, rfl, rfl⟩ := hd
      exact ⟨c', (0, 0), hh, hsz⟩
    · exact ⟨d, z, (hother b hb).trans hd, rfl⟩, ⟨rfl, rfl, rfl⟩⟩
  refine ⟨_, rfl, ⟨⟨c', hh, ?_, fun j y hy => ?_⟩, fun y hy => ?_, hp, by simp only [List.length_append]; omega⟩, hother, size_setRow _ _ _, hcells, hshape, c', hh, hsz⟩
  · rw [flat_append, List.length_append, hfl, hsz, hnl]; exact hfit
  · rw [flat_append] at hy
    rw [hget]
    by_cases hj : j < off
    · rw [if_neg (by omega)]
      rw [List.getElem?_append_left (by rw [hfl]; exact hj)] at hy
      obtain ⟨z, h2, h3⟩ := hg j y hy
      exact ⟨z, h2, h3.mono (fun _ _ => id) hcells hshape⟩
    · rw [List.getElem?_append_right (by rw [hfl]; omega), hfl] at hy
      have hjl := (List.getElem?_eq_some_iff.1 hy).1
      rw [if_pos (by simp only [off] at *; omega)]
      obtain ⟨z, h2, h3⟩ := hv.vals_get _ _ hy
      exact ⟨z, h2, h3.mono (fun _ _ => id) hcells hshape⟩
  · rcases List.mem_append.1 hy with hy | hy
    · exact huo y hy
    · exact hu y hy

/-- Elements of an object, from one on, become others. -/
theorem ObjR.over {P : Program} {r : Nat} {ob : Obj} (h : ObjR P I w r ob) {n : Nat} (hI : ∀ o, I r o → o < n * P.cellsOf ob.elem) {ys : List AV} {news : List Value} (hv : R P I w (.vals (flat ys) news)) (hu : ∀ y ∈ ys, y.cells.length = P.cellsOf ob.elem)
    {c : Array Value} (hc : w.heap[r]? = some (.cells c ob.elem (0, 0))) (hn : n + ys.length ≤ ob.xs.length) :
    ∃ w', w' = w.setRow r (c.toList.take (n * P.cellsOf ob.elem) ++ news ++ c.toList.drop (n * P.cellsOf ob.elem + news.length)).toArray ∧ ObjR P I w' r { ob with xs := ob.xs.take n ++ ys ++ ob.xs.drop (n + ys.length) } ∧
      (∀ b, b ≠ r → w'.heap[b]? = w.heap[b]?) ∧ w'.heap.size = w.heap.size ∧ (∀ r o, I r o → w'.cell? ⟨r, o, none⟩ = w.cell? ⟨r, o, none⟩) ∧ Shapes w w' ∧
      ∃ c', w'.heap[r]? = some (.cells c' ob.elem (0, 0)) ∧ c'.size = c.size := by
  obtain ⟨⟨c0, hc0, hl, hg⟩, huo, hp, hfz⟩ := h
  rw [hc] at hc0
  simp only [Option.some.injEq, Obj.cells.injEq, and_true] at hc0
  subst hc0
  let off := n * P.cellsOf ob.elem
  let c' : Array Value := (c.toList.take off ++ news ++ c.toList.drop (off + news.length)).toArray
  have hfl := flat_length huo
  have hnl := R.vals_length hv
  have hfy := flat_length hu
  have hfit : off + news.length ≤ c.size := by
    have : (n + ys.length) * P.cellsOf ob.elem ≤ ob.xs.length * P.cellsOf ob.elem := Nat.mul_le_mul_right _ hn
    rw [Nat.add_mul] at this
    simp only [off]; omega
  have hget : ∀ j, c'[j]? = if off ≤ j ∧ j < off + news.length then news[j - off]? else c[j]? := fun j => by
    have := splice_get c.toList off news (by simpa [off] using hfit) j
    simpa [c'] using this
  have hsz : c'.size = c.size := by simp [c']; omega
  have hh := setRow_heap w r c c' ob.elem (0, 0) hc
  have hother : ∀ b, b ≠ r → (w.setRow r c').heap[b]? = w.heap[b]? := fun b hb => setRow_other w r b c' hb
  have hcells : ∀ b o, I b o → (w.setRow r c').cell? ⟨b, o, none⟩ = w.cell? ⟨b, o, none⟩ := fun b o hi' => by
    by_cases hb : b = r
    · subst hb
      rw [cell_row hh, cell_row hc, hget, if_neg]
      have := hI o hi'
      simp only [off]
      omega
    · exact cell_same (hother b hb) o
  have hshape : Shapes w (w.setRow r c') := ⟨fun b d e z hd => by
    by_cases hb : b = r
    · subst hb
      rw [hc] at hd
      simp only [Option.some.injEq, Obj.cells.injEq] at hd
      obtain ⟨rfl, rfl, rfl⟩ := hd
      exact ⟨c', (0, 0), hh, hsz⟩
    · exact ⟨d, z, (hother b hb).trans hd, rfl⟩, ⟨rfl, rfl, rfl⟩⟩
  have hutake : ∀ y ∈ ob.xs.take n, y.cells.length = P.cellsOf ob.elem := fun y hy => huo y (List.mem_of_mem_take hy)
  have hftake : (flat (ob.xs.take n)).length = off := by rw [flat_length hutake, List.length_take, Nat.min_eq_left (by omega)]
  refine ⟨_, rfl, ⟨⟨c', hh, ?_, fun j y hy => ?_⟩, fun y hy => ?_, hp, by simp only [List.length_append, List.length_take, List.length_drop]; omega⟩, hother, size_setRow _ _ _, hcells, hshape, c', hh, hsz⟩
  · have hu' : ∀ y ∈ ob.xs.take n ++ ys ++ ob.xs.drop (n + ys.length), y.cells.length = P.cellsOf ob.elem := fun y hy => by
      rcases List.mem_append.1 hy with hy | hy
      · rcases List.mem_append.1 hy with hy | hy
        · exact hutake y hy
        · exact hu y hy
      · exact huo y (List.mem_of_mem_drop hy)
    rw [flat_length hu', hsz, show (ob.xs.take n ++ ys ++ ob.xs.drop (n + ys.length)).length = ob.xs.length by simp; omega, ← hfl]
    exact hl
  · rw [flat_append, flat_append] at hy
    rw [hget]
    by_cases hj : j < off
    · rw [if_neg (by omega)]
      rw [List.append_assoc, List.getElem?_append_left (by rw [hftake]; exact hj)] at hy
      obtain ⟨z, h2, h3⟩ := hg j y (flat_take_get hy)
      exact ⟨z, h2, h3.mono (fun _ _ => id) hcells hshape⟩
    · by_cases hj2 : j < off + news.length
      · rw [if_pos ⟨by omega, hj2⟩]
        rw [List.append_assoc, List.getElem?_append_right (by rw [hftake]; omega), hftake, List.getElem?_append_left (by omega)] at hy
        obtain ⟨z, h2, h3⟩ := hv.vals_get _ _ hy
        exact ⟨z, h2, h3.mono (fun _ _ => id) hcells hshape⟩
      · rw [if_neg (by omega)]
        rw [List.getElem?_append_right (by rw [List.length_append, hftake]; omega), List.length_append, hftake] at hy
        have hq := flat_drop_get huo hy
        rw [Nat.add_mul, show n * P.cellsOf ob.elem + ys.length * P.cellsOf ob.elem + (j - (off + (flat ys).length)) = j by simp only [off] at *; omega] at hq
        obtain ⟨z, h2, h3⟩ := hg j y hq
        exact ⟨z, h2, h3.mono (fun _ _ => id) hcells hshape⟩
  · rcases List.mem_append.1 hy with hy | hy
    · rcases List.mem_append.1 hy with hy | hy
      · exact hutake y hy
      · exact hu y hy
    · exact huo y (List.mem_of_mem_drop hy)

theorem append_below (h : Rl C I st a w) {t ty : TypeId} {s x : Operand} {ob : Obj} {ti : TypeInfo} {k : Option Nat} {r n : Nat} {e : TypeId} {ys : List AV} {K : AV → St → Prop}
    (hu : C.P.underlying t = some (.slice e)) (hti : C.P.info? e = some ti) (hs : av st s = some (.vec k r n))
    (hbel : (n + ys.length ≤ ob.xs.length ∧ ob.elem = e ∧ ob.frozen ≤ n ∧ allOnes ys) ∧ K (.vec k r (n + ys.length)) (st.setOb k r { ob with xs := ob.xs.take n ++ ys ++ ob.xs.drop (n + ys.length) }))
    (hR : ObjR C.P I w r ob) (hI : ∀ o, I r o → o < ob.frozen * C.P.cellsOf ob.elem) (hloc : (∀ k', k = some k' → st.L k' = some (r, ob)) ∧ (k = none → st.H r = some ob ∧ ob.map = none))
    (hsrc : Src C.P I w (C.P.cellsOf e) ys (a.eval x)) (huy : ∀ y ∈ ys, y.cells.length = C.P.cellsOf e) :
    Comes1 C I st a w (do pure (.value (← Builtin.append_ #[t, t] ty #[a.eval s, a.eval x]))) K := by
  obtain ⟨⟨h1, h2, h3, h5⟩, hK⟩ := hbel
  subst h2
  have hsz := cellsOf_eq hti
  obtain ⟨c, hc, hl0, hg⟩ := hR.ex
  obtain ⟨cap, hy, hcap, hle⟩ := (h.av hs).vec_inv hc
  have hpos := hR.pos
  have hlc : ob.xs.length ≤ cap := by
    rw [flat_length hR.uni, hcap] at hl0
    exact Nat.le_of_mul_le_mul_right hl0 hpos
  rw [hy]
  generalize a.eval x = xv at hsrc ⊢
  cases hsrc with
  | none xx capx h0 =>
    subst h0
    have hrun := run_append_zero (ty := ty) hu hti (some ⟨r, 0, none⟩) xx n cap capx (by omega) w
    have hob : ({ ob with xs := ob.xs.take n ++ [] ++ ob.xs.drop (n + ([] : List AV).length) } : Obj) = ob := by simp
    rw [hob] at hK
    cases k with
    | some k =>
      have hL : upd st.L k (some (r, ob)) = st.L := by funext q; unfold upd; split <;> first | (rename_i e'; rw [e', hloc.1 k rfl]) | rfl
      simp only [St.setOb, hL, List.length_nil, Nat.add_zero] at hK
      exact .value hK (y := .slice (some ⟨r, 0, none⟩) n cap) (by simp [hrun]) h (.vec _ _ _ _ _ c (0, 0) hc hcap (by omega)) rfl
    | none =>
      have hL : upd st.H r (some ob) = st.H := by funext q; unfold upd; split <;> first | (rename_i e'; rw [e', (hloc.2 rfl).1]) | rfl
      simp only [St.setOb, hL, List.length_nil, Nat.add_zero] at hK
      exact .value hK (y := .slice (some ⟨r, 0, none⟩) n cap) (by simp [hrun]) h (.vec _ _ _ _ _ c (0, 0) hc hcap (by omega)) rfl
  | some b off capx news hv hl hcn =>
    have hvl := R.vals_length hv
    have hnews : ∀ (j : Nat) (v : Value), news[j]? = some v → w.cell? ((⟨b, off, none⟩ : Addr).add j) = some v := fun j v hv => by rw [addr_add]; exact hcn j v hv
    have hfit : n * C.P.cellsOf ob.elem + news.length ≤ c.size := by rw [hl, ← Nat.add_mul, hcap]; exact Nat.mul_le_mul_right _ (by omega)
    have hrun := run_append_room (P := C.P) w t ty ob.elem ti hu hti r n cap c hc ⟨b, off, none⟩ ys.length capx news (by rw [hl, hsz]) hnews (ones_of_vals hv (flat_ones h5)) (by omega) (by rw [← hsz]; exact hfit)
    rw [← hsz] at hrun
    obtain ⟨w', hw', hR', hoth, hsize, hcells, hsh, c', hc', hcs'⟩ := hR.over (n := n) (fun o hi => Nat.lt_of_lt_of_le (hI o hi) (Nat.mul_le_mul_right _ h3)) hv huy hc h1
    rw [← hw'] at hrun
    cases k with
    | some k => exact .value hK (y := .slice (some ⟨r, 0, none⟩) (n + ys.length) cap) (by simp [hrun]) (h.objL (hloc.1 k rfl) hR' rfl (Nat.le_refl _) hoth hsize hcells hsh) (.vec _ _ _ _ ob.elem c' (0, 0) hc' (by rw [hcs', hcap]) (by omega)) rfl
    | none => exact .value hK (y := .slice (some ⟨r, 0, none⟩) (n + ys.length) cap) (by simp [hrun]) (h.objH (hloc.2 rfl).1 (.of_cells hR' (hloc.2 rfl).2) hoth hsize hcells hsh) (.vec _ _ _ _ ob.elem c' (0, 0) hc' (by rw [hcs', hcap]) (by omega)) rfl

theorem appendK_sound (h : Rl C I st a w) {hp : Bool} {key : Nat} {t ty : TypeId} {s x : Operand} {K : AV → St → Prop} (hk : appendK C.P hp key st t s x K) :
    Comes1 C I st a w (do pure (.value (← Builtin.append_ #[t, t] ty #[a.eval s, a.eval x]))) K := by
  unfold appendK at hk
  split at hk
  · rename_i e he
    split at hk
    · rename_i z hz
      obtain ⟨⟨hz1, hz2⟩, hk⟩ := hk
      obtain ⟨hu, _⟩ := elemT_spec he
      obtain ⟨ti, zy, hti, hty, rfl⟩ := zeroAV_info hz
      have hsz := cellsOf_eq hti
      have hby : C.P.bytesOf e = ti.bytes := by simp [Program.bytesOf, hti]
      obtain ⟨ys, hk, hsrc, huy⟩ := elemsK_sound h hz2 hk
      have hzc : zy.cells.size = ti.size := by
        have := R.vals_length (ofConst_cells C.P I w zy)
        simp only [Array.length_toList] at this
        omega
      split at hk
      · rename_i hs
        have hsv := h.av hs
        generalize a.eval s = sv at hsv ⊢
        cases hsv
        rcases hk with ⟨rfl, hk⟩ | ⟨⟨h1, h2, h3⟩, hk⟩
        · generalize a.eval x = xv at hsrc ⊢
          cases hsrc with
          | none xx capx h0 => exact .value hk (by simp [run_append_zero (ty := ty) hu hti none xx 0 0 capx (Nat.le_refl _) w]) h (.v _) rfl
          | some b off cap news hv hl hc => exact .value hk (by simp [run_append_zero (ty := ty) hu hti none (some ⟨b, off, none⟩) 0 0 cap (Nat.le_refl _) w]) h (.v _) rfl
        generalize a.eval x = xv at hsrc ⊢
        cases hsrc with
        | none _ _ h0 => exact absurd h0 h1
        | some b off cap news hv hl hc =>
          have hpos : 0 < ys.length := List.length_pos_iff.2 h1
          have hrun := run_append_nil (P := C.P) w t ty e ti zy hu hti hty ⟨b, off, none⟩ ys.length cap news (by rw [hl, hsz]) (fun j v hv => by rw [addr_add]; exact hc j v hv) hpos (by omega) (by rw [hby] at h2; omega)
          have hvl := R.vals_length hv
          have hge := grownCap_ge w ys.length 0 e
          have h' := h.drew
          have hcs : (news.toArray ++ Builtin.zeroCells zy.cells (grownCap w ys.length 0 e - ys.length)).size = grownCap w ys.length 0 e * C.P.cellsOf e := by
            rw [Array.size_append, size_zeroCells, hzc, List.size_toArray, hl, hsz, ← Nat.add_mul]; congr 1; omega
          obtain ⟨k, st', hK, hR, hn⟩ := h'.new (hp := hp) (key := key) (news.toArray ++ Builtin.zeroCells zy.cells (grownCap w ys.length 0 e - ys.length)) e ys false (by rw [hcs, hvl, hl]; exact Nat.mul_le_mul_right _ hge) (fun j u hu' => by
            obtain ⟨q, hq, hrq⟩ := hv.vals_get j u hu'
            refine ⟨q, ?_, hrq.mono (fun _ _ => id) (fun _ _ _ => rfl) (.of_heap rfl ⟨rfl, rfl, rfl⟩)⟩
            rw [Array.getElem?_append_left (by have := (List.getElem?_eq_some_iff.1 hq).1; simpa using this)]
            simpa using hq) huy hz2 hk
          exact .value hK (y := .slice (some ⟨w.heap.size, 0, none⟩) ys.length (grownCap w ys.length 0 e)) (by simp [hrun]) hR (.vec _ _ _ _ e _ (0, 0) push_new hcs hge) hn
      · rename_i k r n hs
        obtain ⟨ob, hob0, hR, hI, hloc⟩ := h.look hk
        rcases hob0 with ⟨⟨h1, h2, h3, h4, h5⟩, hK⟩ | hbel
        rotate_left
        · exact append_below h hu hti hs hbel hR hI ⟨fun k' e => by subst e; exact hloc, fun e => by subst e; exact hloc⟩ hsrc huy
        subst h1; subst h2
        obtain ⟨c, hc, hl0, hg⟩ := hR.ex
        obtain ⟨cap, hy, hcap, hle⟩ := (h.av hs).vec_inv hc
        rw [hy]
        generalize a.eval x = xv at hsrc ⊢
        -- nothing is appended, or there is room, or the row grows
        cases hsrc with
        | none xx capx h0 =>
          subst h0
          have hrun := run_append_zero (ty := ty) hu hti (some ⟨r, 0, none⟩) xx ob.xs.length cap capx hle w
          have hob : ({ ob with xs := ob.xs ++ [] } : Obj) = ob := by simp
          have hK' := hK r (fun _ => .inl rfl)
          rw [hob] at hK'
          cases k with
          | some k =>
            have hL : upd st.L k (some (r, ob)) = st.L := by funext q; unfold upd; split <;> first | (rename_i e'; rw [e', hloc]) | rfl
            simp only [St.moved, hL, List.length_nil, Nat.add_zero] at hK'
            exact .value hK' (y := .slice (some ⟨r, 0, none⟩) ob.xs.length cap) (by simp [hrun]) h (.vec _ _ _ _ _ c (0, 0) hc hcap hle) rfl
          | none =>
            have hL : upd (upd st.H r none) r (some ob) = st.H := by funext q; unfold upd; split <;> first | (rename_i e'; rw [e', hloc.1]) | rfl
            simp only [St.moved, hL, List.length_nil, Nat.add_zero] at hK'
            exact .value hK' (y := .slice (some ⟨r, 0, none⟩) ob.xs.length cap) (by simp [hrun]) h (.vec _ _ _ _ _ c (0, 0) hc hcap hle) rfl
        | some b off capx news hv hl hcn =>
          have hvl := R.vals_length hv
          have hnews : ∀ (j : Nat) (v : Value), news[j]? = some v → w.cell? ((⟨b, off, none⟩ : Addr).add j) = some v := fun j v hv => by rw [addr_add]; exact hcn j v hv
          by_cases hroom : ob.xs.length + ys.length ≤ cap
          · have hfit : ob.xs.length * C.P.cellsOf ob.elem + news.length ≤ c.size := by rw [hl, ← Nat.add_mul, hcap]; exact Nat.mul_le_mul_right _ hroom
            have hrun := run_append_room (P := C.P) w t ty ob.elem ti hu hti r ob.xs.length cap c hc ⟨b, off, none⟩ ys.length capx news (by rw [hl, hsz]) hnews (ones_of_vals hv (flat_ones h5)) hroom (by rw [← hsz]; exact hfit)
            rw [← hsz] at hrun
            obtain ⟨w', hw', hR', hoth, hsize, hcells, hsh, c', hc', hcs'⟩ := hR.room hI hv huy hc hfit
            rw [← hw'] at hrun
            have hK' := hK r (fun _ => .inl rfl)
            cases k with
            | some k => exact .value hK' (y := .slice (some ⟨r, 0, none⟩) (ob.xs.length + ys.length) cap) (by simp [hrun]) (h.objL hloc hR' rfl (Nat.le_refl _) hoth hsize hcells hsh) (.vec _ _ _ _ ob.elem c' (0, 0) hc' (by rw [hcs', hcap]) hroom) rfl
            | none =>
              have hupd : upd (upd st.H r none) r (some ({ ob with xs := ob.xs ++ ys } : Obj)) = upd st.H r (some { ob with xs := ob.xs ++ ys }) := by funext q; unfold upd; split <;> rfl
              simp only [St.moved, hupd] at hK'
              exact .value hK' (y := .slice (some ⟨r, 0, none⟩) (ob.xs.length + ys.length) cap) (by simp [hrun]) (h.objH hloc.1 (.of_cells hR' hloc.2) hoth hsize hcells hsh) (.vec _ _ _ _ ob.elem c' (0, 0) hc' (by rw [hcs', hcap]) hroom) rfl
          · obtain ⟨olds, hvo, hco⟩ := vals_of_cells (w := w) (P := C.P) (I := I) (xs := flat ob.xs) (r := r) (off := 0) (fun j z hz => by
              obtain ⟨y, h6, h7⟩ := hg j z hz
              exact ⟨y, by rw [Nat.zero_add, cell_row hc]; exact h6, h7⟩)
            have hlo := R.vals_length hvo
            rw [flat_length hR.uni] at hlo
            have hrun := run_append_grow (P := C.P) w t ty ob.elem ti zy hu hti hty ⟨r, 0, none⟩ ob.xs.length cap olds (by rw [← hlo, hsz]) (fun j v hv => by rw [addr_add]; exact hco j v hv) ⟨b, off, none⟩ ys.length capx news (by rw [hl, hsz]) hnews
              (by omega) (by omega) (growslice_fits (by omega) (by rw [← hby]; exact h3))
            have hge := grownCap_ge w (ob.xs.length + ys.length) cap ob.elem
            generalize hcapn : grownCap w (ob.xs.length + ys.length) cap ob.elem = capn at hrun hge
            have hcs : (olds.toArray ++ news.toArray ++ Builtin.zeroCells zy.cells (capn - (ob.xs.length + ys.length))).size = capn * C.P.cellsOf ob.elem := by
              rw [Array.size_append, Array.size_append, size_zeroCells, hzc, List.size_toArray, List.size_toArray, hl, ← hlo, ← hsz, ← Nat.add_mul, ← Nat.add_mul]; congr 1; omega
            have hvall := R.vals_append hvo hv
            rw [← flat_append] at hvall
            have hua : ∀ y ∈ ob.xs ++ ys, y.cells.length = C.P.cellsOf ob.elem := fun y hy => by
              rcases List.mem_append.1 hy with hy | hy
              · exact hR.uni y hy
              · exact huy y hy
            have hgetn : ∀ (j : Nat) (u : AV), (flat (ob.xs ++ ys))[j]? = some u → ∃ q, (olds.toArray ++ news.toArray ++ Builtin.zeroCells zy.cells (capn - (ob.xs.length + ys.length)))[j]? = some q ∧ R C.P I w.drew (.val u q) := fun j u hu' => by
              obtain ⟨q, hq, hrq⟩ := hvall.vals_get j u hu'
              refine ⟨q, ?_, hrq.mono (fun _ _ => id) (fun _ _ _ => rfl) (.of_heap rfl ⟨rfl, rfl, rfl⟩)⟩
              rw [Array.getElem?_append_left (by have := (List.getElem?_eq_some_iff.1 hq).1; simpa using this)]
              rw [← Array.getElem?_toList, Array.toList_append]
              exact hq
            have hlen : (flat (ob.xs ++ ys)).length ≤ (olds.toArray ++ news.toArray ++ Builtin.zeroCells zy.cells (capn - (ob.xs.length + ys.length))).size := by
              rw [hcs, flat_length hua, List.length_append]; exact Nat.mul_le_mul_right _ hge
            have hrunv : ((do pure (.value (← Builtin.append_ #[t, t] ty #[.slice (some ⟨r, 0, none⟩) ob.xs.length cap, .slice (some ⟨b, off, none⟩) ys.length capx])) : Sem Next)).run C.P w =
                .ok (.value (.slice (some ⟨w.heap.size, 0, none⟩) (ob.xs.length + ys.length) capn)) (w.drew.alloc (.cells (olds.toArray ++ news.toArray ++ Builtin.zeroCells zy.cells (capn - (ob.xs.length + ys.length))) ob.elem (0, 0))) := by
              simp [hrun]
            have hfzl : ob.frozen ≤ (ob.xs ++ ys).length := by have := hR.fz; simp; omega
            cases k with
            | some k =>
              have h' := (h.drew).own k _ ob.elem (ob.xs ++ ys) ob.var hlen hgetn hua hz2
              have h'' : Rl C I { st with L := upd st.L k (some (w.heap.size, { ob with xs := ob.xs ++ ys })) } a (w.drew.alloc (.cells (olds.toArray ++ news.toArray ++ Builtin.zeroCells zy.cells (capn - (ob.xs.length + ys.length))) ob.elem (0, 0))) := by
                have hq := h'
                exact {
                  df := hq.df, sz := hq.sz, tm := hq.tm, mH := hq.mH, rd := hq.rd, i1 := hq.i1, i2 := hq.i2, hs := hq.hs, sh := hq.sh, fr := hq.fr
                  mL := fun k' r' ob' hr' => by
                    by_cases e' : k' = k
                    · subst e'
                      simp only [upd_same, Option.some.injEq, Prod.mk.injEq] at hr'
                      obtain ⟨rfl, rfl⟩ := hr'
                      obtain ⟨h6, h7, h8, h9⟩ := hq.mL k' w.heap.size _ (upd_same _ _ _)
                      exact ⟨h6, h7, ⟨h8.ex, h8.uni, h8.pos, hfzl⟩, fun o ho => absurd (h.rd.lt ho) (Nat.lt_irrefl _)⟩
                    · simp only [upd_ne _ _ _ _ e'] at hr'
                      exact hq.mL k' r' ob' (by simp only [upd_ne _ _ _ _ e']; exact hr')
                  inj := fun k1 k2 r' o1 o2 h6 h7 => by
                    have key : ∀ k' ob', upd st.L k (some (w.heap.size, { ob with xs := ob.xs ++ ys })) k' = some (r', ob') → ∃ ob'', upd st.L k (some (w.drew.heap.size, ({ elem := ob.elem, xs := ob.xs ++ ys, var := ob.var } : Obj))) k' = some (r', ob'') := fun k' ob' hk' => by
                      by_cases e' : k' = k
                      · subst e'
                        simp only [upd_same, Option.some.injEq, Prod.mk.injEq] at hk' ⊢
                        exact ⟨_, hk'.1, rfl⟩
                      · simp only [upd_ne _ _ _ _ e'] at hk' ⊢
                        exact ⟨_, hk'⟩
                    obtain ⟨_, h8⟩ := key k1 o1 h6
                    obtain ⟨_, h9⟩ := key k2 o2 h7
                    exact hq.inj k1 k2 r' _ _ h8 h9 }
              exact .value (hK w.heap.size (fun e' => by cases e')) hrunv h'' (.vec _ _ _ _ ob.elem _ (0, 0) push_new hcs hge) rfl
            | none =>
              have h' := ((h.drew).dropH r).heap _ ob.elem (ob.xs ++ ys) ob.var hlen hgetn hua hz2
              have hfz0 : ob.frozen = ob.frozen := rfl
              have h'' : Rl C I { st with H := upd (upd st.H r none) w.heap.size (some { ob with xs := ob.xs ++ ys }) } a (w.drew.alloc (.cells (olds.toArray ++ news.toArray ++ Builtin.zeroCells zy.cells (capn - (ob.xs.length + ys.length))) ob.elem (0, 0))) := by
                have hq := h'
                exact {
                  df := hq.df, sz := hq.sz, tm := hq.tm, rd := hq.rd, i1 := hq.i1, hs := hq.hs, sh := hq.sh, inj := hq.inj
                  mL := fun k' r' ob' hr' => by
                    obtain ⟨h6, h7, h8, h9⟩ := hq.mL k' r' ob' hr'
                    refine ⟨h6, ?_, h8, h9⟩
                    have hne := h.newL k' r' ob' hr'
                    simp only [World.size_drew] at h7
                    simp only [upd_ne _ _ _ _ hne] at h7 ⊢
                    exact h7
                  mH := fun r' ob' hr' => by
                    by_cases e' : r' = w.heap.size
                    · subst e'
                      simp only [upd_same, Option.some.injEq] at hr'
                      subst hr'
                      obtain ⟨h8, h9⟩ := hq.mH w.heap.size _ (upd_same _ _ _)
                      have h8' := h8.cells rfl
                      exact ⟨.of_cells ⟨h8'.ex, h8'.uni, h8'.pos, hfzl⟩ hloc.2, h9⟩
                    · simp only [upd_ne _ _ _ _ e'] at hr'
                      exact hq.mH r' ob' (by simp only [World.size_drew, upd_ne _ _ _ _ e']; exact hr')
                  i2 := fun b' o hi' => by
                    rcases hq.i2 b' o hi' with h6 | h6 | ⟨h6, h7⟩
                    · exact .inl h6
                    · exact .inr (.inl h6)
                    · refine .inr (.inr ⟨h6, ?_⟩)
                      have hne : b' ≠ w.heap.size := Nat.ne_of_lt (h.rd.lt hi')
                      simp only [World.size_drew] at h7
                      simp only [upd_ne _ _ _ _ hne] at h7 ⊢
                      exact h7
                  fr := fun b' hb' h0 => by
                    obtain ⟨h6, h7⟩ := hq.fr b' hb' h0
                    refine ⟨?_, h7⟩
                    have hne : b' ≠ w.heap.size := Nat.ne_of_lt (Nat.lt_of_lt_of_le hb' h.hs)
                    simp only [World.size_drew] at h6
                    simp only [upd_ne _ _ _ _ hne] at h6 ⊢
                    exact h6 }
              exact .value (hK w.heap.size (fun _ => .inr h.newH)) hrunv h'' (.vec _ _ _ _ ob.elem _ (0, 0) push_new hcs hge) rfl
      · exact hk.elim
    · exact hk.elim
  · exact hk.elim

end
end Go.Am
