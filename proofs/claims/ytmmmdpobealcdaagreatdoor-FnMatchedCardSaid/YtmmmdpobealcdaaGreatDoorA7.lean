/- Slices that are made; lengths; append; fields; parts of slices. -/
import Derived.Test.YtmmmdpobealcdaaGreatDoorA6
set_option linter.unusedVariables false
set_option linter.unusedSimpArgs false
namespace Go.Am
open Go

section
variable {C : Ctx} {I I' : Nat → Nat → Prop} {st : St} {a : Act} {w w' : World}

theorem flat_set {s : Nat} {xs : List AV} (h : ∀ x ∈ xs, x.cells.length = s) (i : Nat) (y : AV) (hi : i < xs.length) :
    flat (xs.set i y) = (flat xs).take (i * s) ++ y.cells ++ (flat xs).drop (i * s + s) := by
  induction xs generalizing i with
  | nil => simp at hi
  | cons x xs ih =>
    have hx := h x (by simp)
    cases i with
    | zero =>
      rw [List.set_cons_zero, flat_cons, flat_cons]
      simp only [Nat.zero_mul, List.take_zero, List.nil_append, Nat.zero_add]
      rw [List.drop_append, hx, Nat.sub_self, List.drop_of_length_le (by omega)]
      simp
    | succ i =>
      rw [List.set_cons_succ, flat_cons, flat_cons, ih (fun z hz => h z (by simp [hz])) i (by simpa using hi)]
      have e1 : (i + 1) * s = s + i * s := by rw [Nat.add_mul]; omega
      rw [e1, List.take_append, List.drop_append, hx, List.take_of_length_le (l := x.cells) (by omega), List.drop_of_length_le (l := x.cells) (by omega), show s + i * s - s = i * s from by omega,
        show s + i * s + s - s = i * s + s from by omega]
      simp

theorem pubsI_sound : ∀ {ps : List (Nat × AV)} {vs : List (Nat × Value)} {I : Nat → Nat → Prop} {st : St} {K : List (Nat × AV) → St → Prop}, Rl C I st a w → Al C.P I w ps vs → pubsI C.P st ps K →
    ∃ ps' st' I', K ps' st' ∧ Rl C I' st' a w ∧ (∀ b o, I b o → I' b o) ∧ Al C.P I' w ps' vs ∧ st'.n = st.n := by
  have up : ∀ {I I' : Nat → Nat → Prop} {ps : List (Nat × AV)} {vs : List (Nat × Value)}, Al C.P I w ps vs → (∀ b o, I b o → I' b o) → Al C.P I' w ps vs := by
    intro I I' ps vs h hI
    induction h with
    | nil => exact .nil
    | cons i x y xs ys hr _ ih => exact .cons i x y xs ys (hr.up hI) ih
  intro ps
  induction ps with
  | nil =>
    intro vs I st K h hal hk
    exact ⟨[], st, I, hk, h, fun _ _ => id, hal, rfl⟩
  | cons p ps ih =>
    intro vs I st K h hal hk
    cases hal with
    | cons i x y _ ys hr hal =>
      obtain ⟨x', st', I', hk', h', hI, hr', hn⟩ := h.pub hr hk
      obtain ⟨ps', st'', I'', hk'', h'', hI', hal', hn'⟩ := ih h' (up hal hI) hk'
      exact ⟨(i, x') :: ps', st'', I'', hk'', h'', fun b o hb => hI' b o (hI b o hb), .cons _ _ _ _ _ (hr'.up hI') hal', hn'.trans hn⟩

theorem sets_sound {P : Program} {s : Nat} : ∀ (parts : List (Nat × AV)) (vparts : List (Nat × Value)) (xs : List AV) (vcells : Array Value) (out : List AV),
    Al P I w parts vparts → (∀ x ∈ xs, x.cells.length = s) → R P I w (.vals (flat xs) vcells.toList) → setsAV s xs parts = some out →
    ∃ vout, Instr.fill (fun i => some (i * s, s)) vcells vparts = some vout ∧ R P I w (.vals (flat out) vout.toList) ∧ (∀ x ∈ out, x.cells.length = s) ∧ out.length = xs.length := by
  intro parts
  induction parts with
  | nil =>
    intro vparts xs vcells out hal hu hr h
    cases hal
    simp only [setsAV, Option.some.injEq] at h
    subst h
    exact ⟨vcells, rfl, hr, hu, rfl⟩
  | cons p parts ih =>
    intro vparts xs vcells out hal hu hr h
    cases hal with
    | cons i x v _ vparts hrx hal =>
      simp only [setsAV] at h
      split at h
      · rename_i hc
        obtain ⟨h1, h2, h3⟩ := hc
        have hv := hrx.cells_vals (ones_mem h3)
        have hl := R.vals_length hv
        have hcl := R.vals_length hr
        have hfl := flat_length hu
        simp only [Array.length_toList] at hl hcl
        have hle : i * s + s ≤ xs.length * s := by have := Nat.mul_le_mul_right s h1; rw [Nat.succ_mul] at this; exact this
        have hfold := fold_cells v (i * s) vcells (by omega)
        have hu' : ∀ y ∈ xs.set i x, y.cells.length = s := fun y hy => by
          rcases List.mem_or_eq_of_mem_set hy with hy | rfl
          · exact hu y hy
          · exact h2
        have hspl : R P I w (.vals (flat (xs.set i x)) (v.cells.zipIdx.foldl (fun cs (p : Value × Nat) => cs.setIfInBounds (i * s + p.2) p.1) vcells).toList) := by
          rw [hfold, flat_set hu i x h1]
          have e : i * s + s = i * s + v.cells.size := by omega
          rw [e]
          exact R.vals_append (R.vals_append (vals_take hr _) hv) (vals_drop hr _)
        obtain ⟨vout, ho, hro, huo, hlo⟩ := ih vparts _ _ out hal hu' hspl h
        refine ⟨vout, ?_, hro, huo, by simpa using hlo⟩
        have e : Instr.fill (fun i => some (i * s, s)) vcells ((i, v) :: vparts) = if v.cells.size ≠ s ∨ i * s + v.cells.size > vcells.size then none else Instr.fill (fun i => some (i * s, s)) (v.cells.zipIdx.foldl (fun cs (p : Value × Nat) => cs.setIfInBounds (i * s + p.2) p.1) vcells) vparts := by
          simp only [Instr.fill, Bool.or_eq_true, decide_eq_true_eq]
        rw [e, if_neg (by omega)]
        exact ho
      · cases h

theorem flat_replicate_vals {P : Program} {y : Value} {s : Nat} (hs : (ofConst y).cells.length = s) (h0 : 0 < s) (n : Nat) :
    R P I w (.vals (flat (List.replicate n (ofConst y))) ((Array.range (n * s)).map (y.cells[· % y.cells.size]!)).toList) ∧ (∀ x ∈ List.replicate n (ofConst y), x.cells.length = s) := by
  have hu : ∀ x ∈ List.replicate n (ofConst y), x.cells.length = s := fun x hx => by rw [(List.mem_replicate.1 hx).2]; exact hs
  have hv := ofConst_cells P I w y
  have hl := R.vals_length hv
  simp only [Array.length_toList] at hl
  have hys : y.cells.size = s := by omega
  refine ⟨R.vals_of (by rw [flat_length hu]; simp) fun j x z hx hz => ?_, hu⟩
  have hq : j / s * s + j % s = j := by rw [Nat.mul_comm]; exact Nat.div_add_mod j s
  have hm := Nat.mod_lt j h0
  rw [← hq, flat_get hu _ _ hm] at hx
  have hjl : j / s < n := by
    cases hg : (List.replicate n (ofConst y))[j / s]? with
    | none => rw [hg] at hx; cases hx
    | some u =>
      have := (List.getElem?_eq_some_iff.1 hg).1
      simpa using this
  rw [List.getElem?_replicate, if_pos hjl, Option.bind_some] at hx
  obtain ⟨u, hu', hru⟩ := hv.vals_get _ _ hx
  have hz' : z = y.cells[j % y.cells.size]! := by
    simp only [Array.toList_map, Array.toList_range, List.getElem?_map, Option.map_eq_some_iff] at hz
    obtain ⟨k, hk, rfl⟩ := hz
    have := List.getElem?_eq_some_iff.1 hk
    obtain ⟨h1, h2⟩ := this
    simp at h2
    subst h2
    rfl
  have hu'' : y.cells[j % s]? = some u := by simpa using hu'
  rw [hz', hys, getElem!_def, hu'']
  exact hru

theorem run_info {P : Program} {t : TypeId} {i : TypeInfo} (h : P.info? t = some i) (w : World) : (typeInfo t).run P w = .ok i w := by simp [typeInfo, h]

theorem buildSliceK_sound (h : Rl C I st a w) {md : LitMode} {key : Nat} {t : TypeId} {len : Nat} {parts : Array (Nat × Operand)} {K : AV → St → Prop} (hk : buildSliceK C.P md key st t len parts K) :
    Comes1 C I st a w (do pure (.value (← Instr.buildSlice t len (parts.map fun (i, x) => (i, a.eval x))))) K := by
  unfold buildSliceK at hk
  split at hk
  · rename_i e ps he hps
    split at hk
    · rename_i z hz
      obtain ⟨⟨h1, h2, h3⟩, hk⟩ := hk
      obtain ⟨hu, ti, hti⟩ := elemT_spec he
      obtain ⟨ps', st', I', hk2, h', hI, hal, hn⟩ := pubsI_sound h (avsI_sound h _ _ hps) hk
      clear hk
      split at hk2
      · rename_i xs hxs
        obtain ⟨y, hy, rfl⟩ := run_zero hz w
        obtain ⟨hrv, hur⟩ := flat_replicate_vals (P := C.P) (I := I') (w := w) h1 h2 len
        obtain ⟨vout, hfill, hout, huo, hlo⟩ := sets_sound ps' _ _ _ xs hal hur hrv hxs
        have hl := R.vals_length hout
        simp only [Array.length_toList] at hl
        rw [List.length_replicate] at hlo
        change ∃ x st'' I'' y w', K x st'' ∧ (((do pure (.value (← Instr.buildSlice t len (parts.map fun p => (p.1, a.eval p.2)))) : Sem Next)).run C.P w = _ ∨ _) ∧ _
        have hrun : (Instr.buildSlice t len (parts.map fun p => (p.1, a.eval p.2))).run C.P w = .ok (.slice (some ⟨w.heap.size, 0, none⟩) len len) (w.alloc (.cells vout e (0, 0))) := by
          have hpl : (parts.map fun p => (p.1, a.eval p.2)).toList = parts.toList.map fun p => (p.1, a.eval p.2) := by simp
          have hsz := cellsOf_eq hti
          rw [hsz] at h3 hfill
          have hfill' : Instr.fill (fun i => some (i * ti.size, ti.size)) ((Array.range (len * ti.size)).map (y.cells[· % y.cells.size]!)) (parts.toList.map fun p => (p.1, a.eval p.2)) = some vout := hfill
          by_cases hz0 : len * ti.size = 0
          · have hfill0 : Instr.fill (fun i => some (i * ti.size, ti.size)) ((Array.range (len * ti.size)).map ((#[] : Array Value)[· % (#[] : Array Value).size]!)) (parts.toList.map fun p => (p.1, a.eval p.2)) = some vout := by
              have e0 : ∀ f : Nat → Value, (Array.range 0).map f = #[] := fun f => by simp
              rw [hz0] at hfill' ⊢
              rw [e0] at hfill' ⊢
              exact hfill'
            simp only [Instr.buildSlice, Sem.run_bind, run_underlying hu, Result.andThen_ok, run_sizeOf hti]
            rw [if_neg (by omega), if_pos hz0]
            simp only [Sem.run_pure, Sem.run_bind, Result.andThen_ok, hpl, hfill0, newRow, run_newObj, World.alloc_eq]
          · simp only [Instr.buildSlice, Sem.run_bind, run_underlying hu, Result.andThen_ok, run_sizeOf hti]
            rw [if_neg (by omega), if_neg hz0]
            simp only [Sem.run_pure, Sem.run_bind, Result.andThen_ok, hy, hpl, hfill', newRow, run_newObj, World.alloc_eq]
        have hget : ∀ (j : Nat) (x : AV), (flat xs)[j]? = some x → ∃ y, vout[j]? = some y ∧ R C.P I' w (.val x y) := fun j x hx => by
          obtain ⟨u, hu1, hu2⟩ := hout.vals_get j x hx
          exact ⟨u, by simpa using hu1, hu2⟩
        cases md with
        | list =>
          obtain ⟨I'', h'', hI', hcl⟩ := h'.shut vout e
          refine ⟨_, st', I'', .slice (some ⟨w.heap.size, 0, none⟩) len len, _, hk2, .inl (by simp [hrun]), h'', ?_, hn⟩
          refine .list _ _ w.heap.size 0 len len (by omega) (Nat.le_refl _) huo (.cells_of fun j x hx => ?_)
          obtain ⟨u, hu1, hu2⟩ := hget j x hx
          refine ⟨u, by rw [Nat.zero_add, cell_row push_new]; exact hu1, hu2.mono hI' (fun r o hi => cell_same (push_old (h'.rd.lt hi)) o) (.alloc _ _), ?_⟩
          rw [Nat.zero_add]
          exact hcl j (by have := (List.getElem?_eq_some_iff.1 hx).1; omega)
        | vec =>
          obtain ⟨k, st'', hK, hR, hn'⟩ := h'.new (hp := false) (key := key) vout e xs false (by omega) hget huo h2 hk2
          exact ⟨_, st'', I', .slice (some ⟨w.heap.size, 0, none⟩) len len, _, hK, .inl (by simp [hrun]), hR, .vec _ _ _ len e vout (0, 0) push_new (by rw [← hl, flat_length huo, hlo]) (Nat.le_refl _), hn'.trans hn⟩
        | heap =>
          obtain ⟨k, st'', hK, hR, hn'⟩ := h'.new (hp := true) (key := key) vout e xs false (by omega) hget huo h2 hk2
          exact ⟨_, st'', I', .slice (some ⟨w.heap.size, 0, none⟩) len len, _, hK, .inl (by simp [hrun]), hR, .vec _ _ _ len e vout (0, 0) push_new (by rw [← hl, flat_length huo, hlo]) (Nat.le_refl _), hn'.trans hn⟩
      · exact hk2.elim
    · exact hk.elim
  · exact hk.elim

theorem lenK_sound (h : Rl C I st a w) {t ty : TypeId} {x : Operand} {K : AV → St → Prop} (hk : lenK C.P st t x K) : Comes1 C I st a w (do pure (.value (← Builtin.len_ #[t] ty #[a.eval x]))) K := by
  unfold lenK at hk
  split at hk
  · rename_i s hx
    have h1 := h.av hx
    generalize a.eval x = xv at h1 ⊢
    cases h1
    exact .value hk.2 (by simp [Builtin.len_, run_underlying hk.1, goInt]) h (.v _) rfl
  · rename_i s xs hx
    obtain ⟨e, he⟩ := Option.isSome_iff_exists.1 hk.1
    obtain ⟨hu, _⟩ := elemT_spec he
    have h1 := h.av hx
    generalize a.eval x = xv at h1 ⊢
    cases h1 with
    | lnil => exact .value hk.2 (by simp [Builtin.len_, run_underlying hu, goInt]) h (.v _) rfl
    | list _ _ r off len cap hl => exact .value hk.2 (by simp [Builtin.len_, run_underlying hu, goInt, hl]) h (.v _) rfl
  · rename_i k r n hx
    obtain ⟨e, he⟩ := Option.isSome_iff_exists.1 hk.1
    obtain ⟨hu, _⟩ := elemT_spec he
    have h1 := h.av hx
    generalize a.eval x = xv at h1 ⊢
    cases h1
    exact .value hk.2 (by simp [Builtin.len_, run_underlying hu, goInt]) h (.v _) rfl
  · rename_i k r o n hx
    obtain ⟨e, he⟩ := Option.isSome_iff_exists.1 hk.1
    obtain ⟨hu, _⟩ := elemT_spec he
    have h1 := h.av hx
    generalize a.eval x = xv at h1 ⊢
    cases h1
    exact .value hk.2 (by simp [Builtin.len_, run_underlying hu, goInt]) h (.v _) rfl
  · rename_i ad n cp hx
    obtain ⟨e, he⟩ := Option.isSome_iff_exists.1 hk.1
    obtain ⟨hu, _⟩ := elemT_spec he
    have h1 := h.av hx
    generalize a.eval x = xv at h1 ⊢
    cases h1
    exact .value hk.2 (by simp [Builtin.len_, run_underlying hu, goInt]) h (.v _) rfl
  · exact hk.elim

theorem zeroAV_info {P : Program} {e : TypeId} {z : AV} (h : zeroAV P e = some z) : ∃ i y, P.info? e = some i ∧ i.zero = some y ∧ z = ofConst y := by
  unfold zeroAV at h
  simp only [Option.map_eq_some_iff, Option.bind_eq_some_iff] at h
  obtain ⟨y, ⟨i, hi, hz⟩, rfl⟩ := h
  exact ⟨i, y, hi, hz, rfl⟩

theorem makeK_sound (h : Rl C I st a w) {hp : Bool} {key : Nat} {t : TypeId} {l c : Operand} {K : AV → St → Prop} (hk : makeK C.P hp key st t l c K) :
    Comes1 C I st a w (do pure (.value (← Instr.makeSlice t (a.eval l) (a.eval c)))) K := by
  unfold makeK at hk
  split at hk
  · rename_i e k n k' m he hl hc
    split at hk
    · rename_i z hz
      obtain ⟨⟨h1, h2, rfl, h3, h4, h5⟩, hk⟩ := hk
      obtain ⟨hu, _⟩ := elemT_spec he
      obtain ⟨ti, y, hti, hty, rfl⟩ := zeroAV_info hz
      have hlv := h.av hl
      have hcv := h.av hc
      generalize a.eval l = lv at hlv ⊢
      generalize a.eval c = cv at hcv ⊢
      cases hlv; cases hcv
      have hb : (ti.bytes : Int) * n ≤ 281474976710656 := by
        have : C.P.bytesOf e = ti.bytes := by simp [Program.bytesOf, hti]
        rwa [this] at h4
      have hrun := run_make w t e ti y hu hti hty k k' n n h3 (Int.le_refl _) hb h5
      obtain ⟨hrv, hur⟩ := flat_replicate_vals (P := C.P) (I := I) (w := w) h1 h2 n.toNat
      have hvl := R.vals_length hrv
      simp only [Array.length_toList, Array.size_map, Array.size_range] at hvl
      rw [cellsOf_eq hti] at hrv
      obtain ⟨kk, st', hK, hR, hn⟩ := h.new (hp := hp) (key := key) (madeCells y.cells (n.toNat * ti.size)) e (List.replicate n.toNat (ofConst y)) false (by rw [size_madeCells, hvl, cellsOf_eq hti]; exact Nat.le_refl _) (fun j x hx => by
        obtain ⟨u, hu1, hu2⟩ := hrv.vals_get j x hx
        exact ⟨u, by rw [← Array.getElem?_toList]; exact hu1, hu2⟩) hur h2 hk
      exact .value hK (y := .slice (some ⟨w.heap.size, 0, none⟩) n.toNat n.toNat) (by simp [hrun]) hR (.vec _ _ _ n.toNat e _ (0, 0) push_new (by rw [size_madeCells, cellsOf_eq hti]) (Nat.le_refl _)) hn
    · exact hk.elim
  · exact hk.elim

end
end Go.Am
