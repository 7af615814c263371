/- Publishing; loads, stores, addresses. -/
import Derived.Test.YtmmmdpobealcdaaGreatDoorA2
set_option linter.unusedVariables false
set_option linter.unusedSimpArgs false
namespace Go.Am
open Go

theorem flat_append (xs ys : List AV) : flat (xs ++ ys) = flat xs ++ flat ys := by simp [flat]

theorem flat_take_get {xs : List AV} {n j : Nat} {x : AV} (h : (flat (xs.take n))[j]? = some x) : (flat xs)[j]? = some x := by
  have e : flat xs = flat (xs.take n) ++ flat (xs.drop n) := by rw [← flat_append, List.take_append_drop]
  have hj : j < (flat (xs.take n)).length := (List.getElem?_eq_some_iff.1 h).1
  rw [e, List.getElem?_append_left hj]
  exact h

section
variable {C : Ctx} {I I' : Nat → Nat → Prop} {st : St} {a : Act} {w w' : World}

theorem R.up {P : Program} {g : Goal} (h : R P I w g) (hI : ∀ b o, I b o → I' b o) : R P I' w g := h.mono hI (fun _ _ _ => rfl) (.refl _)

theorem Rl.pub1 (h : Rl C I st a w) {x : AV} {y : Value} {K : AV → St → Prop} (hr : R C.P I w (.val x y)) (hk : pub1K C.P st x K) :
    ∃ x' st' I', K x' st' ∧ Rl C I' st' a w ∧ (∀ b o, I b o → I' b o) ∧ R C.P I' w (.val x' y) ∧ st'.n = st.n := by
  unfold pub1K at hk
  split at hk
  · rename_i k r n
    cases hq : st.L k with
    | none => rw [hq] at hk; exact hk.elim
    | some p =>
      obtain ⟨r', ob⟩ := p
      rw [hq] at hk
      obtain ⟨⟨rfl, hn⟩, hk⟩ := hk
      obtain ⟨I', h1, h2, h3⟩ := h.freeze hq
      obtain ⟨_, _, h4, _⟩ := h.mL k r' ob hq
      refine ⟨_, _, I', hk, h1, h2, ?_, rfl⟩
      obtain ⟨c, hc, hl, hg⟩ := h4.ex
      cases hr with
      | vec _ _ _ cap e c' z e1 e2 e3 =>
        refine .list _ _ r' 0 n cap (by simp; omega) e3 (fun x hx => h4.uni x (List.mem_of_mem_take hx)) (.cells_of fun j x hx => ?_)
        have hx' := flat_take_get hx
        obtain ⟨y, hy, hry⟩ := hg j x hx'
        refine ⟨y, by rw [Nat.zero_add, cell_row hc]; exact hy, hry.up h2, ?_⟩
        rw [Nat.zero_add]
        exact h3 j (List.getElem?_eq_some_iff.1 hx').1
  · exact ⟨x, st, I, hk, h, fun _ _ => id, hr, rfl⟩

theorem Rl.pubs (h : Rl C I st a w) {xs : List AV} {ys : List Value} {K : List AV → St → Prop} (hr : R C.P I w (.vals xs ys)) (hk : pubsK C.P st xs K) :
    ∃ xs' st' I', K xs' st' ∧ Rl C I' st' a w ∧ (∀ b o, I b o → I' b o) ∧ R C.P I' w (.vals xs' ys) ∧ st'.n = st.n := by
  induction xs generalizing I st ys K with
  | nil => exact ⟨[], st, I, hk, h, fun _ _ => id, hr, rfl⟩
  | cons x xs ih =>
    cases hr with
    | vcons _ _ y ys h1 h2 =>
      obtain ⟨x', st', I', hk', h3, h4, h5, h6⟩ := h.pub1 h1 hk
      obtain ⟨xs', st'', I'', hk'', h7, h8, h9, h10⟩ := ih h3 (h2.up h4) hk'
      exact ⟨x' :: xs', st'', I'', hk'', h7, fun b o hb => h8 b o (h4 b o hb), .vcons _ _ _ _ (h5.up h8) h9, h10.trans h6⟩

theorem Rl.pub (h : Rl C I st a w) {x : AV} {y : Value} {K : AV → St → Prop} (hr : R C.P I w (.val x y)) (hk : pubK C.P st x K) :
    ∃ x' st' I', K x' st' ∧ Rl C I' st' a w ∧ (∀ b o, I b o → I' b o) ∧ R C.P I' w (.val x' y) ∧ st'.n = st.n := by
  unfold pubK at hk
  split at hk
  · cases hr with
    | agg _ cs hr =>
      obtain ⟨xs', st', I', hk', h1, h2, h3, h4⟩ := h.pubs hr hk
      exact ⟨_, st', I', hk', h1, h2, .agg _ _ h3, h4⟩
  · cases hr with
    | tuple _ cs hr =>
      obtain ⟨xs', st', I', hk', h1, h2, h3, h4⟩ := h.pubs hr hk
      exact ⟨_, st', I', hk', h1, h2, .tuple _ _ h3, h4⟩
  · exact h.pub1 hr hk

/-! ### Loads -/

theorem run_isAgg {P : Program} {t : TypeId} {b : Bool} (h : isAggT P t = some b) (w : World) : (isAgg t).run P w = .ok b w := by
  unfold isAggT at h
  unfold isAgg
  cases hu : P.underlying t with
  | none => rw [hu] at h; simp at h
  | some d =>
    rw [hu] at h
    cases hi : P.info? t with
    | none => rw [hi] at h; cases d <;> simp at h
    | some i =>
      rw [hi] at h
      simp only [Sem.run_bind, run_underlying hu, Result.andThen_ok]
      cases d <;> simp_all

theorem run_sizeOf {P : Program} {t : TypeId} {i : TypeInfo} (h : P.info? t = some i) (w : World) : (sizeOf t).run P w = .ok i.size w := by
  simp [sizeOf, typeInfo, h]

theorem cellsOf_eq {P : Program} {t : TypeId} {i : TypeInfo} (h : P.info? t = some i) : P.cellsOf t = i.size := by simp [Program.cellsOf, h]

theorem isAggT_info {P : Program} {t : TypeId} {b : Bool} (h : isAggT P t = some b) : ∃ i, P.info? t = some i := by
  unfold isAggT at h
  cases hi : P.info? t with
  | none => rw [hi] at h; cases hu : P.underlying t with
    | none => rw [hu] at h; simp at h
    | some d => rw [hu] at h; cases d <;> simp at h
  | some i => exact ⟨i, rfl⟩

/-- A load out of cells that are known. -/
theorem run_ld {P : Program} {t : TypeId} {cells : List AV} {x : AV} (hld : ld P t cells = some x) {r off : Nat}
    (hc : ∀ (j : Nat) (z : AV), cells[j]? = some z → ∃ y, w.cell? ⟨r, off + j, none⟩ = some y ∧ R P I w (.val z y)) :
    ∃ y, (Instr.loadAt t (.pointer (some ⟨r, off, none⟩))).run P w = .ok y w ∧ R P I w (.val x y) := by
  unfold ld at hld
  cases hA : isAggT P t with
  | none => rw [hA] at hld; cases hld
  | some b =>
    rw [hA] at hld
    obtain ⟨i, hi⟩ := isAggT_info hA
    cases b with
    | true =>
      simp only at hld
      split at hld
      · rename_i hle
        simp only [Option.some.injEq] at hld
        subst hld
        have hex : ∀ n, n ≤ cells.length → ∃ ys : List Value, ys.length = n ∧ (∀ (j : Nat) (v : Value), ys[j]? = some v → w.cell? ⟨r, off + j, none⟩ = some v) ∧ R P I w (.vals (cells.take n) ys) := by
          intro n
          induction n with
          | zero => exact fun _ => ⟨[], rfl, by simp, by simpa using .vnil⟩
          | succ n ih =>
            intro hn
            obtain ⟨ys, h1, h2, h3⟩ := ih (by omega)
            obtain ⟨y, h4, h5⟩ := hc n cells[n] (by rw [List.getElem?_eq_getElem (by omega)])
            refine ⟨ys ++ [y], by simp [h1], fun j v hv => ?_, ?_⟩
            · by_cases hj : j < n
              · rw [List.getElem?_append_left (by omega)] at hv
                exact h2 j v hv
              · have hlt : j < (ys ++ [y]).length := (List.getElem?_eq_some_iff.1 hv).1
                simp only [List.length_append, List.length_cons, List.length_nil, h1] at hlt
                obtain rfl : j = n := by omega
                rw [List.getElem?_append_right (by omega), h1] at hv
                simp at hv
                subst hv
                exact h4
            · rw [List.take_succ_eq_append_getElem (by omega)]
              exact h3.vals_append (.vcons _ _ _ _ h5 .vnil)
        obtain ⟨ys, h1, h2, h3⟩ := hex _ hle
        refine ⟨.agg ys.toArray, ?_, .agg _ _ (by simpa using h3)⟩
        have hrun := run_loadCells_list (P := P) (w := w) ⟨r, off, none⟩ ys (fun j v hv => by
          have := h2 j v hv
          have e : (⟨r, off, none⟩ : Addr).add j = ⟨r, off + j, none⟩ := by unfold Addr.add; split <;> simp_all
          rw [e]; exact this)
        rw [h1, cellsOf_eq hi] at hrun
        simp [Instr.loadAt, Instr.sureAddr, loadVar, run_isAgg hA, run_sizeOf hi, hrun]
      · cases hld
    | false =>
      simp only at hld
      obtain ⟨y, h1, h2⟩ := hc 0 x (by rw [← hld]; cases cells <;> rfl)
      refine ⟨y, ?_, h2⟩
      simp only [Nat.add_zero] at h1
      simp [Instr.loadAt, Instr.sureAddr, loadVar, run_isAgg hA, h1]

/-- The cells of an element of an object. -/
theorem ObjR.cellsAt {P : Program} {r : Nat} {ob : Obj} (h : ObjR P I w r ob) {i : Nat} {x : AV} (hx : ob.xs[i]? = some x) (k : Nat) :
    ∀ (j : Nat) (z : AV), (x.cells.drop k)[j]? = some z → ∃ y, w.cell? ⟨r, i * P.cellsOf ob.elem + k + j, none⟩ = some y ∧ R P I w (.val z y) := by
  intro j z hz
  rw [List.getElem?_drop] at hz
  obtain ⟨c, hc, hl, hg⟩ := h.ex
  have hlt : k + j < x.cells.length := (List.getElem?_eq_some_iff.1 hz).1
  rw [h.uni x (List.mem_of_getElem? hx)] at hlt
  obtain ⟨y, hy, hr⟩ := hg (i * P.cellsOf ob.elem + (k + j)) z (by rw [flat_get h.uni _ _ hlt, hx]; exact hz)
  exact ⟨y, by rw [cell_row hc, Nat.add_assoc]; exact hy, hr⟩

theorem R.ptr_inv {P : Program} {k : Option Nat} {r i o : Nat} {y : Value} {c : Array Value} {e : TypeId} {z : Nat × Nat} (h : R P I w (.val (.ptr k r i o) y)) (hc : w.heap[r]? = some (.cells c e z)) :
    y = .pointer (some ⟨r, i * P.cellsOf e + o, none⟩) := by
  cases h with
  | ptr _ _ _ _ off e' c' z' h1 h2 =>
    rw [hc] at h1
    simp only [Option.some.injEq, Obj.cells.injEq] at h1
    obtain ⟨rfl, rfl, rfl⟩ := h1
    rw [h2]

theorem R.sub_inv {P : Program} {k : Option Nat} {r o n : Nat} {y : Value} {c : Array Value} {e : TypeId} {z : Nat × Nat} (h : R P I w (.val (.sub k r o n) y)) (hc : w.heap[r]? = some (.cells c e z)) :
    ∃ cap, y = .slice (some ⟨r, o * P.cellsOf e, none⟩) n cap ∧ n ≤ cap := by
  cases h with
  | sub _ _ _ _ cap e' c' z' h1 h2 =>
    rw [hc] at h1
    simp only [Option.some.injEq, Obj.cells.injEq] at h1
    obtain ⟨rfl, rfl, rfl⟩ := h1
    exact ⟨cap, rfl, h2⟩

theorem R.vec_inv {P : Program} {k : Option Nat} {r n : Nat} {y : Value} {c : Array Value} {e : TypeId} {z : Nat × Nat} (h : R P I w (.val (.vec k r n) y)) (hc : w.heap[r]? = some (.cells c e z)) :
    ∃ cap, y = .slice (some ⟨r, 0, none⟩) n cap ∧ c.size = cap * P.cellsOf e ∧ n ≤ cap := by
  cases h with
  | vec _ _ _ cap e' c' z' h1 h2 h3 =>
    rw [hc] at h1
    simp only [Option.some.injEq, Obj.cells.injEq] at h1
    obtain ⟨rfl, rfl, rfl⟩ := h1
    exact ⟨cap, rfl, h2, h3⟩

end
end Go.Am
