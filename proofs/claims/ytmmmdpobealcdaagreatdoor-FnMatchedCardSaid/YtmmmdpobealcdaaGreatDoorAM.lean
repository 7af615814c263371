/- Maps that are made, looked into and written; pointers compared. -/
import Derived.Test.YtmmmdpobealcdaaGreatDoorA8
import Derived.LaidEqlPtr
import Derived.MapKept
set_option linter.unusedVariables false
set_option linter.unusedSimpArgs false
namespace Go.Am
open Go

/-- Two pointers to whole objects, both of them there. -/
def ptrEqK (P : Program) (st : St) (t : TypeId) (x y : AV) (K : Bool → Prop) : Prop :=
  match x, y with
  | .ptr none r i o, .ptr none r' i' o' => (∃ e, P.underlying t = some (.pointer e) ∧ (P.info? e).isSome = true ∧ 0 < P.cellsOf e) ∧ look st none r fun _ => look st none r' fun _ =>
      (r = r' ∧ (i = i' ∧ o = o') ∧ K true) ∨ (r ≠ r' ∧ K false)
  | _, _ => False

def keyEqK (P : Program) (st : St) (t : TypeId) (x y : AV) (K : Bool → Prop) : Prop :=
  match x, y with
  | .v (.int k a), .v (.int k' b) => ((∃ d, P.underlying t = some (.int d)) ∧ k = k') ∧ K (decide (a = b))
  | x, y => ptrEqK P st t x y K

def findK (P : Program) (st : St) (t : TypeId) (x : AV) : List (AV × AV) → Nat → (Option Nat → Prop) → Prop
  | [], _, K => K none
  | e :: es, i, K => keyEqK P st t x e.1 fun b => match b with | true => K (some i) | false => findK P st t x es (i + 1) K

def mapT (P : Program) (t : TypeId) : Option (TypeId × TypeId) :=
  match P.underlying t with
  | some (.map k e) => some (k, e)
  | _ => none

/-- Keys are whole numbers or pointers. -/
def keyT (P : Program) (t : TypeId) : Prop := (∃ d, P.underlying t = some (.int d)) ∨ ∃ e, P.underlying t = some (.pointer e)

def lookM (st : St) (r : Nat) (K : Obj → List (AV × AV) → Prop) : Prop :=
  match st.H r with
  | some ob => match ob.map with
    | some es => K ob es
    | none => False
  | none => False

def keyOk (P : Program) (st : St) (t : TypeId) (x : AV) (K : Prop) : Prop :=
  match x with
  | .v (.int _ _) => (∃ d, P.underlying t = some (.int d)) ∧ K
  | .ptr none r _ _ => (∃ e, P.underlying t = some (.pointer e)) ∧ K
  | _ => False

def makeMapK (P : Program) (st : St) (t : TypeId) (res : Option Operand) (K : AV → St → Prop) : Prop :=
  res = none ∧ ∀ r, st.H r = none → K (.mp none r) { st with H := upd st.H r (some { elem := t, xs := [], map := some [] }) }

def lookupK (P : Program) (st : St) (t : TypeId) (x ix : Operand) (ok : Bool) (K : AV → St → Prop) : Prop :=
  match mapT P t, av st x, av st ix with
  | some (kt, et), some (.mp none r), some z => keyOk P st kt z (lookM st r fun _ es => findK P st kt z es 0 fun j => match j with
      | some j => match es[j]? with
        | some e => K (if ok then .tuple [e.2, .v (.bool true)] else e.2) st
        | none => False
      | none => match zeroAV P et with
        | some u => K (if ok then .tuple [u, .v (.bool false)] else u) st
        | none => False)
  | _, _, _ => False

def mapUpdateK (P : Program) (st : St) (t : TypeId) (x ix y : Operand) (K : AV → St → Prop) : Prop :=
  match mapT P t, av st x, av st ix, av st y with
  | some (kt, _), some (.mp none r), some z, some u => keyOk P st kt z (lookM st r fun ob es => findK P st kt z es 0 fun j => match j with
      | some j => K (.v undef) { st with H := upd st.H r (some { ob with map := some (es.set j (z, u)) }) }
      | none => K (.v undef) { st with H := upd st.H r (some { ob with map := some (es ++ [(z, u)]) }) })
  | _, _, _, _ => False

section
variable {C : Ctx} {I I' : Nat → Nat → Prop} {st : St} {a : Act} {w w' : World}

theorem ptrEqK_sound (h : Rl C I st a w) {t : TypeId} {x y : AV} {u v : Value} {K : Bool → Prop} (hx : R C.P I w (.val x u)) (hy : R C.P I w (.val y v)) (hk : ptrEqK C.P st t x y K) :
    ∃ b, K b ∧ (∀ d, (Op.equalIn (d + 1) t u v).run C.P w = .ok b w) ∧ (∃ p q, u = .pointer (some p) ∧ v = .pointer (some q) ∧ (b = true → p = q)) := by
  unfold ptrEqK at hk
  split at hk
  · rename_i r i o r' i' o'
    obtain ⟨⟨e, he, hi, hp⟩, hk⟩ := hk
    obtain ⟨ti, hti⟩ := Option.isSome_iff_exists.1 hi
    obtain ⟨ob, hk, hR, _, _⟩ := h.look hk
    obtain ⟨ob', hk, hR', _, _⟩ := h.look hk
    obtain ⟨c, hc, _⟩ := hR.ex
    obtain ⟨c', hc', _⟩ := hR'.ex
    have hu := hx.ptr_inv hc
    have hv := hy.ptr_inv hc'
    subst hu; subst hv
    rcases hk with ⟨rfl, ⟨rfl, rfl⟩, hK⟩ | ⟨hne, hK⟩
    · rw [hc] at hc'
      simp only [Option.some.injEq, Obj.cells.injEq, and_true] at hc'
      obtain ⟨rfl, he'⟩ := hc'
      refine ⟨true, hK, fun d => ?_, _, _, rfl, by rw [he'], fun _ => rfl⟩
      rw [he']
      simp [Op.equalIn, run_underlying he, sizeOf, typeInfo, hti, run_sameAddr_same]
    · refine ⟨false, hK, fun d => ?_, _, _, rfl, rfl, fun e => by cases e⟩
      have hsz : ti.size ≠ 0 := by rw [cellsOf_eq hti] at hp; omega
      have := run_sameAddr_other (P := C.P) w (a := ⟨r, i * C.P.cellsOf ob.elem + o, none⟩) (b := ⟨r', i' * C.P.cellsOf ob'.elem + o', none⟩) (by simp [hne]) hc hc'
      simp [Op.equalIn, run_underlying he, sizeOf, typeInfo, hti, hsz, this]
  · exact hk.elim

theorem keyEqK_sound (h : Rl C I st a w) {t : TypeId} {x y : AV} {u v : Value} {K : Bool → Prop} (hx : R C.P I w (.val x u)) (hy : R C.P I w (.val y v)) (hk : keyEqK C.P st t x y K) :
    ∃ b, K b ∧ (∀ d, (Op.equalIn (d + 1) t u v).run C.P w = .ok b w) ∧ (b = true → u = v) ∧ (∀ d, C.P.underlying t = some (.int d) → Instr.sameNow (.int d) u v = some b) := by
  unfold keyEqK at hk
  split at hk
  · rename_i k n k' m
    obtain ⟨⟨⟨d, hd⟩, rfl⟩, hK⟩ := hk
    cases hx; cases hy
    refine ⟨_, hK, fun d' => by simp [Op.equalIn, run_underlying hd]; rfl, fun e => by simp at e; rw [e], fun d' _ => by simp [Instr.sameNow]; rfl⟩
  · obtain ⟨b, h1, h2, p, q, h3, h4, h5⟩ := ptrEqK_sound h hx hy hk
    refine ⟨b, h1, h2, fun e => by rw [h3, h4, h5 e], fun d hd => ?_⟩
    subst h3; subst h4
    have := h2 0
    simp only [ptrEqK] at hk
    split at hk
    · obtain ⟨⟨e, he, _⟩, _⟩ := hk
      rw [hd] at he; cases he
    · exact hk.elim

/-- A row of entries. -/
inductive Es (P : Program) (I : Nat → Nat → Prop) (w : World) : List (AV × AV) → List MapEntry → Prop
  | nil : Es P I w [] []
  | cons (x : AV × AV) (m : MapEntry) (xs : List (AV × AV)) (ms : List MapEntry) : R P I w (.val x.1 m.key) → R P I w (.val x.2 m.val) → Es P I w xs ms → Es P I w (x :: xs) (m :: ms)

/-- All entries are older than the clock. -/
def Born (ms : Array MapEntry) (clock : Nat) : Prop := ∀ m ∈ ms.toList, m.born < clock

theorem MapR.es {P : Program} {r : Nat} {es : List (AV × AV)} (h : MapR P I w r es) : ∃ ms clock, w.heap[r]? = some (.map ms clock) ∧ Es P I w es ms.toList ∧ Born ms clock := by
  obtain ⟨ms, clock, h1, h2, h3, h4⟩ := h.ex
  refine ⟨ms, clock, h1, ?_, h4⟩
  have key : ∀ (es : List (AV × AV)) (ms : List MapEntry), ms.length = es.length → (∀ (j : Nat) (x : AV × AV), es[j]? = some x → ∃ m, ms[j]? = some m ∧ R P I w (.val x.1 m.key) ∧ R P I w (.val x.2 m.val)) → Es P I w es ms := by
    intro es
    induction es with
    | nil => intro ms hl _; cases ms with
      | nil => exact .nil
      | cons m ms => simp at hl
    | cons x es ih =>
      intro ms hl hg
      cases ms with
      | nil => simp at hl
      | cons m ms =>
        obtain ⟨m', hm, hk, hv⟩ := hg 0 x rfl
        simp at hm; subst hm
        exact .cons _ _ _ _ hk hv (ih ms (by simpa using hl) fun j y hy => by simpa using hg (j + 1) y (by simpa using hy))
  exact key es ms.toList (by simpa using h2) (fun j x hx => by simpa using h3 j x hx)

theorem Es.of {P : Program} {r : Nat} {es : List (AV × AV)} {ms : Array MapEntry} {clock : Nat} (hb : w.heap[r]? = some (.map ms clock)) (h : Es P I w es ms.toList) (hbn : Born ms clock) : MapR P I w r es := by
  have key : ∀ {es : List (AV × AV)} {ms : List MapEntry}, Es P I w es ms → ms.length = es.length ∧ ∀ (j : Nat) (x : AV × AV), es[j]? = some x → ∃ m, ms[j]? = some m ∧ R P I w (.val x.1 m.key) ∧ R P I w (.val x.2 m.val) := by
    intro es ms h
    induction h with
    | nil => exact ⟨rfl, fun j x hx => by simp at hx⟩
    | cons x m xs ms h1 h2 _ ih =>
      refine ⟨by simp [ih.1], fun j y hy => ?_⟩
      cases j with
      | zero => simp at hy; subst hy; exact ⟨m, rfl, h1, h2⟩
      | succ j => simpa using ih.2 j y (by simpa using hy)
  obtain ⟨h1, h2⟩ := key h
  exact ⟨ms, clock, hb, by simpa using h1, fun j x hx => by simpa using h2 j x hx, hbn⟩

theorem Es.mono {P : Program} {es : List (AV × AV)} {ms : List MapEntry} (h : Es P I w es ms) (hI : ∀ r o, I r o → I' r o) (hc : ∀ r o, I r o → w'.cell? ⟨r, o, none⟩ = w.cell? ⟨r, o, none⟩) (hs : Shapes w w') : Es P I' w' es ms := by
  induction h with
  | nil => exact .nil
  | cons x m xs ms h1 h2 _ ih => exact .cons _ _ _ _ (h1.mono hI hc hs) (h2.mono hI hc hs) ih

theorem Es.get {P : Program} {es : List (AV × AV)} {ms : List MapEntry} (h : Es P I w es ms) {j : Nat} {x : AV × AV} (hx : es[j]? = some x) : ∃ m, ms[j]? = some m ∧ R P I w (.val x.1 m.key) ∧ R P I w (.val x.2 m.val) := by
  induction h generalizing j with
  | nil => simp at hx
  | cons y m xs ms h1 h2 _ ih =>
    cases j with
    | zero => simp at hx; subst hx; exact ⟨m, rfl, h1, h2⟩
    | succ j => simpa using ih (by simpa using hx)

theorem Es.snoc {P : Program} {es : List (AV × AV)} {ms : List MapEntry} (h : Es P I w es ms) {x : AV × AV} {m : MapEntry} (h1 : R P I w (.val x.1 m.key)) (h2 : R P I w (.val x.2 m.val)) : Es P I w (es ++ [x]) (ms ++ [m]) := by
  induction h with
  | nil => exact .cons _ _ _ _ h1 h2 .nil
  | cons y n xs ms h3 h4 _ ih => exact .cons _ _ _ _ h3 h4 ih

theorem Es.set {P : Program} {es : List (AV × AV)} {ms : List MapEntry} (h : Es P I w es ms) (j : Nat) {x : AV × AV} {f : MapEntry → MapEntry} (h1 : ∀ m, R P I w (.val x.1 (f m).key)) (h2 : ∀ m, R P I w (.val x.2 (f m).val)) : Es P I w (es.set j x) (ms.modify j f) := by
  induction h generalizing j with
  | nil => cases j <;> exact .nil
  | cons y n xs ms h3 h4 h5 ih =>
    cases j with
    | zero => exact .cons _ _ _ _ (h1 n) (h2 n) h5
    | succ j => exact .cons _ _ _ _ h3 h4 (ih j)

theorem findAsking_sound (h : Rl C I st a w) {t : TypeId} {x : AV} {u : Value} (hx : R C.P I w (.val x u)) {es : List (AV × AV)} {ms : List MapEntry} (he : Es C.P I w es ms) :
    ∀ (i : Nat) {K : Option Nat → Prop}, findK C.P st t x es i K → ∃ j : Option Nat, K j ∧ (match j with | none => (Instr.findAsking t u ms i).run C.P w = .ok none w | some j => ∃ m, i ≤ j ∧ ms[j - i]? = some m ∧ m.key = u ∧ (Instr.findAsking t u ms i).run C.P w = .ok (some (j, m.val)) w) := by
  induction he with
  | nil => intro i K hk; exact ⟨none, hk, by simp [Instr.findAsking]⟩
  | cons y m xs ms h1 h2 _ ih =>
    intro i K hk
    unfold findK at hk
    obtain ⟨b, hb, heq, hbt, _⟩ := keyEqK_sound h hx h1 hk
    have hrun : (Op.equal t u m.key).run C.P w = .ok b w := by
      simp only [Op.equal, Op.maxDepth]
      exact heq 9999
    cases b with
    | true => exact ⟨some i, hb, m, Nat.le_refl _, by simp, (hbt rfl).symm, by simp [Instr.findAsking, hrun]⟩
    | false =>
      obtain ⟨j, hj, hm⟩ := ih (i + 1) hb
      refine ⟨j, hj, ?_⟩
      cases j with
      | none => simp only at hm ⊢; simp [Instr.findAsking, hrun, hm]
      | some j =>
        obtain ⟨m', h3, h4, h5, h6⟩ := hm
        refine ⟨m', by omega, ?_, h5, by simp [Instr.findAsking, hrun, h6]⟩
        rw [show j - i = (j - (i + 1)) + 1 by omega]; simpa using h4

theorem findNow_sound (h : Rl C I st a w) {t : TypeId} {d : IntKind} (hd : C.P.underlying t = some (.int d)) {x : AV} {u : Value} (hx : R C.P I w (.val x u)) {es : List (AV × AV)} {ms : List MapEntry} (he : Es C.P I w es ms) :
    ∀ (i : Nat) {K : Option Nat → Prop}, findK C.P st t x es i K → ∃ j : Option Nat, K j ∧ (match j with | none => Instr.findNow (.int d) u ms i = some none | some j => ∃ m, i ≤ j ∧ ms[j - i]? = some m ∧ m.key = u ∧ Instr.findNow (.int d) u ms i = some (some (j, m.val))) := by
  induction he with
  | nil => intro i K hk; exact ⟨none, hk, by simp [Instr.findNow]⟩
  | cons y m xs ms h1 h2 _ ih =>
    intro i K hk
    unfold findK at hk
    obtain ⟨b, hb, _, hbt, hsn⟩ := keyEqK_sound h hx h1 hk
    have hrun := hsn d hd
    cases b with
    | true => exact ⟨some i, hb, m, Nat.le_refl _, by simp, (hbt rfl).symm, by simp [Instr.findNow, hrun]⟩
    | false =>
      obtain ⟨j, hj, hm⟩ := ih (i + 1) hb
      refine ⟨j, hj, ?_⟩
      cases j with
      | none => simp only at hm ⊢; simp [Instr.findNow, hrun, hm]
      | some j =>
        obtain ⟨m', h3, h4, h5, h6⟩ := hm
        refine ⟨m', by omega, ?_, h5, by simp [Instr.findNow, hrun, h6]⟩
        rw [show j - i = (j - (i + 1)) + 1 by omega]; simpa using h4

theorem findNow_ptr (p : Option Addr) (e : TypeId) (ms : List MapEntry) : Instr.findNow (.pointer e) (.pointer p) ms 0 = some none ∧ ms = [] ∨ Instr.findNow (.pointer e) (.pointer p) ms 0 = none := by
  cases ms with
  | nil => exact .inl ⟨rfl, rfl⟩
  | cons m ms => exact .inr (by simp [Instr.findNow, Instr.sameNow])

/-- What the search tells, and that the key may be asked. -/
theorem findK_sound (h : Rl C I st a w) {t : TypeId} {x : AV} {u : Value} (hx : R C.P I w (.val x u)) {es : List (AV × AV)} {ms : List MapEntry} (he : Es C.P I w es ms) {K : Option Nat → Prop} {Q : Prop} (hok : keyOk C.P st t x Q) (hk : Q → findK C.P st t x es 0 K) :
    Q ∧ (∀ e n, (Instr.checkKey e (n + 1) t u).run C.P w = .ok () w) ∧ (Instr.sameBits 10000 u u = true) ∧
    ∃ j : Option Nat, K j ∧ (match j with | none => (Instr.findKey t u ms).run C.P w = .ok none w | some j => ∃ m, ms[j]? = some m ∧ m.key = u ∧ (Instr.findKey t u ms).run C.P w = .ok (some (j, m.val)) w) := by
  unfold keyOk at hok
  split at hok
  · rename_i k n
    obtain ⟨⟨d, hd⟩, hq⟩ := hok
    cases hx
    refine ⟨hq, fun e n => by unfold Instr.checkKey; simp [run_underlying hd], by simp [Instr.sameBits], ?_⟩
    obtain ⟨j, hj, hm⟩ := findNow_sound h hd (.v _) he 0 (hk hq)
    refine ⟨j, hj, ?_⟩
    cases j with
    | none => simp only at hm ⊢; simp [Instr.findKey, run_underlying hd, hm]
    | some j =>
      obtain ⟨m, _, h2, h3, h4⟩ := hm
      exact ⟨m, by simpa using h2, h3, by simp [Instr.findKey, run_underlying hd, h4]⟩
  · rename_i r i o
    obtain ⟨⟨e, hd⟩, hq⟩ := hok
    obtain ⟨j, hj, hm⟩ := findAsking_sound h hx he 0 (hk hq)
    cases hx with
    | ptr _ _ _ _ off et c z h1 h2 =>
      refine ⟨hq, fun e n => by unfold Instr.checkKey; simp [run_underlying hd], by simp [Instr.sameBits], j, hj, ?_⟩
      rcases findNow_ptr (some ⟨r, off, none⟩) e ms with ⟨h3, h4⟩ | h3
      · subst h4
        cases j with
        | none => simp [Instr.findKey, run_underlying hd, h3]
        | some j => obtain ⟨m, _, h2, _⟩ := hm; simp at h2
      · cases j with
        | none => simp only at hm ⊢; simp [Instr.findKey, run_underlying hd, h3, hm]
        | some j =>
          obtain ⟨m, _, h2, h4, h5⟩ := hm
          exact ⟨m, by simpa using h2, h4, by simp [Instr.findKey, run_underlying hd, h3, h5]⟩
  · exact hok.elim

theorem Rl.lookM (h : Rl C I st a w) {r : Nat} {K : Obj → List (AV × AV) → Prop} (hl : lookM st r K) : ∃ ob es ms clock, K ob es ∧ st.H r = some ob ∧ ob.map = some es ∧ w.heap[r]? = some (.map ms clock) ∧ Es C.P I w es ms.toList ∧ Born ms clock := by
  unfold Go.Am.lookM at hl
  cases hq : st.H r with
  | none => rw [hq] at hl; exact hl.elim
  | some ob =>
    rw [hq] at hl
    simp only at hl
    cases hm : ob.map with
    | none => rw [hm] at hl; exact hl.elim
    | some es =>
      rw [hm] at hl
      have := (h.mH r ob hq).1
      unfold AnyR at this
      rw [hm] at this
      obtain ⟨ms, clock, h1, h2, h3⟩ := MapR.es this
      exact ⟨ob, es, ms, clock, hl, rfl, hm, h1, h2, h3⟩

theorem makeMapK_sound (h : Rl C I st a w) {t : TypeId} {res : Option Operand} {K : AV → St → Prop} (hk : makeMapK C.P st t res K) :
    Comes1 C I st a w (do pure (.value (← Instr.makeMap t (res.map a.eval)))) K := by
  obtain ⟨rfl, hk⟩ := hk
  have h' := h.alloc (.map #[] 0)
  refine .value (hk w.heap.size h.newH) (y := .map (some w.heap.size)) (w' := w.alloc (.map #[] 0)) (by simp [Instr.makeMap]) (I' := I) ?_ (.mp _ _) rfl
  exact {
    df := h'.df, sz := h'.sz, tm := h'.tm, inj := h'.inj, rd := h'.rd, i1 := h'.i1, hs := h'.hs, sh := h'.sh
    mL := fun k r ob hr => by
      obtain ⟨h1, h2, h3, h4⟩ := h'.mL k r ob hr
      exact ⟨h1, by simp only [upd_ne _ _ _ _ (h.newL k r ob hr)]; exact h2, h3, h4⟩
    mH := fun r ob hr => by
      by_cases hr' : r = w.heap.size
      · subst hr'
        simp only [upd_same, Option.some.injEq] at hr
        subst hr
        refine ⟨?_, fun o hi => absurd (h.rd.lt hi) (Nat.lt_irrefl _)⟩
        unfold AnyR
        exact Es.of (ms := #[]) (clock := 0) push_new .nil (fun m hm => by simp at hm)
      · simp only [upd_ne _ _ _ _ hr'] at hr
        exact h'.mH r ob hr
    i2 := fun b o hi => by
      rcases h'.i2 b o hi with h1 | h1 | ⟨h1, h2⟩
      · exact .inl h1
      · exact .inr (.inl h1)
      · exact .inr (.inr ⟨h1, by simp only [upd_ne _ _ _ _ (Nat.ne_of_lt (h.rd.lt hi))]; exact h2⟩)
    fr := fun b hb h0 => by
      obtain ⟨h1, h2⟩ := h'.fr b hb h0
      exact ⟨by simp only [upd_ne _ _ _ _ (Nat.ne_of_lt (Nat.lt_of_lt_of_le hb h.hs))]; exact h1, h2⟩ }

theorem mapT_spec {P : Program} {t kt et : TypeId} (h : mapT P t = some (kt, et)) : P.underlying t = some (.map kt et) := by
  unfold mapT at h
  split at h
  · rename_i hu
    simp only [Option.some.injEq, Prod.mk.injEq] at h
    obtain ⟨rfl, rfl⟩ := h
    exact hu
  · cases h

theorem keyOk_mono {P : Program} {t : TypeId} {x : AV} {Q Q' : Prop} (h : keyOk P st t x Q) (hq : Q → Q') : keyOk P st t x Q' := by
  unfold keyOk at h ⊢
  split at h
  · exact ⟨h.1, hq h.2⟩
  · exact ⟨h.1, hq h.2⟩
  · exact h.elim
theorem keyOk_get {P : Program} {t : TypeId} {x : AV} {Q : Prop} (h : keyOk P st t x Q) : Q := by
  unfold keyOk at h
  split at h
  · exact h.2
  · exact h.2
  · exact h.elim

theorem lookupK_sound (h : Rl C I st a w) {t : TypeId} {x ix : Operand} {ok : Bool} {K : AV → St → Prop} (hk : lookupK C.P st t x ix ok K) :
    Comes1 C I st a w (do pure (.value (← Instr.lookup t (a.eval x) (a.eval ix) ok))) K := by
  unfold lookupK at hk
  split at hk
  · rename_i kt et r z ht hx hix
    have hu := mapT_spec ht
    obtain ⟨ob, es, ms, clock, hK, _, _, hb, hes, _⟩ := h.lookM (keyOk_get hk)
    have hv := h.av hx
    have hz := h.av hix
    generalize a.eval x = xv at hv ⊢
    generalize a.eval ix = zv at hz ⊢
    cases hv
    obtain ⟨_, hck, _, j, hj, hm⟩ := findK_sound h hz hes (Q := True) (keyOk_mono hk fun _ => trivial) (fun _ => hK)
    have hck' := hck ms.isEmpty 9999
    cases j with
    | some j =>
      obtain ⟨m, hmj, _, hrun⟩ := hm
      simp only at hj
      split at hj
      · rename_i e he
        obtain ⟨m', hm', _, hre⟩ := hes.get he
        rw [hmj] at hm'
        obtain rfl : m = m' := by simpa using hm'
        have hl : (Instr.lookup t (.map (some r)) zv ok).run C.P w = .ok (if ok then .tuple #[m.val, .bool true] else m.val) w := by
          simp [Instr.lookup, run_underlying hu, MapKept.run_getObj_map hb, hck', hrun]
        refine .value hj (by simp only [Sem.run_bind, hl]; rfl) h ?_ rfl
        cases ok with
        | true => exact .tuple _ _ (.vcons _ _ _ _ hre (.vcons _ _ _ _ (.v _) .vnil))
        | false => exact hre
      · exact hj.elim
    | none =>
      simp only at hm
      have hj' : (match zeroAV C.P et with | some u => K (if ok = true then AV.tuple [u, AV.v (Value.bool false)] else u) st | none => False) := hj
      clear hj
      split at hj'
      · rename_i u hzu
        obtain ⟨ti, y, hti, hty, rfl⟩ := zeroAV_info hzu
        have hl : (Instr.lookup t (.map (some r)) zv ok).run C.P w = .ok (if ok then .tuple #[y, .bool false] else y) w := by
          simp [Instr.lookup, run_underlying hu, MapKept.run_getObj_map hb, hck', hm, zeroValue, typeInfo, hti, hty]
        refine .value hj' (by simp only [Sem.run_bind, hl]; rfl) h ?_ rfl
        cases ok with
        | true => exact .tuple _ _ (.vcons _ _ _ _ (R.ofConst _ _ _ y) (.vcons _ _ _ _ (.v _) .vnil))
        | false => exact R.ofConst _ _ _ y
      · exact hj'.elim
  · exact hk.elim

theorem mapUpdateK_sound (h : Rl C I st a w) {t : TypeId} {x ix y : Operand} {K : AV → St → Prop} (hk : mapUpdateK C.P st t x ix y K) :
    Comes1 C I st a w (do Instr.mapUpdate t (a.eval x) (a.eval ix) (a.eval y); pure .skip) K := by
  unfold mapUpdateK at hk
  split at hk
  · rename_i kt et r z u ht hx hix hy
    have hu := mapT_spec ht
    obtain ⟨ob, es, ms, clock, hK, hH, hobm, hb, hes, hbn⟩ := h.lookM (keyOk_get hk)
    have hv := h.av hx
    have hz := h.av hix
    have hyv := h.av hy
    generalize a.eval x = xv at hv ⊢
    generalize a.eval ix = zv at hz ⊢
    generalize a.eval y = yv at hyv ⊢
    cases hv
    obtain ⟨_, hck, hsb, j, hj, hm⟩ := findK_sound h hz hes (Q := True) (keyOk_mono hk fun _ => trivial) (fun _ => hK)
    have hck' := hck false 9999
    -- the world behind it
    have key : ∀ (ms' : Array MapEntry) (clock' : Nat) (es' : List (AV × AV)), (∀ w', Shapes w w' → (∀ r o, I r o → w'.cell? ⟨r, o, none⟩ = w.cell? ⟨r, o, none⟩) → Es C.P I w' es' ms'.toList) → Born ms' clock' →
        Rl C I { st with H := upd st.H r (some { ob with map := some es' }) } a { w with heap := w.heap.setIfInBounds r (.map ms' clock') } := by
      intro ms' clock' es' hes' hbn'
      obtain ⟨h1, h2⟩ := MapKept.heap_set (o' := .map ms' clock') hb
      have hsh : Shapes w { w with heap := w.heap.setIfInBounds r (.map ms' clock') } := ⟨fun b c e z hc => by
        have hne : b ≠ r := fun e' => by rw [e', hb] at hc; cases hc
        exact ⟨c, z, (h2 b hne).trans hc, rfl⟩, ⟨rfl, rfl, rfl⟩⟩
      have hcells : ∀ b o, I b o → ({ w with heap := w.heap.setIfInBounds r (.map ms' clock') } : World).cell? ⟨b, o, none⟩ = w.cell? ⟨b, o, none⟩ := fun b o hi => by
        obtain ⟨c, e, z, hc, _⟩ := h.rd b o hi
        have hne : b ≠ r := fun e' => by rw [e', hb] at hc; cases hc
        exact cell_same (h2 b hne) o
      refine h.objH hH ?_ h2 (by simp) hcells hsh
      unfold AnyR
      exact Es.of h1 (hes' _ hsh hcells) hbn'
    cases j with
    | some j =>
      obtain ⟨m, hmj, hmk, hrun⟩ := hm
      have hmj' : ms[j]? = some m := by simpa using hmj
      have hl : (Instr.mapUpdate t (.map (some r)) zv yv).run C.P w = .ok () { w with heap := w.heap.setIfInBounds r (.map (ms.modify j fun e => { e with key := zv, val := yv }) clock) } := by
        simp [Instr.mapUpdate, run_underlying hu, MapKept.run_getObj_map hb, hck', hrun, Instr.keyThatStays, hmj', hmk, hsb, MapKept.run_setObj_map _ hb]
      refine ⟨_, _, I, undef, _, hj, .inr ⟨by simp only [Sem.run_bind, hl]; rfl, rfl⟩, key _ clock _ (fun w' hs hc => ?_) ?_, .v _, rfl⟩
      rotate_left
      · intro m' hm'
        rw [Array.toList_modify] at hm'
        obtain ⟨i, hi, e⟩ := List.getElem_of_mem hm'
        rw [List.getElem_modify] at e
        have hlt : i < ms.toList.length := by simpa using hi
        have hold := hbn _ (List.getElem_mem hlt)
        split at e
        · rw [← e]; exact hold
        · rw [← e]; exact hold
      rw [Array.toList_modify]
      exact (hes.mono (fun _ _ => id) hc hs).set j (fun _ => hz.mono (fun _ _ => id) hc hs) (fun _ => hyv.mono (fun _ _ => id) hc hs)
    | none =>
      simp only at hm hj
      have hl : (Instr.mapUpdate t (.map (some r)) zv yv).run C.P w = .ok () { w with heap := w.heap.setIfInBounds r (.map (ms.push { key := zv, val := yv, born := clock }) (clock + 1)) } := by
        simp [Instr.mapUpdate, run_underlying hu, MapKept.run_getObj_map hb, hck', hm, MapKept.run_setObj_map _ hb]
      refine ⟨_, _, I, undef, _, hj, .inr ⟨by simp only [Sem.run_bind, hl]; rfl, rfl⟩, key _ (clock + 1) _ (fun w' hs hc => ?_) ?_, .v _, rfl⟩
      rotate_left
      · intro m' hm'
        rw [Array.toList_push] at hm'
        rcases List.mem_append.1 hm' with h1 | h1
        · exact Nat.lt_succ_of_lt (hbn _ h1)
        · simp at h1; subst h1; exact Nat.lt_succ_self _
      rw [Array.toList_push]
      exact (hes.mono (fun _ _ => id) hc hs).snoc (hz.mono (fun _ _ => id) hc hs) (hyv.mono (fun _ _ => id) hc hs)
  · exact hk.elim

end
end Go.Am
