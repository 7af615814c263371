/- The further operations of the computing machine are right. -/
import Derived.Test.YtmmmdpobealcdaaGreatDoorB5
set_option linter.unusedVariables false
set_option linter.unusedSimpArgs false
namespace Go.Am
open Go

section
variable {ρ : Nm} {t : T3} {L : LE} {H : HE} {nx : Nat} {st : St} {r : AV × HE × Nat}

theorem OpOk.orL {c : Clo OpF} {k k' : St → (AV → St → Prop) → Prop} (h : OpOk c k) : OpOk c (fun st K => k st K ∨ k' st K) := fun ρ t L H nx K r st hs hr => .inl (h ρ t L H nx K r st hs hr)
theorem OpOk.orR {c : Clo OpF} {k k' : St → (AV → St → Prop) → Prop} (h : OpOk c k') : OpOk c (fun st K => k st K ∨ k' st K) := fun ρ t L H nx K r st hs hr => .inr (h ρ t L H nx K r st hs hr)

theorem eqOpC_run {op : BinOp} {b : Bool} {K : AV → Ans} {Q : AV → Prop} (h : (eqOpC op).run b K = some r) (hq : ∀ c : Bool, K (.v (.bool c)) = some r → Q (.v (.bool c))) : eqOpK op b Q := by
  unfold eqOpC at h
  unfold eqOpK
  split at h
  · cases b <;> exact hq _ h
  · cases b <;> exact hq _ h
  · cases h

theorem ptrOk_run {P : Program} {t : TypeId} (h : ptrOk P t = true) : ∃ e, P.underlying t = some (.pointer e) ∧ (P.info? e).isSome = true ∧ 0 < P.cellsOf e := by
  unfold ptrOk at h
  split at h
  · rename_i e he
    simp only [Bool.and_eq_true] at h
    exact ⟨e, he, h.1, blt_lt h.2⟩
  · cases h

theorem ptrEqE_run {P : Program} (hs : RenS ρ t L H nx st) {ty : TypeId} (hp : ptrOk P ty = true) {m i o m' i' o' b b' : Nat} (hm : ρ m = some b) (hm' : ρ m' = some b') {K : Bool → Ans} {Q : Bool → Prop}
    (h : ptrEqE H m i o m' i' o' K = some r) (hq : ∀ c, K c = some r → Q c) : ptrEqK P st ty (.ptr none b i o) (.ptr none b' i' o') Q := by
  unfold ptrEqE at h
  unfold ptrEqK
  have hs0 : RenS ρ t [] H nx { st with L := fun _ => none } := { hs with L := fun k m ob h => by cases h }
  obtain ⟨ob, ob1, ho, h1, h2, h3⟩ := lookE_run hs0 hm h
  obtain ⟨ob', ob1', ho', h4, h5, h6⟩ := lookE_run hs0 hm' h1
  have h2' : st.H b = some ob1 ∧ ob1.map = none := h2
  have h5' : st.H b' = some ob1' ∧ ob1'.map = none := h5
  refine ⟨ptrOk_run hp, look_of (k := none) h2' (look_of (k := none) h5' ?_)⟩
  rcases bif_or h4 with ⟨hb, h7⟩ | ⟨hb, h7⟩
  · obtain rfl := beq_eq hb
    rw [hm] at hm'
    obtain rfl : b = b' := by simpa using hm'
    obtain ⟨hc, h8⟩ := bif_true h7
    simp only [Bool.and_eq_true] at hc
    exact .inl ⟨rfl, ⟨beq_eq hc.1, beq_eq hc.2⟩, hq _ h8⟩
  · refine .inr ⟨fun e => ?_, hq _ h7⟩
    subst e
    have h3' : aget m H = some ob := h3
    have h6' : aget m' H = some ob' := h6
    have := hs.inj m m' b (by rw [h3']; simp) (by rw [h6']; simp) hm hm'
    subst this
    rw [beq_self] at hb; cases hb

theorem ptrsC_ok (P : Program) (op : BinOp) (ty : TypeId) (x y : Operand) : OpOk (ptrsC P op ty x y) (fun st K => binK P st op ty x y K ∨ binX P st op ty x y K) := by
  intro ρ t L H nx K r st hs h
  unfold ptrsC at h
  simp only at h
  have old : (binC P op ty x y).run t L H nx K = some r → binK P st op ty x y (Post ρ nx t K r) ∨ binX P st op ty x y (Post ρ nx t K r) := fun h => .inl (binC_ok P op ty x y ρ t L H nx K r st hs h)
  cases hp : ptrOk P ty with
  | false => rw [hp] at h; exact old h
  | true =>
    rw [hp] at h
    simp only at h
    obtain ⟨z, z', h1, h2, h3⟩ := avC_run hs h
    cases h1 with
    | ptr k m b i o hm =>
      simp only at h3
      obtain ⟨u, u', k1, k2, k3⟩ := avC_run hs h3
      cases k1 with
      | ptr k' m' b' i' o' hm' =>
        cases k with
        | some k => cases k3
        | none => cases k' with
          | some k' => cases k3
          | none =>
            right
            show binX P st op ty x y _
            unfold binX
            rw [h2, k2]
            exact ptrEqE_run hs hp hm hm' k3 fun c hc => eqOpC_run hc fun d hd => hs.post (.v _) hd
      | _ => exact old k3
    | _ => exact old h3

theorem isNilS_run {x x' : AV} (hx : Ren ρ (.one x x')) {yes no : Ans} (h : isNilS x yes no = some r) : (x' = .v (.slice none 0 0) ∧ yes = some r) ∨ no = some r := by
  unfold isNilS at h
  cases hx with
  | v u =>
    cases u with
    | slice a n c =>
      cases a with
      | none =>
        simp only at h
        obtain ⟨hb, h1⟩ := bif_true h
        simp only [Bool.and_eq_true] at hb
        obtain rfl := beq_eq hb.1
        obtain rfl := beq_eq hb.2
        exact .inl ⟨rfl, h1⟩
      | some a => cases h
    | _ => exact .inr h
  | _ => exact .inr h

theorem slicesC_ok (P : Program) (op : BinOp) (ty : TypeId) {e : TypeId} (hu : P.underlying ty = some (.slice e)) (x y : Operand) : OpOk (slicesC op x y) (fun st K => binX P st op ty x y K) := by
  intro ρ t L H nx K r st hs h
  unfold slicesC at h
  show binX P st op ty x y _
  obtain ⟨z, z', h1, h2, h3⟩ := avC_run hs h
  obtain ⟨u, u', k1, k2, k3⟩ := avC_run hs h3
  have hsl : isSliceT P ty := by unfold isSliceT; rw [hu]; trivial
  rcases isNilS_run k1 k3 with ⟨rfl, k4⟩ | k4
  · unfold binX
    rw [h2, k2]
    rcases isNilS_run h1 k4 with ⟨rfl, k5⟩ | k5
    · exact ⟨hsl, eqOpC_run k5 fun d hd => hs.post (.v _) hd⟩
    · cases h1 with
      | vec k m b n hm => exact ⟨hsl, eqOpC_run k5 fun d hd => hs.post (.v _) hd⟩
      | sub k m b o n hm => exact ⟨hsl, eqOpC_run k5 fun d hd => hs.post (.v _) hd⟩
      | list s xs ys hl => cases hl with
        | nil => cases k5
        | cons a b xs ys h4 h5 => exact ⟨hsl, eqOpC_run k5 fun d hd => hs.post (.v _) hd⟩
      | _ => cases k5
  · cases k4

theorem binXC_ok (P : Program) (op : BinOp) (ty : TypeId) (x y : Operand) : OpOk (binXC P op ty x y) (fun st K => binK P st op ty x y K ∨ binX P st op ty x y K) := by
  unfold binXC
  cases hu : P.underlying ty with
  | none => exact (binC_ok P op ty x y).orL
  | some d =>
    cases d with
    | pointer e => exact ptrsC_ok P op ty x y
    | slice e => exact (slicesC_ok P op ty hu x y).orR
    | _ => exact (binC_ok P op ty x y).orL

theorem sliceXC_ok (P : Program) (ty : TypeId) (x : Operand) (lo hi mx : Option Operand) : OpOk (sliceXC P ty x lo hi mx) (fun st K => sliceK P st ty x lo hi mx K ∨ sliceX P st ty x lo hi mx K) := by
  intro ρ t L H nx K r st hs h
  unfold sliceXC at h
  cases mx with
  | some mx => cases h
  | none =>
    simp only at h
    have old : (sliceC P ty x lo hi none).run t L H nx K = some r → sliceK P st ty x lo hi none (Post ρ nx t K r) ∨ sliceX P st ty x lo hi none (Post ρ nx t K r) := fun h => .inl (sliceC_ok P ty x lo hi none ρ t L H nx K r st hs h)
    cases he : elemT P ty with
    | none => simp only [he] at h; exact old h
    | some e =>
      simp only [he] at h
      obtain ⟨z, z', h1, h2, h3⟩ := avC_run hs h
      cases h1 with
      | vec k m b n hm =>
        right
        show sliceX P st ty x lo hi none _
        unfold sliceX
        simp only at h3
        obtain ⟨l, k1, h4⟩ := optC_run hs h3
        obtain ⟨u, k2, h5⟩ := optC_run hs h4
        rw [show ((0 : Nat) : Int) = 0 from rfl] at k1
        simp only [h2, k1, k2, he]
        obtain ⟨hb, h6⟩ := bif_true h5
        simp only [Bool.and_eq_true] at hb
        have b1 := ble_le hb.1
        have b2 := ble_le hb.2
        obtain ⟨ob, ob', ho, h7, h8, _⟩ := lookE_run hs hm h6
        obtain ⟨hc, h9⟩ := bif_true h7
        refine ⟨⟨by omega, by omega, by omega⟩, look_of h8 ⟨ho.elem ▸ beq_eq hc, ?_⟩⟩
        rcases bif_or h9 with ⟨hl, g1⟩ | ⟨hl, g1⟩
        · obtain rfl := beq_eq hl
          exact .inl ⟨rfl, by simpa using hs.post (.vec k m b u hm) g1⟩
        · rcases bif_or g1 with ⟨hlu, g2⟩ | ⟨hlu, g2⟩
          · obtain rfl := beq_eq hlu
            exact .inr (.inl ⟨rfl, hs.post (.list _ _ _ .nil) g2⟩)
          · have g3 := forceN_run g2
            have n1 : l ≠ 0 := fun e => by rw [e, beq_self] at hl; cases hl
            have n2 : l ≠ u := fun e => by rw [e, beq_self] at hlu; cases hlu
            exact .inr (.inr ⟨⟨by omega, by omega⟩, by simpa using hs.post (.sub k m b l (u - l) hm) g3⟩)
      | sub k m b o n hm =>
        right
        show sliceX P st ty x lo hi none _
        unfold sliceX
        simp only at h3
        obtain ⟨l, k1, h4⟩ := optC_run hs h3
        obtain ⟨u, k2, h5⟩ := optC_run hs h4
        rw [show ((0 : Nat) : Int) = 0 from rfl] at k1
        simp only [h2, k1, k2, he]
        obtain ⟨hb, h6⟩ := bif_true h5
        simp only [Bool.and_eq_true] at hb
        have b1 := ble_le hb.1
        have b2 := ble_le hb.2
        obtain ⟨ob, ob', ho, h7, h8, _⟩ := lookE_run hs hm h6
        obtain ⟨hc, h9⟩ := bif_true h7
        refine ⟨⟨by omega, by omega, by omega⟩, look_of h8 ⟨ho.elem ▸ beq_eq hc, ?_⟩⟩
        rcases bif_or h9 with ⟨hlu, g2⟩ | ⟨hlu, g2⟩
        · obtain rfl := beq_eq hlu
          exact .inl ⟨rfl, hs.post (.list _ _ _ .nil) g2⟩
        · have g2' := forceN_run g2
          have g3 := forceN_run g2'
          have n2 : l ≠ u := fun e => by rw [e, beq_self] at hlu; cases hlu
          exact .inr ⟨by omega, by simpa using hs.post (.sub k m b (o + l) (u - l) hm) g3⟩
      | v w =>
        cases w with
        | slice a n c =>
          cases a with
          | some a => cases h3
          | none =>
            right
            show sliceX P st ty x lo hi none _
            unfold sliceX
            simp only at h3
            obtain ⟨hb, h4⟩ := bif_true h3
            simp only [Bool.and_eq_true] at hb
            obtain rfl := beq_eq hb.1
            obtain rfl := beq_eq hb.2
            obtain ⟨l, k1, h5⟩ := optC_run hs h4
            obtain ⟨u, k2, h6⟩ := optC_run hs h5
            rw [show ((0 : Nat) : Int) = 0 from rfl] at k1 k2
            simp only [h2, k1, k2, he]
            obtain ⟨hc, h7⟩ := bif_true h6
            simp only [Bool.and_eq_true] at hc
            obtain rfl := beq_eq hc.1
            obtain rfl := beq_eq hc.2
            exact ⟨⟨rfl, rfl⟩, hs.post (.v _) h7⟩
        | _ => exact old h3
      | _ => exact old h3

theorem capC_ok (P : Program) (ty : TypeId) (x : Operand) : OpOk (capC P ty x) (fun st => capK P st ty x) := by
  intro ρ t L H nx K r st hs h
  unfold capC at h
  show capK P st ty x _
  unfold capK
  cases he : (elemT P ty).isSome with
  | false => simp only [he] at h; cases h
  | true =>
    simp only [he] at h
    obtain ⟨z, z', h1, h2, h3⟩ := avC_run hs h
    rw [h2]
    rcases isNilS_run h1 h3 with ⟨rfl, h4⟩ | h4
    · exact ⟨rfl, hs.post (.v _) h4⟩
    · cases h4

theorem clearC_ok (P : Program) (ty : TypeId) (x : Operand) : OpOk (clearC P ty x) (fun st => clearK P st ty x) := by
  intro ρ t L H nx K r st hs h
  unfold clearC at h
  show clearK P st ty x _
  unfold clearK
  cases he : (elemT P ty).isSome with
  | false => simp only [he] at h; cases h
  | true =>
    simp only [he] at h
    obtain ⟨z, z', h1, h2, h3⟩ := avC_run hs h
    rw [h2]
    have key : isNilS z (K (.tuple []) L H nx) none = some r → z' = .v (.slice none 0 0) ∧ K (.tuple []) L H nx = some r := fun h => by
      rcases isNilS_run h1 h with h | h
      · exact h
      · cases h
    cases h1 with
    | list s xs ys hl => cases hl with
      | nil => exact ⟨rfl, hs.post (.tuple _ _ .nil) h3⟩
      | cons a b xs ys h4 h5 => cases h3
    | v u => obtain ⟨e, h4⟩ := key h3; rw [e]; exact ⟨rfl, hs.post (.tuple _ _ .nil) h4⟩
    | _ => obtain ⟨e, h4⟩ := key h3; cases e

theorem intLt_eq (a b : Int) : intLt a b = decide (a < b) := by
  unfold intLt
  rw [intLe_eq]
  by_cases h : b ≤ a
  · simp [h, Int.not_lt.2 h]
  · simp [h, Int.not_le.1 h]

theorem mostC_ok (mx : Bool) (x y : Operand) : OpOk (mostC mx x y) (fun st => mostK mx st x y) := by
  intro ρ t L H nx K r st hs h
  unfold mostC at h
  show mostK mx st x y _
  unfold mostK
  cases mx with
  | true =>
    simp only at h
    obtain ⟨z, z', h1, h2, h3⟩ := avC_run hs h
    obtain ⟨u, u', k1, k2, k3⟩ := avC_run hs h3
    obtain ⟨kd, n, rfl, k4⟩ := asInt_run h1 k3
    obtain ⟨kd', m, rfl, k5⟩ := asInt_run k1 k4
    rw [h2, k2]
    rw [intLt_eq] at k5
    by_cases hc : n < m
    · simp only [hc, decide_true] at k5
      simpa [hc] using hs.post (.v _) k5
    · simp only [hc, decide_false] at k5
      simpa [hc] using hs.post (.v _) k5
  | false =>
    simp only at h
    obtain ⟨z, z', h1, h2, h3⟩ := avC_run hs h
    obtain ⟨u, u', k1, k2, k3⟩ := avC_run hs h3
    obtain ⟨kd, n, rfl, k4⟩ := asInt_run h1 k3
    obtain ⟨kd', m, rfl, k5⟩ := asInt_run k1 k4
    rw [h2, k2]
    rw [intLt_eq] at k5
    by_cases hc : m < n
    · simp only [hc, decide_true] at k5
      simpa [hc] using hs.post (.v _) k5
    · simp only [hc, decide_false] at k5
      simpa [hc] using hs.post (.v _) k5

theorem isIntT_run {P : Program} {t : TypeId} (h : isIntT P t = true) : ∃ d, P.underlying t = some (.int d) := by
  unfold isIntT at h
  split at h
  · rename_i d hd; exact ⟨d, hd⟩
  · cases h

theorem growC_ok (P : Program) (hp : Bool) (key : Nat) (ty ty' : TypeId) (s x : Operand) : OpOk (growC P hp key ty ty' s x) (fun st => growK P hp key st ty ty' s x) := by
  intro ρ t L H nx K r st hs h
  unfold growC at h
  show growK P hp key st ty ty' s x _
  unfold growK
  cases he : elemT P ty with
  | none => simp only [he] at h; cases h
  | some e =>
    simp only [he] at h
    cases hz : zeroAV P e with
    | none => simp only [hz] at h; cases h
    | some z =>
      simp only [hz] at h
      cases hb : Nat.beq (lenR z.cells) (P.cellsOf e) && Nat.blt 0 (P.cellsOf e) && isIntT P ty' with
      | false => simp only [hb] at h; cases h
      | true =>
        simp only [hb] at h
        simp only [Bool.and_eq_true] at hb
        rw [lenR_eq] at hb
        obtain ⟨z1, z1', h1, h2, h3⟩ := avC_run hs h
        obtain ⟨z2, z2', k1, k2, k3⟩ := avC_run hs h3
        obtain ⟨kd, n, rfl, h4⟩ := asNat_run k1 k3
        rcases isNilS_run h1 h4 with ⟨rfl, h5⟩ | h5
        · rw [h2, k2]
          simp only [hz]
          obtain ⟨hc, h6⟩ := bif_true h5
          simp only [Bool.and_eq_true] at hc
          obtain ⟨⟨c1, c2⟩, c3⟩ := hc
          have c1' := blt_lt c1
          have c2' := ble_le c2
          have c3' := ble_le c3
          rw [repR_eq] at h6
          obtain ⟨d, hd⟩ := isIntT_run hb.2
          refine ⟨⟨beq_eq hb.1.1, blt_lt hb.1.2, by simpa using c1', by simpa using c2', by simp only [Int.ofNat_eq_natCast]; omega, by unfold intT; rw [hd]; trivial⟩, ?_⟩
          exact newE_ok hs (ob := { elem := e, xs := List.replicate n z }) (ob' := { elem := e, xs := List.replicate n z }) ⟨rfl, (Ren.zero hz).replicate n, rfl, rfl, trivial⟩ (fun _ k m b hm => .vec k m b n hm) h6
        · cases h5

theorem argsC_avs (hs : RenS ρ t L H nx st) {xs : List Operand} {K : List AV → Ans} (h : (argsC xs).run t K = some r) : ∃ zs zs', Ren ρ (.many zs zs') ∧ avsO st xs = some zs' ∧ K zs = some r := by
  induction xs generalizing K with
  | nil => exact ⟨[], [], .nil, rfl, h⟩
  | cons x xs ih =>
    unfold argsC at h
    obtain ⟨z, z', h1, h2, h3⟩ := avC_run hs h
    obtain ⟨zs, zs', k1, k2, k3⟩ := ih h3
    exact ⟨_, _, .cons _ _ _ _ h1 k1, by unfold avsO; rw [h2, k2], k3⟩

theorem closeC_ok (fn : Go.Fn) (first captured : Array Operand) : OpOk (closeC fn first captured) (fun st K => (first = #[] ∧ captured = #[] ∧ K (.v (.func fn #[] #[])) st) ∨ closeK st fn first captured K) := by
  intro ρ t L H nx K r st hs h
  unfold closeC at h
  split at h
  · rename_i h1
    have hf : first = #[] := by simpa using h1
    split at h
    · rename_i h2
      exact .inl ⟨hf, by simpa using h2, hs.post (.v _) h⟩
    · rename_i x xs h2
      split at h
      · rename_i g
        right
        have h' : (argsC (x :: xs)).run t (fun zs => K (.clo g zs) L H nx) = some r := h
        obtain ⟨zs, zs', k1, k2, k3⟩ := argsC_avs hs h'
        show closeK st _ first captured _
        unfold closeK
        rw [h2, k2]
        exact ⟨hf, hs.post (.clo g _ _ k1) k3⟩
      · cases h
  · cases h

theorem keyEqE_run {P : Program} (hs : RenS ρ t L H nx st) {ty : TypeId} {ki kp : Bool} (hki : ki = true → ∃ d, P.underlying ty = some (.int d)) (hkp : kp = true → ptrOk P ty = true) {x x' y y' : AV} (hx : Ren ρ (.one x x')) (hy : Ren ρ (.one y y')) {K : Bool → Ans} {Q : Bool → Prop}
    (h : keyEqE ki kp H x y K = some r) (hq : ∀ c, K c = some r → Q c) : keyEqK P st ty x' y' Q := by
  unfold keyEqE at h
  cases hx with
  | v u =>
    cases u with
    | int k a =>
      cases hy with
      | v u' =>
        cases u' with
        | int k' b =>
          simp only at h
          obtain ⟨hb, h1⟩ := bif_true h
          simp only [Bool.and_eq_true] at hb
          unfold keyEqK
          simp only
          rw [intEq_eq] at h1
          exact ⟨⟨hki hb.1, sameKind_eq hb.2⟩, hq _ h1⟩
        | _ => cases h
      | _ => cases h
    | _ => cases h
  | ptr k m b i o hm =>
    cases k with
    | some k => cases h
    | none =>
      cases hy with
      | ptr k' m' b' i' o' hm' =>
        cases k' with
        | some k' => cases h
        | none =>
          simp only at h
          obtain ⟨hb, h1⟩ := bif_true h
          unfold keyEqK
          simp only
          exact ptrEqE_run hs (hkp hb) hm hm' h1 hq
      | _ => cases h
  | _ => cases h

theorem findE_run {P : Program} (hs : RenS ρ t L H nx st) {ty : TypeId} {ki kp : Bool} (hki : ki = true → ∃ d, P.underlying ty = some (.int d)) (hkp : kp = true → ptrOk P ty = true) {x x' : AV} (hx : Ren ρ (.one x x')) {es es' : List (AV × AV)} (he : RenE ρ es es') {K : Option Nat → Ans} {Q : Option Nat → Prop}
    (h : findE ki kp H x es K = some r) (hq : ∀ c, K c = some r → Q c) : findK P st ty x' es' 0 Q := by
  unfold findE at h
  have key : ∀ {es es' : List (AV × AV)}, RenE ρ es es' → ∀ i, List.rec (motive := fun _ => Nat → Ans) (fun _ => K none) (fun e _ ih i => keyEqE ki kp H x e.1 fun b => match b with | true => K (some i) | false => ih (Nat.succ i)) es i = some r → findK P st ty x' es' i Q := by
    intro es es' he
    induction he with
    | nil => intro i h; exact hq _ h
    | cons a b xs ys h1 h2 _ ih =>
      intro i h
      unfold findK
      refine keyEqE_run hs hki hkp hx h1 h fun c hc => ?_
      cases c with
      | true => exact hq _ hc
      | false => exact ih (i + 1) hc
  exact key he 0 h

theorem keyOkE_run {P : Program} {ty : TypeId} {ki kp : Bool} (hki : ki = true → ∃ d, P.underlying ty = some (.int d)) (hkp : kp = true → ptrOk P ty = true) {x x' : AV} (hx : Ren ρ (.one x x')) {K : Ans} {Q : Prop} (h : keyOkE ki kp x K = some r) (hq : K = some r → Q) : keyOk P st ty x' Q := by
  unfold keyOkE at h
  cases hx with
  | v u =>
    cases u with
    | int k a =>
      simp only at h
      obtain ⟨hb, h1⟩ := bif_true h
      exact ⟨hki hb, hq h1⟩
    | _ => cases h
  | ptr k m b i o hm =>
    cases k with
    | some k => cases h
    | none =>
      simp only at h
      obtain ⟨hb, h1⟩ := bif_true h
      obtain ⟨e, he, _⟩ := ptrOk_run (hkp hb)
      exact ⟨⟨e, he⟩, hq h1⟩
  | _ => cases h

theorem lookME_run (hs : RenS ρ t L H nx st) {m b : Nat} (hm : ρ m = some b) {K : Obj → List (AV × AV) → Ans} {Q : Obj → List (AV × AV) → Prop} (h : lookME H m K = some r)
    (hq : ∀ ob es ob' es', RenOb ρ ob ob' → RenE ρ es es' → aget m H = some ob → ob.map = some es → ob'.map = some es' → K ob es = some r → Q ob' es') : lookM st b Q := by
  unfold lookME at h
  unfold lookM
  cases hp : aget m H with
  | none => rw [hp] at h; cases h
  | some ob =>
    rw [hp] at h
    simp only at h
    cases hmp : ob.map with
    | none => rw [hmp] at h; cases h
    | some es =>
      rw [hmp] at h
      obtain ⟨b', ob', h1, h2, h3⟩ := hs.H1 m ob hp
      rw [hm] at h1
      obtain rfl : b = b' := by simpa using h1
      obtain ⟨es', h4, h5⟩ := h2.map.some hmp
      rw [h3]
      simp only [h4]
      exact hq ob es ob' es' h2 h5 hp hmp h4 h

theorem makeMapC_ok (P : Program) (ty : TypeId) (res : Option Operand) : OpOk (makeMapC ty res) (fun st => makeMapK P st ty res) := by
  intro ρ t L H nx K r st hs h
  unfold makeMapC at h
  cases res with
  | some x => cases h
  | none =>
    refine ⟨rfl, fun b hb => ?_⟩
    have hob : RenOb ρ { elem := ty, xs := [], map := some [] } { elem := ty, xs := [], map := some [] } := ⟨rfl, .nil, rfl, rfl, RenE.nil⟩
    exact ⟨ρ.with nx b, _, _, _, _, hs.up_with b, .mp none nx b (Nm.with_self _ _ _), hs.newH hb hob, h⟩

theorem keyInt_run {P : Program} {t : TypeId} (h : keyInt P t = true) : ∃ d, P.underlying t = some (.int d) := isIntT_run h

theorem lookupC_ok (P : Program) (ty : TypeId) (x ix : Operand) (ok : Bool) : OpOk (lookupC P ty x ix ok) (fun st => lookupK P st ty x ix ok) := by
  intro ρ t L H nx K r st hs h
  unfold lookupC at h
  show lookupK P st ty x ix ok _
  unfold lookupK
  cases hmt : mapT P ty with
  | none => simp only [hmt] at h; cases h
  | some q =>
    obtain ⟨kt, et⟩ := q
    simp only [hmt] at h
    cases hz : zeroAV P et with
    | none => simp only [hz] at h; cases h
    | some z =>
      simp only [hz] at h
      obtain ⟨u, u', h1, h2, h3⟩ := avC_run hs h
      cases h1 with
      | mp k m b hm =>
        cases k with
        | some k => cases h3
        | none =>
          simp only at h3
          obtain ⟨y, y', k1, k2, k3⟩ := avC_run hs h3
          simp only [h2, k2]
          refine keyOkE_run (fun e => keyInt_run e) (fun e => e) k1 k3 fun k4 => lookME_run hs hm k4 fun ob es ob' es' _ he _ _ _ k5 => findE_run hs (fun e => keyInt_run e) (fun e => e) k1 he k5 fun j hj => ?_
          cases j with
          | some j =>
            simp only [nth_eq] at hj
            cases hx : es[j]? with
            | none => rw [hx] at hj; cases hj
            | some e =>
              rw [hx] at hj
              obtain ⟨e', he', g1, g2⟩ := he.get hx
              simp only [he']
              cases ok with
              | true => exact hs.post (.tuple _ _ (.cons _ _ _ _ g2 (.cons _ _ _ _ (.v _) .nil))) hj
              | false => exact hs.post g2 hj
          | none =>
            simp only [hz]
            cases ok with
            | true => exact hs.post (.tuple _ _ (.cons _ _ _ _ (.zero hz) (.cons _ _ _ _ (.v _) .nil))) hj
            | false => exact hs.post (.zero hz) hj
      | _ => cases h3

theorem mapUpdateC_ok (P : Program) (ty : TypeId) (x ix y : Operand) : OpOk (mapUpdateC P ty x ix y) (fun st => mapUpdateK P st ty x ix y) := by
  intro ρ t L H nx K r st hs h
  unfold mapUpdateC at h
  show mapUpdateK P st ty x ix y _
  unfold mapUpdateK
  cases hmt : mapT P ty with
  | none => simp only [hmt] at h; cases h
  | some q =>
    obtain ⟨kt, et⟩ := q
    simp only [hmt] at h
    obtain ⟨u, u', h1, h2, h3⟩ := avC_run hs h
    cases h1 with
    | mp k m b hm =>
      cases k with
      | some k => cases h3
      | none =>
        simp only at h3
        obtain ⟨z, z', k1, k2, k3⟩ := avC_run hs h3
        obtain ⟨v, v', j1, j2, j3⟩ := avC_run hs k3
        simp only [h2, k2, j2]
        refine keyOkE_run (fun e => keyInt_run e) (fun e => e) k1 j3 fun k4 => lookME_run hs hm k4 fun ob es ob' es' ho he hg _ hm' k5 => findE_run hs (fun e => keyInt_run e) (fun e => e) k1 he k5 fun j hj => ?_
        cases j with
        | some j =>
          simp only [setR_eq] at hj
          have hob : RenOb ρ { ob with map := some (es.set j (z, v)) } { ob' with map := some (es'.set j (z', v')) } := ⟨ho.elem, ho.xs, ho.frozen, ho.var, he.set j (x := (z, v)) (y := (z', v')) k1 j1⟩
          exact (hs.setH hm (by rw [hg]; simp) hob).post (.v _) hj
        | none =>
          simp only [appR_eq] at hj
          have hob : RenOb ρ { ob with map := some (es ++ [(z, v)]) } { ob' with map := some (es' ++ [(z', v')]) } := ⟨ho.elem, ho.xs, ho.frozen, ho.var, he.snoc (x := (z, v)) (y := (z', v')) k1 j1⟩
          exact (hs.setH hm (by rw [hg]; simp) hob).post (.v _) hj
    | _ => cases h3

theorem builtinC_ok (hp : Bool) (P : Program) (key : Nat) (b : Builtin) (args : List Operand) (ts : List TypeId) : OpOk (builtinC hp P key b args ts) (fun st K => builtinK hp P st key b args ts K ∨ builtinX hp P st key b args ts K) := by
  intro ρ t L H nx K r st hs h
  unfold builtinC at h
  split at h
  · exact .inl (lenC_ok P _ _ ρ t L H nx K r st hs h)
  · rename_i x y t1 t2
    cases hb : Nat.beq t1 t2 with
    | false =>
      rw [hb] at h
      exact .inr (growC_ok P hp key _ _ _ _ ρ t L H nx K r st hs h)
    | true =>
      rw [hb] at h
      exact .inl ⟨beq_eq hb, appendC_ok P hp key _ _ _ ρ t L H nx K r st hs h⟩
  · exact .inr (capC_ok P _ _ ρ t L H nx K r st hs h)
  · exact .inr (clearC_ok P _ _ ρ t L H nx K r st hs h)
  · exact .inr (mostC_ok true _ _ ρ t L H nx K r st hs h)
  · exact .inr (mostC_ok false _ _ ρ t L H nx K r st hs h)
  · cases h

theorem opC_ok (hp : Bool) (lm : LitMode) (P : Program) (o : Oper) : OpOk (opC hp lm P o) (fun st => opA hp lm P st o) := by
  obtain ⟨dst, op, ty, pos, after, guard⟩ := o
  unfold opC
  unfold opA opK opX
  cases op
  case move x => exact (moveC_ok x).orL
  case assign x => exact (moveC_ok x).orL
  case pick c x y => exact (pickC_ok c x y).orL
  case alloc e => exact (allocC_ok P hp _ e).orL
  case box e x => exact (boxC_ok P hp _ e x).orL
  case build t parts => exact (buildC_ok P t parts).orL
  case buildSlice t len parts => exact (buildSliceC_ok P lm _ t len parts).orL
  case load t x => exact (loadC_ok P t x).orL
  case store t x y => exact (storeC_ok P t x y).orL
  case nilCheck x => exact (nilCheckC_ok x).orL
  case binOp op t x y yt => exact binXC_ok P op t x y
  case unOp op t x => exact (unC_ok op x).orL
  case convert s d x => exact (convC_ok P s d x).orL
  case makeFunc fn first captured => exact closeC_ok fn first captured
  case makeMap t res => exact (makeMapC_ok P t res).orR
  case lookup t x ix ok => exact (lookupC_ok P t x ix ok).orR
  case mapUpdate t x ix y => exact (mapUpdateC_ok P t x ix y).orR
  case makeSlice t l c => exact (makeC_ok P hp _ t l c).orL
  case slice t x lo hi mx => exact sliceXC_ok P t x lo hi mx
  case fieldAddr s x f => exact (fieldAddrC_ok P s x f).orL
  case field t x f => exact (fieldC_ok P t x f).orL
  case indexAddr t x ix => exact (indexAddrC_ok P t x ix).orL
  case index t x ix => exact (indexC_ok P t x ix).orL
  case extract x i => exact (extractC_ok x i).orL
  case call c =>
    obtain ⟨callee, args, ts⟩ := c
    cases callee with
    | builtin b => exact builtinC_ok hp P _ b _ _
    | _ => exact fun _ _ _ _ _ _ _ _ _ h => by cases h
  all_goals exact fun _ _ _ _ _ _ _ _ _ h => by cases h

end
end Go.Am
