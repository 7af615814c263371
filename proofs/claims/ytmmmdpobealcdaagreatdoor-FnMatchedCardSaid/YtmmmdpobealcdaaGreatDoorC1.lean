/- New blocks; values that are the same; guards; what the check of an order says. -/
import Derived.Test.YtmmmdpobealcdaaGreatDoorB9
set_option linter.unusedVariables false
set_option linter.unusedSimpArgs false
namespace Go.Am
open Go

/-! ### Values that are the same -/

theorem eqOptN_eq {a b : Option Nat} (h : eqOptN a b = true) : a = b := by
  unfold eqOptN at h
  cases a <;> cases b <;> first | rfl | cases h | exact congrArg some (beq_eq h)

theorem toList_nil {a : Array Value} (h : a.toList.isEmpty = true) : a = #[] := by
  have : a.toList = [] := List.isEmpty_iff.1 h
  simpa using this

theorem eqVal_eq {u v : Value} (h : eqVal u v = true) : u = v := by
  unfold eqVal at h
  cases u <;> cases v <;> first | (simp only at h; cases h; done) | skip
  case int.int k a k' b =>
    simp only [Bool.and_eq_true] at h
    obtain rfl := sameKind_eq h.1
    have h2 := h.2
    rw [intEq_eq] at h2
    obtain rfl : a = b := by simpa using h2
    rfl
  case bool.bool a b => cases a <;> cases b <;> first | rfl | cases h
  case string.string a b =>
    simp only at h
    rw [sameBytes_eq] at h
    have h2 : a.data.toList = b.data.toList := by simpa using h
    obtain ⟨⟨a⟩⟩ := a
    obtain ⟨⟨b⟩⟩ := b
    simp only at h2
    rw [h2]
  case pointer.pointer a b => cases a <;> cases b <;> first | rfl | cases h
  case slice.slice a n c b n' c' =>
    cases a <;> cases b <;> simp only at h <;> first | cases h | skip
    simp only [Bool.and_eq_true] at h
    rw [beq_eq h.1, beq_eq h.2]
  case nilFunc.nilFunc => rfl
  case nilIface.nilIface => rfl
  case map.map a b => cases a <;> cases b <;> first | rfl | cases h
  case func.func f a b f' a' b' =>
    cases f <;> cases f' <;> simp only at h <;> first | cases h | skip
    simp only [Bool.and_eq_true] at h
    obtain ⟨⟨⟨⟨h1, h2⟩, h3⟩, h4⟩, h5⟩ := h
    rw [beq_eq h1, toList_nil h2, toList_nil h3, toList_nil h4, toList_nil h5]

theorem eqLs_eq {f : AV → AV → Bool} (hf : ∀ x y, f x y = true → x = y) : ∀ {xs ys : List AV}, eqLs f xs ys = true → xs = ys := by
  intro xs
  induction xs with
  | nil => intro ys h; cases ys with
    | nil => rfl
    | cons y ys => cases h
  | cons x xs ih =>
    intro ys h
    cases ys with
    | nil => cases h
    | cons y ys =>
      have h' : (f x y && eqLs f xs ys) = true := h
      simp only [Bool.and_eq_true] at h'
      rw [hf x y h'.1, ih h'.2]

theorem eqAV_eq (n : Nat) : ∀ {x y : AV}, eqAV n x y = true → x = y := by
  induction n with
  | zero => intro x y h; cases h
  | succ n ih =>
    intro x y h
    have hl : ∀ {xs ys : List AV}, eqLs (eqAV n) xs ys = true → xs = ys := eqLs_eq fun x y => ih
    cases x with
    | v u => cases y with
      | v v => exact congrArg AV.v (eqVal_eq h)
      | _ => cases h
    | vec k r m => cases y with
      | vec k' r' m' =>
        have h' : (eqOptN k k' && Nat.beq r r' && Nat.beq m m') = true := h
        simp only [Bool.and_eq_true] at h'
        rw [eqOptN_eq h'.1.1, beq_eq h'.1.2, beq_eq h'.2]
      | _ => cases h
    | list s xs => cases y with
      | list s' ys =>
        have h' : (Nat.beq s s' && eqLs (eqAV n) xs ys) = true := h
        simp only [Bool.and_eq_true] at h'
        rw [beq_eq h'.1, hl h'.2]
      | _ => cases h
    | ptr k r i o => cases y with
      | ptr k' r' i' o' =>
        have h' : (eqOptN k k' && Nat.beq r r' && Nat.beq i i' && Nat.beq o o') = true := h
        simp only [Bool.and_eq_true] at h'
        rw [eqOptN_eq h'.1.1.1, beq_eq h'.1.1.2, beq_eq h'.1.2, beq_eq h'.2]
      | _ => cases h
    | pref xs => cases y with
      | pref ys => exact congrArg AV.pref (hl h)
      | _ => cases h
    | agg xs => cases y with
      | agg ys => exact congrArg AV.agg (hl h)
      | _ => cases h
    | tuple xs => cases y with
      | tuple ys => exact congrArg AV.tuple (hl h)
      | _ => cases h
    | clo g xs => cases y with
      | clo g' ys =>
        have h' : (Nat.beq g g' && eqLs (eqAV n) xs ys) = true := h
        simp only [Bool.and_eq_true] at h'
        rw [beq_eq h'.1, hl h'.2]
      | _ => cases h
    | sub k r o m => cases y with
      | sub k' r' o' m' =>
        have h' : (eqOptN k k' && Nat.beq r r' && Nat.beq o o' && Nat.beq m m') = true := h
        simp only [Bool.and_eq_true] at h'
        rw [eqOptN_eq h'.1.1.1, beq_eq h'.1.1.2, beq_eq h'.1.2, beq_eq h'.2]
      | _ => cases h
    | mp k r => cases y with
      | mp k' r' =>
        have h' : (eqOptN k k' && Nat.beq r r') = true := h
        simp only [Bool.and_eq_true] at h'
        rw [eqOptN_eq h'.1, beq_eq h'.2]
      | _ => cases h

/-! ### Operations of class 0, 1, 2 are plain ones -/

theorem rawC_plain (G : Cfg) (fn : FuncId) (o : Oper) (h : cls o ≠ 3) : rawC G fn o = plainC G fn o := by
  unfold rawC
  unfold cls at h
  split
  · rename_i c hc
    rw [hc] at h
    unfold valueC
    cases hcc : c.callee with
    | builtin b => rfl
    | value f => simp only [hcc] at h; exact absurd rfl h
    | invoke r m => rfl
  · rfl

/-! ### A new block: whatever its name -/

section
variable {ρ : Nm} {t : T3} {L : LE} {H : HE} {nx : Nat} {st : St} {r : AV × HE × Nat}

theorem pub1E_nil (P : Program) {x y : AV} (hx : Ren ρ (.one x y)) {K : AV → LE → Ans} (h : pub1E P [] x K = some r) : K x [] = some r ∧ ∀ (st : St) (K' : AV → St → Prop), K' y st → pub1K P st y K' := by
  cases hx with
  | vec k m b n hm => cases k with
    | none => exact ⟨h, fun st K' hk => hk⟩
    | some k => cases h
  | v u => exact ⟨h, fun st K' hk => hk⟩
  | list s xs ys hl => exact ⟨h, fun st K' hk => hk⟩
  | ptr k m b i o hm => exact ⟨h, fun st K' hk => hk⟩
  | pref xs ys hl => exact ⟨h, fun st K' hk => hk⟩
  | agg xs ys hl => exact ⟨h, fun st K' hk => hk⟩
  | tuple xs ys hl => exact ⟨h, fun st K' hk => hk⟩
  | clo g xs ys hl => exact ⟨h, fun st K' hk => hk⟩
  | sub k m b o n hm => exact ⟨h, fun st K' hk => hk⟩
  | mp k m b hm => exact ⟨h, fun st K' hk => hk⟩

theorem pubsE_nil (P : Program) : ∀ {xs ys : List AV}, Ren ρ (.many xs ys) → ∀ {K : List AV → LE → Ans}, pubsE P xs [] K = some r → K xs [] = some r ∧ ∀ (st : St) (K' : List AV → St → Prop), K' ys st → pubsK P st ys K' := by
  intro xs
  induction xs with
  | nil => intro ys hx K h; cases hx; exact ⟨h, fun st K' hk => hk⟩
  | cons x xs ih =>
    intro ys hx K h
    cases hx with
    | cons _ y _ ys h1 h2 =>
      have h' : pub1E P [] x (fun y L' => pubsE P xs L' fun ys L'' => K (y :: ys) L'') = some r := h
      obtain ⟨g1, g2⟩ := pub1E_nil P h1 h'
      obtain ⟨g3, g4⟩ := ih h2 g1
      exact ⟨g3, fun st K' hk => g2 st _ (g4 st _ hk)⟩

theorem pubE_nil (P : Program) {x y : AV} (hx : Ren ρ (.one x y)) {K : AV → LE → Ans} (h : pubE P [] x K = some r) : K x [] = some r ∧ ∀ (st : St) (K' : AV → St → Prop), K' y st → pubK P st y K' := by
  cases hx with
  | agg xs ys hl =>
    obtain ⟨g1, g2⟩ := pubsE_nil P hl (K := fun cs L => K (.agg cs) L) h
    exact ⟨g1, fun st K' hk => g2 st (fun cs st => K' (.agg cs) st) hk⟩
  | tuple xs ys hl =>
    obtain ⟨g1, g2⟩ := pubsE_nil P hl (K := fun cs L => K (.tuple cs) L) h
    exact ⟨g1, fun st K' hk => g2 st (fun cs st => K' (.tuple cs) st) hk⟩
  | v u => exact pub1E_nil P (.v (ρ := ρ) u) h
  | vec k m b n hm => exact pub1E_nil P (.vec k m b n hm) h
  | list s xs ys hl => exact pub1E_nil P (.list s xs ys hl) h
  | ptr k m b i o hm => exact pub1E_nil P (.ptr k m b i o hm) h
  | pref xs ys hl => exact pub1E_nil P (.pref xs ys hl) h
  | clo g xs ys hl => exact pub1E_nil P (.clo g xs ys hl) h
  | sub k m b o n hm => exact pub1E_nil P (.sub k m b o n hm) h
  | mp k m b hm => exact pub1E_nil P (.mp k m b hm) h

theorem pubsIE_nil (P : Program) {xs ys : List (Nat × AV)} (hx : RenI ρ xs ys) : ∀ {K : List (Nat × AV) → LE → Ans}, pubsIE P xs [] K = some r → K xs [] = some r ∧ ∀ (st : St) (K' : List (Nat × AV) → St → Prop), K' ys st → pubsI P st ys K' := by
  induction hx with
  | nil => intro K h; exact ⟨h, fun st K' hk => hk⟩
  | cons i x y xs ys h1 _ ih =>
    intro K h
    have h' : pubE P [] x (fun y L' => pubsIE P xs L' fun ys L'' => K ((i, y) :: ys) L'') = some r := h
    obtain ⟨g1, g2⟩ := pubE_nil P h1 h'
    obtain ⟨g3, g4⟩ := ih g1
    exact ⟨g3, fun st K' hk => g2 st _ (g4 st _ hk)⟩

theorem some3_run {y : AV} {L : LE} {H : HE} {nx : Nat} (h : some3 y L H nx = some r) : L = [] ∧ r = (y, H, nx) := by
  unfold some3 at h
  cases L with
  | nil => exact ⟨rfl, (Option.some.inj h).symm⟩
  | cons a l => cases h

/-- An operation that makes a new block, found with the name m. -/
theorem float_sound (P : Program) (o : Oper) (hc : cls o = 2) {m m1 : Nat} {y : AV} {H1 : HE} (hs : RenS ρ t L H nx st) (h : (opC true .heap P o).run t [] [] m some3 = some (y, H1, m1)) :
    ∃ (ob ob' : Obj) (mk : Nat → AV), H1 = [(m, ob)] ∧ m1 = Nat.succ m ∧ y = mk m ∧ (∀ (ρ : Nm) m b, ρ m = some b → Ren ρ (.one (mk m) (mk b))) ∧ RenOb ρ ob ob' ∧
      ∀ K : AV → St → Prop, (∀ b, st.H b = none → K (mk b) { st with H := upd st.H b (some ob') }) → opA true .heap P st o K := by
  obtain ⟨dst, op, ty, pos, after, guard⟩ := o
  unfold opC at h
  unfold cls at hc
  cases op <;> first | (simp only at hc; cases hc; done) | skip
  case alloc e =>
    simp only at h
    unfold allocC at h
    cases hz : zeroAV P e with
    | none => rw [hz] at h; cases h
    | some z =>
      rw [hz] at h
      simp only at h
      cases hb : boxOk P e z with
      | false => rw [hb] at h; cases h
      | true =>
        rw [hb] at h
        have h' : some3 (.ptr none m 0 0) [] [(m, { elem := e, xs := [z], var := true })] (Nat.succ m) = some (y, H1, m1) := h
        obtain ⟨_, he⟩ := some3_run h'
        cases he
        refine ⟨_, { elem := e, xs := [z], var := true }, fun b => .ptr none b 0 0, rfl, rfl, rfl, fun ρ m b hm => .ptr none m b 0 0 hm, ⟨rfl, .cons _ _ _ _ (.zero hz) .nil, rfl, rfl, trivial⟩, fun K hK => .inl ?_⟩
        show allocK P true _ st e K
        unfold allocK
        rw [hz]
        exact ⟨boxOk_run hb, fun b hb => hK b hb⟩
  case buildSlice ty0 len parts =>
    simp only at h
    unfold buildSliceC at h
    cases he : elemT P ty0 with
    | none => simp only [he] at h; cases h
    | some e =>
      simp only [he] at h
      cases hz : zeroAV P e with
      | none => simp only [hz] at h; cases h
      | some z =>
        simp only [hz] at h
        cases hb : Nat.beq (lenR z.cells) (P.cellsOf e) && Nat.blt 0 (P.cellsOf e) && Nat.ble (len * P.cellsOf e) 16777216 with
        | false => simp only [hb] at h; cases h
        | true =>
          simp only [hb] at h
          simp only [Bool.and_eq_true] at hb
          obtain ⟨⟨b1, b2⟩, b3⟩ := hb
          rw [lenR_eq] at b1
          obtain ⟨zs, zs', k1, k2, k3⟩ := avsC_run hs h
          obtain ⟨g1, g2⟩ := pubsIE_nil P k1 k3
          rw [repR_eq] at g1
          obtain ⟨cs, cs', s1, s2, s3⟩ := setsE_run k1 ((Ren.zero hz).replicate len) g1
          have h' : some3 (.vec none m len) [] [(m, { elem := e, xs := cs })] (Nat.succ m) = some (y, H1, m1) := s3
          obtain ⟨_, hq⟩ := some3_run h'
          cases hq
          refine ⟨_, { elem := e, xs := cs' }, fun b => .vec none b len, rfl, rfl, rfl, fun ρ m b hm => .vec none m b len hm, ⟨rfl, s1, rfl, rfl, trivial⟩, fun K hK => .inl ?_⟩
          show buildSliceK P .heap _ st ty0 len parts K
          unfold buildSliceK
          simp only [he, k2, hz]
          refine ⟨⟨beq_eq b1, blt_lt b2, ble_le b3⟩, g2 st _ ?_⟩
          simp only [s2]
          exact fun b hb => hK b hb
  case call c =>
    obtain ⟨callee, args, ts⟩ := c
    cases callee with
    | builtin b => simp only at hc; cases b <;> (simp only at hc; cases hc)
    | _ => simp only at hc; cases hc

end

/-! ### Guards -/

def boolAV (x : AV) : Option Bool := match x with | .v u => (match u with | .bool b => some b | _ => none) | _ => none

/-- A guard says yes, or no, or nothing. -/
def GateIs (P : Prop) (f : Ans → Ans → Ans) (b : Bool) : Prop := ∀ yes no, f yes no = bif b then yes else no

theorem guardE_dec (x : AV) (want : Bool) : (∀ yes no, guardE x want yes no = none) ∨ ∃ b : Bool, ∀ yes no, guardE x want yes no = bif b then yes else no := by
  unfold guardE
  cases x with
  | v u => cases u with
    | bool b => cases b <;> cases want <;> first | exact .inr ⟨true, fun _ _ => rfl⟩ | exact .inr ⟨false, fun _ _ => rfl⟩
    | tuple cs =>
      cases h : cs.toList with
      | nil => exact .inr ⟨false, fun _ _ => by simp only [h]; rfl⟩
      | cons a l => exact .inl fun _ _ => by simp only [h]
    | _ => exact .inl fun _ _ => rfl
  | _ => exact .inl fun _ _ => rfl

theorem gateC_dec (ops : List Oper) (o : Oper) (t : T3) : (∀ yes no, (gateC ops o).run t yes no = none) ∨ ∃ b : Bool, ∀ yes no, (gateC ops o).run t yes no = bif b then yes else no := by
  unfold gateC
  cases hg : o.guard with
  | none => exact .inr ⟨true, fun _ _ => rfl⟩
  | some gw =>
    obtain ⟨g, want⟩ := gw
    dsimp only
    cases hn : nth ops g with
    | none => exact .inl fun _ _ => rfl
    | some og =>
      dsimp only
      cases hd : og.dst with
      | none => exact .inl fun _ _ => rfl
      | some d =>
        rcases getC_det d t with h | ⟨z, h⟩
        · exact .inl fun yes no => h _
        · rcases guardE_dec z want with h' | ⟨b, h'⟩
          · exact .inl fun yes no => (h _).trans (h' yes no)
          · exact .inr ⟨b, fun yes no => (h _).trans (h' yes no)⟩

/-- The guard's temporary. -/
def guardTmp (ops : List Oper) (o : Oper) : Option Nat := match o.guard with | none => none | some g => match ops[g.1]? with | none => none | some og => og.dst

theorem gateC_cg (ops : List Oper) (o : Oper) {t t' : T3} (h : ∀ d, guardTmp ops o = some d → d < 512 → tget t d = tget t' d) : (gateC ops o).run t = (gateC ops o).run t' := by
  unfold gateC
  unfold guardTmp at h
  cases hg : o.guard with
  | none => rfl
  | some gw =>
    obtain ⟨g, want⟩ := gw
    rw [hg] at h
    dsimp only at h ⊢
    rw [nth_eq]
    cases hn : ops[g]? with
    | none => rfl
    | some og =>
      rw [hn] at h
      dsimp only at h ⊢
      cases hd : og.dst with
      | none => rfl
      | some d =>
        funext yes no
        show (getC d).run t _ = (getC d).run t' _
        rw [getC_eq, getC_eq]
        by_cases hi : d < 512
        · rw [if_pos hi, if_pos hi, h d hd hi]
        · rw [if_neg hi, if_neg hi]

section
variable {ρ : Nm} {t : T3} {L : LE} {H : HE} {nx : Nat} {st : St} {a : Act} {w : World} {C : Ctx} {I : Nat → Nat → Prop}

theorem gateC_sound {ops : Array Oper} {o : Oper} (hs : RenS ρ t L H nx st) (hr : Rl C I st a w) {b : Bool} (h : ∀ yes no, (gateC ops.toList o).run t yes no = bif b then yes else no) :
    Region.wanted o (yielded ops a.tmps) = b := by
  unfold gateC at h
  cases hg : o.guard with
  | none =>
    rw [hg] at h
    have := h (some (.v undef, [], 0)) none
    cases b with
    | true => simp [Region.wanted, hg]
    | false => cases this
  | some gw =>
    obtain ⟨g, want⟩ := gw
    rw [hg] at h
    dsimp only at h
    rw [nth_eq] at h
    cases hn : ops.toList[g]? with
    | none => rw [hn] at h; have h1 := h (some (.v undef, [], 0)) (some (.v undef, [], 0)); cases b <;> cases h1
    | some og =>
      rw [hn] at h
      dsimp only at h
      cases hd : og.dst with
      | none => rw [hd] at h; have h1 := h (some (.v undef, [], 0)) (some (.v undef, [], 0)); cases b <;> cases h1
      | some d =>
        rw [hd] at h
        have hy : yielded ops a.tmps g = boolAt a.tmps[d]? := by
          have : ops[g]? = some og := by simpa using hn
          simp only [yielded, this, hd, Option.bind_some]
          rfl
        have hw : Region.wanted o (yielded ops a.tmps) = (yielded ops a.tmps g == some want) := by simp [Region.wanted, hg]
        rw [hw, hy]
        have h1 : (getC d).run t (fun b => guardE b want (some (.v undef, [], 0)) (some (.v undef, [], 1))) = bif b then some (.v undef, [], 0) else some (.v undef, [], 1) := h _ _
        cases b with
        | true =>
          rcases guardE_run hs hr h1 with ⟨h2, _⟩ | ⟨_, h2⟩
          · rw [h2]; simp
          · cases h2
        | false =>
          rcases guardE_run hs hr h1 with ⟨_, h2⟩ | ⟨h2, _⟩
          · cases h2
          · simpa using h2

end

/-! ### What an operation looks at -/

theorem looks_op (ops : List Oper) (o : Oper) {i : Nat} (h : Operand.tmp i ∈ o.op.operands.toList) : hasM (looksMask ops o) i = true := by
  have h1 : ∀ xs : List Operand, Operand.tmp i ∈ xs → hasM (List.rec (motive := fun _ => Nat) 0 (fun x _ ih => Nat.lor (tmpBit x) ih) xs) i = true := by
    intro xs
    induction xs with
    | nil => intro h; cases h
    | cons x xs ih =>
      intro h
      show hasM (Nat.lor (tmpBit x) _) i = true
      rw [hasM_or]
      rcases List.mem_cons.1 h with rfl | h
      · have : hasM (tmpBit (.tmp i)) i = true := by show hasM (bitN i) i = true; rw [hasM_bit]; simp
        rw [this]; rfl
      · rw [ih h, Bool.or_true]
  unfold looksMask
  rw [hasM_or, h1 _ h]; rfl

theorem looks_guard (ops : List Oper) (o : Oper) {i : Nat} (h : guardTmp ops o = some i) : hasM (looksMask ops o) i = true := by
  unfold looksMask
  rw [hasM_or]
  unfold guardTmp at h
  cases hg : o.guard with
  | none => rw [hg] at h; cases h
  | some gw =>
    rw [hg] at h
    dsimp only at h ⊢
    rw [nth_eq]
    cases hn : ops[gw.1]? with
    | none => rw [hn] at h; cases h
    | some og =>
      rw [hn] at h
      dsimp only at h ⊢
      rw [h]
      have : hasM (dstBit (some i)) i = true := by show hasM (bitN i) i = true; rw [hasM_bit]; simp
      rw [this, Bool.or_true]

theorem dst_bit {d : Option Tmp} {i : Nat} : hasM (dstBit d) i = true ↔ d = some i := by
  unfold dstBit
  cases d with
  | none => simp [hasM_zero]
  | some j => simp [hasM_bit]

theorem edge_mask (o : Oper) {e : Nat} : hasM (edgeMask o) e = true ↔ ∃ d ∈ o.after.toList, Region.binds .any d = true ∧ d.on = e := by
  unfold edgeMask
  induction o.after.toList with
  | nil => simp [hasM_zero]
  | cons d ds ih =>
    show hasM (Bool.rec (motive := fun _ => Nat) _ (Nat.lor (bitN d.on) _) (Region.binds .any d)) e = true ↔ _
    cases hb : Region.binds .any d with
    | false =>
      refine ih.trans ⟨fun ⟨d', h1, h2⟩ => ⟨d', List.mem_cons_of_mem _ h1, h2⟩, fun ⟨d', h1, h2⟩ => ?_⟩
      rcases List.mem_cons.1 h1 with rfl | h1
      · rw [hb] at h2; cases h2.1
      · exact ⟨d', h1, h2⟩
    | true =>
      show hasM (Nat.lor (bitN d.on) _) e = true ↔ _
      rw [hasM_or, hasM_bit, Bool.or_eq_true]
      constructor
      · rintro (h | h)
        · exact ⟨d, List.mem_cons_self .., hb, by simpa using h⟩
        · obtain ⟨d', h1, h2⟩ := ih.1 h
          exact ⟨d', List.mem_cons_of_mem _ h1, h2⟩
      · rintro ⟨d', h1, h2⟩
        rcases List.mem_cons.1 h1 with rfl | h1
        · exact .inl (by simpa using h2.2)
        · exact .inr (ih.2 ⟨d', h1, h2⟩)

/-! ### What the check of an order says -/

structure OkR (xs : List RO) (all done dsts reads : Nat) : Prop where
  fresh : ∀ x ∈ xs, hasM done x.i = false
  nodup : xs.Pairwise fun x y => x.i ≠ y.i
  dd : ∀ x ∈ xs, offM x.D dsts = true
  dp : xs.Pairwise fun x y => offM y.D x.D = true
  rr : ∀ x ∈ xs, offM x.D reads = true
  rs : ∀ x ∈ xs, x.c = 1 → offM x.D x.W = true
  rp : xs.Pairwise fun x y => x.c = 1 → offM y.D x.W = true
  pair : xs.Pairwise fun x y => (offM x.D y.W = true ∧ offM y.D x.W = true) ∨ hasM y.E x.i = true
  ahead : ∀ pre x suf, xs = pre ++ x :: suf → ∀ i, hasM x.E i = true → hasM done i = true ∨ ∃ y ∈ pre, y.i = i
  heavy : ∀ pre x suf, xs = pre ++ x :: suf → x.c = 3 → ∀ y ∈ suf, ∃ i, hasM y.E i = true ∧ hasM done i = false ∧ ∀ z ∈ pre, z.i ≠ i
  cover : ∀ i, hasM all i = true → hasM done i = true ∨ ∃ x ∈ xs, x.i = i

theorem offM_or {a b c : Nat} (h : offM a (Nat.lor b c) = true) : offM a b = true ∧ offM a c = true := by
  have h0 : ∀ i, hasM a i = true → hasM b i = false ∧ hasM c i = false := fun i hi => by
    have := offM_get h hi
    rw [hasM_or] at this
    simpa using this
  have key : ∀ d, (∀ i, hasM a i = true → hasM d i = false) → offM a d = true := fun d hd => by
    unfold offM
    have : a &&& d = 0 := Nat.eq_of_testBit_eq fun i => by
      rw [Nat.testBit_and, Nat.zero_testBit]
      cases ha : a.testBit i with
      | false => rfl
      | true =>
        have := hd i (by rw [hasM_eq]; exact ha)
        rw [hasM_eq] at this
        rw [this]; rfl
    show Nat.beq (a &&& d) 0 = true
    rw [this]; rfl
  exact ⟨key b fun i hi => (h0 i hi).1, key c fun i hi => (h0 i hi).2⟩

theorem okRO_spec : ∀ (xs : List RO) (all done dsts reads : Nat), okRO xs all done dsts reads = true → OkR xs all done dsts reads := by
  intro xs
  induction xs with
  | nil =>
    intro all done dsts reads h
    have h' : all = done := beq_eq h
    exact { fresh := fun x hx => (by cases hx), nodup := .nil, dd := fun x hx => (by cases hx), dp := .nil, rr := fun x hx => (by cases hx), rs := fun x hx => (by cases hx), rp := .nil, pair := .nil
            ahead := fun pre x suf he => (by cases pre <;> cases he), heavy := fun pre x suf he => (by cases pre <;> cases he), cover := fun i hi => .inl (h' ▸ hi) }
  | cons x r ih =>
    intro all done dsts reads h
    have h' : (!hasM done x.i && subM x.E done && offM x.D dsts && offM x.D reads && (!Nat.beq x.c 1 || offM x.D x.W) &&
      allR (fun y : RO => (offM x.D y.W && offM y.D x.W) || hasM y.E x.i) r && (!Nat.beq x.c 3 || allR (fun y : RO => !subM y.E done) r) &&
      okRO r all (Nat.lor done (bitN x.i)) (Nat.lor dsts x.D) (match Nat.beq x.c 1 with | true => Nat.lor reads x.W | false => reads)) = true := h
    simp only [Bool.and_eq_true] at h'
    obtain ⟨⟨⟨⟨⟨⟨⟨h1, h2⟩, h3⟩, h4⟩, h5⟩, h6⟩, h7⟩, h8⟩ := h'
    have I := ih _ _ _ _ h8
    have h1' : hasM done x.i = false := by simpa using h1
    have hdone : ∀ i, hasM (Nat.lor done (bitN x.i)) i = true ↔ hasM done i = true ∨ x.i = i := fun i => by rw [hasM_or, hasM_bit]; simp
    have hdone' : ∀ i, hasM (Nat.lor done (bitN x.i)) i = false ↔ hasM done i = false ∧ x.i ≠ i := fun i => by rw [hasM_or, hasM_bit]; simp
    rw [allR_eq] at h6
    have h6' := List.all_eq_true.1 h6
    exact {
      fresh := fun y hy => by
        rcases List.mem_cons.1 hy with rfl | hy
        · exact h1'
        · exact ((hdone' _).1 (I.fresh y hy)).1
      nodup := .cons (fun y hy => ((hdone' _).1 (I.fresh y hy)).2) I.nodup
      dd := fun y hy => by
        rcases List.mem_cons.1 hy with rfl | hy
        · exact h3
        · exact (offM_or (I.dd y hy)).1
      dp := .cons (fun y hy => (offM_or (I.dd y hy)).2) I.dp
      rr := fun y hy => by
        rcases List.mem_cons.1 hy with rfl | hy
        · exact h4
        · have := I.rr y hy
          cases hb : Nat.beq x.c 1 with
          | true => rw [hb] at this; exact (offM_or this).1
          | false => rw [hb] at this; exact this
      rs := fun y hy hc => by
        rcases List.mem_cons.1 hy with rfl | hy
        · rw [hc] at h5
          simpa using h5
        · exact I.rs y hy hc
      rp := .cons (fun y hy hc => by
        have := I.rr y hy
        rw [hc] at this
        exact (offM_or this).2) I.rp
      pair := .cons (fun y hy => by
        have := h6' y hy
        simpa [Bool.or_eq_true, Bool.and_eq_true] using this) I.pair
      ahead := fun pre y suf he i hi => by
        cases pre with
        | nil => cases he; exact .inl (subM_get h2 hi)
        | cons z pre =>
          cases he
          rcases I.ahead pre y suf rfl i hi with h | ⟨u, hu, hui⟩
          · rcases (hdone i).1 h with h | h
            · exact .inl h
            · exact .inr ⟨x, List.mem_cons_self .., h⟩
          · exact .inr ⟨u, List.mem_cons_of_mem _ hu, hui⟩
      heavy := fun pre y suf he hc z hz => by
        cases pre with
        | nil =>
          cases he
          rw [hc] at h7
          have h7' : allR (fun y : RO => !subM y.E done) r = true := by simpa using h7
          rw [allR_eq] at h7'
          have := List.all_eq_true.1 h7' z hz
          have hz' : subM z.E done = false := by simpa using this
          obtain ⟨i, hi1, hi2⟩ := subM_not hz'
          exact ⟨i, hi1, hi2, fun u hu => (by cases hu)⟩
        | cons q pre =>
          cases he
          obtain ⟨i, hi1, hi2, hi3⟩ := I.heavy pre y suf rfl hc z hz
          obtain ⟨hi4, hi5⟩ := (hdone' i).1 hi2
          exact ⟨i, hi1, hi4, fun u hu => by
            rcases List.mem_cons.1 hu with rfl | hu
            · exact hi5
            · exact hi3 u hu⟩
      cover := fun i hi => by
        rcases I.cover i hi with h | ⟨y, hy, hyi⟩
        · rcases (hdone i).1 h with h | h
          · exact .inl h
          · exact .inr ⟨x, List.mem_cons_self .., h⟩
        · exact .inr ⟨y, List.mem_cons_of_mem _ hy, hyi⟩ }

theorem pickRO_mem {done : Nat} {hv : Bool} : ∀ {xs : List RO} {p : RO × List RO}, pickRO done hv xs = some p → p.1 ∈ xs ∧ ∀ y ∈ p.2, y ∈ xs := by
  intro xs
  induction xs with
  | nil => intro p h; cases h
  | cons x r ih =>
    intro p h
    have h' : (Bool.rec (motive := fun _ => Option (RO × List RO)) (match pickRO done hv r with | some p => some (p.1, x :: p.2) | none => none) (some (x, r)) (subM x.E done && (hv || !Nat.beq x.c 3))) = some p := h
    cases hb : subM x.E done && (hv || !Nat.beq x.c 3) with
    | true =>
      rw [hb] at h'
      cases h'
      exact ⟨List.mem_cons_self .., fun y hy => List.mem_cons_of_mem _ hy⟩
    | false =>
      rw [hb] at h'
      cases hp : pickRO done hv r with
      | none => rw [hp] at h'; cases h'
      | some q =>
        rw [hp] at h'
        cases h'
        obtain ⟨g1, g2⟩ := ih hp
        exact ⟨List.mem_cons_of_mem _ g1, fun y hy => by
          rcases List.mem_cons.1 hy with rfl | hy
          · exact List.mem_cons_self ..
          · exact List.mem_cons_of_mem _ (g2 y hy)⟩

theorem orderRO_mem : ∀ (fuel : Nat) (xs : List RO) (done : Nat), ∀ y ∈ orderRO fuel xs done, y ∈ xs := by
  intro fuel
  induction fuel with
  | zero => intro xs done y hy; cases hy
  | succ fuel ih =>
    intro xs done y hy
    have hy' : y ∈ (match pickRO done false xs with
      | some p => p.1 :: orderRO fuel p.2 (Nat.lor done (bitN p.1.i))
      | none => match pickRO done true xs with
        | some p => p.1 :: orderRO fuel p.2 (Nat.lor done (bitN p.1.i))
        | none => []) := hy
    split at hy'
    · rename_i p hp
      obtain ⟨g1, g2⟩ := pickRO_mem hp
      rcases List.mem_cons.1 hy' with rfl | hy'
      · exact g1
      · exact g2 _ (ih _ _ _ hy')
    · split at hy'
      · rename_i p hp
        obtain ⟨g1, g2⟩ := pickRO_mem hp
        rcases List.mem_cons.1 hy' with rfl | hy'
        · exact g1
        · exact g2 _ (ih _ _ _ hy')
      · cases hy'

theorem roF_mem (G : Cfg) (fn : Nat) (ops : List Oper) : ∀ (rest : List Oper) (k : Nat), ∀ x ∈ roF G fn ops rest k, ∃ j, x.i = k + j ∧ rest[j]? = some x.o ∧ x.E = edgeMask x.o ∧ x.D = dstBit x.o.dst ∧ x.W = looksMask ops x.o ∧ x.c = clsG G fn x.o := by
  intro rest
  induction rest with
  | nil => intro k x hx; cases hx
  | cons o rest ih =>
    intro k x hx
    have hx' : x ∈ (⟨k, o, edgeMask o, dstBit o.dst, looksMask ops o, clsG G fn o⟩ : RO) :: roF G fn ops rest (Nat.succ k) := hx
    rcases List.mem_cons.1 hx' with rfl | hx'
    · exact ⟨0, rfl, rfl, rfl, rfl, rfl, rfl⟩
    · obtain ⟨j, h1, h2, h3⟩ := ih _ x hx'
      exact ⟨j + 1, by omega, by simpa using h2, h3⟩

/-! ### New blocks apart -/

theorem flushE_cons (E : Nat) (p : Nat × (Nat × Obj)) (pd : Pend) (H : HE) : flushE E (p :: pd) H = bif hasM E p.1 then p.2 :: flushE E pd H else flushE E pd H := by
  show Bool.rec (motive := fun _ => HE) _ (p.2 :: flushE E pd H) (hasM E p.1) = _
  cases hasM E p.1 <;> rfl
theorem keepE_cons (E : Nat) (p : Nat × (Nat × Obj)) (pd : Pend) : keepE E (p :: pd) = bif hasM E p.1 then keepE E pd else p :: keepE E pd := by
  show Bool.rec (motive := fun _ => Pend) (p :: keepE E pd) _ (hasM E p.1) = _
  cases hasM E p.1 <;> rfl

theorem flushE_zero (pd : Pend) (H : HE) : flushE 0 pd H = H := by
  induction pd with
  | nil => rfl
  | cons p pd ih => rw [flushE_cons, hasM_zero]; exact ih
theorem keepE_zero (pd : Pend) : keepE 0 pd = pd := by
  induction pd with
  | nil => rfl
  | cons p pd ih => rw [keepE_cons, hasM_zero]; exact congrArg (p :: ·) ih
theorem mem_keepE {E : Nat} {pd : Pend} {p : Nat × (Nat × Obj)} : p ∈ keepE E pd ↔ p ∈ pd ∧ hasM E p.1 = false := by
  induction pd with
  | nil => exact ⟨fun h => (by cases h), fun h => (by cases h.1)⟩
  | cons q pd ih =>
    rw [keepE_cons]
    cases hb : hasM E q.1 with
    | true =>
      show p ∈ keepE E pd ↔ _
      rw [ih]
      refine ⟨fun h => ⟨List.mem_cons_of_mem _ h.1, h.2⟩, fun h => ⟨?_, h.2⟩⟩
      rcases List.mem_cons.1 h.1 with rfl | h1
      · rw [hb] at h; cases h.2
      · exact h1
    | false =>
      show p ∈ q :: keepE E pd ↔ _
      rw [List.mem_cons, List.mem_cons, ih]
      refine ⟨?_, ?_⟩
      · rintro (rfl | h)
        · exact ⟨.inl rfl, hb⟩
        · exact ⟨.inr h.1, h.2⟩
      · rintro ⟨rfl | h1, h2⟩
        · exact .inl rfl
        · exact .inr ⟨h1, h2⟩
theorem keepE_sub (E : Nat) (pd : Pend) : (keepE E pd).Sublist pd := by
  induction pd with
  | nil => exact .slnil
  | cons p pd ih =>
    rw [keepE_cons]
    cases hasM E p.1 with
    | true => exact ih.cons _
    | false => exact ih.cons_cons _

theorem flushE_mem {E : Nat} {pd : Pend} {H : HE} (hn : pd.Pairwise fun p q => p.2.1 ≠ q.2.1) {p : Nat × (Nat × Obj)} (hp : p ∈ pd) (hb : hasM E p.1 = true) : aget p.2.1 (flushE E pd H) = some p.2.2 := by
  induction pd with
  | nil => cases hp
  | cons q pd ih =>
    rw [flushE_cons]
    cases hn with
    | cons h1 h2 =>
      rcases List.mem_cons.1 hp with rfl | hp
      · rw [hb]
        show aget p.2.1 ((p.2.1, p.2.2) :: flushE E pd H) = _
        rw [aget_cons, if_pos rfl]
      · cases hasM E q.1 with
        | true =>
          show aget p.2.1 ((q.2.1, q.2.2) :: flushE E pd H) = _
          rw [aget_cons, if_neg (Ne.symm (h1 p hp))]
          exact ih h2 hp
        | false => exact ih h2 hp

theorem flushE_other {E : Nat} {pd : Pend} {H : HE} {m : Nat} (h : ∀ p ∈ pd, hasM E p.1 = true → p.2.1 ≠ m) : aget m (flushE E pd H) = aget m H := by
  induction pd with
  | nil => rfl
  | cons q pd ih =>
    rw [flushE_cons]
    have h2 := ih fun p hp => h p (List.mem_cons_of_mem _ hp)
    cases hb : hasM E q.1 with
    | true =>
      show aget m ((q.2.1, q.2.2) :: flushE E pd H) = _
      rw [aget_cons, if_neg (Ne.symm (h q (List.mem_cons_self ..) hb))]
      exact h2
    | false => exact h2

theorem flushE_all {E : Nat} {pd : Pend} {H : HE} (h : ∀ p ∈ pd, hasM E p.1 = true) : flushE E pd H = flushAll pd H := by
  induction pd with
  | nil => rfl
  | cons q pd ih =>
    rw [flushE_cons, h q (List.mem_cons_self ..), ih fun p hp => h p (List.mem_cons_of_mem _ hp)]
    rfl

end Go.Am
