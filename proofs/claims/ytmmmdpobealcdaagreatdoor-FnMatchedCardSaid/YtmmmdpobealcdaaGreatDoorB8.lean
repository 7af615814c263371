/- What the computing machine's operations look at, and what they leave alone. -/
import Derived.Test.YtmmmdpobealcdaaGreatDoorB7
set_option linter.unusedVariables false
set_option linter.unusedSimpArgs false
namespace Go.Am
open Go

/-! ### Masks -/

theorem hasM_eq (m i : Nat) : hasM m i = m.testBit i := by
  unfold hasM
  show Nat.beq ((m >>> i) &&& 1) 1 = _
  rw [Nat.and_one_is_mod, Nat.shiftRight_eq_div_pow, Nat.testBit_eq_decide_div_mod_eq]
  by_cases h : m / 2 ^ i % 2 = 1
  · simp [h]
  · simp only [h, decide_false]; exact beq_ne h
theorem hasM_or (a b i : Nat) : hasM (Nat.lor a b) i = (hasM a i || hasM b i) := by
  rw [hasM_eq, hasM_eq, hasM_eq]; exact Nat.testBit_or a b i
theorem hasM_bit (j i : Nat) : hasM (bitN j) i = decide (j = i) := by
  rw [hasM_eq]
  show (1 <<< j).testBit i = _
  rw [Nat.one_shiftLeft, Nat.testBit_two_pow]
theorem hasM_zero (i : Nat) : hasM 0 i = false := by rw [hasM_eq, Nat.zero_testBit]
theorem subM_get {e d : Nat} (h : subM e d = true) {i : Nat} (hi : hasM e i = true) : hasM d i = true := by
  have h1 : e &&& d = e := beq_eq h
  rw [hasM_eq] at hi ⊢
  have := congrArg (fun x => x.testBit i) h1
  simp only [Nat.testBit_and, hi, Bool.true_and] at this
  exact this
theorem subM_not {e d : Nat} (h : subM e d = false) : ∃ i, hasM e i = true ∧ hasM d i = false := by
  refine Classical.byContradiction fun hn => ?_
  have : e &&& d = e := Nat.eq_of_testBit_eq fun i => by
    rw [Nat.testBit_and]
    cases he : e.testBit i with
    | false => rfl
    | true =>
      cases hd : d.testBit i with
      | true => rfl
      | false => exact absurd ⟨i, by rw [hasM_eq]; exact he, by rw [hasM_eq]; exact hd⟩ hn
  have h2 : subM e d = true := by
    unfold subM
    show Nat.beq (e &&& d) e = true
    rw [this]; exact beq_self e
  rw [h] at h2; cases h2
theorem offM_get {a b : Nat} (h : offM a b = true) {i : Nat} (ha : hasM a i = true) : hasM b i = false := by
  have h1 : a &&& b = 0 := beq_eq h
  rw [hasM_eq] at ha ⊢
  have := congrArg (fun x => x.testBit i) h1
  simpa [Nat.testBit_and, ha] using this
theorem hasM_all (m i : Nat) : hasM (Nat.sub (bitN m) 1) i = decide (i < m) := by
  rw [hasM_eq]
  show ((1 <<< m) - 1).testBit i = _
  rw [Nat.one_shiftLeft, Nat.testBit_two_pow_sub_one]

/-! ### Operations depend on their operands alone -/

def Ag (t t' : T3) (x : Operand) : Prop := ∀ i, x = .tmp i → i < 512 → tget t i = tget t' i

theorem getC_eq (i : Nat) (t : T3) (K : AV → Ans) : (getC i).run t K = if i < 512 then (match tget t i with | some x => K x | none => none) else none := by
  unfold getC
  split
  · rename_i hi
    rw [N8.sel_eq, N8.sel_eq, N8.sel_eq, if_pos (blt_lt hi)]
    rfl
  · rename_i hi
    rw [if_neg]
    intro h
    have : Nat.blt i 512 = true := Nat.ble_eq_true_of_le h
    rw [this] at hi; cases hi

theorem avC_cg {t t' : T3} {x : Operand} (h : Ag t t' x) : (avC x).run t = (avC x).run t' := by
  funext K
  unfold avC
  cases x with
  | tmp i =>
    show (getC i).run t K = (getC i).run t' K
    rw [getC_eq, getC_eq]
    by_cases hi : i < 512
    · rw [if_pos hi, if_pos hi, h i rfl hi]
    · rw [if_neg hi, if_neg hi]
  | _ => rfl

def Cg (c : Clo OpF) (xs : List Operand) : Prop := ∀ t t' : T3, (∀ x ∈ xs, Ag t t' x) → c.run t = c.run t'

theorem Cg.none {xs : List Operand} : Cg ⟨fun _ _ _ _ _ => .none⟩ xs := fun _ _ _ => rfl
theorem Cg.const {xs : List Operand} (f : LE → HE → Nat → K1 → Ans) : Cg ⟨fun _ => f⟩ xs := fun _ _ _ => rfl

theorem optC_cg {t t' : T3} {x : Option Operand} (h : ∀ y, x = some y → Ag t t' y) : (optC x).run t = (optC x).run t' := by
  unfold optC
  cases x with
  | none => rfl
  | some x => funext d K; show (avC x).run t _ = (avC x).run t' _; rw [avC_cg (h x rfl)]

theorem avsC_cg {t t' : T3} : ∀ {ps : List (Nat × Operand)}, (∀ p ∈ ps, Ag t t' p.2) → (avsC ps).run t = (avsC ps).run t'
  | [], _ => rfl
  | (i, x) :: r, h => by
    have h1 := avC_cg (h (i, x) (by simp))
    have h2 := avsC_cg (ps := r) fun p hp => h p (by simp [hp])
    funext K
    show (avC x).run t (fun z => (avsC r).run t fun zs => K ((i, z) :: zs)) = (avC x).run t' (fun z => (avsC r).run t' fun zs => K ((i, z) :: zs))
    rw [h1, h2]

theorem argsC_cg {t t' : T3} : ∀ {xs : List Operand}, (∀ x ∈ xs, Ag t t' x) → (argsC xs).run t = (argsC xs).run t'
  | [], _ => rfl
  | x :: r, h => by
    have h1 := avC_cg (h x (by simp))
    have h2 := argsC_cg (xs := r) fun y hy => h y (by simp [hy])
    funext K
    show (avC x).run t (fun z => (argsC r).run t fun zs => K (z :: zs)) = (avC x).run t' (fun z => (argsC r).run t' fun zs => K (z :: zs))
    rw [h1, h2]

section
variable {t t' : T3}

/-- One operand. -/
theorem cg1 {x : Operand} (h : Ag t t' x) {F : AV → LE → HE → Nat → K1 → Ans} : (fun L H nx K => (avC x).run t fun z => F z L H nx K) = (fun L H nx K => (avC x).run t' fun z => F z L H nx K) := by
  rw [avC_cg h]
theorem cg2 {x y : Operand} (h : Ag t t' x) (h' : Ag t t' y) {F : AV → AV → LE → HE → Nat → K1 → Ans} :
    (fun L H nx K => (avC x).run t fun z => (avC y).run t fun u => F z u L H nx K) = (fun L H nx K => (avC x).run t' fun z => (avC y).run t' fun u => F z u L H nx K) := by
  rw [avC_cg h, avC_cg h']

end

theorem opC_cg (hp : Bool) (lm : LitMode) (P : Program) (o : Oper) : Cg (opC hp lm P o) o.op.operands.toList := by
  intro t t' h
  obtain ⟨dst, op, ty, pos, after, guard⟩ := o
  unfold opC
  cases op <;> simp only [Op.operands] at h ⊢ <;> try rfl
  case alloc e =>
    unfold allocC
    repeat' split
    all_goals rfl
  case makeMap t0 res => cases res <;> rfl
  case move x =>
    unfold moveC
    have h1 := avC_cg (h x (by simp))
    generalize avC x = c1 at h1 ⊢
    obtain ⟨f1⟩ := c1
    change f1 t = f1 t' at h1
    try dsimp only
    repeat' split
    all_goals first | rfl | (funext L H nx K; simp only [h1])
  case assign x =>
    unfold moveC
    have h1 := avC_cg (h x (by simp))
    generalize avC x = c1 at h1 ⊢
    obtain ⟨f1⟩ := c1
    change f1 t = f1 t' at h1
    try dsimp only
    repeat' split
    all_goals first | rfl | (funext L H nx K; simp only [h1])
  case pick c x y =>
    unfold pickC
    have h1 := avC_cg (h c (by simp))
    generalize avC c = c1 at h1 ⊢
    obtain ⟨f1⟩ := c1
    change f1 t = f1 t' at h1
    have h2 := avC_cg (h x (by simp))
    generalize avC x = c2 at h2 ⊢
    obtain ⟨f2⟩ := c2
    change f2 t = f2 t' at h2
    have h3 := avC_cg (h y (by simp))
    generalize avC y = c3 at h3 ⊢
    obtain ⟨f3⟩ := c3
    change f3 t = f3 t' at h3
    try dsimp only
    repeat' split
    all_goals first | rfl | (funext L H nx K; simp only [h1, h2, h3])
  case box e x =>
    unfold boxC
    have h1 := avC_cg (h x (by simp))
    generalize avC x = c1 at h1 ⊢
    obtain ⟨f1⟩ := c1
    change f1 t = f1 t' at h1
    try dsimp only
    repeat' split
    all_goals first | rfl | (funext L H nx K; simp only [h1])
  case build t0 parts =>
    have h1 := avsC_cg (ps := parts.toList) (t := t) (t' := t') fun p hp => h p.2 (by simp; exact ⟨p.1, by simpa using hp⟩)
    unfold buildC
    generalize avsC parts.toList = c1 at h1 ⊢
    obtain ⟨f1⟩ := c1
    change f1 t = f1 t' at h1
    try dsimp only
    repeat' split
    all_goals first | rfl | (funext L H nx K; simp only [h1])
  case buildSlice t0 len parts =>
    have h1 := avsC_cg (ps := parts.toList) (t := t) (t' := t') fun p hp => h p.2 (by simp; exact ⟨p.1, by simpa using hp⟩)
    unfold buildSliceC
    generalize avsC parts.toList = c1 at h1 ⊢
    obtain ⟨f1⟩ := c1
    change f1 t = f1 t' at h1
    try dsimp only
    repeat' split
    all_goals first | rfl | (funext L H nx K; simp only [h1])
  case load t0 x =>
    have h1 := avC_cg (h x (by simp))
    unfold loadC
    generalize avC x = c1 at h1 ⊢
    obtain ⟨f1⟩ := c1
    change f1 t = f1 t' at h1
    generalize ldC P t0 = c2
    obtain ⟨f2⟩ := c2
    funext L H nx K; simp only [h1]
  case store t0 x y =>
    unfold storeC
    have h1 := avC_cg (h x (by simp))
    generalize avC x = c1 at h1 ⊢
    obtain ⟨f1⟩ := c1
    change f1 t = f1 t' at h1
    have h2 := avC_cg (h y (by simp))
    generalize avC y = c2 at h2 ⊢
    obtain ⟨f2⟩ := c2
    change f2 t = f2 t' at h2
    try dsimp only
    repeat' split
    all_goals first | rfl | (funext L H nx K; simp only [h1, h2])
  case nilCheck x =>
    unfold nilCheckC
    have h1 := avC_cg (h x (by simp))
    generalize avC x = c1 at h1 ⊢
    obtain ⟨f1⟩ := c1
    change f1 t = f1 t' at h1
    try dsimp only
    repeat' split
    all_goals first | rfl | (funext L H nx K; simp only [h1])
  case binOp op t0 x y yt =>
    have h1 := avC_cg (h x (by simp))
    have h2 := avC_cg (h y (by simp))
    have hb : (binC P op t0 x y).run t = (binC P op t0 x y).run t' := by
      unfold binC
      generalize avC x = c1 at h1 ⊢
      obtain ⟨f1⟩ := c1
      change f1 t = f1 t' at h1
      generalize avC y = c2 at h2 ⊢
      obtain ⟨f2⟩ := c2
      change f2 t = f2 t' at h2
      generalize valC P op t0 (isConstO y) = c3
      obtain ⟨f3⟩ := c3
      funext L H nx K; simp only [h1, h2]
    unfold binXC
    split
    · split
      · unfold ptrsC
        generalize binC P op t0 x y = c3 at hb ⊢
        obtain ⟨f3⟩ := c3
        change f3 t = f3 t' at hb
        generalize avC x = c1 at h1 ⊢
        obtain ⟨f1⟩ := c1
        change f1 t = f1 t' at h1
        generalize avC y = c2 at h2 ⊢
        obtain ⟨f2⟩ := c2
        change f2 t = f2 t' at h2
        generalize eqOpC op = c4
        obtain ⟨f4⟩ := c4
        simp only
        split
        · funext L H nx K; simp only [h1, h2, hb]
        · exact hb
      · unfold slicesC
        generalize avC x = c1 at h1 ⊢
        obtain ⟨f1⟩ := c1
        change f1 t = f1 t' at h1
        generalize avC y = c2 at h2 ⊢
        obtain ⟨f2⟩ := c2
        change f2 t = f2 t' at h2
        generalize eqOpC op = c4
        obtain ⟨f4⟩ := c4
        funext L H nx K; simp only [h1, h2]
      · exact hb
    · exact hb
  case unOp op t0 x =>
    unfold unC
    have h1 := avC_cg (h x (by simp))
    generalize avC x = c1 at h1 ⊢
    obtain ⟨f1⟩ := c1
    change f1 t = f1 t' at h1
    try dsimp only
    repeat' split
    all_goals first | rfl | (funext L H nx K; simp only [h1])
  case convert s d x =>
    unfold convC
    have h1 := avC_cg (h x (by simp))
    generalize avC x = c1 at h1 ⊢
    obtain ⟨f1⟩ := c1
    change f1 t = f1 t' at h1
    try dsimp only
    repeat' split
    all_goals first | rfl | (funext L H nx K; simp only [h1])
  case makeFunc fn first captured =>
    unfold closeC
    cases hf : first.toList with
    | cons a l => rfl
    | nil =>
      cases hc : captured.toList with
      | nil => rfl
      | cons x xs =>
        cases fn with
        | func g =>
          have h1 := argsC_cg (xs := x :: xs) (t := t) (t' := t') fun y hy => h y (by
            have : y ∈ captured.toList := by rw [hc]; exact hy
            simp; exact .inr (by simpa using this))
          simp only
          generalize argsC (x :: xs) = c1 at h1 ⊢
          obtain ⟨f1⟩ := c1
          change f1 t = f1 t' at h1
          funext L H nx K; simp only [h1]
        | _ => rfl
  case makeSlice t0 l c =>
    unfold makeC
    have h1 := avC_cg (h l (by simp))
    generalize avC l = c1 at h1 ⊢
    obtain ⟨f1⟩ := c1
    change f1 t = f1 t' at h1
    have h2 := avC_cg (h c (by simp))
    generalize avC c = c2 at h2 ⊢
    obtain ⟨f2⟩ := c2
    change f2 t = f2 t' at h2
    try dsimp only
    repeat' split
    all_goals first | rfl | (funext L H nx K; simp only [h1, h2])
  case slice t0 x lo hi mx =>
    have h1 := avC_cg (h x (by simp))
    have h2 := optC_cg (x := lo) (t := t) (t' := t') fun y hy => h y (by simp [hy])
    have h3 := optC_cg (x := hi) (t := t) (t' := t') fun y hy => h y (by simp [hy])
    unfold sliceXC
    cases mx with
    | some mx => rfl
    | none =>
      have hb : (sliceC P t0 x lo hi none).run t = (sliceC P t0 x lo hi none).run t' := by
        unfold sliceC
        generalize avC x = c1 at h1 ⊢
        obtain ⟨f1⟩ := c1
        change f1 t = f1 t' at h1
        generalize optC lo = c2 at h2 ⊢
        obtain ⟨f2⟩ := c2
        change f2 t = f2 t' at h2
        generalize optC hi = c3 at h3 ⊢
        obtain ⟨f3⟩ := c3
        change f3 t = f3 t' at h3
        simp only
        try dsimp only
        repeat' split
        all_goals first | rfl | (funext L H nx K; simp only [h1, h2, h3])
      generalize sliceC P t0 x lo hi none = c4 at hb ⊢
      obtain ⟨f4⟩ := c4
      change f4 t = f4 t' at hb
      generalize avC x = c1 at h1 ⊢
      obtain ⟨f1⟩ := c1
      change f1 t = f1 t' at h1
      generalize optC lo = c2 at h2 ⊢
      obtain ⟨f2⟩ := c2
      change f2 t = f2 t' at h2
      generalize optC hi = c3 at h3 ⊢
      obtain ⟨f3⟩ := c3
      change f3 t = f3 t' at h3
      simp only
      try dsimp only
      repeat' split
      all_goals first | exact hb | (funext L H nx K; simp only [h1, h2, h3, hb])
  case fieldAddr s x f =>
    unfold fieldAddrC
    have h1 := avC_cg (h x (by simp))
    generalize avC x = c1 at h1 ⊢
    obtain ⟨f1⟩ := c1
    change f1 t = f1 t' at h1
    try dsimp only
    repeat' split
    all_goals first | rfl | (funext L H nx K; simp only [h1])
  case field t0 x f =>
    have h1 := avC_cg (h x (by simp))
    unfold fieldC
    generalize avC x = c1 at h1 ⊢
    obtain ⟨f1⟩ := c1
    change f1 t = f1 t' at h1
    dsimp only
    split
    · generalize ldC P _ = c2
      obtain ⟨f2⟩ := c2
      funext L H nx K; simp only [h1]
    · rfl
  case indexAddr t0 x ix =>
    unfold indexAddrC
    have h1 := avC_cg (h x (by simp))
    generalize avC x = c1 at h1 ⊢
    obtain ⟨f1⟩ := c1
    change f1 t = f1 t' at h1
    have h2 := avC_cg (h ix (by simp))
    generalize avC ix = c2 at h2 ⊢
    obtain ⟨f2⟩ := c2
    change f2 t = f2 t' at h2
    try dsimp only
    repeat' split
    all_goals first | rfl | (funext L H nx K; simp only [h1, h2])
  case index t0 x ix =>
    unfold indexC
    have h1 := avC_cg (h x (by simp))
    generalize avC x = c1 at h1 ⊢
    obtain ⟨f1⟩ := c1
    change f1 t = f1 t' at h1
    have h2 := avC_cg (h ix (by simp))
    generalize avC ix = c2 at h2 ⊢
    obtain ⟨f2⟩ := c2
    change f2 t = f2 t' at h2
    try dsimp only
    repeat' split
    all_goals first | rfl | (funext L H nx K; simp only [h1, h2])
  case extract x i =>
    unfold extractC
    have h1 := avC_cg (h x (by simp))
    generalize avC x = c1 at h1 ⊢
    obtain ⟨f1⟩ := c1
    change f1 t = f1 t' at h1
    try dsimp only
    repeat' split
    all_goals first | rfl | (funext L H nx K; simp only [h1])
  case lookup t0 x ix ok =>
    unfold lookupC
    have h1 := avC_cg (h x (by simp))
    generalize avC x = c1 at h1 ⊢
    obtain ⟨f1⟩ := c1
    change f1 t = f1 t' at h1
    have h2 := avC_cg (h ix (by simp))
    generalize avC ix = c2 at h2 ⊢
    obtain ⟨f2⟩ := c2
    change f2 t = f2 t' at h2
    try dsimp only
    repeat' split
    all_goals first | rfl | (funext L H nx K; simp only [h1, h2])
  case mapUpdate t0 x ix y =>
    unfold mapUpdateC
    have h1 := avC_cg (h x (by simp))
    generalize avC x = c1 at h1 ⊢
    obtain ⟨f1⟩ := c1
    change f1 t = f1 t' at h1
    have h2 := avC_cg (h ix (by simp))
    generalize avC ix = c2 at h2 ⊢
    obtain ⟨f2⟩ := c2
    change f2 t = f2 t' at h2
    have h3 := avC_cg (h y (by simp))
    generalize avC y = c3 at h3 ⊢
    obtain ⟨f3⟩ := c3
    change f3 t = f3 t' at h3
    try dsimp only
    repeat' split
    all_goals first | rfl | (funext L H nx K; simp only [h1, h2, h3])
  case call c =>
    obtain ⟨callee, args, ts⟩ := c
    cases callee with
    | builtin b =>
      have ha : ∀ y ∈ args.toList, Ag t t' y := fun y hy => h y (by simp [Call.operands]; simpa using hy)
      simp only
      unfold builtinC
      split
      · rename_i x t1 h0 h0t
        unfold lenC
        have h1 := avC_cg (ha x (by rw [h0]; simp))
        generalize avC x = c1 at h1 ⊢
        obtain ⟨f1⟩ := c1
        change f1 t = f1 t' at h1
        try dsimp only
        repeat' split
        all_goals first | rfl | (funext L H nx K; simp only [h1])
      · rename_i x y t1 t2 h0 h0t
        have h1 := avC_cg (ha x (by rw [h0]; simp))
        have h2 := avC_cg (ha y (by rw [h0]; simp))
        unfold appendC growC
        generalize avC x = c1 at h1 ⊢
        obtain ⟨f1⟩ := c1
        change f1 t = f1 t' at h1
        generalize avC y = c2 at h2 ⊢
        obtain ⟨f2⟩ := c2
        change f2 t = f2 t' at h2
        try dsimp only
        repeat' split
        all_goals first | rfl | (funext L H nx K; simp only [h1, h2])
      · rename_i x t1 h0 h0t
        unfold capC
        have h1 := avC_cg (ha x (by rw [h0]; simp))
        generalize avC x = c1 at h1 ⊢
        obtain ⟨f1⟩ := c1
        change f1 t = f1 t' at h1
        try dsimp only
        repeat' split
        all_goals first | rfl | (funext L H nx K; simp only [h1])
      · rename_i x t1 h0 h0t
        unfold clearC
        have h1 := avC_cg (ha x (by rw [h0]; simp))
        generalize avC x = c1 at h1 ⊢
        obtain ⟨f1⟩ := c1
        change f1 t = f1 t' at h1
        try dsimp only
        repeat' split
        all_goals first | rfl | (funext L H nx K; simp only [h1])
      · rename_i x y h0
        unfold mostC
        have h1 := avC_cg (ha x (by rw [h0]; simp))
        generalize avC x = c1 at h1 ⊢
        obtain ⟨f1⟩ := c1
        change f1 t = f1 t' at h1
        have h2 := avC_cg (ha y (by rw [h0]; simp))
        generalize avC y = c2 at h2 ⊢
        obtain ⟨f2⟩ := c2
        change f2 t = f2 t' at h2
        try dsimp only
        repeat' split
        all_goals first | rfl | (funext L H nx K; simp only [h1, h2])
      · rename_i x y h0
        unfold mostC
        have h1 := avC_cg (ha x (by rw [h0]; simp))
        generalize avC x = c1 at h1 ⊢
        obtain ⟨f1⟩ := c1
        change f1 t = f1 t' at h1
        have h2 := avC_cg (ha y (by rw [h0]; simp))
        generalize avC y = c2 at h2 ⊢
        obtain ⟨f2⟩ := c2
        change f2 t = f2 t' at h2
        try dsimp only
        repeat' split
        all_goals first | rfl | (funext L H nx K; simp only [h1, h2])
      · rfl
    | _ => rfl

end Go.Am
