/- Operations that leave the blocks alone; operations that make a new one. -/
import Derived.Test.YtmmmdpobealcdaaGreatDoorB8
set_option linter.unusedVariables false
set_option linter.unusedSimpArgs false
namespace Go.Am
open Go

/-- It hands on one value, or none. -/
def Det {α : Type} (f : (α → Ans) → Ans) : Prop := (∀ K, f K = none) ∨ ∃ z, ∀ K, f K = K z

section
variable {α β : Type}

theorem Det.none : Det (fun _ : α → Ans => .none) := .inl fun _ => rfl
theorem Det.one (z : α) : Det (fun K : α → Ans => K z) := .inr ⟨z, fun _ => rfl⟩
theorem Det.bind {f : (α → Ans) → Ans} {g : α → (β → Ans) → Ans} (hf : Det f) (hg : ∀ z, Det (g z)) : Det (fun K => f fun z => g z K) := by
  rcases hf with h | ⟨z, h⟩
  · exact .inl fun K => h _
  · rcases hg z with h' | ⟨u, h'⟩
    · exact .inl fun K => (h _).trans (h' K)
    · exact .inr ⟨u, fun K => (h _).trans (h' K)⟩
theorem Det.bif {f : (α → Ans) → Ans} (b : Bool) (hf : Det f) : Det (fun K => bif b then f K else .none) := by
  cases b with
  | true => exact hf
  | false => exact .none
theorem Det.bif2 {f g : (α → Ans) → Ans} (b : Bool) (hf : Det f) (hg : Det g) : Det (fun K => bif b then f K else g K) := by
  cases b with
  | true => exact hf
  | false => exact hg
end

theorem getC_det (i : Nat) (t : T3) : Det ((getC i).run t) := by
  by_cases hi : i < 512
  · cases h : tget t i with
    | none => exact .inl fun K => by rw [getC_eq, if_pos hi, h]
    | some x => exact .inr ⟨x, fun K => by rw [getC_eq, if_pos hi, h]⟩
  · exact .inl fun K => by rw [getC_eq, if_neg hi]

theorem avC_det (x : Operand) (t : T3) : Det ((avC x).run t) := by
  unfold avC
  cases x with
  | tmp i => exact getC_det i t
  | const c => exact .one _
  | func f => exact .one _
  | global g => exact .none

theorem forceN_eq (n : Nat) (K : Nat → Ans) : forceN n K = K n := by
  unfold forceN
  cases n <;> rfl
theorem forceI_eq (n : Int) (K : Int → Ans) : forceI n K = K n := by
  unfold forceI
  cases n <;> exact forceN_eq _ _
theorem forceN_det (n : Nat) : Det (forceN n) := .inr ⟨n, forceN_eq n⟩
theorem forceI_det (n : Int) : Det (forceI n) := .inr ⟨n, forceI_eq n⟩

theorem lookE_det (H : HE) (k : Option Nat) (r : Nat) : Det (lookE [] H k r) := by
  unfold lookE
  cases k with
  | some k => exact .inl fun K => rfl
  | none =>
    cases aget r H with
    | none => exact .inl fun K => rfl
    | some ob =>
      cases h : ob.map with
      | none => exact .inr ⟨ob, fun K => by simp only [h]⟩
      | some es => exact .inl fun K => by simp only [h]

theorem asNat_det (x : AV) : Det (asNat x) := by
  unfold asNat
  cases x with
  | v u => cases u with
    | int k j => cases j with
      | ofNat n => exact .one _
      | negSucc n => exact .none
    | _ => exact .none
  | _ => exact .none

theorem asInt_det (x : AV) (K' : IntKind → Int → (AV → Ans) → Ans) (h : ∀ k n, Det (K' k n)) : Det (fun K => asInt x fun k n => K' k n K) := by
  unfold asInt
  cases x with
  | v u => cases u with
    | int k j => exact h k j
    | _ => exact .none
  | _ => exact .none

theorem ldC_det (P : Program) (ty : TypeId) (cs : List AV) : Det ((ldC P ty).run cs) := by
  unfold ldC
  cases isAggT P ty with
  | none => exact .none
  | some b => cases b with
    | true => exact .bif _ (.one _)
    | false => cases cs with
      | nil => exact .none
      | cons x xs => exact .one _

theorem optC_det (x : Option Operand) (t : T3) (d : Nat) : Det ((optC x).run t d) := by
  unfold optC
  cases x with
  | none => exact .one _
  | some x =>
    show Det (fun K => (avC x).run t fun n => asNat n K)
    exact .bind (f := (avC x).run t) (g := fun n K => asNat n K) (avC_det x t) fun z => asNat_det z

theorem isNilS_det (x : AV) {yes no : (AV → Ans) → Ans} (h : Det yes) (h' : Det no) : Det (fun K => isNilS x (yes K) (no K)) := by
  unfold isNilS
  cases x with
  | v u => cases u with
    | slice a n c => cases a with
      | none => exact .bif _ h
      | some a => exact .none
    | _ => exact h'
  | _ => exact h'

theorem eqOpC_det (op : BinOp) (b : Bool) : Det ((eqOpC op).run b) := by
  unfold eqOpC
  split
  · cases b <;> exact .one _
  · cases b <;> exact .one _
  · exact .none

theorem ptrEqE_det (H : HE) (r i o r' i' o' : Nat) : Det (ptrEqE H r i o r' i' o') := by
  unfold ptrEqE
  refine .bind (lookE_det H none r) fun _ => .bind (lookE_det H none r') fun _ => .bif2 _ (.bif _ (.one _)) (.one _)

theorem arithC_det (f : IntKind → Int → Int → Int) (k : IntKind) (a : Int) (k' : IntKind) (b : Int) : Det ((arithC f).run k a k' b) := by
  unfold arithC
  exact .bif _ (.bind (forceI_det _) fun n => .one _)
theorem cmpC_det (f : Int → Int → Bool) (k : IntKind) (a : Int) (k' : IntKind) (b : Int) : Det ((cmpC f).run k a k' b) := by
  unfold cmpC
  refine .bif _ ?_
  cases f a b <;> exact .one _
theorem intC_det (op : BinOp) (k : IntKind) (a : Int) (k' : IntKind) (b : Int) : Det ((intC op).run k a k' b) := by
  unfold intC
  cases op <;> first
    | exact arithC_det _ _ _ _ _
    | exact cmpC_det _ _ _ _ _
    | exact .bif _ (.bind (forceI_det _) fun n => .one _)
    | exact .none
theorem strC_det (op : BinOp) (a b : ByteArray) : Det ((strC op).run a b) := by
  unfold strC
  cases op <;> first
    | exact .bif _ (.one _)
    | exact .one _
    | exact .none
theorem eqC_det (op : BinOp) (a b : Bool) : Det ((eqC op).run a b) := by
  unfold eqC
  cases op <;> first
    | exact .one _
    | exact .none

theorem valC_det (P : Program) (op : BinOp) (ty : TypeId) (yc : Bool) (x y : AV) : Det ((valC P op ty yc).run x y) := by
  unfold valC
  split
  · split
    · show Det (onInts (intC op).run x y)
      unfold onInts
      exact asInt_det x _ fun k a => asInt_det y _ fun k' b => intC_det op k a k' b
    · show Det (onStrs (strC op).run x y)
      unfold onStrs
      cases x with
      | v u => cases u with
        | string a => cases y with
          | v u => cases u with
            | string b => exact strC_det op a b
            | _ => exact .none
          | _ => exact .none
        | _ => exact .none
      | _ => exact .none
    · show Det (onBools (eqC op).run x y)
      unfold onBools
      cases x with
      | v u => cases u with
        | bool a => cases y with
          | v u => cases u with
            | bool b => exact eqC_det op a b
            | _ => exact .none
          | _ => exact .none
        | _ => exact .none
      | _ => exact .none
    · show Det (onPtrs (eqC op).run x y)
      unfold onPtrs
      have hn : ∀ z : AV, Det (isNil z) := fun z => by
        unfold isNil
        cases z with
        | v u => cases u with
          | pointer p => cases p with
            | none => exact .one _
            | some p => exact .none
          | _ => exact .none
        | ptr => exact .one _
        | pref => exact .one _
        | _ => exact .none
      exact .bind (hn x) fun a => .bind (hn y) fun b => .bif _ (eqC_det op a b)
    · split
      · show Det (onNils (eqC op).run x y)
        unfold onNils
        cases x with
        | v u => cases u with
          | nilIface => cases y with
            | v u => cases u with
              | nilIface => exact eqC_det op true true
              | _ => exact .none
            | _ => exact .none
          | _ => exact .none
        | _ => exact .none
      · exact .none
    · exact .none
  · exact .none

theorem avsC_det (t : T3) : ∀ ps : List (Nat × Operand), Det ((avsC ps).run t)
  | [] => .one _
  | (i, x) :: r => .bind (f := (avC x).run t) (g := fun z K => (avsC r).run t fun zs => K ((i, z) :: zs)) (avC_det x t) fun z => .bind (avsC_det t r) fun zs => .one _
theorem argsC_det (t : T3) : ∀ xs : List Operand, Det ((argsC xs).run t)
  | [] => .one _
  | x :: r => .bind (f := (avC x).run t) (g := fun z K => (argsC r).run t fun zs => K (z :: zs)) (avC_det x t) fun z => .bind (argsC_det t r) fun zs => .one _

theorem fillE_det (ps : List (Nat × Nat)) : ∀ (xs : List (Nat × AV)) (cells : List AV), Det (fillE ps cells xs)
  | [], cells => .one _
  | (i, x) :: rest, cells => by
    show Det (fun K => fillE ps cells ((i, x) :: rest) K)
    simp only [fillE]
    cases nth ps i with
    | none => exact .none
    | some q => exact .bif _ (fillE_det ps rest _)

theorem setsE_det (s : Nat) : ∀ (ps : List (Nat × AV)) (xs : List AV), Det (setsE s xs ps)
  | [], xs => .one _
  | (i, x) :: rest, xs => .bif _ (setsE_det s rest _)

/-- It leaves all blocks alone. -/
def Lt (c : Clo OpF) : Prop := ∀ (t : T3) (H : HE), (∀ nx K, c.run t [] H nx K = none) ∨ ∃ y, ∀ nx K, c.run t [] H nx K = K y [] H nx
/-- And it does not look at them. -/
def Lp (c : Clo OpF) : Prop := ∀ (t : T3), (∀ H nx K, c.run t [] H nx K = none) ∨ ∃ y, ∀ H nx K, c.run t [] H nx K = K y [] H nx

theorem Lt.of {c : Clo OpF} (h : ∀ t H, ∃ f : (AV → Ans) → Ans, Det f ∧ ∀ nx K, c.run t [] H nx K = f fun y => K y [] H nx) : Lt c := fun t H => by
  obtain ⟨f, hf, h1⟩ := h t H
  rcases hf with h2 | ⟨y, h2⟩
  · exact .inl fun nx K => (h1 nx K).trans (h2 _)
  · exact .inr ⟨y, fun nx K => (h1 nx K).trans (h2 _)⟩
theorem Lp.of {c : Clo OpF} (h : ∀ t, ∃ f : (AV → Ans) → Ans, Det f ∧ ∀ H nx K, c.run t [] H nx K = f fun y => K y [] H nx) : Lp c := fun t => by
  obtain ⟨f, hf, h1⟩ := h t
  rcases hf with h2 | ⟨y, h2⟩
  · exact .inl fun H nx K => (h1 H nx K).trans (h2 _)
  · exact .inr ⟨y, fun H nx K => (h1 H nx K).trans (h2 _)⟩
theorem Lp.lt {c : Clo OpF} (h : Lp c) : Lt c := fun t H => by
  rcases h t with h1 | ⟨y, h1⟩
  · exact .inl fun nx K => h1 H nx K
  · exact .inr ⟨y, fun nx K => h1 H nx K⟩
theorem Lp.none : Lp ⟨fun _ _ _ _ _ => .none⟩ := fun _ => .inl fun _ _ _ => rfl

theorem moveC_lp (x : Operand) : Lp (moveC x) := .of fun t => ⟨_, avC_det x t, fun _ _ _ => rfl⟩
theorem pickC_lp (c x y : Operand) : Lp (pickC c x y) := fun t => by
  unfold pickC
  rcases avC_det c t with h | ⟨z, h⟩
  · exact .inl fun H nx K => h _
  · cases z with
    | v u => cases u with
      | bool b => cases b with
        | true =>
          rcases avC_det x t with h' | ⟨w, h'⟩
          · exact .inl fun H nx K => (h _).trans (h' _)
          · exact .inr ⟨w, fun H nx K => (h _).trans (h' _)⟩
        | false =>
          rcases avC_det y t with h' | ⟨w, h'⟩
          · exact .inl fun H nx K => (h _).trans (h' _)
          · exact .inr ⟨w, fun H nx K => (h _).trans (h' _)⟩
      | _ => exact .inl fun H nx K => h _
    | _ => exact .inl fun H nx K => h _

theorem buildC_lp (P : Program) (ty : TypeId) (parts : Array (Nat × Operand)) : Lp (buildC P ty parts) := by
  unfold buildC
  split
  · split
    · exact .of fun t => ⟨_, .bind (avsC_det t parts.toList) fun xs => .bind (fillE_det _ xs _) fun cs => .one _, fun _ _ _ => rfl⟩
    · exact .none
  · exact .none

theorem nilCheckC_lp (x : Operand) : Lp (nilCheckC x) := fun t => by
  unfold nilCheckC
  rcases avC_det x t with h | ⟨z, h⟩
  · exact .inl fun H nx K => h _
  · cases z with
    | ptr k r i j => exact .inr ⟨_, fun H nx K => h _⟩
    | pref cs => exact .inr ⟨_, fun H nx K => h _⟩
    | _ => exact .inl fun H nx K => h _

theorem unC_lp (op : UnOp) (x : Operand) : Lp (unC op x) := fun t => by
  unfold unC
  rcases avC_det x t with h | ⟨z, h⟩
  · cases op <;> first | exact .inl fun H nx K => h _ | exact .inl fun H nx K => rfl
  · cases op with
    | not =>
      cases z with
      | v u => cases u with
        | bool b => cases b <;> exact .inr ⟨_, fun H nx K => h _⟩
        | _ => exact .inl fun H nx K => h _
      | _ => exact .inl fun H nx K => h _
    | neg =>
      cases z with
      | v u => cases u with
        | int k n => exact .inr ⟨.v (.int k (k.wrap (0 - n))), fun H nx K => (h _).trans (forceI_eq (k.wrap (0 - n)) fun n => K (.v (.int k n)) [] H nx)⟩
        | _ => exact .inl fun H nx K => h _
      | _ => exact .inl fun H nx K => h _
    | _ => exact .inl fun H nx K => rfl

theorem closeC_lp (fn : Go.Fn) (first captured : Array Operand) : Lp (closeC fn first captured) := by
  unfold closeC
  cases first.toList with
  | cons a l => exact .none
  | nil =>
    cases captured.toList with
    | nil => exact fun t => .inr ⟨_, fun _ _ _ => rfl⟩
    | cons x xs =>
      cases fn with
      | func g => exact .of fun t => ⟨_, .bind (argsC_det t (x :: xs)) fun zs => .one _, fun _ _ _ => rfl⟩
      | _ => exact .none

theorem fieldAddrC_lp (P : Program) (s : TypeId) (x : Operand) (f : Nat) : Lp (fieldAddrC P s x f) := by
  unfold fieldAddrC
  cases fieldOf P s f with
  | none => exact .none
  | some q =>
    obtain ⟨off, ft⟩ := q
    intro t
    rcases avC_det x t with h | ⟨z, h⟩
    · exact .inl fun H nx K => h _
    · cases z with
      | ptr k r i j => exact .inr ⟨_, fun H nx K => h _⟩
      | pref cs => exact .inr ⟨_, fun H nx K => h _⟩
      | _ => exact .inl fun H nx K => h _

theorem fieldC_lp (P : Program) (ty : TypeId) (x : Operand) (f : Nat) : Lp (fieldC P ty x f) := by
  unfold fieldC
  cases fieldOf P ty f with
  | none => exact .none
  | some q =>
    obtain ⟨off, ft⟩ := q
    intro t
    rcases avC_det x t with h | ⟨z, h⟩
    · exact .inl fun H nx K => h _
    · cases z with
      | agg cs =>
        rcases ldC_det P ft (dropR off cs) with h' | ⟨u, h'⟩
        · exact .inl fun H nx K => (h _).trans (h' _)
        · exact .inr ⟨u, fun H nx K => (h _).trans (h' _)⟩
      | _ => exact .inl fun H nx K => h _

theorem indexC_lp (P : Program) (ty : TypeId) (x ix : Operand) : Lp (indexC P ty x ix) := by
  unfold indexC
  cases isStrT P ty with
  | false => exact .none
  | true =>
    intro t
    rcases avC_det x t with h | ⟨z, h⟩
    · exact .inl fun H nx K => h _
    · cases z with
      | v u => cases u with
        | string s =>
          rcases avC_det ix t with h' | ⟨y, h'⟩
          · exact .inl fun H nx K => (h _).trans (h' _)
          · rcases asNat_det y with h2 | ⟨j, h2⟩
            · exact .inl fun H nx K => ((h _).trans (h' _)).trans (h2 _)
            · cases hn : nth s.data.toList j with
              | none => exact .inl fun H nx K => (((h _).trans (h' _)).trans (h2 _)).trans (by simp only [hn])
              | some b => exact .inr ⟨.v (.int .u8 (.ofNat b.toNat)), fun H nx K => (((h _).trans (h' _)).trans (h2 _)).trans (by simp only [hn, forceN_eq])⟩
        | _ => exact .inl fun H nx K => h _
      | _ => exact .inl fun H nx K => h _

theorem extractC_lp (x : Operand) (i : Nat) : Lp (extractC x i) := fun t => by
  unfold extractC
  rcases avC_det x t with h | ⟨z, h⟩
  · exact .inl fun H nx K => h _
  · cases z with
    | tuple vs =>
      cases hn : nth vs i with
      | none => exact .inl fun H nx K => (h _).trans (by simp only [hn])
      | some u => exact .inr ⟨u, fun H nx K => (h _).trans (by simp only [hn])⟩
    | _ => exact .inl fun H nx K => h _

theorem lenC_lp (P : Program) (ty : TypeId) (x : Operand) : Lp (lenC P ty x) := by
  unfold lenC
  cases isStrT P ty with
  | true =>
    intro t
    rcases avC_det x t with h | ⟨z, h⟩
    · exact .inl fun H nx K => h _
    · cases z with
      | v u => cases u with
        | string s => exact .inr ⟨_, fun H nx K => (h _).trans (forceN_eq _ _)⟩
        | _ => exact .inl fun H nx K => h _
      | _ => exact .inl fun H nx K => h _
  | false =>
    cases elemT P ty with
    | none => exact .none
    | some e =>
      intro t
      rcases avC_det x t with h | ⟨z, h⟩
      · exact .inl fun H nx K => h _
      · cases z with
        | v u => cases u with
          | slice a n c => exact .inr ⟨_, fun H nx K => (h _).trans (forceN_eq _ _)⟩
          | _ => exact .inl fun H nx K => h _
        | list s xs => exact .inr ⟨_, fun H nx K => (h _).trans (forceN_eq _ _)⟩
        | vec k r n => exact .inr ⟨_, fun H nx K => (h _).trans (forceN_eq _ _)⟩
        | sub k r o n => exact .inr ⟨_, fun H nx K => (h _).trans (forceN_eq _ _)⟩
        | _ => exact .inl fun H nx K => h _

theorem mostC_lp (mx : Bool) (x y : Operand) : Lp (mostC mx x y) := by
  unfold mostC
  cases mx with
  | true => exact .of fun t => ⟨_, .bind (avC_det x t) fun z => .bind (avC_det y t) fun u => asInt_det z _ fun k n => asInt_det u (fun _ m K => match intLt n m with | true => K (.v (.int k m)) | false => K (.v (.int k n))) fun _ m => (by cases intLt n m <;> exact .one _), fun _ _ _ => rfl⟩
  | false => exact .of fun t => ⟨_, .bind (avC_det x t) fun z => .bind (avC_det y t) fun u => asInt_det z _ fun k n => asInt_det u (fun _ m K => match intLt m n with | true => K (.v (.int k m)) | false => K (.v (.int k n))) fun _ m => (by cases intLt m n <;> exact .one _), fun _ _ _ => rfl⟩

theorem loadC_lt (P : Program) (ty : TypeId) (x : Operand) : Lt (loadC P ty x) := fun t H => by
  unfold loadC
  rcases avC_det x t with h | ⟨z, h⟩
  · exact .inl fun nx K => h _
  · cases z with
    | ptr k r i j =>
      rcases lookE_det H k r with h1 | ⟨ob, h1⟩
      · exact .inl fun nx K => (h _).trans (h1 _)
      · cases hn : nth ob.xs i with
        | none => exact .inl fun nx K => ((h _).trans (h1 _)).trans (by simp only [hn])
        | some u =>
          rcases ldC_det P ty (dropR j u.cells) with h2 | ⟨w, h2⟩
          · exact .inl fun nx K => ((h _).trans (h1 _)).trans (by simp only [hn]; exact h2 _)
          · exact .inr ⟨w, fun nx K => ((h _).trans (h1 _)).trans (by simp only [hn]; exact h2 _)⟩
    | pref cs =>
      rcases ldC_det P ty cs with h2 | ⟨w, h2⟩
      · exact .inl fun nx K => (h _).trans (h2 _)
      · exact .inr ⟨w, fun nx K => (h _).trans (h2 _)⟩
    | _ => exact .inl fun nx K => h _

theorem binC_lt (P : Program) (op : BinOp) (ty : TypeId) (x y : Operand) : Lt (binC P op ty x y) := .of fun t H =>
  ⟨_, .bind (avC_det x t) fun z => .bind (avC_det y t) fun u => .bind (valC_det P op ty (isConstO y) z u) fun w => .one _, fun _ _ => rfl⟩

theorem binXC_lt (P : Program) (op : BinOp) (ty : TypeId) (x y : Operand) : Lt (binXC P op ty x y) := by
  have hb := binC_lt P op ty x y
  unfold binXC
  split
  · split
    · unfold ptrsC
      cases ptrOk P ty with
      | false => exact hb
      | true =>
        intro t H
        rcases avC_det x t with h | ⟨z, h⟩
        · exact .inl fun nx K => h _
        · have old : (∀ nx K, (binC P op ty x y).run t [] H nx K = none) ∨ ∃ y', ∀ nx K, (binC P op ty x y).run t [] H nx K = K y' [] H nx := hb t H
          cases z with
          | ptr k r i o =>
            rcases avC_det y t with h' | ⟨u, h'⟩
            · exact .inl fun nx K => (h _).trans (h' _)
            · cases u with
              | ptr k' r' i' o' =>
                cases k with
                | some k => exact .inl fun nx K => (h _).trans (h' _)
                | none => cases k' with
                  | some k' => exact .inl fun nx K => (h _).trans (h' _)
                  | none =>
                    rcases ptrEqE_det H r i o r' i' o' with h1 | ⟨b, h1⟩
                    · exact .inl fun nx K => ((h _).trans (h' _)).trans (h1 _)
                    · rcases eqOpC_det op b with h2 | ⟨w, h2⟩
                      · exact .inl fun nx K => (((h _).trans (h' _)).trans (h1 _)).trans (h2 _)
                      · exact .inr ⟨w, fun nx K => (((h _).trans (h' _)).trans (h1 _)).trans (h2 _)⟩
              | _ =>
                rcases old with h1 | ⟨w, h1⟩
                · exact .inl fun nx K => ((h _).trans (h' _)).trans (h1 nx K)
                · exact .inr ⟨w, fun nx K => ((h _).trans (h' _)).trans (h1 nx K)⟩
          | _ =>
            rcases old with h1 | ⟨w, h1⟩
            · exact .inl fun nx K => (h _).trans (h1 nx K)
            · exact .inr ⟨w, fun nx K => (h _).trans (h1 nx K)⟩
    · unfold slicesC
      exact .of fun t H => ⟨_, .bind (avC_det x t) fun z => .bind (avC_det y t) fun u => isNilS_det u (isNilS_det z (eqOpC_det op true) (no := fun K => match z with
          | .vec _ _ _ => (eqOpC op).run false K
          | .sub _ _ _ _ => (eqOpC op).run false K
          | .list _ xs => match xs with
            | _ :: _ => (eqOpC op).run false K
            | [] => none
          | _ => none) (by
            cases z with
            | vec => exact eqOpC_det op false
            | sub => exact eqOpC_det op false
            | list s xs => cases xs with
              | nil => exact .none
              | cons a l => exact eqOpC_det op false
            | _ => exact .none)) .none, fun nx K => rfl⟩
    · exact hb
  · exact hb

theorem indexAddrC_lt (P : Program) (ty : TypeId) (x ix : Operand) : Lt (indexAddrC P ty x ix) := by
  unfold indexAddrC
  cases elemT P ty with
  | some e =>
    intro t H
    rcases avC_det x t with h | ⟨z, h⟩
    · exact .inl fun nx K => h _
    rcases avC_det ix t with h' | ⟨u, h'⟩
    · exact .inl fun nx K => (h _).trans (h' _)
    rcases asNat_det u with h1 | ⟨j, h1⟩
    · exact .inl fun nx K => ((h _).trans (h' _)).trans (h1 _)
    cases z with
    | vec k r n =>
      rcases lookE_det H k r with h3 | ⟨ob, h3⟩
      · exact .inl fun nx K => (((h _).trans (h' _)).trans (h1 _)).trans (h3 _)
      · cases hb : Nat.beq (P.cellsOf ob.elem) (P.cellsOf e) && Nat.blt j n with
        | true => exact .inr ⟨.ptr k r j 0, fun nx K => ((((h _).trans (h' _)).trans (h1 _)).trans (h3 _)).trans (by simp only [hb]; rfl)⟩
        | false => exact .inl fun nx K => ((((h _).trans (h' _)).trans (h1 _)).trans (h3 _)).trans (by simp only [hb]; rfl)
    | sub k r o n =>
      rcases lookE_det H k r with h3 | ⟨ob, h3⟩
      · exact .inl fun nx K => (((h _).trans (h' _)).trans (h1 _)).trans (h3 _)
      · cases hb : Nat.beq (P.cellsOf ob.elem) (P.cellsOf e) && Nat.blt j n with
        | true => exact .inr ⟨.ptr k r (o + j) 0, fun nx K => ((((h _).trans (h' _)).trans (h1 _)).trans (h3 _)).trans (by simp only [hb, forceN_eq]; rfl)⟩
        | false => exact .inl fun nx K => ((((h _).trans (h' _)).trans (h1 _)).trans (h3 _)).trans (by simp only [hb]; rfl)
    | list s xs =>
      cases hb : Nat.beq s (P.cellsOf e) with
      | false => exact .inl fun nx K => (((h _).trans (h' _)).trans (h1 _)).trans (by simp only [hb]; rfl)
      | true =>
        cases hn : nth xs j with
        | none => exact .inl fun nx K => (((h _).trans (h' _)).trans (h1 _)).trans (by simp only [hb, hn]; rfl)
        | some w => exact .inr ⟨.pref w.cells, fun nx K => (((h _).trans (h' _)).trans (h1 _)).trans (by simp only [hb, hn]; rfl)⟩
    | _ => exact .inl fun nx K => ((h _).trans (h' _)).trans (h1 _)
  | none =>
    cases arrT P ty with
    | some q =>
      obtain ⟨n, s⟩ := q
      intro t H
      rcases avC_det x t with h | ⟨z, h⟩
      · exact .inl fun nx K => h _
      rcases avC_det ix t with h' | ⟨u, h'⟩
      · exact .inl fun nx K => (h _).trans (h' _)
      rcases asNat_det u with h1 | ⟨j, h1⟩
      · exact .inl fun nx K => ((h _).trans (h' _)).trans (h1 _)
      cases z with
      | ptr k r i o =>
        cases hb : Nat.blt j n with
        | true => exact .inr ⟨.ptr k r i (o + j * s), fun nx K => (((h _).trans (h' _)).trans (h1 _)).trans (by simp only [hb]; rfl)⟩
        | false => exact .inl fun nx K => (((h _).trans (h' _)).trans (h1 _)).trans (by simp only [hb]; rfl)
      | _ => exact .inl fun nx K => ((h _).trans (h' _)).trans (h1 _)
    | none => exact Lp.none.lt

theorem sliceC_lt (P : Program) (ty : TypeId) (x : Operand) (lo hi : Option Operand) : Lt (sliceC P ty x lo hi none) := by
  unfold sliceC
  cases isStrT P ty with
  | true =>
    intro t H
    rcases avC_det x t with h | ⟨z, h⟩
    · exact .inl fun nx K => h _
    cases z with
    | v u => cases u with
      | string s =>
        rcases optC_det lo t 0 with h1 | ⟨l, h1⟩
        · exact .inl fun nx K => (h _).trans (h1 _)
        rcases optC_det hi t (lenR s.data.toList) with h2 | ⟨m, h2⟩
        · exact .inl fun nx K => ((h _).trans (h1 _)).trans (h2 _)
        cases hb : Nat.ble l m && Nat.ble m (lenR s.data.toList) with
        | true => exact .inr ⟨_, fun nx K => (((h _).trans (h1 _)).trans (h2 _)).trans (by simp only [hb]; rfl)⟩
        | false => exact .inl fun nx K => (((h _).trans (h1 _)).trans (h2 _)).trans (by simp only [hb]; rfl)
      | _ => exact .inl fun nx K => h _
    | _ => exact .inl fun nx K => h _
  | false =>
    cases elemT P ty with
    | some e =>
      intro t H
      rcases avC_det x t with h | ⟨z, h⟩
      · exact .inl fun nx K => h _
      cases z with
      | list s xs =>
        rcases optC_det lo t 0 with h1 | ⟨l, h1⟩
        · exact .inl fun nx K => (h _).trans (h1 _)
        rcases optC_det hi t (lenR xs) with h2 | ⟨m, h2⟩
        · exact .inl fun nx K => ((h _).trans (h1 _)).trans (h2 _)
        cases hb : Nat.beq s (P.cellsOf e) && Nat.ble l m && Nat.ble m (lenR xs) with
        | true => exact .inr ⟨_, fun nx K => (((h _).trans (h1 _)).trans (h2 _)).trans (by simp only [hb]; rfl)⟩
        | false => exact .inl fun nx K => (((h _).trans (h1 _)).trans (h2 _)).trans (by simp only [hb]; rfl)
      | _ => exact .inl fun nx K => h _
    | none => exact Lp.none.lt

theorem sliceXC_lt (P : Program) (ty : TypeId) (x : Operand) (lo hi mx : Option Operand) : Lt (sliceXC P ty x lo hi mx) := by
  unfold sliceXC
  cases mx with
  | some mx => exact Lp.none.lt
  | none =>
    have hb := sliceC_lt P ty x lo hi
    cases elemT P ty with
    | some e =>
      intro t H
      rcases avC_det x t with h | ⟨z, h⟩
      · exact .inl fun nx K => h _
      have old : (∀ nx K, (sliceC P ty x lo hi none).run t [] H nx K = none) ∨ ∃ y', ∀ nx K, (sliceC P ty x lo hi none).run t [] H nx K = K y' [] H nx := hb t H
      cases z with
      | vec k r n =>
        rcases optC_det lo t 0 with h1 | ⟨l, h1⟩
        · exact .inl fun nx K => (h _).trans (h1 _)
        rcases optC_det hi t n with h2 | ⟨m, h2⟩
        · exact .inl fun nx K => ((h _).trans (h1 _)).trans (h2 _)
        cases hc : Nat.ble l m && Nat.ble m n with
        | false => exact .inl fun nx K => (((h _).trans (h1 _)).trans (h2 _)).trans (by simp only [hc]; rfl)
        | true =>
          rcases lookE_det H k r with h4 | ⟨ob, h4⟩
          · exact .inl fun nx K => (((h _).trans (h1 _)).trans (h2 _)).trans (by simp only [hc]; exact h4 _)
          · have h5 : Det (fun k' : AV → Ans => bif Nat.beq (P.cellsOf ob.elem) (P.cellsOf e) then (bif Nat.beq l 0 then k' (.vec k r m) else bif Nat.beq l m then k' (.list (P.cellsOf e) []) else forceN (m - l) fun q => k' (.sub k r l q)) else none) :=
              .bif _ (.bif2 _ (.one _) (.bif2 _ (.one _) (.bind (forceN_det _) fun q => .one _)))
            rcases h5 with h5 | ⟨w, h5⟩
            · exact .inl fun nx K => (((h _).trans (h1 _)).trans (h2 _)).trans (by simp only [hc]; exact (h4 _).trans (h5 fun y => K y [] H nx))
            · exact .inr ⟨w, fun nx K => (((h _).trans (h1 _)).trans (h2 _)).trans (by simp only [hc]; exact (h4 _).trans (h5 fun y => K y [] H nx))⟩
      | sub k r o n =>
        rcases optC_det lo t 0 with h1 | ⟨l, h1⟩
        · exact .inl fun nx K => (h _).trans (h1 _)
        rcases optC_det hi t n with h2 | ⟨m, h2⟩
        · exact .inl fun nx K => ((h _).trans (h1 _)).trans (h2 _)
        cases hc : Nat.ble l m && Nat.ble m n with
        | false => exact .inl fun nx K => (((h _).trans (h1 _)).trans (h2 _)).trans (by simp only [hc]; rfl)
        | true =>
          rcases lookE_det H k r with h4 | ⟨ob, h4⟩
          · exact .inl fun nx K => (((h _).trans (h1 _)).trans (h2 _)).trans (by simp only [hc]; exact h4 _)
          · have h5 : Det (fun k' : AV → Ans => bif Nat.beq (P.cellsOf ob.elem) (P.cellsOf e) then (bif Nat.beq l m then k' (.list (P.cellsOf e) []) else forceN (o + l) fun p => forceN (m - l) fun q => k' (.sub k r p q)) else none) :=
              .bif _ (.bif2 _ (.one _) (.bind (forceN_det _) fun p => .bind (forceN_det _) fun q => .one _))
            rcases h5 with h5 | ⟨w, h5⟩
            · exact .inl fun nx K => (((h _).trans (h1 _)).trans (h2 _)).trans (by simp only [hc]; exact (h4 _).trans (h5 fun y => K y [] H nx))
            · exact .inr ⟨w, fun nx K => (((h _).trans (h1 _)).trans (h2 _)).trans (by simp only [hc]; exact (h4 _).trans (h5 fun y => K y [] H nx))⟩
      | v u =>
        cases u with
        | slice a n c =>
          cases a with
          | some a => exact .inl fun nx K => h _
          | none =>
            cases hc : Nat.beq n 0 && Nat.beq c 0 with
            | false => exact .inl fun nx K => (h _).trans (by simp only [hc]; rfl)
            | true =>
              rcases optC_det lo t 0 with h1 | ⟨l, h1⟩
              · exact .inl fun nx K => (h _).trans (by simp only [hc]; exact h1 _)
              rcases optC_det hi t 0 with h2 | ⟨m, h2⟩
              · exact .inl fun nx K => (h _).trans (by simp only [hc]; exact (h1 _).trans (h2 _))
              cases hd : Nat.beq l 0 && Nat.beq m 0 with
              | false => exact .inl fun nx K => (h _).trans (by simp only [hc]; exact ((h1 _).trans (h2 _)).trans (by simp only [hd]; rfl))
              | true => exact .inr ⟨_, fun nx K => (h _).trans (by simp only [hc]; exact ((h1 _).trans (h2 _)).trans (by simp only [hd]; rfl))⟩
        | _ =>
          rcases old with h1 | ⟨w, h1⟩
          · exact .inl fun nx K => (h _).trans (h1 nx K)
          · exact .inr ⟨w, fun nx K => (h _).trans (h1 nx K)⟩
      | _ =>
        rcases old with h1 | ⟨w, h1⟩
        · exact .inl fun nx K => (h _).trans (h1 nx K)
        · exact .inr ⟨w, fun nx K => (h _).trans (h1 nx K)⟩
    | none => exact hb

theorem convC_lt (P : Program) (src dst : TypeId) (x : Operand) : Lt (convC P src dst x) := by
  unfold convC
  cases P.underlying dst with
  | none => exact Lp.none.lt
  | some d => cases d with
    | int k =>
      cases (P.underlying src).isSome with
      | false => exact Lp.none.lt
      | true =>
        intro t H
        rcases avC_det x t with h | ⟨z, h⟩
        · exact .inl fun nx K => h _
        cases z with
        | v u => cases u with
          | int k' n => exact .inr ⟨.v (.int k (k.wrap n)), fun nx K => (h _).trans (forceI_eq (k.wrap n) fun n => K (.v (.int k n)) [] H nx)⟩
          | _ => exact .inl fun nx K => h _
        | _ => exact .inl fun nx K => h _
    | string =>
      cases elemT P src with
      | none => exact Lp.none.lt
      | some e =>
        dsimp only
        cases isU8T P e with
        | false => exact Lp.none.lt
        | true =>
          intro t H
          rcases avC_det x t with h | ⟨z, h⟩
          · exact .inl fun nx K => h _
          cases z with
          | list s xs =>
            cases hb : bytesOf xs with
            | none => exact .inl fun nx K => (h _).trans (by simp only [hb])
            | some ns =>
              cases hc : Nat.beq s 1 with
              | true => exact .inr ⟨_, fun nx K => (h _).trans (by simp only [hb, hc]; rfl)⟩
              | false => exact .inl fun nx K => (h _).trans (by simp only [hb, hc]; rfl)
          | vec k r n =>
            rcases lookE_det H k r with h4 | ⟨ob, h4⟩
            · exact .inl fun nx K => (h _).trans (h4 _)
            · cases hb : bytesOf (takeR n ob.xs) with
              | none => exact .inl fun nx K => ((h _).trans (h4 _)).trans (by simp only [hb])
              | some ns =>
                cases hc : Nat.ble n (lenR ob.xs) && Nat.beq (P.cellsOf ob.elem) 1 with
                | true => exact .inr ⟨_, fun nx K => ((h _).trans (h4 _)).trans (by simp only [hb, hc]; rfl)⟩
                | false => exact .inl fun nx K => ((h _).trans (h4 _)).trans (by simp only [hb, hc]; rfl)
          | _ => exact .inl fun nx K => h _
    | slice e' =>
      cases elemT P dst with
      | none => exact Lp.none.lt
      | some e =>
        dsimp only
        cases isStrT P src && Nat.beq (P.cellsOf e) 1 && isU8T P e with
        | false => exact Lp.none.lt
        | true =>
          intro t H
          rcases avC_det x t with h | ⟨z, h⟩
          · exact .inl fun nx K => h _
          cases z with
          | v u => cases u with
            | string s => exact .inr ⟨_, fun nx K => h _⟩
            | _ => exact .inl fun nx K => h _
          | _ => exact .inl fun nx K => h _
    | _ => exact Lp.none.lt

theorem opC_lp (P : Program) (o : Oper) (h : cls o = 0) : Lp (opC true .heap P o) := by
  obtain ⟨dst, op, ty, pos, after, guard⟩ := o
  unfold opC
  unfold cls at h
  cases op <;> first | (simp only at h; cases h; done) | skip
  case move x => exact moveC_lp x
  case assign x => exact moveC_lp x
  case pick c x y => exact pickC_lp c x y
  case build t parts => exact buildC_lp P t parts
  case nilCheck x => exact nilCheckC_lp x
  case unOp op t x => exact unC_lp op x
  case makeFunc fn first captured => exact closeC_lp fn first captured
  case fieldAddr s x f => exact fieldAddrC_lp P s x f
  case field t x f => exact fieldC_lp P t x f
  case index t x ix => exact indexC_lp P t x ix
  case extract x i => exact extractC_lp x i
  case call c =>
    obtain ⟨callee, args, ts⟩ := c
    cases callee with
    | builtin b =>
      simp only at h
      cases b <;> first | (simp only at h; cases h; done) | skip
      all_goals
        simp only
        unfold builtinC
        split <;> first
          | exact lenC_lp P _ _
          | exact mostC_lp _ _ _
          | exact .none
          | (exfalso; simp_all; done)
    | _ => cases h

theorem opC_lt (P : Program) (o : Oper) (h : cls o = 0 ∨ cls o = 1) : Lt (opC true .heap P o) := by
  rcases h with h | h
  · exact (opC_lp P o h).lt
  · obtain ⟨dst, op, ty, pos, after, guard⟩ := o
    unfold opC
    unfold cls at h
    cases op <;> first | (simp only at h; cases h; done) | skip
    case load t x => exact loadC_lt P t x
    case binOp op t x y yt => exact binXC_lt P op t x y
    case convert s d x => exact convC_lt P s d x
    case slice t x lo hi mx => exact sliceXC_lt P t x lo hi mx
    case indexAddr t x ix => exact indexAddrC_lt P t x ix
    case call c =>
      obtain ⟨callee, args, ts⟩ := c
      cases callee with
      | builtin b => cases b <;> cases h
      | _ => cases h

/-! ### Literals of slices that are lists -/

theorem pub1E_det (P : Program) (x : AV) : Det (fun K => pub1E P [] x fun y _ => K y) ∧ ∀ (K : AV → LE → Ans), pub1E P [] x K = pub1E P [] x fun y _ => K y [] := by
  cases x with
  | vec k r n => cases k with
    | some k => exact ⟨.none, fun K => rfl⟩
    | none => exact ⟨.one _, fun K => rfl⟩
  | _ => exact ⟨.one _, fun K => rfl⟩

theorem pubsE_det (P : Program) : ∀ xs : List AV, Det (fun K => pubsE P xs [] fun ys _ => K ys) ∧ ∀ (K : List AV → LE → Ans), pubsE P xs [] K = pubsE P xs [] fun ys _ => K ys []
  | [] => ⟨.one _, fun K => rfl⟩
  | x :: xs => by
    obtain ⟨h1, h2⟩ := pub1E_det P x
    obtain ⟨h3, h4⟩ := pubsE_det P xs
    have e : ∀ K : List AV → LE → Ans, pubsE P (x :: xs) [] K = pub1E P [] x fun y _ => pubsE P xs [] fun ys _ => K (y :: ys) [] := fun K => by
      show pub1E P [] x (fun y L' => pubsE P xs L' fun ys L'' => K (y :: ys) L'') = _
      rw [h2]
      congr 1
      funext y _
      exact h4 _
    refine ⟨?_, fun K => by rw [e, e]⟩
    have := Det.bind (f := fun K => pub1E P [] x fun y _ => K y) (g := fun y K => pubsE P xs [] fun ys _ => K (y :: ys)) h1 fun y => Det.bind (f := fun K => pubsE P xs [] fun ys _ => K ys) (g := fun ys K => K (y :: ys)) h3 fun ys => .one _
    rcases this with h | ⟨z, h⟩
    · exact .inl fun K => (e _).trans (h K)
    · exact .inr ⟨z, fun K => (e _).trans (h K)⟩

theorem pubE_det (P : Program) (x : AV) : Det (fun K => pubE P [] x fun y _ => K y) ∧ ∀ (K : AV → LE → Ans), pubE P [] x K = pubE P [] x fun y _ => K y [] := by
  cases x with
  | agg cs =>
    obtain ⟨h1, h2⟩ := pubsE_det P cs
    exact ⟨Det.bind (α := List AV) (β := AV) (f := fun K => pubsE P cs [] fun ys _ => K ys) (g := fun ys K => K (AV.agg ys)) h1 fun ys => .one _, fun K => h2 _⟩
  | tuple cs =>
    obtain ⟨h1, h2⟩ := pubsE_det P cs
    exact ⟨Det.bind (α := List AV) (β := AV) (f := fun K => pubsE P cs [] fun ys _ => K ys) (g := fun ys K => K (AV.tuple ys)) h1 fun ys => .one _, fun K => h2 _⟩
  | v u => exact pub1E_det P (.v u)
  | vec k r n => exact pub1E_det P (.vec k r n)
  | list n xs => exact pub1E_det P (.list n xs)
  | ptr k r i o => exact pub1E_det P (.ptr k r i o)
  | pref xs => exact pub1E_det P (.pref xs)
  | clo g xs => exact pub1E_det P (.clo g xs)
  | sub k r o n => exact pub1E_det P (.sub k r o n)
  | mp k r => exact pub1E_det P (.mp k r)

theorem pubsIE_det (P : Program) : ∀ xs : List (Nat × AV), Det (fun K => pubsIE P xs [] fun ys _ => K ys) ∧ ∀ (K : List (Nat × AV) → LE → Ans), pubsIE P xs [] K = pubsIE P xs [] fun ys _ => K ys []
  | [] => ⟨.one _, fun K => rfl⟩
  | (i, x) :: xs => by
    obtain ⟨h1, h2⟩ := pubE_det P x
    obtain ⟨h3, h4⟩ := pubsIE_det P xs
    have e : ∀ K : List (Nat × AV) → LE → Ans, pubsIE P ((i, x) :: xs) [] K = pubE P [] x fun y _ => pubsIE P xs [] fun ys _ => K ((i, y) :: ys) [] := fun K => by
      show pubE P [] x (fun y L' => pubsIE P xs L' fun ys L'' => K ((i, y) :: ys) L'') = _
      rw [h2]
      congr 1
      funext y _
      exact h4 _
    refine ⟨?_, fun K => by rw [e, e]⟩
    have := Det.bind (f := fun K => pubE P [] x fun y _ => K y) (g := fun y K => pubsIE P xs [] fun ys _ => K ((i, y) :: ys)) h1 fun y => Det.bind (f := fun K => pubsIE P xs [] fun ys _ => K ys) (g := fun ys K => K ((i, y) :: ys)) h3 fun ys => .one _
    rcases this with h | ⟨z, h⟩
    · exact .inl fun K => (e _).trans (h K)
    · exact .inr ⟨z, fun K => (e _).trans (h K)⟩

theorem listC_lp (P : Program) (key : Nat) (ty : TypeId) (len : Nat) (parts : Array (Nat × Operand)) : Lp (buildSliceC P .list key ty len parts) := by
  unfold buildSliceC
  cases elemT P ty with
  | none => exact .none
  | some e =>
    dsimp only
    cases zeroAV P e with
    | none => exact .none
    | some z =>
      dsimp only
      cases Nat.beq (lenR z.cells) (P.cellsOf e) && Nat.blt 0 (P.cellsOf e) && Nat.ble (len * P.cellsOf e) 16777216 with
      | false => exact .none
      | true =>
        intro t
        rcases avsC_det t parts.toList with h | ⟨zs, h⟩
        · exact .inl fun H nx K => h _
        · obtain ⟨h1, h2⟩ := pubsIE_det P zs
          rcases h1 with h1 | ⟨ys, h1⟩
          · exact .inl fun H nx K => ((h _).trans (h2 _)).trans (h1 _)
          · rcases setsE_det (P.cellsOf e) ys (repR len z) with h3 | ⟨cs, h3⟩
            · exact .inl fun H nx K => (((h _).trans (h2 _)).trans (h1 _)).trans (h3 _)
            · exact .inr ⟨.list (P.cellsOf e) cs, fun H nx K => (((h _).trans (h2 _)).trans (h1 _)).trans (h3 _)⟩

/-- How literals of slices are kept matters to them alone. -/
theorem opC_lm (P : Program) (o : Oper) (lm : LitMode) (h : ∀ t n ps, o.op ≠ .buildSlice t n ps) : opC true lm P o = opC true .heap P o := by
  obtain ⟨dst, op, ty, pos, after, guard⟩ := o
  unfold opC
  cases op <;> first | rfl | exact absurd rfl (h _ _ _)

theorem clsG_not {G : Cfg} {fn : Nat} {o : Oper} (h : ∀ t n ps, o.op ≠ .buildSlice t n ps) : clsG G fn o = cls o := by
  obtain ⟨dst, op, ty, pos, after, guard⟩ := o
  unfold clsG
  cases op <;> first | rfl | exact absurd rfl (h _ _ _)

theorem clsG_is {G : Cfg} {fn : Nat} {o : Oper} {t : TypeId} {n : Nat} {ps : Array (Nat × Operand)} (h : o.op = .buildSlice t n ps) : cls o = 2 ∧ ((clsG G fn o = 0 ∧ lmH G fn o = .list) ∨ clsG G fn o = 2) := by
  obtain ⟨dst, op, ty, pos, after, guard⟩ := o
  simp only at h
  subst h
  refine ⟨rfl, ?_⟩
  have e : clsG G fn ⟨dst, .buildSlice t n ps, ty, pos, after, guard⟩ = (match lmH G fn ⟨dst, .buildSlice t n ps, ty, pos, after, guard⟩ with | .list => 0 | _ => 2) := rfl
  cases hq : lmH G fn ⟨dst, .buildSlice t n ps, ty, pos, after, guard⟩ with
  | list => rw [hq] at e; exact .inl ⟨e, rfl⟩
  | vec => rw [hq] at e; exact .inr e
  | heap => rw [hq] at e; exact .inr e

theorem isBuild (o : Oper) : (∃ t n ps, o.op = .buildSlice t n ps) ∨ ∀ t n ps, o.op ≠ .buildSlice t n ps := by
  by_cases h : ∃ t n ps, o.op = .buildSlice t n ps
  · exact .inl h
  · exact .inr fun t n ps e => h ⟨t, n, ps, e⟩

theorem clsG_two {G : Cfg} {fn : Nat} {o : Oper} (h : clsG G fn o = 2) : cls o = 2 := by
  rcases isBuild o with ⟨t, n, ps, e⟩ | hb
  · exact (clsG_is (G := G) (fn := fn) e).1
  · rw [← clsG_not hb]; exact h
theorem clsG_one {G : Cfg} {fn : Nat} {o : Oper} (h : clsG G fn o = 1) : cls o = 1 ∧ ∀ lm, opC true lm G.P o = opC true .heap G.P o := by
  rcases isBuild o with ⟨t, n, ps, e⟩ | hb
  · rcases (clsG_is (G := G) (fn := fn) e).2 with ⟨h1, _⟩ | h1 <;> rw [h1] at h <;> cases h
  · exact ⟨by rw [← clsG_not hb]; exact h, fun lm => opC_lm _ _ _ hb⟩
theorem clsG_three {G : Cfg} {fn : Nat} {o : Oper} (h : cls o = 3) : clsG G fn o = 3 := by
  rcases isBuild o with ⟨t, n, ps, e⟩ | hb
  · rw [(clsG_is (G := G) (fn := fn) e).1] at h; cases h
  · rw [clsG_not hb]; exact h

theorem lightC_lp (G : Cfg) (fn : Nat) (o : Oper) (h : clsG G fn o = 0) : Lp (opC true (lmH G fn o) G.P o) := by
  rcases isBuild o with ⟨t, n, ps, e⟩ | hb
  · rcases (clsG_is (G := G) (fn := fn) e).2 with ⟨_, h1⟩ | h1
    · rw [h1]
      obtain ⟨dst, op, ty, pos, after, guard⟩ := o
      simp only at e
      subst e
      exact listC_lp _ _ _ _ _
    · rw [h1] at h; cases h
  · rw [opC_lm _ _ _ hb]
    exact opC_lp _ _ (by rw [← clsG_not (G := G) (fn := fn) hb]; exact h)
theorem lightC_lt (G : Cfg) (fn : Nat) (o : Oper) (h : clsG G fn o = 0 ∨ clsG G fn o = 1) : Lt (opC true (lmH G fn o) G.P o) := by
  rcases h with h | h
  · exact (lightC_lp G fn o h).lt
  · obtain ⟨h1, h2⟩ := clsG_one h
    rw [h2]
    exact opC_lt _ _ (.inr h1)

end Go.Am
