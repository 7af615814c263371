/- Each function of an operation is right. Second part. -/
import Derived.Test.YtmmmdpobealcdaaGreatDoorB3
set_option linter.unusedVariables false
set_option linter.unusedSimpArgs false
namespace Go.Am
open Go

section
variable {ρ : Nm} {t : T3} {L : LE} {H : HE} {nx : Nat} {st : St} {r : AV × HE × Nat}

theorem sameKind_eq {k k' : IntKind} (h : sameKind k k' = true) : k = k' := by
  unfold sameKind at h
  have := beq_eq h
  cases k <;> cases k' <;> first | rfl | (exfalso; revert this; decide)

theorem ble_dec (m n : Nat) : Nat.ble m n = decide (m ≤ n) := by
  cases h : Nat.ble m n with
  | true => simp [Nat.le_of_ble_eq_true h]
  | false =>
    have : ¬ m ≤ n := fun h' => by rw [Nat.ble_eq_true_of_le h'] at h; cases h
    simp [this]
theorem beq_dec (m n : Nat) : Nat.beq m n = decide (m = n) := by
  by_cases h : m = n
  · subst h; rw [beq_self]; simp
  · rw [beq_ne h]; simp [h]

theorem intLe_eq (a b : Int) : intLe a b = decide (a ≤ b) := by
  unfold intLe
  cases a with
  | ofNat m => cases b with
    | ofNat n => simp only [ble_dec]; congr 1; simp
    | negSucc n =>
      have : ¬ (Int.ofNat m ≤ Int.negSucc n) := by simp only [Int.ofNat_eq_natCast]; omega
      simp only [this, decide_false]
  | negSucc m => cases b with
    | ofNat n =>
      have : Int.negSucc m ≤ Int.ofNat n := by simp only [Int.ofNat_eq_natCast]; omega
      simp only [this, decide_true]
    | negSucc n =>
      simp only [ble_dec]
      have : (n ≤ m) ↔ (Int.negSucc m ≤ Int.negSucc n) := by omega
      simp only [this]

theorem intEq_eq (a b : Int) : intEq a b = decide (a = b) := by
  unfold intEq
  cases a with
  | ofNat m => cases b with
    | ofNat n =>
      simp only [beq_dec]
      have : (m = n) ↔ (Int.ofNat m = Int.ofNat n) := by simp only [Int.ofNat_eq_natCast]; omega
      simp only [this]
    | negSucc n =>
      have : ¬ (Int.ofNat m = Int.negSucc n) := by simp only [Int.ofNat_eq_natCast]; omega
      simp only [this, decide_false]
  | negSucc m => cases b with
    | ofNat n =>
      have : ¬ (Int.negSucc m = Int.ofNat n) := by simp only [Int.ofNat_eq_natCast]; omega
      simp only [this, decide_false]
    | negSucc n =>
      simp only [beq_dec]
      have : (m = n) ↔ (Int.negSucc m = Int.negSucc n) := by omega
      simp only [this]

theorem not_intLe (a b : Int) : (!intLe a b) = decide (b < a) := by rw [intLe_eq]; by_cases h : a ≤ b <;> simp [h] <;> omega

theorem arith_run {f : IntKind → Int → Int → Int} {k k' : IntKind} {a b : Int} {K : AV → Ans} (h : (arithC f).run k a k' b K = some r) : k = k' ∧ K (.v (.int k (f k a b))) = some r := by
  unfold arithC at h
  obtain ⟨h1, h2⟩ := bif_true h
  exact ⟨sameKind_eq h1, forceI_run h2⟩
theorem cmp_run {f : Int → Int → Bool} {k k' : IntKind} {a b : Int} {K : AV → Ans} (h : (cmpC f).run k a k' b K = some r) : k = k' ∧ K (.v (.bool (f a b))) = some r := by
  unfold cmpC at h
  obtain ⟨h1, h2⟩ := bif_true h
  refine ⟨sameKind_eq h1, ?_⟩
  cases hf : f a b with
  | true => rw [hf] at h2; exact h2
  | false => rw [hf] at h2; exact h2

theorem intC_ok {op : BinOp} {k k' : IntKind} {a b : Int} {K : AV → Ans} (h : (intC op).run k a k' b K = some r) : intK op k k' a b fun z => K z = some r := by
  unfold intC at h
  cases op <;> simp only at h <;> first | (cases h; done) | skip
  case add => exact arith_run h
  case sub => exact arith_run h
  case mul => exact arith_run h
  case quo =>
    obtain ⟨h1, h2⟩ := bif_true h
    simp only [Bool.and_eq_true, intEq_eq] at h1
    exact ⟨⟨sameKind_eq h1.1, by simpa using h1.2⟩, forceI_run h2⟩
  case rem =>
    obtain ⟨h1, h2⟩ := bif_true h
    simp only [Bool.and_eq_true, intEq_eq] at h1
    exact ⟨⟨sameKind_eq h1.1, by simpa using h1.2⟩, forceI_run h2⟩
  case and => exact arith_run h
  case or => exact arith_run h
  case xor => exact arith_run h
  case shl =>
    obtain ⟨h1, h2⟩ := bif_true h
    rw [intLe_eq] at h1
    exact ⟨by simpa using h1, forceI_run h2⟩
  case shr =>
    obtain ⟨h1, h2⟩ := bif_true h
    rw [intLe_eq] at h1
    exact ⟨by simpa using h1, forceI_run h2⟩
  case eql =>
    obtain ⟨h1, h2⟩ := cmp_run h
    rw [intEq_eq] at h2
    exact ⟨h1, h2⟩
  case neq =>
    obtain ⟨h1, h2⟩ := cmp_run h
    rw [intEq_eq] at h2
    exact ⟨h1, by simpa using h2⟩
  case lss =>
    obtain ⟨h1, h2⟩ := cmp_run h
    rw [not_intLe] at h2
    exact ⟨h1, h2⟩
  case leq =>
    obtain ⟨h1, h2⟩ := cmp_run h
    rw [intLe_eq] at h2
    exact ⟨h1, h2⟩
  case gtr =>
    obtain ⟨h1, h2⟩ := cmp_run h
    rw [not_intLe] at h2
    exact ⟨h1, h2⟩
  case geq =>
    obtain ⟨h1, h2⟩ := cmp_run h
    rw [intLe_eq] at h2
    exact ⟨h1, h2⟩

theorem sameBytes_eq (xs ys : List UInt8) : sameBytes xs ys = decide (xs = ys) := by
  unfold sameBytes
  induction xs generalizing ys with
  | nil => cases ys <;> simp
  | cons x xs ih =>
    cases ys with
    | nil => simp
    | cons y ys =>
      simp only
      by_cases h : x = y
      · subst h
        simp only [beq_self]
        rw [ih ys]
        simp
      · have : Nat.beq x.toNat y.toNat = false := beq_ne fun e => h (UInt8.toNat_inj.1 e)
        simp [this, h]

theorem bytes_ext {a b : ByteArray} : a.data.toList = b.data.toList ↔ a = b := by
  constructor
  · intro h
    cases a with | mk a => cases b with | mk b => cases a; cases b; simp_all
  · intro h; rw [h]

theorem bytes_append (a b : ByteArray) : (⟨⟨appR a.data.toList b.data.toList⟩⟩ : ByteArray) = a ++ b := by
  rw [appR_eq]
  apply bytes_ext.1
  simp

theorem bytes_size (a : ByteArray) : lenR a.data.toList = a.size := by rw [lenR_eq]; exact Array.length_toList

theorem strC_ok {op : BinOp} {a b : ByteArray} {K : AV → Ans} (h : (strC op).run a b K = some r) : strK op a b fun z => K z = some r := by
  unfold strC at h
  cases op <;> simp only at h <;> first | (cases h; done) | skip
  case add =>
    obtain ⟨h1, h2⟩ := bif_true h
    rw [bytes_append] at h2
    rw [bytes_size, bytes_size] at h1
    have := ble_le h1
    exact ⟨by omega, h2⟩
  case eql =>
    rw [sameBytes_eq] at h
    have : decide (a.data.toList = b.data.toList) = decide (a = b) := decide_eq_decide.2 bytes_ext
    rw [this] at h
    exact h
  case neq =>
    rw [sameBytes_eq] at h
    have : decide (a.data.toList = b.data.toList) = decide (a = b) := decide_eq_decide.2 bytes_ext
    rw [this] at h
    exact h

theorem onInts_run {f : IntF} {x x' y y' : AV} (hx : Ren ρ (.one x x')) (hy : Ren ρ (.one y y')) {K : AV → Ans} (h : onInts f x y K = some r) :
    ∃ k a k' b, x' = .v (.int k a) ∧ y' = .v (.int k' b) ∧ f k a k' b K = some r := by
  unfold onInts at h
  obtain ⟨k, a, rfl, h⟩ := asInt_run hx h
  obtain ⟨k', b, rfl, h⟩ := asInt_run hy h
  exact ⟨k, a, k', b, rfl, rfl, h⟩

theorem onStrs_run {f : ByteArray → ByteArray → (AV → Ans) → Ans} {x x' y y' : AV} (hx : Ren ρ (.one x x')) (hy : Ren ρ (.one y y')) {K : AV → Ans} (h : onStrs f x y K = some r) :
    ∃ a b, x' = .v (.string a) ∧ y' = .v (.string b) ∧ f a b K = some r := by
  unfold onStrs at h
  cases hx with
  | v u => cases u with
    | string a => cases hy with
      | v u' => cases u' with
        | string b => exact ⟨a, b, rfl, rfl, h⟩
        | _ => cases h
      | _ => cases h
    | _ => cases h
  | _ => cases h

theorem onBools_run {f : BoolF} {x x' y y' : AV} (hx : Ren ρ (.one x x')) (hy : Ren ρ (.one y y')) {K : AV → Ans} (h : onBools f x y K = some r) :
    ∃ a b, x' = .v (.bool a) ∧ y' = .v (.bool b) ∧ f a b K = some r := by
  unfold onBools at h
  cases hx with
  | v u => cases u with
    | bool a => cases hy with
      | v u' => cases u' with
        | bool b => exact ⟨a, b, rfl, rfl, h⟩
        | _ => cases h
      | _ => cases h
    | _ => cases h
  | _ => cases h

theorem isNil_run {x x' : AV} (hx : Ren ρ (.one x x')) {K : Bool → Ans} (h : isNil x K = some r) :
    (x' = .v (.pointer none) ∧ K true = some r) ∨ (((∃ k b i o, x' = .ptr k b i o) ∨ ∃ cs, x' = .pref cs) ∧ K false = some r) := by
  unfold isNil at h
  cases hx with
  | v u => cases u with
    | pointer p => cases p with
      | none => exact .inl ⟨rfl, h⟩
      | some p => cases h
    | _ => cases h
  | ptr k m b i o hm => exact .inr ⟨.inl ⟨k, b, i, o, rfl⟩, h⟩
  | pref xs ys hl => exact .inr ⟨.inr ⟨ys, rfl⟩, h⟩
  | _ => cases h

theorem eqC_run {op : BinOp} {a b : Bool} {K : AV → Ans} (h : (eqC op).run a b K = some r) : (op = .eql ∧ K (.v (.bool (a == b))) = some r) ∨ (op = .neq ∧ K (.v (.bool (!(a == b)))) = some r) := by
  unfold eqC at h
  cases op <;> simp only at h <;> first | (cases h; done) | exact .inl ⟨rfl, h⟩ | exact .inr ⟨rfl, h⟩

theorem intK_mono {op : BinOp} {k k' : IntKind} {a b : Int} {K K' : AV → Prop} (h : intK op k k' a b K) (hk : ∀ z, K z → K' z) : intK op k k' a b K' := by
  unfold intK at *
  cases op <;> first | exact h.elim | exact ⟨h.1, hk _ h.2⟩
theorem strK_mono {op : BinOp} {a b : ByteArray} {K K' : AV → Prop} (h : strK op a b K) (hk : ∀ z, K z → K' z) : strK op a b K' := by
  unfold strK at *
  cases op <;> first | exact h.elim | exact hk _ h | exact ⟨h.1, hk _ h.2⟩

theorem intK_v {op : BinOp} {k k' : IntKind} {a b : Int} {K : AV → Prop} (h : intK op k k' a b K) : intK op k k' a b fun z => K z ∧ ∃ u, z = .v u := by
  unfold intK at *
  cases op <;> first | exact h.elim | exact ⟨h.1, h.2, _, rfl⟩
theorem strK_v {op : BinOp} {a b : ByteArray} {K : AV → Prop} (h : strK op a b K) : strK op a b fun z => K z ∧ ∃ u, z = .v u := by
  unfold strK at *
  cases op <;> first | exact h.elim | exact ⟨h, _, rfl⟩ | exact ⟨h.1, h.2, _, rfl⟩

theorem RenS.postv (h : RenS ρ t L H nx st) {K : K1} {x : AV} (hx : ∃ u, x = .v u) (hk : K x L H nx = some r) : Post ρ nx t K r x st := by
  obtain ⟨u, rfl⟩ := hx
  exact h.post (.v u) hk

theorem onNils_run {f : BoolF} {x x' y y' : AV} (hx : Ren ρ (.one x x')) (hy : Ren ρ (.one y y')) {K : AV → Ans} (h : onNils f x y K = some r) : x' = .v .nilIface ∧ y' = .v .nilIface ∧ f true true K = some r := by
  unfold onNils at h
  cases hx with
  | v u => cases u with
    | nilIface => cases hy with
      | v u' => cases u' with
        | nilIface => exact ⟨rfl, rfl, h⟩
        | _ => cases h
      | _ => cases h
    | _ => cases h
  | _ => cases h

theorem binC_ok (P : Program) (op : BinOp) (ty : TypeId) (x y : Operand) : OpOk (binC P op ty x y) (fun st => binK P st op ty x y) := by
  intro ρ t L H nx K r st hs h
  unfold binC at h
  obtain ⟨z, z', h1, h2, h3⟩ := avC_run hs h
  obtain ⟨q, q', k1, k2, k3⟩ := avC_run hs h3
  show binK P st op ty x y _
  unfold binK
  rw [h2, k2]
  unfold valC at k3
  cases hu : P.underlying ty with
  | none => rw [hu] at k3; cases k3
  | some d =>
    rw [hu] at k3
    cases d <;> simp only at k3 <;> first | (cases k3; done) | skip
    case bool =>
      obtain ⟨a, b, rfl, rfl, k4⟩ := onBools_run h1 k1 k3
      refine ⟨rfl, ?_⟩
      rcases eqC_run k4 with ⟨rfl, k5⟩ | ⟨rfl, k5⟩
      · exact hs.post (.v _) k5
      · exact hs.post (.v _) k5
    case int kd =>
      obtain ⟨k, a, k', b, rfl, rfl, k4⟩ := onInts_run h1 k1 k3
      exact intK_mono (intK_v (intC_ok k4)) fun z hz => hs.postv hz.2 hz.1
    case string =>
      obtain ⟨a, b, rfl, rfl, k4⟩ := onStrs_run h1 k1 k3
      exact strK_mono (strK_v (strC_ok k4)) fun z hz => hs.postv hz.2 hz.1
    case interface ms =>
      cases hyc : isConstO y with
      | false => rw [hyc] at k3; cases k3
      | true =>
        rw [hyc] at k3
        obtain ⟨rfl, rfl, k4⟩ := onNils_run h1 k1 k3
        have hy' : ∃ c, y = .const c := by
          cases y with
          | const c => exact ⟨c, rfl⟩
          | _ => cases hyc
        obtain ⟨c, rfl⟩ := hy'
        refine ⟨⟨trivial, trivial⟩, ?_⟩
        rcases eqC_run k4 with ⟨rfl, k5⟩ | ⟨rfl, k5⟩
        · exact hs.post (.v _) k5
        · exact hs.post (.v _) k5
    case pointer e =>
      unfold onPtrs at k3
      rcases isNil_run h1 k3 with ⟨rfl, k4⟩ | ⟨hp, k4⟩
      · rcases isNil_run k1 k4 with ⟨rfl, k5⟩ | ⟨_, k5⟩
        · refine ⟨trivial, ?_⟩
          rcases eqC_run k5 with ⟨rfl, k6⟩ | ⟨rfl, k6⟩
          · exact hs.post (.v _) k6
          · exact hs.post (.v _) k6
        · cases k5
      · rcases isNil_run k1 k4 with ⟨rfl, k5⟩ | ⟨_, k5⟩
        · rcases hp with ⟨k, b, i, o, rfl⟩ | ⟨cs, rfl⟩
          · refine ⟨trivial, ?_⟩
            rcases eqC_run k5 with ⟨rfl, k6⟩ | ⟨rfl, k6⟩
            · exact hs.post (.v _) k6
            · exact hs.post (.v _) k6
          · refine ⟨trivial, ?_⟩
            rcases eqC_run k5 with ⟨rfl, k6⟩ | ⟨rfl, k6⟩
            · exact hs.post (.v _) k6
            · exact hs.post (.v _) k6
        · cases k5

theorem unC_ok (op : UnOp) (x : Operand) : OpOk (unC op x) (fun st => unK st op x) := by
  intro ρ t L H nx K r st hs h
  unfold unC at h
  show unK st op x _
  unfold unK
  cases op <;> simp only at h <;> first | (cases h; done) | skip
  case not =>
    obtain ⟨z, z', h1, h2, h3⟩ := avC_run hs h
    rw [h2]
    cases h1 with
    | v u => cases u with
      | bool b => cases b with
        | true => exact hs.post (.v _) h3
        | false => exact hs.post (.v _) h3
      | _ => cases h3
    | _ => cases h3
  case neg =>
    obtain ⟨z, z', h1, h2, h3⟩ := avC_run hs h
    rw [h2]
    obtain ⟨k, n, rfl, h4⟩ := asInt_run h1 h3
    exact hs.post (.v _) (forceI_run h4)

theorem isU8T_run {P : Program} {e : TypeId} (h : isU8T P e = true) : P.underlying e = some (.int .u8) := by
  unfold isU8T at h
  split at h
  · assumption
  · cases h
theorem isStrT_run {P : Program} {e : TypeId} (h : isStrT P e = true) : P.underlying e = some .string := by
  unfold isStrT at h
  split at h
  · assumption
  · cases h

theorem bytesOf_ren {xs ys : List AV} (h : Ren ρ (.many xs ys)) {ns : List Int} (hn : bytesOf xs = some ns) : bytesOf ys = some ns := by
  induction xs generalizing ys ns with
  | nil => cases h; exact hn
  | cons x xs ih =>
    cases h with
    | cons _ y _ ys h1 h2 =>
      unfold bytesOf at hn ⊢
      cases h1 with
      | v u => cases u with
        | int k n => cases k <;> simp only at hn ⊢ <;> first
            | (cases hn; done)
            | (obtain ⟨ms, hm, rfl⟩ := Option.map_eq_some_iff.1 hn; rw [ih h2 hm]; rfl)
        | _ => cases hn
      | _ => cases hn

theorem convC_ok (P : Program) (src dst : TypeId) (x : Operand) : OpOk (convC P src dst x) (fun st => convK P st src dst x) := by
  intro ρ t L H nx K r st hs h
  unfold convC at h
  show convK P st src dst x _
  unfold convK
  cases hu : P.underlying dst with
  | none => simp only [hu] at h; cases h
  | some d =>
    simp only [hu] at h
    cases d <;> simp only at h <;> first | (cases h; done) | skip
    case int k =>
      cases hsrc : (P.underlying src).isSome with
      | false => simp only [hsrc] at h; cases h
      | true =>
        simp only [hsrc] at h
        obtain ⟨z, z', h1, h2, h3⟩ := avC_run hs h
        rw [h2]
        obtain ⟨k', n, rfl, h4⟩ := asInt_run h1 h3
        exact ⟨rfl, hs.post (.v _) (forceI_run h4)⟩
    case string =>
      cases he : elemT P src with
      | none => simp only [he] at h; cases h
      | some e =>
        simp only [he] at h
        cases h8 : isU8T P e with
        | false => simp only [h8] at h; cases h
        | true =>
          simp only [h8] at h
          obtain ⟨z, z', h1, h2, h3⟩ := avC_run hs h
          rw [h2]
          cases h1 with
          | list s xs ys hl =>
            simp only at h3 ⊢
            cases hb : bytesOf xs with
            | none => simp only [hb] at h3; cases h3
            | some ns =>
              simp only [hb] at h3
              obtain ⟨k1, k2⟩ := bif_true h3
              rw [bytesOf_ren hl hb]
              exact ⟨⟨beq_eq k1, isU8T_run h8⟩, hs.post (.v _) k2⟩
          | vec k m b n hm =>
            simp only at h3 ⊢
            obtain ⟨ob, ob', ho, h4, h5, _⟩ := lookE_run hs hm h3
            refine look_of h5 ?_
            rw [takeR_eq] at h4
            cases hb : bytesOf (ob.xs.take n) with
            | none => simp only [hb] at h4; cases h4
            | some ns =>
              simp only [hb] at h4
              obtain ⟨k1, k2⟩ := bif_true h4
              simp only [Bool.and_eq_true] at k1
              rw [lenR_eq] at k1
              rw [bytesOf_ren (ho.xs.take n) hb]
              exact ⟨⟨ho.xs.length ▸ ble_le k1.1, ho.elem ▸ beq_eq k1.2, isU8T_run h8⟩, hs.post (.v _) k2⟩
          | _ => cases h3
    case slice e0 =>
      cases he : elemT P dst with
      | none => simp only [he] at h; cases h
      | some e =>
        simp only [he] at h
        cases hb : isStrT P src && Nat.beq (P.cellsOf e) 1 && isU8T P e with
        | false => simp only [hb] at h; cases h
        | true =>
          simp only [hb] at h
          simp only [Bool.and_eq_true] at hb
          obtain ⟨z, z', h1, h2, h3⟩ := avC_run hs h
          rw [h2]
          cases h1 with
          | v u => cases u with
            | string s =>
              simp only at h3 ⊢
              refine ⟨⟨isStrT_run hb.1.1, beq_eq hb.1.2, isU8T_run hb.2⟩, ?_⟩
              have hbr : ∀ l : List UInt8, bytesR l = l.map fun b => AV.v (.int .u8 b.toNat) := by
                intro l
                unfold bytesR
                induction l with
                | nil => rfl
                | cons b l ih => rw [List.map_cons, ← ih]
              rw [hbr] at h3
              have hren : ∀ l : List UInt8, Ren ρ (.many (l.map fun b => AV.v (.int .u8 b.toNat)) (l.map fun b => AV.v (.int .u8 b.toNat))) := by
                intro l
                induction l with
                | nil => exact .nil
                | cons b l ih => exact .cons _ _ _ _ (.v _) ih
              exact hs.post (.list _ _ _ (hren _)) h3
            | _ => cases h3
          | _ => cases h3

theorem indexC_ok (P : Program) (ty : TypeId) (x ix : Operand) : OpOk (indexC P ty x ix) (fun st => indexK P st ty x ix) := by
  intro ρ t L H nx K r st hs h
  unfold indexC at h
  show indexK P st ty x ix _
  unfold indexK
  cases hu : isStrT P ty with
  | false => simp only [hu] at h; cases h
  | true =>
    simp only [hu] at h
    obtain ⟨z, z', h1, h2, h3⟩ := avC_run hs h
    rw [h2]
    cases h1 with
    | v u => cases u with
      | string s =>
        simp only at h3
        obtain ⟨q, q', k1, k2, k3⟩ := avC_run hs h3
        obtain ⟨kd, j, rfl, k4⟩ := asNat_run k1 k3
        rw [k2]
        rw [nth_eq] at k4
        cases hx : s.data.toList[j]? with
        | none => rw [hx] at k4; cases k4
        | some b =>
          rw [hx] at k4
          have hlt : j < s.size := by
            have := (List.getElem?_eq_some_iff.1 hx).1
            exact Nat.lt_of_lt_of_eq this Array.length_toList
          refine ⟨isStrT_run hu, ⟨by simp, by simpa using hlt⟩, ?_⟩
          have hb : s[(Int.ofNat j).toNat]'(by simpa using hlt) = b := by
            have := (List.getElem?_eq_some_iff.1 hx).2
            simpa [ByteArray.getElem_eq_getElem_data] using this
          have k5 := forceN_run k4
          simp only [hb]
          exact hs.post (.v _) k5
      | _ => cases h3
    | _ => cases h3

theorem optC_run (h : RenS ρ t L H nx st) {x : Option Operand} {d : Nat} {K : Nat → Ans} (hk : (optC x).run t d K = some r) : ∃ n : Nat, optI st d x = some (n : Int) ∧ K n = some r := by
  unfold optC at hk
  unfold optI
  cases x with
  | none => exact ⟨d, rfl, hk⟩
  | some x =>
    obtain ⟨z, z', h1, h2, h3⟩ := avC_run h hk
    obtain ⟨kd, j, rfl, k4⟩ := asNat_run h1 h3
    exact ⟨j, by simp only [h2]; rfl, k4⟩

theorem bytes_extract (s : ByteArray) (l m : Nat) (h1 : m ≤ s.size) : (⟨⟨(s.data.toList.take m).drop l⟩⟩ : ByteArray) = s.extract l m := by
  apply bytes_ext.1
  have h2 : m ≤ s.data.size := h1
  simp only [ByteArray.data_extract, Array.toList_extract, List.extract_eq_take_drop, List.drop_take]

theorem sliceC_ok (P : Program) (ty : TypeId) (x : Operand) (lo hi mx : Option Operand) : OpOk (sliceC P ty x lo hi mx) (fun st => sliceK P st ty x lo hi mx) := by
  intro ρ t L H nx K r st hs h
  unfold sliceC at h
  show sliceK P st ty x lo hi mx _
  unfold sliceK
  cases mx with
  | some mx => cases h
  | none =>
    simp only at h ⊢
    cases hu : isStrT P ty with
    | true =>
      simp only [hu] at h
      obtain ⟨z, z', h1, h2, h3⟩ := avC_run hs h
      rw [h2]
      cases h1 with
      | v u => cases u with
        | string s =>
          simp only at h3
          obtain ⟨l, k1, h4⟩ := optC_run hs h3
          obtain ⟨m, k2, h5⟩ := optC_run hs h4
          rw [bytes_size] at k2 h5
          rw [show ((0 : Nat) : Int) = 0 from rfl] at k1
          simp only [k1, k2]
          obtain ⟨hb, h6⟩ := bif_true h5
          simp only [Bool.and_eq_true] at hb
          have b1 := ble_le hb.1
          have b2 := ble_le hb.2
          rw [dropR_eq, takeR_eq, bytes_extract s l m b2] at h6
          exact ⟨⟨isStrT_run hu, by omega, by omega, by omega⟩, hs.post (.v _) (by simpa using h6)⟩
        | _ => cases h3
      | _ => cases h3
    | false =>
      simp only [hu] at h
      cases he : elemT P ty with
      | none => simp only [he] at h; cases h
      | some e =>
        simp only [he] at h
        obtain ⟨z, z', h1, h2, h3⟩ := avC_run hs h
        rw [h2]
        cases h1 with
        | list s xs ys hl =>
          simp only at h3
          obtain ⟨l, k1, h4⟩ := optC_run hs h3
          obtain ⟨m, k2, h5⟩ := optC_run hs h4
          rw [lenR_eq] at k2 h5
          rw [show ((0 : Nat) : Int) = 0 from rfl] at k1
          rw [hl.length] at k2 h5
          simp only [k1, k2]
          obtain ⟨hb, h6⟩ := bif_true h5
          simp only [Bool.and_eq_true] at hb
          have b1 := ble_le hb.1.2
          have b2 := ble_le hb.2
          rw [dropR_eq, takeR_eq] at h6
          refine ⟨⟨beq_eq hb.1.1, by omega, by omega, by omega⟩, ?_⟩
          simp only [Int.toNat_natCast]
          exact hs.post (.list _ _ _ ((hl.take m).drop l)) h6
        | _ => cases h3

theorem fieldC_ok (P : Program) (ty : TypeId) (x : Operand) (f : Nat) : OpOk (fieldC P ty x f) (fun st => fieldK P st ty x f) := by
  intro ρ t L H nx K r st hs h
  unfold fieldC at h
  show fieldK P st ty x f _
  unfold fieldK
  cases hf : fieldOf P ty f with
  | none => simp only [hf] at h; cases h
  | some q =>
    obtain ⟨off, ft⟩ := q
    simp only [hf] at h
    obtain ⟨z, z', h1, h2, h3⟩ := avC_run hs h
    rw [h2]
    cases h1 with
    | agg xs ys hl =>
      simp only at h3 ⊢
      rw [dropR_eq] at h3
      obtain ⟨u, u', g1, g2, g3⟩ := ldC_run (hl.drop off) h3
      unfold ldK
      rw [g1]
      exact hs.post g2 g3
    | _ => cases h3

theorem extractC_ok (x : Operand) (i : Nat) : OpOk (extractC x i) (fun st => extractK st x i) := by
  intro ρ t L H nx K r st hs h
  unfold extractC at h
  obtain ⟨z, z', h1, h2, h3⟩ := avC_run hs h
  show extractK st x i _
  unfold extractK
  rw [h2]
  cases h1 with
  | tuple xs ys hl =>
    simp only at h3 ⊢
    rw [nth_eq] at h3
    cases hx : xs[i]? with
    | none => rw [hx] at h3; cases h3
    | some q =>
      rw [hx] at h3
      obtain ⟨q', hq, hr⟩ := hl.get hx
      simp only [hq]
      exact hs.post hr h3
  | _ => cases h3

end
end Go.Am
