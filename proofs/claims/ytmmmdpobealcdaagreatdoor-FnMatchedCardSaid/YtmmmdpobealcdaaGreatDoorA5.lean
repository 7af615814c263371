/- Operations on plain values. -/
import Derived.Test.YtmmmdpobealcdaaGreatDoorA4
import Derived.Laws.BytesString
import Derived.Laws.Strings2
import Derived.Laws.Slices
import Derived.Laws.Pointers
import Derived.Laws.IdiomStrings
import Derived.Laws.AppendOwn
import Derived.Laws.Entries
set_option linter.unusedVariables false
set_option linter.unusedSimpArgs false
namespace Go.Am
open Go

def bitsV (op : BinOp) (k : IntKind) (x y : Int) : Int :=
  match op with
  | .and => k.wrap (BitVec.ofInt k.bits x &&& BitVec.ofInt k.bits y).toNat
  | .or => k.wrap (BitVec.ofInt k.bits x ||| BitVec.ofInt k.bits y).toNat
  | _ => k.wrap (BitVec.ofInt k.bits x ^^^ BitVec.ofInt k.bits y).toNat

def intK (op : BinOp) (k k' : IntKind) (a b : Int) (K : AV → Prop) : Prop :=
  match op with
  | .shl => 0 ≤ b ∧ K (.v (.int k (k.wrap (a * 2 ^ (min b.toNat k.bits)))))
  | .shr => 0 ≤ b ∧ K (.v (.int k (a.fdiv (2 ^ (min b.toNat k.bits)))))
  | .add => k = k' ∧ K (.v (.int k (k.wrap (a + b))))
  | .sub => k = k' ∧ K (.v (.int k (k.wrap (a - b))))
  | .mul => k = k' ∧ K (.v (.int k (k.wrap (a * b))))
  | .quo => (k = k' ∧ b ≠ 0) ∧ K (.v (.int k (k.wrap (a.tdiv b))))
  | .rem => (k = k' ∧ b ≠ 0) ∧ K (.v (.int k (a.tmod b)))
  | .and => k = k' ∧ K (.v (.int k (bitsV .and k a b)))
  | .or => k = k' ∧ K (.v (.int k (bitsV .or k a b)))
  | .xor => k = k' ∧ K (.v (.int k (bitsV .xor k a b)))
  | .eql => k = k' ∧ K (.v (.bool (decide (a = b))))
  | .neq => k = k' ∧ K (.v (.bool (decide (a ≠ b))))
  | .lss => k = k' ∧ K (.v (.bool (decide (a < b))))
  | .leq => k = k' ∧ K (.v (.bool (decide (a ≤ b))))
  | .gtr => k = k' ∧ K (.v (.bool (decide (b < a))))
  | .geq => k = k' ∧ K (.v (.bool (decide (b ≤ a))))
  | _ => False

def strK (op : BinOp) (a b : ByteArray) (K : AV → Prop) : Prop :=
  match op with
  | .add => ((a.size + b.size : Nat) : Int) ≤ 9223372036854775807 ∧ K (.v (.string (a ++ b)))
  | .eql => K (.v (.bool (decide (a = b))))
  | .neq => K (.v (.bool (!decide (a = b))))
  | _ => False

def binK (P : Program) (st : St) (op : BinOp) (t : TypeId) (x y : Operand) (K : AV → St → Prop) : Prop :=
  match av st x, av st y with
  | some (.v (.int k a)), some (.v (.int k' b)) => intK op k k' a b fun z => K z st
  | some (.v (.string a)), some (.v (.string b)) => strK op a b fun z => K z st
  | some (.v (.bool a)), some (.v (.bool b)) => P.underlying t = some .bool ∧ match op with
    | .eql => K (.v (.bool (a == b))) st
    | .neq => K (.v (.bool (!(a == b)))) st
    | _ => False
  | some (.ptr _ _ _ _), some (.v (.pointer none)) | some (.pref _), some (.v (.pointer none)) => (match P.underlying t with | some (.pointer _) => True | _ => False) ∧ match op with
    | .eql => K (.v (.bool false)) st
    | .neq => K (.v (.bool true)) st
    | _ => False
  | some (.v (.pointer none)), some (.v (.pointer none)) => (match P.underlying t with | some (.pointer _) => True | _ => False) ∧ match op with
    | .eql => K (.v (.bool true)) st
    | .neq => K (.v (.bool false)) st
    | _ => False
  | some (.v .nilIface), some (.v .nilIface) => ((match y with | .const _ => True | _ => False) ∧ match P.underlying t with | some (.interface _) => True | _ => False) ∧ match op with
    | .eql => K (.v (.bool true)) st
    | .neq => K (.v (.bool false)) st
    | _ => False
  | _, _ => False

def unK (st : St) (op : UnOp) (x : Operand) (K : AV → St → Prop) : Prop :=
  match op, av st x with
  | .not, some (.v (.bool b)) => K (.v (.bool (!b))) st
  | .neg, some (.v (.int k n)) => K (.v (.int k (k.wrap (0 - n)))) st
  | _, _ => False

/-- A row of bytes as whole numbers. -/
def bytesOf : List AV → Option (List Int)
  | [] => some []
  | .v (.int .u8 n) :: r => (bytesOf r).map (n :: ·)
  | _ => none

def strOf (ns : List Int) : ByteArray := ⟨(ns.map fun n => UInt8.ofNat n.toNat).toArray⟩

def convK (P : Program) (st : St) (src dst : TypeId) (x : Operand) (K : AV → St → Prop) : Prop :=
  match av st x with
  | some (.v (.int _ n)) => match P.underlying dst with
    | some (.int k) => (P.underlying src).isSome = true ∧ K (.v (.int k (k.wrap n))) st
    | _ => False
  | some (.v (.string s)) => match elemT P dst with
    | some e => (P.underlying src = some .string ∧ P.cellsOf e = 1 ∧ P.underlying e = some (.int .u8)) ∧ K (.list 1 (s.data.toList.map fun b => .v (.int .u8 b.toNat))) st
    | none => False
  | some (.list s xs) => match elemT P src, P.underlying dst, bytesOf xs with
    | some e, some .string, some ns => (s = 1 ∧ P.underlying e = some (.int .u8)) ∧ K (.v (.string (strOf ns))) st
    | _, _, _ => False
  | some (.vec k r n) => match elemT P src, P.underlying dst with
    | some e, some .string => look st k r fun ob => match bytesOf (ob.xs.take n) with
      | some ns => (n ≤ ob.xs.length ∧ P.cellsOf ob.elem = 1 ∧ P.underlying e = some (.int .u8)) ∧ K (.v (.string (strOf ns))) st
      | none => False
    | _, _ => False
  | _ => False

def indexK (P : Program) (st : St) (t : TypeId) (x ix : Operand) (K : AV → St → Prop) : Prop :=
  match av st x, av st ix with
  | some (.v (.string s)), some (.v (.int _ j)) => P.underlying t = some .string ∧ ∃ h : 0 ≤ j ∧ j < s.size, K (.v (.int .u8 (s[j.toNat]'(by omega)).toNat)) st
  | _, _ => False

def optI (st : St) (d : Int) : Option Operand → Option Int
  | none => some d
  | some x => match av st x with
    | some (.v (.int _ n)) => some n
    | _ => none

def sliceK (P : Program) (st : St) (t : TypeId) (x : Operand) (lo hi mx : Option Operand) (K : AV → St → Prop) : Prop :=
  match mx, av st x with
  | none, some (.v (.string s)) => match optI st 0 lo, optI st s.size hi with
    | some l, some h => (P.underlying t = some .string ∧ 0 ≤ l ∧ l ≤ h ∧ h ≤ s.size) ∧ K (.v (.string (s.extract l.toNat h.toNat))) st
    | _, _ => False
  | none, some (.list s xs) => match optI st 0 lo, optI st xs.length hi, elemT P t with
    | some l, some h, some e => (s = P.cellsOf e ∧ 0 ≤ l ∧ l ≤ h ∧ h ≤ xs.length) ∧ K (.list s ((xs.take h.toNat).drop l.toNat)) st
    | _, _, _ => False
  | _, _ => False

def fieldK (P : Program) (st : St) (t : TypeId) (x : Operand) (f : Nat) (K : AV → St → Prop) : Prop :=
  match av st x, fieldOf P t f with
  | some (.agg cs), some (off, ft) => ldK P ft (cs.drop off) st K
  | _, _ => False

def extractK (st : St) (x : Operand) (i : Nat) (K : AV → St → Prop) : Prop :=
  match av st x with
  | some (.tuple vs) => match vs[i]? with
    | some z => K z st
    | none => False
  | _ => False

section
variable {C : Ctx} {I I' : Nat → Nat → Prop} {st : St} {a : Act} {w w' : World}

theorem intK_sound {k k' : IntKind} {x y : Int} {op : BinOp} {t : TypeId} {K : AV → Prop} (hk : intK op k k' x y K) : ∃ v, K (.v v) ∧ (binOp op t (.int k x) (.int k' y)).run C.P w = .ok v w := by
  unfold intK at hk
  split at hk
  case h_1 => exact ⟨_, hk.2, by simp [binOp, Op.shift, Int.not_lt.2 hk.1]⟩
  case h_2 => exact ⟨_, hk.2, by simp [binOp, Op.shift, Int.not_lt.2 hk.1]⟩
  case h_6 =>
    obtain ⟨⟨rfl, h0⟩, h⟩ := hk
    exact ⟨_, h, by simp [binOp, Op.intDiv, h0]⟩
  case h_7 =>
    obtain ⟨⟨rfl, h0⟩, h⟩ := hk
    exact ⟨_, h, by simp [binOp, Op.intDiv, h0]⟩
  case h_17 => exact hk.elim
  all_goals
    obtain ⟨rfl, h⟩ := hk
    refine ⟨_, h, ?_⟩
    first
      | (simp [binOp, Op.intArith]; done)
      | (simp [binOp, Op.intBits, bitsV]; done)
      | (simp [binOp, Op.intCmp, bne, BEq.beq]; done)
      | (simp [binOp, Op.intCmp]; done)

theorem str_eq (a b : ByteArray) : (a.toList == b.toList) = decide (a = b) := by
  rw [ByteArray.toList_eq, ByteArray.toList_eq]
  by_cases h : a = b
  · subst h; simp
  · have : ¬ a.data.toList = b.data.toList := fun e => h (by
      cases a; cases b
      simp only [ByteArray.mk.injEq]
      exact Array.ext' e)
    have h2 : ¬ a.data = b.data := fun e => this (by rw [e])
    simp [h, h2]

theorem strK_sound {x y : ByteArray} {op : BinOp} {t : TypeId} {K : AV → Prop} (hk : strK op x y K) : ∃ v, K (.v v) ∧ (binOp op t (.string x) (.string y)).run C.P w = .ok v w := by
  unfold strK at hk
  split at hk
  · refine ⟨_, hk.2, ?_⟩
    have h : ¬ (9223372036854775807 < (x.size : Int) + (y.size : Int)) := by have := hk.1; omega
    simp [binOp, Op.stringOp, h]
  · exact ⟨_, hk, by simp [binOp, Op.stringOp, str_eq]⟩
  · exact ⟨_, hk, by simp [binOp, Op.stringOp, str_eq]⟩
  · exact hk.elim

theorem eqGuard_plain {op : BinOp} {t : TypeId} {x y : Operand} {u v : Value} (h : u.oneCell' = true) (hi : u ≠ .nilIface) (w : World) : (eqGuard op t x y u v).run C.P w = .ok () w := by
  cases u <;> first
    | (simp [Value.oneCell'] at h; done)
    | (exact absurd rfl hi)
    | (cases op <;> simp [eqGuard])

theorem run_equal_nils {P : Program} {t : TypeId} {ms : Array (String × TypeId)} (hu : P.underlying t = some (.interface ms)) (w : World) : (Op.equal t .nilIface .nilIface).run P w = .ok true w := by
  show (Op.equalIn (9999 + 1) t .nilIface .nilIface).run P w = .ok true w
  unfold Op.equalIn
  simp [run_underlying hu]

theorem binK_sound (h : Rl C I st a w) {op : BinOp} {t : TypeId} {x y : Operand} {K : AV → St → Prop} (hk : binK C.P st op t x y K) :
    Comes1 C I st a w (do pure (.value (← do eqGuard op t x y (a.eval x) (a.eval y); binOp op t (a.eval x) (a.eval y)))) K := by
  unfold binK at hk
  split at hk
  · rename_i k a' k' b hx hy
    have h1 := h.av hx
    have h2 := h.av hy
    generalize a.eval x = xv at h1 ⊢
    generalize a.eval y = yv at h2 ⊢
    cases h1; cases h2
    obtain ⟨v, hK, hrun⟩ := intK_sound (C := C) (w := w) (t := t) hk
    exact .value hK (by simp [eqGuard_plain (C := C) (u := .int k a') rfl (by simp), hrun]) h (.v v) rfl
  · rename_i a' b hx hy
    have h1 := h.av hx
    have h2 := h.av hy
    generalize a.eval x = xv at h1 ⊢
    generalize a.eval y = yv at h2 ⊢
    cases h1; cases h2
    obtain ⟨v, hK, hrun⟩ := strK_sound (C := C) (w := w) (t := t) hk
    exact .value hK (by simp [eqGuard_plain (C := C) (u := .string a') rfl (by simp), hrun]) h (.v v) rfl
  · rename_i a' b hx hy
    have h1 := h.av hx
    have h2 := h.av hy
    generalize a.eval x = xv at h1 ⊢
    generalize a.eval y = yv at h2 ⊢
    cases h1; cases h2
    obtain ⟨hu, hk⟩ := hk
    split at hk
    · exact .value hk (by simp [eqGuard_plain (C := C) (u := .bool a') rfl (by simp), run_eql_bool _ _ _ _ hu]) h (.v _) rfl
    · exact .value hk (by simp [eqGuard_plain (C := C) (u := .bool a') rfl (by simp), run_neq_bool _ _ _ _ hu]) h (.v _) rfl
    · exact hk.elim
  rotate_right
  · exact hk.elim
  rotate_right
  · rename_i hx hy
    have h1 := h.av hx
    have h2 := h.av hy
    generalize a.eval x = xv at h1 ⊢
    generalize a.eval y = yv at h2 ⊢
    cases h1; cases h2
    obtain ⟨⟨hc, hu⟩, hk⟩ := hk
    split at hc
    · split at hu
      · rename_i ms he
        split at hk
        · exact .value hk (by simp [eqGuard_nil_constR, binOp, run_equal_nils he]) h (.v _) rfl
        · exact .value hk (by simp [eqGuard_nil_constR, binOp, run_equal_nils he]) h (.v _) rfl
        · exact hk.elim
      · exact hu.elim
    · exact hc.elim
  all_goals first | exact hk.elim | skip
  all_goals
    rename_i hx hy
    have h1 := h.av hx
    have h2 := h.av hy
    generalize a.eval x = xv at h1 ⊢
    generalize a.eval y = yv at h2 ⊢
    obtain ⟨hu, hk⟩ := hk
    split at hu
    · rename_i e he
      cases h2
      cases h1
      split at hk
      · have hp : C.P.underlying t = some (.pointer (C.P.pointee t)) := by rw [he]; simp [Program.pointee, he]
        exact .value hk (by simp [eqGuard_at_pointer, run_eql_pointer_nil _ _ _ hp]) h (.v _) rfl
      · have hp : C.P.underlying t = some (.pointer (C.P.pointee t)) := by rw [he]; simp [Program.pointee, he]
        exact .value hk (by simp [eqGuard_at_pointer, run_neq_pointer_nil _ _ _ hp]) h (.v _) rfl
      · exact hk.elim
    · exact hu.elim

theorem unK_sound (h : Rl C I st a w) {op : UnOp} {x : Operand} {K : AV → St → Prop} (hk : unK st op x K) : Comes1 C I st a w (do pure (.value (← Op.unary op (a.eval x)))) K := by
  unfold unK at hk
  split at hk
  · rename_i b hx
    have h1 := h.av hx
    generalize a.eval x = xv at h1 ⊢
    cases h1
    exact .value hk (by simp [Op.unary]) h (.v _) rfl
  · rename_i k n hx
    have h1 := h.av hx
    generalize a.eval x = xv at h1 ⊢
    cases h1
    exact .value hk (by simp [Op.unary, Op.intArith]) h (.v _) rfl
  · exact hk.elim

theorem extractK_sound (h : Rl C I st a w) {x : Operand} {i : Nat} {K : AV → St → Prop} (hk : extractK st x i K) : Comes1 C I st a w (do pure (.value (← Instr.extract (a.eval x) i))) K := by
  unfold extractK at hk
  split at hk
  · rename_i vs hx
    split at hk
    · rename_i z hz
      have h1 := h.av hx
      generalize a.eval x = xv at h1 ⊢
      cases h1 with
      | tuple _ cs hv =>
        obtain ⟨y, hy, hr⟩ := hv.vals_get i z hz
        have hy' : cs[i]? = some y := by simpa using hy
        exact .value hk (by simp [Instr.extract, hy']) h hr rfl
    · exact hk.elim
  · exact hk.elim

theorem bytes_cells {xs : List AV} {ns : List Int} (hb : bytesOf xs = some ns) {r off : Nat} {w : World} {P : Program} {I : Nat → Nat → Prop}
    (hc : ∀ (j : Nat) (z : AV), xs[j]? = some z → ∃ y, w.cell? ⟨r, off + j, none⟩ = some y ∧ R P I w (.val z y)) :
    ns.length = xs.length ∧ (loadCells ⟨r, off, none⟩ ns.length).run P w = .ok (ns.map (Value.int .u8)).toArray w := by
  have key : ∀ (xs : List AV) (ns : List Int), bytesOf xs = some ns → xs = ns.map fun n => .v (.int .u8 n) := by
    intro xs
    induction xs with
    | nil => intro ns h; simp [bytesOf] at h; subst h; rfl
    | cons x xs ih =>
      intro ns h
      unfold bytesOf at h
      split at h
      · cases ‹_ :: _ = _›
      · rename_i heq
        simp only [List.cons.injEq] at heq
        obtain ⟨rfl, rfl⟩ := heq
        simp only [Option.map_eq_some_iff] at h
        obtain ⟨m, hm, rfl⟩ := h
        rw [ih m hm]; rfl
      · cases h
  have hx := key xs ns hb
  subst hx
  refine ⟨by simp, ?_⟩
  have := run_loadCells_list (P := P) (w := w) ⟨r, off, none⟩ (ns.map (Value.int .u8)) (fun j v hv => by
    rw [addr_add]
    simp only [List.getElem?_map, Option.map_eq_some_iff] at hv
    obtain ⟨n, hn, rfl⟩ := hv
    obtain ⟨y, hy, hr⟩ := hc j (.v (.int .u8 n)) (by simp [hn])
    cases hr
    exact hy)
  simpa using this

theorem foldl_push (ns : List Int) : ∀ s : ByteArray, ns.foldl (fun r n => r.push (UInt8.ofNat n.toNat)) s = ⟨s.data ++ (ns.map fun n => UInt8.ofNat n.toNat).toArray⟩ := by
  induction ns with
  | nil => intro s; simp
  | cons n ns ih =>
    intro s
    rw [List.foldl_cons, ih]
    congr 1
    simp [ByteArray.push]

theorem run_strOf {P : Program} {src dst e : TypeId} {ns : List Int} {r off cap : Nat} (hs : P.underlying src = some (.slice e)) (hd : P.underlying dst = some .string) (he : P.underlying e = some (.int .u8))
    (hl : (loadCells ⟨r, off, none⟩ ns.length).run P w = .ok (ns.map (Value.int .u8)).toArray w) : (convert src dst (.slice (some ⟨r, off, none⟩) ns.length cap)).run P w = .ok (.string (strOf ns)) w := by
  rw [run_convert_bytes_string w src dst e _ _ _ hs he hd, run_bytesToString w _ _ _ ns hl, foldl_push]
  congr 3
  simp only [ByteArray.empty, ByteArray.emptyWithCapacity, Array.emptyWithCapacity_eq]
  exact Array.empty_append

theorem convK_sound (h : Rl C I st a w) {src dst : TypeId} {x : Operand} {K : AV → St → Prop} (hk : convK C.P st src dst x K) : Comes1 C I st a w (do pure (.value (← convert src dst (a.eval x)))) K := by
  unfold convK at hk
  split at hk
  · rename_i k n hx
    have h1 := h.av hx
    generalize a.eval x = xv at h1 ⊢
    cases h1
    split at hk
    · rename_i k' hd
      obtain ⟨d, hs⟩ := Option.isSome_iff_exists.1 hk.1
      exact .value hk.2 (by simp [convert, run_underlying hs, run_underlying hd, Conv.intToInt]) h (.v _) rfl
    · exact hk.elim
  · rename_i s hx
    split at hk
    · rename_i e he
      obtain ⟨⟨hs, h1, hu⟩, hK⟩ := hk
      have hd := (elemT_spec he).1
      have hv := h.av hx
      generalize a.eval x = xv at hv ⊢
      cases hv
      have hrun := run_bytes_of_string (P := C.P) w src dst e s hs hd hu
      obtain ⟨I', hR, hI, hnew⟩ := h.drew.shut (bytesRow s (grownCap w s.size 0 e)) e ((bytesRow s (grownCap w s.size 0 e)).size, (bytesRow s (grownCap w s.size 0 e)).size + 1)
      refine ⟨_, st, I', _, _, hK, .inl (by simp only [Sem.run_bind, hrun]; rfl), hR, ?_, rfl⟩
      have hcap : s.size ≤ grownCap w s.size 0 e := grownCap_ge w s.size 0 e
      refine .list 1 _ _ _ _ _ (by rw [List.length_map]; exact Array.length_toList.symm) hcap (fun x hx => ?_) (.cells_of fun j z hz => ?_)
      · obtain ⟨b, _, rfl⟩ := List.mem_map.1 hx
        rfl
      · have hflat : ∀ l : List UInt8, flat (l.map fun b => AV.v (.int .u8 b.toNat)) = l.map fun b => AV.v (.int .u8 b.toNat) := by
          intro l
          induction l with
          | nil => rfl
          | cons b l ih => rw [List.map_cons, flat_cons, ih]; rfl
        rw [hflat, List.getElem?_map] at hz
        obtain ⟨b, hb, rfl⟩ := Option.map_eq_some_iff.1 hz
        have hj : j < s.data.size := by
          have := (List.getElem?_eq_some_iff.1 hb).1
          exact Nat.lt_of_lt_of_eq this Array.length_toList
        have hbe : s.data[j] = b := by
          have := (List.getElem?_eq_some_iff.1 hb).2
          rw [← this]
          exact (Array.getElem_toList hj).symm
        refine ⟨.int .u8 b.toNat, ?_, .v _, hnew _ ?_⟩
        · rw [Nat.zero_add]
          refine (cell_row push_new j).trans ?_
          rw [bytesRow_at s _ j hj, hbe]
        · rw [Nat.zero_add]
          exact (Array.getElem?_eq_some_iff.1 (bytesRow_at s _ j hj)).1
    · exact hk.elim
  · rename_i s xs hx
    split at hk
    · rename_i e ns he hd hb
      obtain ⟨⟨rfl, hu⟩, hK⟩ := hk
      obtain ⟨hs, _⟩ := elemT_spec he
      have h1 := h.av hx
      generalize a.eval x = xv at h1 ⊢
      cases h1 with
      | lnil _ cap ad =>
        simp [bytesOf] at hb
        subst hb
        cases ad with
        | none => exact .value hK (y := .string (strOf [])) (by simp [convert, run_underlying hs, run_underlying hd, run_underlying hu, Conv.bytesToString, strOf, ByteArray.empty, ByteArray.emptyWithCapacity] <;> rfl) h (.v _) rfl
        | some ad =>
          obtain ⟨r, off, sp⟩ := ad
          refine .value hK (y := .string (strOf [])) ?_ h (.v _) rfl
          have : (convert src dst (.slice (some ⟨r, off, sp⟩) 0 cap)).run C.P w = .ok (.string (strOf [])) w := by
            rw [run_convert_bytes_string w src dst e _ _ _ hs hu hd, run_bytesToString w _ _ _ [] (by simp [loadCells, loadCellsFrom]), foldl_push]
            rfl
          simp [this]
      | list _ _ r off len cap hl _ hst hcs =>
        have hfl : flat xs = xs ∨ True := .inr trivial
        have hcell : ∀ (j : Nat) (z : AV), xs[j]? = some z → ∃ y, w.cell? ⟨r, off + j, none⟩ = some y ∧ R C.P I w (.val z y) := fun j z hz => by
          have hz1 : z.cells.length = 1 := hst z (List.mem_of_getElem? hz)
          have hg := flat_get hst j 0 (by omega)
          rw [hz, Nat.mul_one, Nat.add_zero, Option.bind_some] at hg
          obtain ⟨y, h2, h3, _⟩ := hcs.cells_get j (z.cells[0]'(by omega)) (by rw [hg]; simp)
          have hzc : z.cells[0]'(by omega) = z := by
            have key : ∀ (xs : List AV) (ns : List Int), bytesOf xs = some ns → ∀ z ∈ xs, ∃ n, z = .v (.int .u8 n) := by
              intro xs
              induction xs with
              | nil => intro ns _ z hz; cases hz
              | cons x xs ih =>
                intro ns h z hz
                unfold bytesOf at h
                split at h
                · cases ‹_ :: _ = _›
                · rename_i heq
                  simp only [List.cons.injEq] at heq
                  obtain ⟨rfl, rfl⟩ := heq
                  simp only [Option.map_eq_some_iff] at h
                  obtain ⟨m, hm, rfl⟩ := h
                  rcases List.mem_cons.1 hz with rfl | hz
                  · exact ⟨_, rfl⟩
                  · exact ih m hm z hz
                · cases h
            obtain ⟨n, rfl⟩ := key xs ns hb z (List.mem_of_getElem? hz)
            rfl
          rw [hzc] at h3
          exact ⟨y, h2, h3⟩
        obtain ⟨hlen, hload⟩ := bytes_cells hb hcell
        refine .value hK (y := .string (strOf ns)) ?_ h (.v _) rfl
        rw [hl, ← hlen]
        simp [run_strOf (cap := cap) hs hd hu hload]
    · exact hk.elim
  · rename_i k r n hx
    split at hk
    · rename_i e he hd
      obtain ⟨hs, _⟩ := elemT_spec he
      obtain ⟨ob, hob, hR, _, _⟩ := h.look hk
      split at hob
      · rename_i ns hb
        obtain ⟨⟨h1, h2, hu⟩, hK⟩ := hob
        obtain ⟨c, hc, hl, hg⟩ := hR.ex
        obtain ⟨cap, hy, _, _⟩ := (h.av hx).vec_inv hc
        have hst : ∀ z ∈ ob.xs, z.cells.length = 1 := fun z hz => by rw [hR.uni z hz, h2]
        have hcell : ∀ (j : Nat) (z : AV), (ob.xs.take n)[j]? = some z → ∃ y, w.cell? ⟨r, 0 + j, none⟩ = some y ∧ R C.P I w (.val z y) := fun j z hz => by
          have hz' : ob.xs[j]? = some z := by
            rw [List.getElem?_take] at hz
            split at hz
            · exact hz
            · cases hz
          have hone : ∃ n, z = .v (.int .u8 n) := by
            have key : ∀ (xs : List AV) (ns : List Int), bytesOf xs = some ns → ∀ z ∈ xs, ∃ n, z = .v (.int .u8 n) := by
              intro xs
              induction xs with
              | nil => intro ns _ z hz; cases hz
              | cons x xs ih =>
                intro ns h z hz
                unfold bytesOf at h
                split at h
                · cases ‹_ :: _ = _›
                · rename_i heq
                  simp only [List.cons.injEq] at heq
                  obtain ⟨rfl, rfl⟩ := heq
                  simp only [Option.map_eq_some_iff] at h
                  obtain ⟨m, hm, rfl⟩ := h
                  rcases List.mem_cons.1 hz with rfl | hz
                  · exact ⟨_, rfl⟩
                  · exact ih m hm z hz
                · cases h
            exact key _ ns hb z (List.mem_of_getElem? hz)
          obtain ⟨m, rfl⟩ := hone
          have hg' := flat_get hst j 0 (by omega)
          rw [hz', Nat.mul_one, Nat.add_zero, Option.bind_some] at hg'
          obtain ⟨y, h3, h4⟩ := hg j (.v (.int .u8 m)) (by rw [hg']; rfl)
          exact ⟨y, by rw [Nat.zero_add, cell_row hc]; exact h3, h4⟩
        obtain ⟨hlen, hload⟩ := bytes_cells hb hcell
        have hn : ns.length = n := by rw [hlen, List.length_take]; omega
        refine .value hK (y := .string (strOf ns)) ?_ h (.v _) rfl
        rw [hy, ← hn]
        simp [run_strOf (cap := cap) hs hd hu hload]
      · exact hob.elim
    · exact hk.elim
  · exact hk.elim

theorem indexK_sound (h : Rl C I st a w) {t : TypeId} {x ix : Operand} {K : AV → St → Prop} (hk : indexK C.P st t x ix K) : Comes1 C I st a w (do pure (.value (← Instr.index t (a.eval x) (a.eval ix)))) K := by
  unfold indexK at hk
  split at hk
  · rename_i s k j hx hix
    obtain ⟨hu, hj, hK⟩ := hk
    have h1 := h.av hx
    have h2 := h.av hix
    generalize a.eval x = xv at h1 ⊢
    generalize a.eval ix = iv at h2 ⊢
    cases h1; cases h2
    refine .value hK ?_ h (.v _) rfl
    rw [Sem.run_bind, run_index_string _ _ _ _ _ hu, dif_pos hj]
    rfl
  · exact hk.elim

end
end Go.Am
