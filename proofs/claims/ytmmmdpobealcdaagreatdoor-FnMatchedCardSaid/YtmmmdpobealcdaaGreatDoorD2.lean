/- Tables of contracts. -/
import Derived.Test.YtmmmdpobealcdaaGreatDoorD1
import Derived.Laws.Externs
set_option linter.unusedVariables false
set_option linter.unusedSimpArgs false
namespace Go.Am
open Go

abbrev Tab1 := List (Nat × (List AV × AV))

noncomputable section

def lookT (f : Nat) (args : List AV) (tab : Tab1) : Option AV :=
  List.rec (motive := fun _ => Option AV) none (fun e _ ih => match Nat.beq e.1 f && eqLs (eqAV 200) args e.2.1 with | true => some e.2.2 | false => ih) tab

def maskT (tab : Tab1) : Nat := List.rec (motive := fun _ => Nat) 0 (fun e _ ih => Nat.lor (bitN e.1) ih) tab

/-- Calls that stand in a table. -/
def tabE (mask : Nat) (tab : Tab1) : CallE := fun f args H nx => match hasM mask f with
  | true => (match lookT f args tab with | some r => some (r, H, nx) | none => none)
  | false => none

def orE (k1 k2 : CallE) : CallE := fun f args H nx => match k1 f args H nx with
  | some p => some p
  | none => k2 f args H nx

/-- A table's line. -/
structure LineOk (P : Program) (e : Nat × (List AV × AV)) : Prop where
  fn : PureC P e.1 e.2.1 e.2.2
  args : allR (pureB 200) e.2.1 = true
  res : pureB 200 e.2.2 = true

def TabOk (P : Program) : Tab1 → Prop
  | [] => True
  | e :: r => LineOk P e ∧ TabOk P r

end

theorem lookT_some {P : Program} {f : Nat} {args : List AV} : ∀ {tab : Tab1} {r : AV}, TabOk P tab → lookT f args tab = some r → ∃ e, LineOk P e ∧ e.1 = f ∧ e.2.1 = args ∧ e.2.2 = r := by
  intro tab
  induction tab with
  | nil => intro r _ h; cases h
  | cons e tab ih =>
    intro r hok h
    have h' : (match Nat.beq e.1 f && eqLs (eqAV 200) args e.2.1 with | true => some e.2.2 | false => lookT f args tab) = some r := h
    cases hb : Nat.beq e.1 f && eqLs (eqAV 200) args e.2.1 with
    | false => rw [hb] at h'; exact ih hok.2 h'
    | true =>
      rw [hb] at h'
      rw [Bool.and_eq_true] at hb
      exact ⟨e, hok.1, beq_eq hb.1, (eqLs_eq (fun x y => eqAV_eq 200) hb.2).symm, by simpa using h'⟩

/-- A call that changes nothing. -/
theorem still_ok {P : Program} {f : Nat} {args : List AV} {res : AV} (h : PureC P f args res) (ha : allR (pureB 200) args = true) (hr : pureB 200 res = true) {H : HE} {nx : Nat} {ρ : Nm} {M : Mem} {args' : List AV} (hargs : Ren ρ (.many args args')) (hM : RenH ρ H nx M) :
    Fn P f args' M fun z' M' => ∃ ρ', Up nx ρ nx ρ' ∧ Ren ρ' (.one res z') ∧ RenH ρ' H nx M' := by
  have e := (pureB_many (ρ := ρ) 200 ha).2 args' hargs
  subst e
  refine (h M).mono fun z' M' ⟨e1, e2⟩ => ?_
  subst e1; subst e2
  exact ⟨ρ, .refl _ _, (pureB_ren (ρ := ρ) 200 hr).1, hM⟩

theorem tabE_ok {P : Program} {mask : Nat} {tab : Tab1} (hok : TabOk P tab) : CallOk P (tabE mask tab) := by
  intro f args H nx z H' nx' h ρ M args' hargs hM
  unfold tabE at h
  cases hm : hasM mask f with
  | false => rw [hm] at h; cases h
  | true =>
    rw [hm] at h
    simp only at h
    cases hl : lookT f args tab with
    | none => rw [hl] at h; cases h
    | some r =>
      rw [hl] at h
      cases h
      obtain ⟨e, h1, h2, h3, h4⟩ := lookT_some hok hl
      subst h2; subst h3; subst h4
      exact still_ok h1.fn h1.args h1.res hargs hM

theorem orE_ok {P : Program} {k1 k2 : CallE} (h1 : CallOk P k1) (h2 : CallOk P k2) : CallOk P (orE k1 k2) := by
  intro f args H nx z H' nx' h
  unfold orE at h
  cases hk : k1 f args H nx with
  | some p => rw [hk] at h; cases h; exact h1 f args H nx z H' nx' hk
  | none => rw [hk] at h; exact h2 f args H nx z H' nx' h

/-! ### The first place of a byte -/

noncomputable def idxR (c : Nat) (xs : List UInt8) : Option Nat :=
  List.rec (motive := fun _ => Option Nat) none (fun b _ ih => match Nat.beq b.toNat c with | true => some 0 | false => (match ih with | some i => some (Nat.succ i) | none => none)) xs

noncomputable def idxI (c : Nat) (xs : List UInt8) : Int := match idxR c xs with | some i => .ofNat i | none => .negSucc 0

theorem idxR_eq (c : Nat) (hc : c < 256) : ∀ xs : List UInt8, idxR c xs = (List.range xs.length).find? fun i => xs[i]! == c.toUInt8 := by
  intro xs
  induction xs with
  | nil => rfl
  | cons b xs ih =>
    have e : idxR c (b :: xs) = (match Nat.beq b.toNat c with | true => some 0 | false => (match idxR c xs with | some i => some (Nat.succ i) | none => none)) := rfl
    rw [e, List.length_cons, List.range_succ_eq_map, List.find?_cons]
    have hb : ((b :: xs)[0]! == c.toUInt8) = Nat.beq b.toNat c := by
      have h0 : (b :: xs)[0]! = b := rfl
      rw [h0, beq_dec]
      have h1 : (b = c.toUInt8) ↔ b.toNat = c := by
        constructor
        · intro h; rw [h]; simp [Nat.toUInt8]; omega
        · intro h; rw [← h]; simp [Nat.toUInt8]
      by_cases h2 : b = c.toUInt8
      · rw [decide_eq_true (h1.1 h2)]; simpa using h2
      · rw [decide_eq_false fun h => h2 (h1.2 h)]; simpa using h2
    rw [hb]
    cases Nat.beq b.toNat c with
    | true => rfl
    | false =>
      simp only [List.find?_map]
      rw [ih]
      have : ((fun i => (b :: xs)[i]! == c.toUInt8) ∘ Nat.succ) = fun i => xs[i]! == c.toUInt8 := by funext i; simp
      rw [this]
      cases (List.range xs.length).find? fun i => xs[i]! == c.toUInt8 <;> rfl

theorem firstIdx_eq (s : ByteArray) (c : Nat) (hc : c < 256) : firstIdx s c.toUInt8 = idxI c s.data.toList := by
  unfold firstIdx idxI
  rw [idxR_eq c hc]
  have e1 : s.size = s.data.toList.length := by simp
  have e2 : (fun i : Nat => s[i]! == c.toUInt8) = fun i : Nat => s.data.toList[i]! == c.toUInt8 := by
    funext i
    congr 1
    by_cases hi : i < s.size
    · have hi' : i < s.data.toList.length := by simpa using hi
      rw [getElem!_pos s i hi, getElem!_pos s.data.toList i hi']
      simp [ByteArray.getElem_eq_getElem_data]
    · have hi' : ¬ i < s.data.toList.length := by simpa using hi
      rw [getElem!_neg s i hi, getElem!_neg s.data.toList i hi']
  rw [e1, e2]
  cases (List.range s.data.toList.length).find? fun i => s.data.toList[i]! == c.toUInt8 with
  | none => rfl
  | some i => rfl

end Go.Am
