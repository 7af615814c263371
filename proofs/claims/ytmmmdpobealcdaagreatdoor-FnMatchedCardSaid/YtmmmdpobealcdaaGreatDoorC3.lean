/- Regions that draw: all orders come to the same. -/
import Derived.Test.YtmmmdpobealcdaaGreatDoorC2
set_option linter.unusedVariables false
set_option linter.unusedSimpArgs false
namespace Go.Am
open Go

theorem snoc_split {α : Type} {xs h1 h2 : List α} {z e : α} (h : xs ++ [z] = h1 ++ e :: h2) : (h1 = xs ∧ e = z ∧ h2 = []) ∨ ∃ h3, h2 = h3 ++ [z] ∧ xs = h1 ++ e :: h3 := by
  rcases List.eq_nil_or_concat h2 with rfl | ⟨h3, u, rfl⟩
  · obtain ⟨g1, g2⟩ := List.append_inj' h rfl
    cases g2
    exact .inl ⟨g1.symm, rfl, rfl⟩
  · rw [List.concat_eq_append] at h ⊢
    have h' : xs ++ [z] = (h1 ++ e :: h3) ++ [u] := by rw [h]; simp
    obtain ⟨g1, g2⟩ := List.append_inj' h' rfl
    cases g2
    exact .inr ⟨h3, rfl, g1⟩

/-- Asking again changes nothing. -/
def Pass (c : Clo AskF) : Prop := ∀ t H nx K (r : AV × HE × Nat), c.run t H nx K = some r → K = some r

theorem askC_pass (P : Program) (ops : List Oper) (o : Oper) : Pass (askC P ops o) := by
  intro t H nx K r h
  unfold askC at h
  cases hd : o.dst with
  | none => rw [hd] at h; cases h
  | some d =>
    rw [hd] at h
    have h' : (gateC ops o).run t (match (opC true .heap P o).run t [] H nx some3 with
      | some p => (getC d).run t fun v => bif eqAV 200 p.1 v then K else none
      | none => none) K = some r := h
    rcases gateC_dec ops o t with hg | ⟨b, hg⟩
    · have := (hg _ _).symm.trans h'; cases this
    · have h2 := (hg _ _).symm.trans h'
      cases b with
      | false => exact h2
      | true =>
        have h3 : (match (opC true .heap P o).run t [] H nx some3 with
          | some p => (getC d).run t fun v => bif eqAV 200 p.1 v then K else none
          | none => none) = some r := h2
        split at h3
        · rcases getC_det d t with h4 | ⟨z, h4⟩
          · have := (h4 _).symm.trans h3; cases this
          · exact (bif_true ((h4 _).symm.trans h3)).2
        · cases h3

/-- A region that draws, in the canonical order. -/
structure Reg where
  G : Cfg
  fn : Nat
  n : Nat
  ops : Array Oper
  xs : List RO
  call : CallE
  w0 : World
  H0 : Mem
  I0 : Nat → Nat → Prop
  ρ0 : Nm0
  t0 : T3
  K : T3 → HE → Nat → Ans
  r : AV × HE × Nat

abbrev Reg.l (S : Reg) : List Oper := S.ops.toList
abbrev Reg.C (S : Reg) : Ctx := ⟨S.G.P, S.w0, S.H0, S.I0⟩

structure Stat (S : Reg) : Prop where
  idx : ∀ x ∈ S.xs, S.ops[x.i]? = some x.o
  E : ∀ x ∈ S.xs, x.E = edgeMask x.o
  D : ∀ x ∈ S.xs, x.D = dstBit x.o.dst
  W : ∀ x ∈ S.xs, x.W = looksMask S.l x.o
  c : ∀ x ∈ S.xs, x.c = clsG S.G S.fn x.o
  cover : ∀ i, i < S.ops.size → ∃ x ∈ S.xs, x.i = i
  nodup : S.xs.Pairwise fun x y => x.i ≠ y.i
  dp : S.xs.Pairwise fun x y => ∀ i, x.o.dst = some i → y.o.dst ≠ some i
  rs : ∀ x ∈ S.xs, x.c = 1 → offM x.D x.W = true
  rp : S.xs.Pairwise fun x y => x.c = 1 → offM y.D x.W = true
  pair : S.xs.Pairwise fun x y => (offM x.D y.W = true ∧ offM y.D x.W = true) ∨ hasM y.E x.i = true
  ahead : ∀ pre x suf, S.xs = pre ++ x :: suf → ∀ i, hasM x.E i = true → ∃ y ∈ pre, y.i = i
  heavy : ∀ pre x suf, S.xs = pre ++ x :: suf → x.c = 3 → ∀ y ∈ suf, ∃ i, hasM y.E i = true ∧ ∀ z ∈ pre, z.i ≠ i
  cc : ∀ x ∈ S.xs, x.c = 0 ∨ x.c = 1 ∨ x.c = 2 ∨ x.c = 3

/-- What is known of an operation that has been found, and may yet be carried out. -/
def Fact (S : Reg) (x : RO) (T : T3) (y : AV) (H : HE) (pd : Pend) : Prop :=
  ∃ b : Bool, (∀ yes no, (gateC S.l x.o).run T yes no = bif b then yes else no) ∧ (b = false → y = .v undef) ∧
    (b = true → ((x.c = 0 ∨ x.c = 1) ∧ ∀ nx K, (opC true (lmH S.G S.fn x.o) S.G.P x.o).run T [] H nx K = K y [] H nx) ∨
      (x.c = 2 ∧ ∃ m ob, (x.i, (m, ob)) ∈ pd ∧ (opC true .heap S.G.P x.o).run T [] [] m some3 = some (y, [(m, ob)], Nat.succ m)))

structure Inv (S : Reg) (hist : List (RO × AV)) (suf : List RO) (ls : Nat) (H : HE) (nx : Nat) (pd : Pend) (as : List (Nat × Clo AskF)) (bs : List (Nat × Nat)) (ρ : Nm) (st : St) (I : Nat → Nat → Prop) (a : Act) (w : World) : Prop where
  split : S.xs = hist.map (·.1) ++ suf
  lsIn : ∀ i, hasM ls i = true → ∃ e ∈ hist, e.1.i = i
  closed : ∀ x ∈ S.xs, hasM ls x.i = true → ∀ k, hasM x.E k = true → hasM ls k = true
  hv : ∀ e ∈ hist, e.1.c = 3 → hasM ls e.1.i = true
  low : Low hist
  lown : ∀ e ∈ hist, ∀ i, e.1.o.dst = some i → i < S.n
  fact : ∀ h1 x y h2, hist = h1 ++ (x, y) :: h2 → hasM ls x.i = false → Fact S x (tputs S.t0 h1) y H pd
  hask : ∀ e ∈ hist, e.1.c = 1 → (e.1.i, askC S.G.P S.l e.1.o) ∈ as
  hpass : ∀ p ∈ as, Pass p.2
  hbs : ∀ p ∈ bs, ∀ L : Nat → Prop, (∀ x ∈ S.xs, L x.i → ∀ k, hasM x.E k = true → L k) → L p.1 → ∀ k, hasM p.2 k = true → L k
  pdn : pd.Pairwise fun p q => p.2.1 ≠ q.2.1
  pdx : pd.Pairwise fun p q => p.1 ≠ q.1
  pdh : ∀ p ∈ pd, ∃ e ∈ hist, e.1.i = p.1 ∧ e.1.c = 2 ∧ e.2 ≠ .v undef
  pdo : PdOk ρ ls H nx pd
  pd0 : ∀ p ∈ pd, S.ρ0.n ≤ p.2.1
  run : (drawC S.G S.fn S.n S.l suf as bs).run S.call (tputs S.t0 hist) H nx pd S.K = some S.r
  up : S.ρ0.up nx ρ
  ren : RenS ρ (tputs S.t0 (sel ls hist)) [] (flushE ls pd H) nx st
  rl : Rl S.C I st a w
  n : S.n ≤ st.n

section
variable {S : Reg} {hist : List (RO × AV)} {suf : List RO} {ls : Nat} {H : HE} {nx : Nat} {pd : Pend} {as : List (Nat × Clo AskF)} {bs : List (Nat × Nat)} {ρ : Nm} {st : St} {I : Nat → Nat → Prop} {a : Act} {w : World}

theorem idx_inj {xs : List RO} (hn : xs.Pairwise fun x y => x.i ≠ y.i) {x y : RO} (hx : x ∈ xs) (hy : y ∈ xs) (h : x.i = y.i) : x = y := by
  induction xs with
  | nil => cases hx
  | cons z xs ih =>
    cases hn with
    | cons h1 h2 =>
      rcases List.mem_cons.1 hx with rfl | hx'
      · rcases List.mem_cons.1 hy with rfl | hy'
        · rfl
        · exact absurd h (h1 y hy')
      · rcases List.mem_cons.1 hy with rfl | hy'
        · exact absurd h.symm (h1 x hx')
        · exact ih h2 hx' hy'

theorem Inv.mem (V : Inv S hist suf ls H nx pd as bs ρ st I a w) {e : RO × AV} (he : e ∈ hist) : e.1 ∈ S.xs := by
  rw [V.split]; exact List.mem_append_left _ (List.mem_map.2 ⟨e, he, rfl⟩)
theorem Inv.mem' (V : Inv S hist suf ls H nx pd as bs ρ st I a w) {x : RO} (hx : x ∈ suf) : x ∈ S.xs := by
  rw [V.split]; exact List.mem_append_right _ hx
/-- What is to come is not among what has been. -/
theorem Inv.new (V : Inv S hist suf ls H nx pd as bs ρ st I a w) (hS : Stat S) {x : RO} (hx : x ∈ suf) {e : RO × AV} (he : e ∈ hist) : e.1.i ≠ x.i := by
  have h := hS.nodup
  rw [V.split, List.pairwise_append] at h
  exact h.2.2 _ (List.mem_map.2 ⟨e, he, rfl⟩) _ hx
theorem Inv.unl (V : Inv S hist suf ls H nx pd as bs ρ st I a w) (hS : Stat S) {x : RO} (hx : x ∈ suf) : hasM ls x.i = false := by
  cases h : hasM ls x.i with
  | false => rfl
  | true =>
    obtain ⟨e, he, hi⟩ := V.lsIn _ h
    exact absurd hi (V.new hS hx he)
theorem Inv.apart (V : Inv S hist suf ls H nx pd as bs ρ st I a w) (hS : Stat S) : Apart hist := by
  have h := hS.dp
  rw [V.split, List.pairwise_append] at h
  exact List.pairwise_map.1 h.1

/-- Two operations of the list, one behind the other. -/
theorem pair_of {xs : List RO} {R : RO → RO → Prop} (h : xs.Pairwise R) {pre mid suf : List RO} {x y : RO} (he : xs = pre ++ x :: suf) (hy : y ∈ suf) : R x y := by
  rw [he, List.pairwise_append] at h
  exact (List.pairwise_cons.1 h.2.1).1 y hy
theorem pair_of' {xs : List RO} {R : RO → RO → Prop} (h : xs.Pairwise R) {pre suf : List RO} {x y : RO} (he : xs = pre ++ x :: suf) (hy : y ∈ pre) : R y x := by
  rw [he, List.pairwise_append] at h
  exact h.2.2 y hy x (List.mem_cons_self ..)

theorem dst_look (hS : Stat S) {x y : RO} (hx : x ∈ S.xs) {j : Nat} (hd : x.o.dst = some j) (hj : hasM y.W j = true) (h : offM x.D y.W = true) : False := by
  have h1 := offM_get h (i := j) (by rw [hS.D x hx]; exact dst_bit.2 hd)
  rw [hj] at h1; cases h1

/-- What an operation looks at is there. -/
theorem Inv.agree (V : Inv S hist suf ls H nx pd as bs ρ st I a w) (hS : Stat S) {h1 rest : List (RO × AV)} (hh : hist = h1 ++ rest) {x : RO} {post : List RO} (hx : S.xs = h1.map (·.1) ++ x :: post) (hun : hasM ls x.i = false)
    (hE : ∀ k, hasM x.E k = true → hasM ls k = true) {j : Nat} (hj : j < 512) (hw : hasM x.W j = true) : tget (tputs S.t0 h1) j = tget (tputs S.t0 (sel ls hist)) j := by
  have hap := V.apart hS
  have hlow := V.low
  refine tputs_same (fun e he => hlow e (hh ▸ List.mem_append_left _ he)) (hlow.sel ls) (by rw [hh] at hap; exact (List.pairwise_append.1 hap).1) (hap.sel ls) hj (fun e hd => ⟨fun he => ?_, fun he => ?_⟩) _
  · refine mem_sel.2 ⟨hh ▸ List.mem_append_left _ he, ?_⟩
    have hm : e.1 ∈ h1.map (·.1) := List.mem_map.2 ⟨e, he, rfl⟩
    rcases pair_of' hS.pair hx hm with ⟨h2, _⟩ | h2
    · exact (dst_look hS (V.mem (hh ▸ List.mem_append_left _ he)) hd hw h2).elim
    · exact hE _ h2
  · obtain ⟨he1, hl⟩ := mem_sel.1 he
    rw [hh] at he1
    rcases List.mem_append.1 he1 with he2 | he2
    · exact he2
    · exfalso
      have hm : e.1 ∈ x :: post := by
        have h3 : S.xs = h1.map (·.1) ++ (rest.map (·.1) ++ suf) := by rw [V.split, hh]; simp
        rw [hx] at h3
        rw [List.append_cancel_left h3]
        exact List.mem_append_left _ (List.mem_map.2 ⟨e, he2, rfl⟩)
      rcases List.mem_cons.1 hm with h4 | h4
      · rw [h4, hun] at hl; cases hl
      · rcases pair_of (mid := []) hS.pair hx h4 with ⟨_, h5⟩ | h5
        · exact dst_look hS (V.mem (hh ▸ he1)) hd hw h5
        · have := V.closed e.1 (V.mem (hh ▸ he1)) hl _ h5
          rw [hun] at this; cases this

/-! ### The canonical order, one operation -/

theorem drawC_light {G : Cfg} {fn n : Nat} {ops : List Oper} {x : RO} {xs : List RO} {as : List (Nat × Clo AskF)} {bs : List (Nat × Nat)} (h2 : Nat.beq x.c 2 = false) (h3 : Nat.beq x.c 3 = false) :
    (drawC G fn n ops (x :: xs) as bs).run = fun call t H nx pd K => (gateC ops x.o).run t (match (opC true (lmH G fn x.o) G.P x.o).run t [] H nx some3 with
      | some q => (dstC n x.o.dst).run t q.1 fun t => (drawC G fn n ops xs (match Nat.beq x.c 1 with | true => (x.i, askC G.P ops x.o) :: as | false => as) ((x.i, aheadM x.E bs) :: bs)).run call t H nx pd K
      | none => none) ((dstC n x.o.dst).run t (.v undef) fun t => (drawC G fn n ops xs (match Nat.beq x.c 1 with | true => (x.i, askC G.P ops x.o) :: as | false => as) ((x.i, aheadM x.E bs) :: bs)).run call t H nx pd K) := by
  unfold drawC
  simp only [h2, h3]
  rfl

theorem drawC_float {G : Cfg} {fn n : Nat} {ops : List Oper} {x : RO} {xs : List RO} {as : List (Nat × Clo AskF)} {bs : List (Nat × Nat)} (h2 : Nat.beq x.c 2 = true) :
    (drawC G fn n ops (x :: xs) as bs).run = fun call t H nx pd K => (gateC ops x.o).run t (match (opC true .heap G.P x.o).run t [] [] nx some3 with
      | some q => match q.2.1 with
        | [e] => (dstC n x.o.dst).run t q.1 fun t => (drawC G fn n ops xs as ((x.i, aheadM x.E bs) :: bs)).run call t H q.2.2 ((x.i, e) :: pd) K
        | _ => none
      | none => none) ((dstC n x.o.dst).run t (.v undef) fun t => (drawC G fn n ops xs as ((x.i, aheadM x.E bs) :: bs)).run call t H nx pd K) := by
  unfold drawC
  simp only [h2]
  rfl

theorem drawC_heavy {G : Cfg} {fn n : Nat} {ops : List Oper} {x : RO} {xs : List RO} {as : List (Nat × Clo AskF)} {bs : List (Nat × Nat)} (h2 : Nat.beq x.c 2 = false) (h3 : Nat.beq x.c 3 = true) :
    (drawC G fn n ops (x :: xs) as bs).run = fun call t H nx pd K => (gateC ops x.o).run t (match (rawC G.heap fn x.o).run call t [] (flushE (aheadM x.E bs) pd H) nx some3 with
      | some q => (dstC n x.o.dst).run t q.1 fun t => (asksC (aheadM x.E bs) as).run t q.2.1 q.2.2 ((drawC G fn n ops xs as ((x.i, aheadM x.E bs) :: bs)).run call t q.2.1 q.2.2 (keepE (aheadM x.E bs) pd) K)
      | none => none) ((dstC n x.o.dst).run t (.v undef) fun t => (drawC G fn n ops xs as ((x.i, aheadM x.E bs) :: bs)).run call t H nx pd K) := by
  unfold drawC
  simp only [h2, h3]
  rfl

theorem aheadM_spec {E : Nat} {bs : List (Nat × Nat)} {k : Nat} (h : hasM (aheadM E bs) k = true) : hasM E k = true ∨ ∃ p ∈ bs, hasM E p.1 = true ∧ hasM p.2 k = true := by
  induction bs with
  | nil => exact .inl h
  | cons p bs ih =>
    have h' : hasM (Bool.rec (motive := fun _ => Nat) (aheadM E bs) (Nat.lor p.2 (aheadM E bs)) (hasM E p.1)) k = true := h
    cases hb : hasM E p.1 with
    | false =>
      rw [hb] at h'
      rcases ih h' with h1 | ⟨q, h1, h2⟩
      · exact .inl h1
      · exact .inr ⟨q, List.mem_cons_of_mem _ h1, h2⟩
    | true =>
      rw [hb] at h'
      have h'' : hasM (Nat.lor p.2 (aheadM E bs)) k = true := h'
      rw [hasM_or, Bool.or_eq_true] at h''
      rcases h'' with h1 | h1
      · exact .inr ⟨p, List.mem_cons_self .., hb, h1⟩
      · rcases ih h1 with h1 | ⟨q, h1, h2⟩
        · exact .inl h1
        · exact .inr ⟨q, List.mem_cons_of_mem _ h1, h2⟩

theorem Inv.bs' (V : Inv S hist suf ls H nx pd as bs ρ st I a w) {x : RO} (hx : x ∈ S.xs) : ∀ p ∈ (x.i, aheadM x.E bs) :: bs, ∀ L : Nat → Prop, (∀ x ∈ S.xs, L x.i → ∀ k, hasM x.E k = true → L k) → L p.1 → ∀ k, hasM p.2 k = true → L k := by
  intro p hp L hL hi k hk
  rcases List.mem_cons.1 hp with rfl | hp
  · rcases aheadM_spec hk with h | ⟨q, h1, h2, h3⟩
    · exact hL x hx hi k h
    · exact V.hbs q h1 L hL (hL x hx hi _ h2) k h3
  · exact V.hbs p hp L hL hi k hk

theorem dstC_run' {n : Nat} {d : Option Tmp} {t : T3} {z : AV} {K : T3 → Ans} {r : AV × HE × Nat} (h : (dstC n d).run t z K = some r) : (∀ i, d = some i → i < n) ∧ (∀ i, d = some i → i < 512) ∧ K (dput d t z) = some r := by
  rcases dstC_run h with ⟨rfl, h1⟩ | ⟨i, rfl, h2, h3, h4⟩
  · exact ⟨fun i hi => (by cases hi), fun i hi => (by cases hi), h1⟩
  · exact ⟨fun j hj => by cases hj; exact h2, fun j hj => by cases hj; exact h3, h4⟩

theorem tputs_snoc (t : T3) (hist : List (RO × AV)) (x : RO) (y : AV) : tputs t (hist ++ [(x, y)]) = dput x.o.dst (tputs t hist) y := by rw [tputs_append]; rfl

theorem sel_snoc {ls : Nat} {hist : List (RO × AV)} {x : RO} {y : AV} (h : hasM ls x.i = false) : sel ls (hist ++ [(x, y)]) = sel ls hist := by
  unfold sel
  rw [List.filter_append]
  simp [h]

/-- One more has been found, and none has been carried out. -/
theorem Inv.found {x : RO} (V : Inv S hist (x :: suf) ls H nx pd as bs ρ st I a w) (hS : Stat S) (hc : x.c ≠ 3) {y : AV} {nx' : Nat} {pd' : Pend} {as' : List (Nat × Clo AskF)} (hnx : nx ≤ nx')
    (hlow : ∀ i, x.o.dst = some i → i < S.n ∧ i < 512) (hfact : Fact S x (tputs S.t0 hist) y H pd') (hsub : ∀ p ∈ pd, p ∈ pd') (has : x.c = 1 → (x.i, askC S.G.P S.l x.o) ∈ as') (has' : ∀ p ∈ as, p ∈ as') (hpass' : ∀ p ∈ as', Pass p.2)
    (hpd : pd' = pd ∨ ∃ ob, (x.c = 2 ∧ y ≠ .v undef) ∧ pd' = (x.i, (nx, ob)) :: pd ∧ nx' = Nat.succ nx)
    (hrun : (drawC S.G S.fn S.n S.l suf as' ((x.i, aheadM x.E bs) :: bs)).run S.call (dput x.o.dst (tputs S.t0 hist) y) H nx' pd' S.K = some S.r) :
    Inv S (hist ++ [(x, y)]) suf ls H nx' pd' as' ((x.i, aheadM x.E bs) :: bs) ρ st I a w := by
  have hx : x ∈ S.xs := V.mem' (List.mem_cons_self ..)
  have hun : hasM ls x.i = false := V.unl hS (List.mem_cons_self ..)
  have hmem : ∀ e ∈ hist ++ [(x, y)], e ∈ hist ∨ e = (x, y) := fun e he => by simpa using he
  have hnew : ∀ p ∈ pd, p.1 ≠ x.i := fun p hp e => by
    obtain ⟨e', he', hi, _⟩ := V.pdh p hp
    exact V.new hS (List.mem_cons_self ..) he' (hi.trans e)
  have hflush : flushE ls pd' H = flushE ls pd H := by
    rcases hpd with rfl | ⟨ob, _, rfl, _⟩
    · rfl
    · rw [flushE_cons, hun]; rfl
  have hpdo : PdOk ρ ls H nx' pd := fun p hp => let ⟨h1, h2, h3⟩ := V.pdo p hp; ⟨h1, Nat.lt_of_lt_of_le h2 hnx, h3⟩
  exact {
    split := by rw [V.split]; simp
    lsIn := fun i hi => let ⟨e, he, h⟩ := V.lsIn i hi; ⟨e, List.mem_append_left _ he, h⟩
    closed := V.closed
    hv := fun e he h3 => by
      rcases hmem e he with he | rfl
      · exact V.hv e he h3
      · exact absurd h3 hc
    low := fun e he i hi => by
      rcases hmem e he with he | rfl
      · exact V.low e he i hi
      · exact (hlow i hi).2
    lown := fun e he i hi => by
      rcases hmem e he with he | rfl
      · exact V.lown e he i hi
      · exact (hlow i hi).1
    fact := fun h1 x1 y1 h2 hh hun1 => by
      rcases snoc_split hh with ⟨rfl, he, rfl⟩ | ⟨h3, rfl, hh'⟩
      · cases he; exact hfact
      · obtain ⟨b, k1, k2, k3⟩ := V.fact h1 x1 y1 h3 hh' hun1
        refine ⟨b, k1, k2, fun hb => ?_⟩
        rcases k3 hb with k4 | ⟨k4, m, ob, k5, k6⟩
        · exact .inl k4
        · exact .inr ⟨k4, m, ob, hsub _ k5, k6⟩
    hask := fun e he h1 => by
      rcases hmem e he with he | rfl
      · exact has' _ (V.hask e he h1)
      · exact has h1
    hpass := hpass'
    hbs := V.bs' hx
    pdn := by
      rcases hpd with rfl | ⟨ob, _, rfl, _⟩
      · exact V.pdn
      · exact .cons (fun p hp e => by
          have := (V.pdo p hp).2.1
          rw [← e] at this; exact Nat.lt_irrefl _ this) V.pdn
    pdx := by
      rcases hpd with rfl | ⟨ob, _, rfl, _⟩
      · exact V.pdx
      · exact .cons (fun p hp e => hnew p hp e.symm) V.pdx
    pdh := fun p hp => by
      have old : ∀ p ∈ pd, ∃ e ∈ hist ++ [(x, y)], e.1.i = p.1 ∧ e.1.c = 2 ∧ e.2 ≠ .v undef := fun p hp => let ⟨e, h1, h2⟩ := V.pdh p hp; ⟨e, List.mem_append_left _ h1, h2⟩
      rcases hpd with rfl | ⟨ob, h2, rfl, _⟩
      · exact old p hp
      · rcases List.mem_cons.1 hp with rfl | hp
        · exact ⟨(x, y), by simp, rfl, h2.1, h2.2⟩
        · exact old p hp
    pdo := by
      rcases hpd with rfl | ⟨ob, _, rfl, rfl⟩
      · exact hpdo
      · intro p hp
        rcases List.mem_cons.1 hp with rfl | hp
        · have hρ : ρ nx = none := V.ren.toRenH.fresh
          refine ⟨?_, Nat.lt_succ_self _, fun _ => hρ⟩
          cases hq : aget nx H with
          | none => rfl
          | some ob2 =>
            have h1 : aget nx (flushE ls pd H) = some ob2 := by
              rw [flushE_other fun p hp _ e => by
                have := (V.pdo p hp).2.1
                rw [e] at this; exact Nat.lt_irrefl _ this]
              exact hq
            obtain ⟨r, _, h2, _⟩ := V.ren.H1 _ _ h1
            rw [hρ] at h2; cases h2
        · exact hpdo p hp
    pd0 := fun p hp => by
      rcases hpd with rfl | ⟨ob, _, rfl, _⟩
      · exact V.pd0 p hp
      · rcases List.mem_cons.1 hp with rfl | hp
        · exact V.up.ge
        · exact V.pd0 p hp
    run := by rw [tputs_snoc]; exact hrun
    up := ⟨V.up.le, Nat.le_trans V.up.ge hnx, V.up.ext⟩
    ren := by
      rw [sel_snoc hun, hflush]
      exact { V.ren with nx := fun m r h => Nat.lt_of_lt_of_le (V.ren.nx m r h) hnx }
    rl := V.rl
    n := V.n }

theorem bif_cases {α : Type} {b : Bool} {x y : Option α} {r : α} (h : (bif b then x else y) = some r) : (b = true ∧ x = some r) ∨ (b = false ∧ y = some r) := by
  cases b with
  | true => exact .inl ⟨rfl, h⟩
  | false => exact .inr ⟨rfl, h⟩

theorem pub1E_some (P : Program) {x : AV} {L : LE} {K : AV → LE → Ans} {r : AV × HE × Nat} (h : pub1E P L x K = some r) : ∃ y L', K y L' = some r := by
  unfold pub1E at h
  split at h
  · split at h
    · split at h
      · split at h
        obtain ⟨_, h2⟩ := bif_true h
        exact ⟨_, _, h2⟩
      · cases h
    · exact ⟨_, _, h⟩
  · exact ⟨_, _, h⟩
theorem pubsE_some (P : Program) {r : AV × HE × Nat} : ∀ {xs : List AV} {L : LE} {K : List AV → LE → Ans}, pubsE P xs L K = some r → ∃ ys L', K ys L' = some r
  | [], L, K, h => ⟨_, _, h⟩
  | x :: xs, L, K, h => by
    have h' : pub1E P L x (fun y L' => pubsE P xs L' fun ys L'' => K (y :: ys) L'') = some r := h
    obtain ⟨y, L', h1⟩ := pub1E_some P h'
    obtain ⟨ys, L'', h2⟩ := pubsE_some P h1
    exact ⟨_, _, h2⟩
theorem pubE_some (P : Program) {x : AV} {L : LE} {K : AV → LE → Ans} {r : AV × HE × Nat} (h : pubE P L x K = some r) : ∃ y L', K y L' = some r := by
  unfold pubE at h
  split at h
  · obtain ⟨ys, L', h1⟩ := pubsE_some P h; exact ⟨_, _, h1⟩
  · obtain ⟨ys, L', h1⟩ := pubsE_some P h; exact ⟨_, _, h1⟩
  · exact pub1E_some P h
theorem pubsIE_some (P : Program) {r : AV × HE × Nat} : ∀ {xs : List (Nat × AV)} {L : LE} {K : List (Nat × AV) → LE → Ans}, pubsIE P xs L K = some r → ∃ ys L', K ys L' = some r
  | [], L, K, h => ⟨_, _, h⟩
  | (i, x) :: xs, L, K, h => by
    have h' : pubE P L x (fun y L' => pubsIE P xs L' fun ys L'' => K ((i, y) :: ys) L'') = some r := h
    obtain ⟨y, L', h1⟩ := pubE_some P h'
    obtain ⟨ys, L'', h2⟩ := pubsIE_some P h1
    exact ⟨_, _, h2⟩

theorem float_shape (P : Program) (o : Oper) (hc : cls o = 2) {t : T3} {m m1 : Nat} {y : AV} {H1 : HE} (h : (opC true .heap P o).run t [] [] m some3 = some (y, H1, m1)) : y ≠ .v undef ∧ ∃ ob, H1 = [(m, ob)] ∧ m1 = Nat.succ m := by
  obtain ⟨dst, op, ty, pos, after, guard⟩ := o
  unfold opC at h
  unfold cls at hc
  cases op <;> first | (simp only at hc; cases hc; done) | skip
  case alloc e =>
    simp only at h
    unfold allocC at h
    cases hz : zeroAV P e with
    | none => rw [hz] at h; cases h
    | some z =>
      rw [hz] at h
      simp only at h
      cases hb : boxOk P e z with
      | false => rw [hb] at h; cases h
      | true =>
        rw [hb] at h
        have h' : some3 (.ptr none m 0 0) [] [(m, { elem := e, xs := [z], var := true })] (Nat.succ m) = some (y, H1, m1) := h
        obtain ⟨_, he⟩ := some3_run h'
        cases he
        exact ⟨(by intro h; cases h), _, rfl, rfl⟩
  case buildSlice ty0 len parts =>
    simp only at h
    unfold buildSliceC at h
    cases he : elemT P ty0 with
    | none => simp only [he] at h; cases h
    | some e =>
      simp only [he] at h
      cases hz : zeroAV P e with
      | none => simp only [hz] at h; cases h
      | some z =>
        simp only [hz] at h
        cases hb : Nat.beq (lenR z.cells) (P.cellsOf e) && Nat.blt 0 (P.cellsOf e) && Nat.ble (len * P.cellsOf e) 16777216 with
        | false => simp only [hb] at h; cases h
        | true =>
          simp only [hb] at h
          rcases avsC_det t parts.toList with h1 | ⟨zs, h1⟩
          · have := (h1 _).symm.trans h; cases this
          · have h2 := (h1 _).symm.trans h
            obtain ⟨ys, L', h3⟩ := pubsIE_some P h2
            rcases setsE_det (P.cellsOf e) ys (repR len z) with h4 | ⟨cs, h4⟩
            · have := (h4 _).symm.trans h3; cases this
            · have h5 := (h4 _).symm.trans h3
              have h' : some3 (.vec none m len) L' [(m, { elem := e, xs := cs })] (Nat.succ m) = some (y, H1, m1) := h5
              obtain ⟨_, hq⟩ := some3_run h'
              cases hq
              exact ⟨(by intro h; cases h), _, rfl, rfl⟩
  case call c =>
    obtain ⟨callee, args, ts⟩ := c
    cases callee with
    | builtin b => simp only at hc; cases b <;> (simp only at hc; cases hc)
    | _ => simp only at hc; cases hc

/-- Another one that is not heavy. -/
theorem Inv.next {x : RO} (V : Inv S hist (x :: suf) ls H nx pd as bs ρ st I a w) (hS : Stat S) (hc : x.c ≠ 3) :
    ∃ y nx' pd' as' bs', Inv S (hist ++ [(x, y)]) suf ls H nx' pd' as' bs' ρ st I a w := by
  have hx : x ∈ S.xs := V.mem' (List.mem_cons_self ..)
  have hrun := V.run
  have hcc := hS.c x hx
  rcases gateC_dec S.l x.o (tputs S.t0 hist) with hg | ⟨b, hg⟩
  · exfalso
    rcases hS.cc x hx with h | h | h | h
    · rw [drawC_light (by rw [h]; rfl) (by rw [h]; rfl)] at hrun
      have := (hg _ _).symm.trans hrun; cases this
    · rw [drawC_light (by rw [h]; rfl) (by rw [h]; rfl)] at hrun
      have := (hg _ _).symm.trans hrun; cases this
    · rw [drawC_float (by rw [h]; rfl)] at hrun
      have := (hg _ _).symm.trans hrun; cases this
    · exact hc h
  · by_cases h2 : x.c = 2
    · rw [drawC_float (by rw [h2]; rfl)] at hrun
      rcases bif_cases ((hg _ _).symm.trans hrun) with ⟨rfl, h1⟩ | ⟨rfl, h1⟩
      · cases hq : (opC true .heap S.G.P x.o).run (tputs S.t0 hist) [] [] nx some3 with
        | none => rw [hq] at h1; cases h1
        | some q =>
          obtain ⟨y, H1, m1⟩ := q
          obtain ⟨hne, ob, rfl, rfl⟩ := float_shape _ _ (clsG_two (hcc ▸ h2)) hq
          rw [hq] at h1
          obtain ⟨d1, d2, d3⟩ := dstC_run' h1
          exact ⟨y, _, _, _, _, V.found hS hc (Nat.le_succ nx) (fun i hi => ⟨d1 i hi, d2 i hi⟩) ⟨true, hg, fun h => (by cases h), fun _ => .inr ⟨h2, nx, ob, List.mem_cons_self .., hq⟩⟩ (fun p hp => List.mem_cons_of_mem _ hp) (fun h => by rw [h2] at h; cases h) (fun p hp => hp) V.hpass (.inr ⟨ob, ⟨h2, hne⟩, rfl, rfl⟩) d3⟩
      · obtain ⟨d1, d2, d3⟩ := dstC_run' h1
        exact ⟨.v undef, _, _, _, _, V.found hS hc (Nat.le_refl nx) (fun i hi => ⟨d1 i hi, d2 i hi⟩) ⟨false, hg, fun _ => rfl, fun h => (by cases h)⟩ (fun p hp => hp) (fun h => by rw [h2] at h; cases h) (fun p hp => hp) V.hpass (.inl rfl) d3⟩
    · have h01 : x.c = 0 ∨ x.c = 1 := by
        rcases hS.cc x hx with h | h | h | h
        · exact .inl h
        · exact .inr h
        · exact absurd h h2
        · exact absurd h hc
      rw [drawC_light (beq_ne h2) (beq_ne hc)] at hrun
      have has : x.c = 1 → (x.i, askC S.G.P S.l x.o) ∈ (match Nat.beq x.c 1 with | true => (x.i, askC S.G.P S.l x.o) :: as | false => as) := fun h => by rw [h]; exact List.mem_cons_self ..
      have has' : ∀ p ∈ as, p ∈ (match Nat.beq x.c 1 with | true => (x.i, askC S.G.P S.l x.o) :: as | false => as) := fun p hp => by
        cases Nat.beq x.c 1 with
        | true => exact List.mem_cons_of_mem _ hp
        | false => exact hp
      have hpass' : ∀ p ∈ (match Nat.beq x.c 1 with | true => (x.i, askC S.G.P S.l x.o) :: as | false => as), Pass p.2 := fun p hp => by
        cases hb : Nat.beq x.c 1 with
        | true =>
          rw [hb] at hp
          rcases List.mem_cons.1 hp with rfl | hp
          · exact askC_pass _ _ _
          · exact V.hpass p hp
        | false => rw [hb] at hp; exact V.hpass p hp
      rcases bif_cases ((hg _ _).symm.trans hrun) with ⟨rfl, h1⟩ | ⟨rfl, h1⟩
      · rcases lightC_lt S.G S.fn x.o (hcc ▸ h01) (tputs S.t0 hist) H with hl | ⟨y, hl⟩
        · rw [hl] at h1; cases h1
        · rw [hl] at h1
          obtain ⟨d1, d2, d3⟩ := dstC_run' h1
          exact ⟨y, _, _, _, _, V.found hS hc (Nat.le_refl nx) (fun i hi => ⟨d1 i hi, d2 i hi⟩) ⟨true, hg, fun h => (by cases h), fun _ => .inl ⟨h01, hl⟩⟩ (fun p hp => hp) has has' hpass' (.inl rfl) d3⟩
      · obtain ⟨d1, d2, d3⟩ := dstC_run' h1
        exact ⟨.v undef, _, _, _, _, V.found hS hc (Nat.le_refl nx) (fun i hi => ⟨d1 i hi, d2 i hi⟩) ⟨false, hg, fun _ => rfl, fun h => (by cases h)⟩ (fun p hp => hp) has has' hpass' (.inl rfl) d3⟩

/-- Up to the next heavy one. -/
theorem Inv.settle (hS : Stat S) : ∀ {suf : List RO} {hist : List (RO × AV)} {nx : Nat} {pd : Pend} {as : List (Nat × Clo AskF)} {bs : List (Nat × Nat)}, Inv S hist suf ls H nx pd as bs ρ st I a w →
    ∃ hist' suf' nx' pd' as' bs', Inv S hist' suf' ls H nx' pd' as' bs' ρ st I a w ∧ (suf' = [] ∨ ∃ x r, suf' = x :: r ∧ x.c = 3) := by
  intro suf
  induction suf with
  | nil => intro hist nx pd as bs V; exact ⟨_, _, _, _, _, _, V, .inl rfl⟩
  | cons x suf ih =>
    intro hist nx pd as bs V
    by_cases hc : x.c = 3
    · exact ⟨_, _, _, _, _, _, V, .inr ⟨x, suf, rfl, hc⟩⟩
    · obtain ⟨y, nx', pd', as', bs', V'⟩ := V.next hS hc
      exact ih V'

end
end Go.Am
