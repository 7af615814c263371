/- Each function of an operation is right. Third part: literals, lengths, appending; all operations. -/
import Derived.Test.YtmmmdpobealcdaaGreatDoorB4
set_option linter.unusedVariables false
set_option linter.unusedSimpArgs false
namespace Go.Am
open Go

/-- Values with their places. -/
inductive RenI (ρ : Nm) : List (Nat × AV) → List (Nat × AV) → Prop
  | nil : RenI ρ [] []
  | cons (i : Nat) (x y : AV) (xs ys : List (Nat × AV)) : Ren ρ (.one x y) → RenI ρ xs ys → RenI ρ ((i, x) :: xs) ((i, y) :: ys)

theorem RenI.mono {ρ ρ' : Nm} {xs ys : List (Nat × AV)} (h : RenI ρ xs ys) (hl : Nm.le ρ ρ') : RenI ρ' xs ys := by
  induction h with
  | nil => exact .nil
  | cons i x y xs ys h1 _ ih => exact .cons i x y xs ys (h1.mono hl) ih

section
variable {ρ : Nm} {t : T3} {L : LE} {H : HE} {nx : Nat} {st : St} {r : AV × HE × Nat}

theorem avsC_run (hs : RenS ρ t L H nx st) {ps : List (Nat × Operand)} {K : List (Nat × AV) → Ans} (h : (avsC ps).run t K = some r) : ∃ zs zs', RenI ρ zs zs' ∧ avsI st ps = some zs' ∧ K zs = some r := by
  induction ps generalizing K with
  | nil => exact ⟨[], [], .nil, rfl, h⟩
  | cons p ps ih =>
    obtain ⟨i, x⟩ := p
    unfold avsC at h
    obtain ⟨z, z', h1, h2, h3⟩ := avC_run hs h
    obtain ⟨zs, zs', k1, k2, k3⟩ := ih h3
    exact ⟨_, _, .cons i _ _ _ _ h1 k1, by simp only [avsI, h2, k2], k3⟩

theorem fillE_run {ps : List (Nat × Nat)} {cells cells' : List AV} {xs xs' : List (Nat × AV)} (hx : RenI ρ xs xs') (hc : Ren ρ (.many cells cells')) {K : List AV → Ans} (h : fillE ps cells xs K = some r) :
    ∃ cs cs', Ren ρ (.many cs cs') ∧ fillAV ps cells' xs' = some cs' ∧ K cs = some r := by
  induction xs generalizing cells cells' xs' with
  | nil => cases hx; exact ⟨_, _, hc, rfl, h⟩
  | cons p xs ih =>
    cases hx with
    | cons i x y _ ys h1 h2 =>
      unfold fillE at h
      unfold fillAV
      simp only at h
      rw [nth_eq] at h
      cases hq : ps[i]? with
      | none => rw [hq] at h; cases h
      | some q =>
        obtain ⟨off, size⟩ := q
        rw [hq] at h
        simp only at h ⊢
        obtain ⟨hb, h3⟩ := bif_true h
        simp only [Bool.and_eq_true] at hb
        obtain ⟨⟨b1, b2⟩, b3⟩ := hb
        rw [lenR_eq] at b1 b2
        rw [onesR_eq] at b3
        rw [appR_eq, appR_eq, takeR_eq, dropR_eq, ← List.append_assoc] at h3
        rw [if_pos ⟨h1.cells.length ▸ beq_eq b1, hc.length ▸ ble_le b2, h1.ones_eq ▸ b3⟩]
        exact ih h2 (((hc.take off).append h1.cells).append (hc.drop (off + size))) h3

theorem buildC_ok (P : Program) (ty : TypeId) (parts : Array (Nat × Operand)) : OpOk (buildC P ty parts) (fun st => buildK P st ty parts) := by
  intro ρ t L H nx K r st hs h
  unfold buildC at h
  show buildK P st ty parts _
  unfold buildK
  cases hz : zeroAV P ty with
  | none => simp only [hz] at h; cases h
  | some z =>
    simp only [hz] at h
    cases hp : places P ty with
    | none => simp only [hp] at h; cases h
    | some ps =>
      simp only [hp] at h
      obtain ⟨zs, zs', k1, k2, k3⟩ := avsC_run hs h
      simp only [k2]
      obtain ⟨cs, cs', g1, g2, g3⟩ := fillE_run k1 (Ren.zero (ρ := ρ) hz).cells k3
      simp only [g2]
      exact hs.post (.agg _ _ g1) g3

theorem setsE_run {s : Nat} {xs xs' : List AV} {ps ps' : List (Nat × AV)} (hp : RenI ρ ps ps') (hx : Ren ρ (.many xs xs')) {K : List AV → Ans} (h : setsE s xs ps K = some r) :
    ∃ cs cs', Ren ρ (.many cs cs') ∧ setsAV s xs' ps' = some cs' ∧ K cs = some r := by
  induction ps generalizing xs xs' ps' with
  | nil => cases hp; exact ⟨_, _, hx, rfl, h⟩
  | cons p ps ih =>
    cases hp with
    | cons i x y _ ys h1 h2 =>
      unfold setsE at h
      unfold setsAV
      simp only at h
      obtain ⟨hb, h3⟩ := bif_true h
      simp only [Bool.and_eq_true] at hb
      obtain ⟨⟨b1, b2⟩, b3⟩ := hb
      rw [lenR_eq] at b1 b2
      rw [onesR_eq] at b3
      rw [setR_eq] at h3
      rw [if_pos ⟨hx.length ▸ blt_lt b1, h1.cells.length ▸ beq_eq b2, h1.ones_eq ▸ b3⟩]
      exact ih h2 (hx.set i h1) h3

def PostI (ρ : Nm) (t : T3) (H : HE) (nx : Nat) (K : List (Nat × AV) → LE → Ans) (r : AV × HE × Nat) (ys' : List (Nat × AV)) (st' : St) : Prop :=
  ∃ ys L, RenI ρ ys ys' ∧ RenS ρ t L H nx st' ∧ K ys L = some r

theorem pubsI_mono {P : Program} {xs : List (Nat × AV)} {K K' : List (Nat × AV) → St → Prop} (h : pubsI P st xs K) (hk : ∀ y st', K y st' → K' y st') : pubsI P st xs K' := by
  induction xs generalizing st K K' with
  | nil => exact hk _ _ h
  | cons p xs ih => exact pubK_mono h fun y st' h' => ih h' fun ys st'' h'' => hk _ _ h''

theorem pubsIE_ok (P : Program) {xs xs' : List (Nat × AV)} (hx : RenI ρ xs xs') : ∀ {L : LE} {st : St} {K : List (Nat × AV) → LE → Ans}, RenS ρ t L H nx st → pubsIE P xs L K = some r → pubsI P st xs' (PostI ρ t H nx K r) := by
  induction hx with
  | nil => intro L st K hs h; exact ⟨_, _, .nil, hs, h⟩
  | cons i x y xs ys h1 _ ih =>
    intro L st K hs h
    have h' : pubE P L x (fun y L' => pubsIE P xs L' fun ys L'' => K ((i, y) :: ys) L'') = some r := h
    refine pubK_mono (pubE_ok hs P h1 h') fun z st' ⟨z0, L', g1, g2, g3⟩ => ?_
    exact pubsI_mono (ih g2 g3) fun zs st'' ⟨zs0, L'', k1, k2, k3⟩ => ⟨_, _, .cons i _ _ _ _ g1 k1, k2, k3⟩

theorem buildSliceC_ok (P : Program) (md : LitMode) (key : Nat) (ty : TypeId) (len : Nat) (parts : Array (Nat × Operand)) : OpOk (buildSliceC P md key ty len parts) (fun st => buildSliceK P md key st ty len parts) := by
  intro ρ t L H nx K r st hs h
  unfold buildSliceC at h
  show buildSliceK P md key st ty len parts _
  unfold buildSliceK
  cases he : elemT P ty with
  | none => simp only [he] at h; cases h
  | some e =>
    simp only [he] at h
    cases hz : zeroAV P e with
    | none => simp only [hz] at h; cases h
    | some z =>
      simp only [hz] at h
      cases hb : Nat.beq (lenR z.cells) (P.cellsOf e) && Nat.blt 0 (P.cellsOf e) && Nat.ble (len * P.cellsOf e) 16777216 with
      | false => simp only [hb] at h; cases h
      | true =>
        simp only [hb] at h
        simp only [Bool.and_eq_true] at hb
        obtain ⟨⟨b1, b2⟩, b3⟩ := hb
        rw [lenR_eq] at b1
        obtain ⟨zs, zs', k1, k2, k3⟩ := avsC_run hs h
        simp only [k2, hz]
        refine ⟨⟨beq_eq b1, blt_lt b2, ble_le b3⟩, pubsI_mono (pubsIE_ok P k1 hs k3) fun ps st' ⟨ps0, L', g1, g2, g3⟩ => ?_⟩
        rw [repR_eq] at g3
        obtain ⟨cs, cs', s1, s2, s3⟩ := setsE_run g1 ((Ren.zero hz).replicate len) g3
        simp only [s2]
        unfold litE at s3
        cases md with
        | list => exact g2.post (.list _ _ _ s1) s3
        | vec => exact newE_ok g2 (ob := { elem := e, xs := cs }) (ob' := { elem := e, xs := cs' }) ⟨rfl, s1, rfl, rfl, trivial⟩ (fun _ k m b hm => .vec k m b len hm) s3
        | heap => exact newE_ok g2 (ob := { elem := e, xs := cs }) (ob' := { elem := e, xs := cs' }) ⟨rfl, s1, rfl, rfl, trivial⟩ (fun _ k m b hm => .vec k m b len hm) s3

theorem lenC_ok (P : Program) (ty : TypeId) (x : Operand) : OpOk (lenC P ty x) (fun st => lenK P st ty x) := by
  intro ρ t L H nx K r st hs h
  unfold lenC at h
  show lenK P st ty x _
  unfold lenK
  cases hu : isStrT P ty with
  | true =>
    simp only [hu] at h
    obtain ⟨z, z', h1, h2, h3⟩ := avC_run hs h
    rw [h2]
    cases h1 with
    | v u => cases u with
      | string s =>
        simp only at h3
        have h4 := forceN_run h3
        rw [bytes_size] at h4
        exact ⟨isStrT_run hu, hs.post (.v _) h4⟩
      | _ => cases h3
    | _ => cases h3
  | false =>
    simp only [hu] at h
    cases he : elemT P ty with
    | none => simp only [he] at h; cases h
    | some e =>
      simp only [he] at h
      obtain ⟨z, z', h1, h2, h3⟩ := avC_run hs h
      rw [h2]
      cases h1 with
      | v u => cases u with
        | slice a n c =>
          have h4 : forceN n (fun n => K (.v (.int .i64 (.ofNat n))) L H nx) = some r := h3
          have h5 := forceN_run h4
          exact ⟨rfl, hs.post (.v _) h5⟩
        | _ => cases h3
      | list s xs ys hl =>
        have h4 := forceN_run h3
        rw [lenR_eq, hl.length] at h4
        exact ⟨rfl, hs.post (.v _) h4⟩
      | vec k m b n hm =>
        have h4 : forceN n (fun n => K (.v (.int .i64 (.ofNat n))) L H nx) = some r := h3
        have h5 := forceN_run h4
        exact ⟨rfl, hs.post (.v _) h5⟩
      | sub k m b o n hm =>
        have h4 : forceN n (fun n => K (.v (.int .i64 (.ofNat n))) L H nx) = some r := h3
        have h5 := forceN_run h4
        exact ⟨rfl, hs.post (.v _) h5⟩
      | _ => cases h3

theorem makeC_ok (P : Program) (hp : Bool) (key : Nat) (ty : TypeId) (l c : Operand) : OpOk (makeC P hp key ty l c) (fun st => makeK P hp key st ty l c) := by
  intro ρ t L H nx K r st hs h
  unfold makeC at h
  show makeK P hp key st ty l c _
  unfold makeK
  cases he : elemT P ty with
  | none => simp only [he] at h; cases h
  | some e =>
    simp only [he] at h
    cases hz : zeroAV P e with
    | none => simp only [hz] at h; cases h
    | some z =>
      simp only [hz] at h
      cases hb : Nat.beq (lenR z.cells) (P.cellsOf e) && Nat.blt 0 (P.cellsOf e) with
      | false => simp only [hb] at h; cases h
      | true =>
        simp only [hb] at h
        simp only [Bool.and_eq_true] at hb
        rw [lenR_eq] at hb
        obtain ⟨z1, z1', h1, h2, h3⟩ := avC_run hs h
        obtain ⟨z2, z2', k1, k2, k3⟩ := avC_run hs h3
        obtain ⟨kd, n, rfl, h4⟩ := asNat_run h1 k3
        obtain ⟨kd', m, rfl, h5⟩ := asNat_run k1 h4
        rw [h2, k2]
        simp only [hz]
        obtain ⟨hc, h6⟩ := bif_true h5
        simp only [Bool.and_eq_true] at hc
        obtain ⟨⟨c1, c2⟩, c3⟩ := hc
        obtain rfl := beq_eq c1
        have c2' := ble_le c2
        have c3' := ble_le c3
        rw [repR_eq] at h6
        refine ⟨⟨beq_eq hb.1, blt_lt hb.2, rfl, by simp, ?_, ?_⟩, ?_⟩
        · have : ((P.bytesOf e * n : Nat) : Int) ≤ 281474976710656 := by omega
          rwa [Int.natCast_mul] at this
        · have : ((n : Nat) : Int) ≤ 9223372036854775807 := by omega
          exact this
        · exact newE_ok hs (ob := { elem := e, xs := List.replicate n z }) (ob' := { elem := e, xs := List.replicate n z }) ⟨rfl, (Ren.zero hz).replicate n, rfl, rfl, trivial⟩ (fun _ k m b hm => .vec k m b n hm) h6

theorem bif_or {α : Type} {b : Bool} {x y z : α} (h : (bif b then x else y) = z) : (b = true ∧ x = z) ∨ (b = false ∧ y = z) := by
  cases b with
  | true => exact .inl ⟨rfl, h⟩
  | false => exact .inr ⟨rfl, h⟩

theorem elemsE_run (hs : RenS ρ t L H nx st) {P : Program} {e : TypeId} {x : Operand} {z z' : AV} (hx : av st x = some z') (hz : Ren ρ (.one z z')) {K : List AV → Ans} (h : elemsE P L H e z K = some r) :
    ∃ ys ys', Ren ρ (.many ys ys') ∧ K ys = some r ∧ ∀ Q : List AV → Prop, Q ys' → elemsK P st e x Q := by
  unfold elemsE at h
  cases hz with
  | list s xs ys hl =>
    simp only at h
    obtain ⟨hb, h1⟩ := bif_true h
    refine ⟨xs, ys, hl, h1, fun Q hq => ?_⟩
    unfold elemsK
    rw [hx]
    refine ⟨?_, hq⟩
    rcases Bool.or_eq_true _ _ ▸ hb with hb | hb
    · exact .inl (beq_eq hb)
    · right
      have : xs = [] := by simpa using hb
      subst this
      cases hl
      rfl
  | vec k m b n hm =>
    simp only at h
    obtain ⟨ob, ob', ho, h4, h5, _⟩ := lookE_run hs hm h
    obtain ⟨hb, h6⟩ := bif_true h4
    simp only [Bool.and_eq_true] at hb
    rw [lenR_eq] at hb
    rw [takeR_eq] at h6
    refine ⟨_, _, ho.xs.take n, h6, fun Q hq => ?_⟩
    unfold elemsK
    rw [hx]
    exact look_of h5 ⟨⟨ho.elem ▸ beq_eq hb.1, ho.xs.length ▸ ble_le hb.2⟩, hq⟩
  | sub k m b o n hm =>
    simp only at h
    obtain ⟨ob, ob', ho, h4, h5, _⟩ := lookE_run hs hm h
    obtain ⟨hb, h6⟩ := bif_true h4
    simp only [Bool.and_eq_true] at hb
    rw [lenR_eq] at hb
    rw [takeR_eq, dropR_eq] at h6
    refine ⟨_, _, (ho.xs.drop o).take n, h6, fun Q hq => ?_⟩
    unfold elemsK
    rw [hx]
    exact look_of h5 ⟨⟨ho.elem ▸ beq_eq hb.1, ho.xs.length ▸ ble_le hb.2⟩, hq⟩
  | v u =>
    cases u with
    | slice a n c =>
      cases a with
      | none =>
        simp only at h
        obtain ⟨hb, h6⟩ := bif_true h
        simp only [Bool.and_eq_true] at hb
        obtain rfl := beq_eq hb.1
        obtain rfl := beq_eq hb.2
        refine ⟨[], [], .nil, h6, fun Q hq => ?_⟩
        unfold elemsK
        rw [hx]
        exact hq
      | some a => cases h
    | _ => cases h
  | _ => cases h

theorem appendC_ok (P : Program) (hp : Bool) (key : Nat) (ty : TypeId) (s x : Operand) : OpOk (appendC P hp key ty s x) (fun st => appendK P hp key st ty s x) := by
  intro ρ t L H nx K r st hs h
  unfold appendC at h
  show appendK P hp key st ty s x _
  unfold appendK
  cases he : elemT P ty with
  | none => simp only [he] at h; cases h
  | some e =>
    simp only [he] at h
    cases hz : zeroAV P e with
    | none => simp only [hz] at h; cases h
    | some z =>
      simp only [hz] at h
      cases hb : Nat.beq (lenR z.cells) (P.cellsOf e) && Nat.blt 0 (P.cellsOf e) with
      | false => simp only [hb] at h; cases h
      | true =>
        simp only [hb] at h
        simp only [Bool.and_eq_true] at hb
        rw [lenR_eq] at hb
        obtain ⟨z1, z1', h1, h2, h3⟩ := avC_run hs h
        obtain ⟨z2, z2', k1, k2, k3⟩ := avC_run hs h3
        unfold appendE at k3
        obtain ⟨ys, ys', g1, g2, g3⟩ := elemsE_run hs k2 k1 k3
        simp only [hz]
        refine ⟨⟨beq_eq hb.1, blt_lt hb.2⟩, g3 _ ?_⟩
        rw [h2]
        cases h1 with
        | v u => cases u with
          | slice a n c => cases a with
            | some a => cases g2
            | none =>
              simp only at g2
              rcases bif_or g2 with ⟨hc, h6⟩ | ⟨_, g2⟩
              · simp only [Bool.and_eq_true] at hc
                obtain ⟨⟨c1, c2⟩, c3⟩ := hc
                obtain rfl := beq_eq c1
                obtain rfl := beq_eq c2
                refine .inl ⟨?_, hs.post (.v _) h6⟩
                have : ys = [] := by simpa using c3
                subst this
                cases g1
                rfl
              obtain ⟨hc, h6⟩ := bif_true g2
              simp only [Bool.and_eq_true] at hc
              obtain ⟨⟨⟨⟨c1, c2⟩, c3⟩, c4⟩, c5⟩ := hc
              obtain rfl := beq_eq c1
              obtain rfl := beq_eq c2
              right
              rw [lenR_eq] at c4 c5
              have c4' := ble_le c4
              have c5' := ble_le c5
              rw [g1.length] at c4' c5'
              refine ⟨⟨?_, c4', c5'⟩, ?_⟩
              · intro e'
                subst e'
                cases g1
                simp at c3
              · have hm : ∀ (ρ' : Nm) (k : Option Nat) (m b : Nat), ρ' m = some b → Ren ρ' (.one (AV.vec k m (lenR ys)) (AV.vec k b ys'.length)) := fun ρ' k m b hm => by
                  rw [lenR_eq, g1.length]; exact .vec k m b _ hm
                exact newE_ok hs (ob := { elem := e, xs := ys }) (ob' := { elem := e, xs := ys' }) ⟨rfl, g1, rfl, rfl, trivial⟩ hm h6
          | _ => cases g2
        | vec k m b n hm =>
          simp only at g2
          obtain ⟨ob, ob', ho, h4, h5, h7⟩ := lookE_run hs hm g2
          rcases bif_or h4 with ⟨c1, h4⟩ | ⟨_, h4⟩
          rotate_left
          · obtain ⟨hc, h6⟩ := bif_true h4
            simp only [Bool.and_eq_true] at hc
            obtain ⟨⟨⟨c1, c2⟩, c3⟩, c4⟩ := hc
            rw [lenR_eq, lenR_eq] at c1
            rw [allR_eq, onesR_eq'] at c4
            have c1' := ble_le c1
            rw [g1.length, ho.xs.length] at c1'
            rw [g1.all_ones] at c4
            have h8 := forceN_run h6
            rw [lenR_eq, appR_eq, appR_eq, takeR_eq, dropR_eq] at h8
            have hob : RenOb ρ { ob with xs := ob.xs.take n ++ (ys ++ ob.xs.drop (n + ys.length)) } { ob' with xs := ob'.xs.take n ++ ys' ++ ob'.xs.drop (n + ys.length) } := ⟨ho.elem, by
              rw [List.append_assoc]
              exact (ho.xs.take n).append (g1.append (ho.xs.drop _)), ho.frozen, ho.var, ho.map⟩
            obtain ⟨L2, H2, s1, s2⟩ := setObE_run hs hm h7 hob h8
            refine look_of h5 (.inr ⟨⟨c1', ho.elem ▸ beq_eq c2, ho.frozen ▸ ble_le c3, fun y hy => List.all_eq_true.1 c4 y hy⟩, ?_⟩)
            rw [← g1.length]
            exact s1.post (.vec k m b _ hm) s2
          obtain ⟨hc, h6⟩ := bif_true h4
          simp only [Bool.and_eq_true] at hc
          obtain ⟨⟨⟨c2, c3⟩, c4⟩, c5⟩ := hc
          rw [lenR_eq] at c1 c3 c4
          rw [allR_eq, onesR_eq'] at c5
          have c1' := beq_eq c1
          have c2' := beq_eq c2
          have c3' := ble_le c3
          have c4' := ble_le c4
          rw [g1.length] at c3' c4'
          rw [g1.all_ones] at c5
          refine look_of h5 (.inl ⟨⟨ho.xs.length ▸ c1', ho.elem ▸ c2', c3', c4', fun y hy => List.all_eq_true.1 c5 y hy⟩, fun r' hr' => ?_⟩)
          have h8 := forceN_run h6
          rw [lenR_eq, g1.length, appR_eq] at h8
          unfold movedE at h8
          unfold St.moved
          have hob : RenOb ρ { ob with xs := ob.xs ++ ys } { ob' with xs := ob'.xs ++ ys' } := ⟨ho.elem, ho.xs.append g1, ho.frozen, ho.var, ho.map⟩
          cases k with
          | some k =>
            exact ⟨ρ.with nx r', _, _, _, _, hs.up_with r', .vec _ _ _ _ (Nm.with_self _ _ _), (hs.grow r').ownL (Nm.with_self _ _ _) (hob.mono (hs.le_with r')) k, h8⟩
          | none =>
            have h7' : aget m H = some ob := h7
            have h5' : st.H b = some ob' ∧ ob'.map = none := h5
            have hd := hs.delH hm (by rw [h7']; simp)
            have hfree : (upd st.H b none) r' = none := by
              by_cases e' : r' = b
              · rw [e', upd_same]
              · rw [upd_ne _ _ _ _ e']
                rcases hr' rfl with e2 | e2
                · exact absurd e2 e'
                · exact e2
            have hn := hd.newH (b := r') hfree hob
            exact ⟨ρ.with nx r', _, _, _, _, hs.up_with r', .vec _ _ _ _ (Nm.with_self _ _ _), hn, h8⟩
        | _ => cases g2

end
end Go.Am
