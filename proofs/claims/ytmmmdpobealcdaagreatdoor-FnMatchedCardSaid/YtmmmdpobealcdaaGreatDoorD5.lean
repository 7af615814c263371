/- What the machine knows of two calls: the place of a byte in a text; the keys of a map that has one key, or none. -/
import Derived.Test.YtmmmdpobealcdaaGreatDoorD4
set_option linter.unusedVariables false
set_option linter.unusedSimpArgs false
namespace Go.Am
open Go Go.Proofs Go.Maps

noncomputable section

/-- internal/stringslite.IndexByte. -/
def idxE : CallE := fun f args H nx => match Nat.beq f 362 with
  | true => match args with
    | [] => none
    | a :: r => match r with
      | [] => none
      | b :: r2 => match r2 with
        | _ :: _ => none
        | [] => match a with
          | .v u => match u with
            | .string s => match b with
              | .v u' => match u' with
                | .int k j => match k with
                  | .u8 => match j with
                    | .ofNat c => match Nat.blt c 256 with
                      | true => match idxR c s.data.toList with
                        | some i => forceN i fun i => some (.v (.int .i64 (.ofNat i)), H, nx)
                        | none => some (.v (.int .i64 (.negSucc 0)), H, nx)
                      | false => none
                    | .negSucc _ => none
                  | _ => none
                | _ => none
              | _ => none
            | _ => none
          | _ => none
  | false => none

/-- The key of a map that has one key, or none. -/
def key1 (es : List (AV × AV)) (K0 : Ans) (K1 : Int → Ans) : Ans := match es with
  | [] => K0
  | e :: r => match r with
    | [] => match e.1 with
      | .v u => match u with
        | .int k j => match k with
          | .i64 => bif intLe (.negSucc 9223372036854775807) j && intLe j (.ofNat 9223372036854775807) then K1 j else none
          | _ => none
        | _ => none
      | _ => none
    | _ :: _ => none

/-- slices.Collect of what maps.Keys hands back. -/
def colE : CallE := fun f args H nx => match Nat.beq f 331 with
  | true => match args with
    | [] => none
    | a :: r => match r with
      | _ :: _ => none
      | [] => match a with
        | .clo g cs => match cs with
          | [] => none
          | c :: r2 => match r2 with
            | _ :: _ => none
            | [] => bif Nat.beq g 358 then (match c with
              | .ptr k m i o => bif Nat.beq i 0 && Nat.beq o 0 then lookE [] H k m fun ob => (match ob.xs with
                | [] => none
                | z :: _ => match z with
                  | .mp k2 m2 => match k2 with
                    | none => lookME H m2 fun _ es => key1 es (some (.v (.slice none 0 0), H, nx)) fun j => some (.vec none nx 1, (nx, { elem := 3, xs := [.v (.int .i64 j)] }) :: H, Nat.succ nx)
                    | some _ => none
                  | _ => none) else none
              | _ => none) else none
        | _ => none
  | false => none

end

theorem idxE_ok : CallOk Tryz.prog idxE := by
  intro f args H nx z H' nx' h ρ M args' hargs hM
  unfold idxE at h
  cases hf : Nat.beq f 362 with
  | false => rw [hf] at h; cases h
  | true =>
    rw [hf] at h
    obtain rfl := beq_eq hf
    cases hargs with
    | nil => cases h
    | cons a a' r r' ha hr =>
      cases hr with
      | nil => cases h
      | cons b b' r r' hb hr =>
        cases hr with
        | cons _ _ _ _ _ _ => cases h
        | nil =>
          cases ha with
          | v u => cases u with
            | string s => cases hb with
              | v u' => cases u' with
                | int k j => cases k with
                  | u8 => cases j with
                    | negSucc n => cases h
                    | ofNat c =>
                      simp only at h
                      cases hc : Nat.blt c 256 with
                      | false => rw [hc] at h; cases h
                      | true =>
                        rw [hc] at h
                        have hc' : c < 256 := blt_lt hc
                        have hz : (z, H', nx') = ((.v (.int .i64 (idxI c s.data.toList)), H, nx) : AV × HE × Nat) := by
                          unfold idxI
                          cases hi : idxR c s.data.toList with
                          | none => rw [hi] at h; simpa using h.symm
                          | some i => rw [hi] at h; simp only [forceN_eq] at h; simpa using h.symm
                        cases hz
                        refine ⟨⟨Tryz.f362, Tryz.func362, tryzNames _ _ Tryz.func362, rfl⟩, fun w I cs hrd hmem hvals => ?_⟩
                        have hcs : cs = #[.string s, .int .u8 (c : Int)] := by
                          cases hcl : cs.toList with
                          | nil => rw [hcl] at hvals; cases hvals
                          | cons x xs =>
                            rw [hcl] at hvals
                            cases hvals with
                            | vcons _ _ _ _ h1 h2 => cases h1; cases h2 with
                              | vcons _ _ _ _ h3 h4 =>
                                cases h3; cases h4
                                have := congrArg List.toArray hcl
                                simpa using this
                        rw [hcs]
                        refine (idx_calls s c w).mono fun e w' ⟨he, hw⟩ => ?_
                        subst hw
                        have e1 : firstIdx s (c : Int).toNat.toUInt8 = idxI c s.data.toList := by
                          rw [Int.toNat_natCast]; exact firstIdx_eq s c hc'
                        rw [e1] at he
                        exact ⟨.v (.int .i64 (idxI c s.data.toList)), M, I, _, ⟨ρ, .refl _ _, .v _, hM⟩, he, fun _ _ => id, fun _ _ => .inl, hrd, hmem, .v _, Nat.le_refl _, .refl _, fun b _ h0 => ⟨h0, rfl⟩⟩
                  | _ => cases h
                | _ => cases h
              | _ => cases h
            | _ => cases h
          | _ => cases h

theorem key1_run {es : List (AV × AV)} {K0 : Ans} {K1 : Int → Ans} {r : AV × HE × Nat} (h : key1 es K0 K1 = some r) :
    (es = [] ∧ K0 = some r) ∨ ∃ j y, es = [(.v (.int .i64 j), y)] ∧ (Lit.int .i64 j).wf = true ∧ K1 j = some r := by
  unfold key1 at h
  cases es with
  | nil => exact .inl ⟨rfl, h⟩
  | cons e es => cases es with
    | cons _ _ => cases h
    | nil =>
      obtain ⟨x, y⟩ := e
      cases x with
      | v u => cases u with
        | int k j => cases k with
          | i64 =>
            obtain ⟨hb, h1⟩ := bif_true h
            refine .inr ⟨j, y, rfl, ?_, h1⟩
            rw [Bool.and_eq_true, intLe_eq, intLe_eq] at hb
            have h2 := of_decide_eq_true hb.1
            have h3 := of_decide_eq_true hb.2
            have e1 : IntKind.i64.min = Int.negSucc 9223372036854775807 := rfl
            have e2 : IntKind.i64.max = Int.ofNat 9223372036854775807 := rfl
            show (decide (IntKind.i64.min ≤ j) && decide (j ≤ IntKind.i64.max)) = true
            rw [e1, e2, decide_eq_true h2, decide_eq_true h3]; rfl
          | _ => cases h
        | _ => cases h
      | _ => cases h

/-- The keys, as a list. -/
def keysL (ms : List MapEntry) : List Int := ms.map fun m => match m.key with | .int _ j => j | _ => 0

theorem col_calls {w : World} {Bm b : Nat} {ms : Array MapEntry} {clock : Nat} (hBm : Bm < w.heap.size) (hm : w.cell? ⟨Bm, 0, none⟩ = some (.map (some b))) (hb : w.heap[b]? = some (.map ms clock)) (hborn : Born ms clock)
    (hms : ms.toList = [] ∨ ∃ m j, ms.toList = [m] ∧ m.key = .int .i64 j ∧ (Lit.int .i64 j).wf = true) :
    Calls Tryz.prog 331 #[.func (.func 358) #[] #[.pointer (some ⟨Bm, 0, none⟩)]] w fun e w' => ∃ v, e = .returned v ∧ w'.ownsRow w.heap.size 3 1 v (keysL ms.toList).length ((keysL ms.toList).map encZ) ∧ (v = .slice none 0 0 ↔ keysL ms.toList = []) ∧ RowKit.Below w.heap.size w w' := by
  let R : Value → Option (DataW Unit × List MemPlace) := fun _ => some (.lit (.bool true), [])
  have hsz : ms.size ≤ 1 := by
    have : ms.size = ms.toList.length := by simp
    rw [this]
    rcases hms with h | ⟨m, j, h, _⟩ <;> rw [h] <;> simp
  have hreads : ∀ x ∈ ms.toList, ∃ y, Go.WideElems.rd Tryz.prog 3 R x = some y := fun x hx => by
    rcases hms with h | ⟨m, j, h, hk, hwf⟩
    · rw [h] at hx; cases hx
    · rw [h] at hx
      have : x = m := by simpa using hx
      subst this
      exact ⟨_, by simp only [Go.WideElems.rd, hk, keyOf_int_mk Tryz.underlying3 hwf]; rfl⟩
  have hown : w.ownsMap Tryz.prog 3 R b 1 (.map ((ms.toList.map (Go.WideElems.rg Tryz.prog 3 R)).foldr DataW.insert [])) :=
    ⟨ms, clock, hb, ⟨Nat.le_trans hsz (by decide), ⟨hborn, by rcases hms with h | ⟨m, j, h, _⟩ <;> rw [h] <;> simp, by rcases hms with h | ⟨m, j, h, _⟩ <;> rw [h] <;> simp⟩, hreads⟩, hsz, rfl⟩
  have hkeys : intKeys (DataW.map ((ms.toList.map (Go.WideElems.rg Tryz.prog 3 R)).foldr DataW.insert [])) = keysL ms.toList := by
    rcases hms with h | ⟨m, j, h, hk, hwf⟩
    · rw [h]; rfl
    · rw [h]
      have : Go.WideElems.rg Tryz.prog 3 R m = (.int .i64 j, .lit (.bool true)) := by simp only [Go.WideElems.rg, Go.WideElems.rd, hk, keyOf_int_mk Tryz.underlying3 hwf]; rfl
      simp [keysL, hk, this, intKeys, DataW.insert, intOf]
  have hsize : Maps.size (DataW.map ((ms.toList.map (Go.WideElems.rg Tryz.prog 3 R)).foldr DataW.insert [])) ≤ 1 := by
    rcases hms with h | ⟨m, j, h, _⟩ <;> rw [h] <;> simp [Maps.size, DataW.insert]
  have hseq := Colz.keys_gives Fence.wide 1 trivial rfl (Nat.le_refl 1) Bm b 1 _ w hBm hm hown
  have hc := Colz.collect_in Fence.wide 3 trivial trivial rfl (Nat.le_refl 3) 358 #[.pointer (some ⟨Bm, 0, none⟩)] trivial (Go.Proofs.enters_of Tryz.func358 (by kernel_rfl) rfl) _ _ (Nat.le_trans hsize (by decide)) (by omega) w hseq
  refine (callsIn_wide.1 hc).mono fun e w' ⟨v, ss, he, hp, hrow, hnil, hbel⟩ => ?_
  rw [hkeys] at hp
  have hss : ss = keysL ms.toList := by
    rcases hms with h | ⟨m, j, h, hk, hwf⟩
    · rw [h] at hp ⊢; exact List.Perm.eq_nil hp
    · rw [h] at hp ⊢
      exact List.perm_singleton.1 hp
  subst hss
  exact ⟨v, he, hrow, hnil, hbel⟩

theorem colE_ok : CallOk Tryz.prog colE := by
  intro f args H nx z H' nx' h ρ M args' hargs hM
  unfold colE at h
  cases hf : Nat.beq f 331 with
  | false => rw [hf] at h; cases h
  | true =>
    rw [hf] at h
    obtain rfl := beq_eq hf
    cases hargs with
    | nil => cases h
    | cons a a' r r' ha hr =>
      cases hr with
      | cons _ _ _ _ _ _ => cases h
      | nil =>
        cases ha with
        | clo g cs cs' hcs =>
          cases hcs with
          | nil => cases h
          | cons c c' r2 r2' hc hr2 =>
            cases hr2 with
            | cons _ _ _ _ _ _ => cases h
            | nil =>
              simp only at h
              have hg := (bif_true h).1
              have h7 := (bif_true h).2
              clear h
              obtain rfl := beq_eq hg
              cases hc with
              | ptr k m b i o hm =>
                have hio := (bif_true h7).1
                have h := (bif_true h7).2
                clear h7
                rw [Bool.and_eq_true] at hio
                obtain rfl := beq_eq hio.1
                obtain rfl := beq_eq hio.2
                cases k with
                | some k => cases h
                | none =>
                  -- the box
                  unfold lookE at h
                  simp only at h
                  cases hob : aget m H with
                  | none => rw [hob] at h; cases h
                  | some ob =>
                    rw [hob] at h
                    simp only at h
                    cases hmp : ob.map with
                    | some es => rw [hmp] at h; cases h
                    | none =>
                      rw [hmp] at h
                      simp only at h
                      obtain ⟨rb, ob', g1, g2, g3⟩ := hM.H1 m ob hob
                      rw [hm] at g1
                      obtain rfl : b = rb := by simpa using g1
                      cases hxs : ob.xs with
                      | nil => rw [hxs] at h; cases h
                      | cons x xs =>
                        rw [hxs] at h
                        simp only at h
                        have hren := g2.xs
                        rw [hxs] at hren
                        cases hxs' : ob'.xs with
                        | nil => rw [hxs'] at hren; cases hren
                        | cons x' xs' =>
                          rw [hxs'] at hren
                          cases hren with
                          | cons _ _ _ _ hx _ =>
                            cases hx with
                            | mp k2 m2 b2 hm2 =>
                              cases k2 with
                              | some k2 => cases h
                              | none =>
                                simp only at h
                                unfold lookME at h
                                cases hob2 : aget m2 H with
                                | none => rw [hob2] at h; cases h
                                | some ob2 =>
                                  rw [hob2] at h
                                  simp only at h
                                  cases hmp2 : ob2.map with
                                  | none => rw [hmp2] at h; cases h
                                  | some es =>
                                    rw [hmp2] at h
                                    simp only at h
                                    obtain ⟨rb2, ob2', k1, k2, k3⟩ := hM.H1 m2 ob2 hob2
                                    rw [hm2] at k1
                                    obtain rfl : b2 = rb2 := by simpa using k1
                                    obtain ⟨es', he1, he2⟩ := k2.map.some hmp2
                                    refine ⟨⟨Tryz.f331, Tryz.func331, tryzNames _ _ Tryz.func331, rfl⟩, fun w I cs hrd hmem hvals => ?_⟩
                                    have hR1 := (hmem _ _ g3).1.cells (g2.map.none hmp)
                                    have hR2 := (hmem _ _ k3).1
                                    unfold AnyR at hR2
                                    rw [he1] at hR2
                                    obtain ⟨ms, clock, q1, q2, q3⟩ := MapR.es hR2
                                    obtain ⟨c1, u1, u2, u3⟩ := hR1.ex
                                    have hcell : w.cell? ⟨b, 0, none⟩ = some (.map (some b2)) := by
                                      obtain ⟨y, hy, hry⟩ := u3 0 (.mp none b2) (by rw [hxs']; rfl)
                                      cases hry
                                      rw [cell_row u1]; exact hy
                                    have hcs : cs = #[.func (.func 358) #[] #[.pointer (some ⟨b, 0, none⟩)]] := by
                                      cases hcl : cs.toList with
                                      | nil => rw [hcl] at hvals; cases hvals
                                      | cons x xs =>
                                        rw [hcl] at hvals
                                        cases hvals with
                                        | vcons _ _ _ _ h1 h2 =>
                                          cases h2
                                          cases h1 with
                                          | clo _ _ ca h3 =>
                                            cases hca : ca.toList with
                                            | nil => rw [hca] at h3; cases h3
                                            | cons y ys =>
                                              rw [hca] at h3
                                              cases h3 with
                                              | vcons _ _ _ _ h4 h5 =>
                                                cases h5
                                                have := h4.ptr_inv u1
                                                subst this
                                                have e1 := congrArg List.toArray hca
                                                have e2 := congrArg List.toArray hcl
                                                simp at e1 e2
                                                rw [e2, e1]
                                    rw [hcs]
                                    rcases key1_run h with ⟨rfl, h⟩ | ⟨j, y, rfl, hwf, h⟩
                                    · cases he2
                                      have hms : ms.toList = [] := by
                                        generalize ms.toList = l at q2
                                        cases q2; rfl
                                      cases h
                                      refine (col_calls hR1.lt hcell q1 q3 (.inl hms)).mono fun e w' ⟨v, he, hrow, hnil, hbel⟩ => ?_
                                      have hv : v = .slice none 0 0 := hnil.2 (by rw [hms]; rfl)
                                      subst hv
                                      have hc : ∀ b o, I b o → w'.cell? ⟨b, o, none⟩ = w.cell? ⟨b, o, none⟩ := fun b o hi => cell_same (hbel.block b (hrd.lt hi)) o
                                      have hs : Shapes w w' := ⟨fun r c e z hr => ⟨c, z, (hbel.block r (lt_of_heap hr)).trans hr, rfl⟩, ⟨hbel.os, hbel.tape, hbel.output⟩⟩
                                      exact ⟨.v (.slice none 0 0), M, I, _, ⟨ρ, .refl _ _, .v _, hM⟩, he, fun _ _ => id, fun _ _ => .inl,
                                        fun r o hi => let ⟨c, e, z, h1, h2⟩ := hrd r o hi; ⟨c, e, z, (hbel.block r (lt_of_heap h1)).trans h1, h2⟩,
                                        fun r ob hr => let ⟨h1, h2⟩ := hmem r ob hr; ⟨h1.mono (hbel.block r h1.lt) (fun _ _ => id) hc hs, h2⟩, .v _, hbel.size, hs, fun b hb h0 => ⟨h0, hbel.block b hb⟩⟩
                                    · cases he2 with
                                      | cons _ e' _ _ p1 p2 p3 =>
                                        obtain ⟨x', y'⟩ := e'
                                        cases p3
                                        cases p1
                                        have hms : ∃ mm, ms.toList = [mm] ∧ mm.key = .int .i64 j := by
                                          generalize ms.toList = l at q2
                                          cases q2 with
                                          | cons _ mm _ l s1 s2 s3 =>
                                            cases s3
                                            obtain ⟨mk, mv, mb⟩ := mm
                                            cases s1
                                            exact ⟨_, rfl, rfl⟩
                                        obtain ⟨mm, hl, hkey⟩ := hms
                                        have hkeys : keysL ms.toList = [j] := by rw [hl]; simp [keysL, hkey]
                                        cases h
                                        refine (col_calls hR1.lt hcell q1 q3 (.inr ⟨mm, j, hl, hkey, hwf⟩)).mono fun e w' ⟨v, he, hrow, hnil, hbel⟩ => ?_
                                        rw [hkeys] at hrow hnil
                                        rcases hrow.2 with ⟨hv, hn⟩ | ⟨gb, cap, cur, rfl, hbase, hgb, r1, r2, r3, r4⟩
                                        · exact absurd (hnil.1 hv) (by simp)
                                        · have hc : ∀ b o, I b o → w'.cell? ⟨b, o, none⟩ = w.cell? ⟨b, o, none⟩ := fun b o hi => cell_same (hbel.block b (hrd.lt hi)) o
                                          have hs : Shapes w w' := ⟨fun r c e z hr => ⟨c, z, (hbel.block r (lt_of_heap hr)).trans hr, rfl⟩, ⟨hbel.os, hbel.tape, hbel.output⟩⟩
                                          have h3 : Tryz.prog.cellsOf 3 = 1 := by kernel_rfl
                                          have hfree : M gb = none := by
                                            cases hq : M gb with
                                            | none => rfl
                                            | some ob => exact absurd (hmem gb ob hq).1.lt (Nat.not_lt.2 hbase)
                                          have hcur : cur[0]? = some (.int .i64 j) := by
                                            have e1 : cur.toList.take 1 = [encZ j] := by simpa using r4
                                            have e2 : (cur.toList.take 1)[0]? = some (encZ j) := by rw [e1]; rfl
                                            rw [List.getElem?_take_of_lt (by omega)] at e2
                                            simpa using e2
                                          have hnew := RenS.newH (t := empty3) (L := []) (st := { n := 0, t := fun _ => none, L := fun _ => none, H := M }) (b := gb) (ob := { elem := 3, xs := [.v (.int .i64 j)] }) (ob' := { elem := 3, xs := [.v (.int .i64 j)] }) (ρ := ρ) (H := H) (nx := nx)
                                            { hM with t := fun i x _ hx => (by rw [empty_get] at hx; cases hx), L := fun k m ob hk => (by cases hk) } hfree ⟨rfl, .cons _ _ _ _ (.v _) .nil, rfl, rfl, trivial⟩
                                          refine ⟨.vec none gb 1, upd M gb (some { elem := 3, xs := [.v (.int .i64 j)] }), I, _, ⟨ρ.with nx gb, hM.up_with gb, .vec none nx gb 1 (Nm.with_self _ _ _), hnew.toRenH⟩, he, fun _ _ => id, fun _ _ => .inl,
                                            fun r o hi => let ⟨c, e, z, h1, h2⟩ := hrd r o hi; ⟨c, e, z, (hbel.block r (lt_of_heap h1)).trans h1, h2⟩, fun r ob hr => ?_, ?_, hbel.size, hs, fun b hb h0 => ⟨?_, hbel.block b hb⟩⟩
                                          · by_cases e : r = gb
                                            · subst e
                                              rw [upd_same] at hr
                                              cases hr
                                              refine ⟨AnyR.of_cells ⟨⟨cur, hgb, ?_, fun k x hx => ?_⟩, fun x hx => ?_, by rw [h3]; decide, Nat.zero_le _⟩ rfl, fun o hi => absurd (hrd.lt hi) (Nat.not_lt.2 hbase)⟩
                                              · show 1 ≤ cur.size
                                                rw [r3]; simpa using r1
                                              · have hk0 : k = 0 := by
                                                  have := (List.getElem?_eq_some_iff.1 hx).1
                                                  have h1 : k < 1 := this
                                                  omega
                                                subst hk0
                                                have : AV.v (.int .i64 j) = x := by simpa [Am.flat, AV.cells] using hx
                                                subst this
                                                exact ⟨_, hcur, .v _⟩
                                              · have : x = AV.v (.int .i64 j) := by simpa using hx
                                                subst this
                                                rw [h3]; rfl
                                            · rw [upd_ne _ _ _ _ e] at hr
                                              obtain ⟨h1, h2⟩ := hmem r ob hr
                                              exact ⟨h1.mono (hbel.block r h1.lt) (fun _ _ => id) hc hs, h2⟩
                                          · exact .vec none gb 1 cap 3 cur (0, 0) hgb (by rw [h3]; exact r3) (by simpa using r1)
                                          · rw [upd_ne _ _ _ _ (fun e => by rw [e] at hb; exact absurd hb (Nat.not_lt.2 hbase))]; exact h0
                            | _ => cases h
              | _ => cases h7
        | _ => cases h

end Go.Am
