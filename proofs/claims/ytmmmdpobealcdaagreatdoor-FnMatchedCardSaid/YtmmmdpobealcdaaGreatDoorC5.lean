/- Regions that draw: the machine is right. -/
import Derived.Test.YtmmmdpobealcdaaGreatDoorC4
set_option linter.unusedVariables false
set_option linter.unusedSimpArgs false
namespace Go.Am
open Go

theorem countP_lt {α : Type} {p q : α → Bool} : ∀ {l : List α}, (∀ x ∈ l, q x = true → p x = true) → ∀ {a}, a ∈ l → p a = true → q a = false → l.countP q < l.countP p := by
  intro l
  induction l with
  | nil => intro _ a ha; cases ha
  | cons x l ih =>
    intro h a ha hp hq
    have hle : ∀ {l : List α}, (∀ x ∈ l, q x = true → p x = true) → l.countP q ≤ l.countP p := fun h => List.countP_mono_left h
    rw [List.countP_cons, List.countP_cons]
    rcases List.mem_cons.1 ha with rfl | ha
    · have := hle (l := l) fun x hx => h x (List.mem_cons_of_mem _ hx)
      rw [hp, hq]
      simp only [if_true, Bool.false_eq_true, if_false]
      omega
    · have := ih (fun x hx => h x (List.mem_cons_of_mem _ hx)) ha hp hq
      by_cases hx : q x = true
      · rw [hx, h x (List.mem_cons_self ..) hx]; simp only [if_true]; omega
      · have hx' : q x = false := by simpa using hx
        rw [hx']
        simp only [Bool.false_eq_true, if_false]
        split <;> omega

section
variable {S : Reg} {ls : Nat} {listed : Array Bool}

/-- The first of a list that is so. -/
theorem first_of {xs : List RO} {p : RO → Bool} (h : ∃ x ∈ xs, p x = false) : ∃ pre x post, xs = pre ++ x :: post ∧ p x = false ∧ ∀ y ∈ pre, p y = true := by
  induction xs with
  | nil => obtain ⟨x, hx, _⟩ := h; cases hx
  | cons z zs ih =>
    cases hz : p z with
    | false => exact ⟨[], z, zs, rfl, hz, fun y hy => (by cases hy)⟩
    | true =>
      obtain ⟨x, hx, hpx⟩ := h
      rcases List.mem_cons.1 hx with rfl | hx
      · rw [hz] at hpx; cases hpx
      · obtain ⟨pre, u, post, h1, h2, h3⟩ := ih ⟨x, hx, hpx⟩
        exact ⟨z :: pre, u, post, by rw [h1]; rfl, h2, fun y hy => by
          rcases List.mem_cons.1 hy with rfl | hy
          · exact hz
          · exact h3 y hy⟩

/-- What 'listed' says is what the mask says. -/
structure Tab (S : Reg) (listed : Array Bool) (ls : Nat) : Prop where
  size : listed.size = S.ops.size
  get : ∀ k, k < S.ops.size → listed[k]? = some (hasM ls k)

theorem Tab.f (h : Tab S listed ls) {k : Nat} (hk : k < S.ops.size) (d : Bool) : listed.getD k d = hasM ls k := by
  rw [Array.getD_eq_getD_getElem?, h.get k hk]; rfl
theorem Tab.out (h : Tab S listed ls) {k : Nat} (hk : ¬ k < S.ops.size) (d : Bool) : listed.getD k d = d := by
  rw [Array.getD_eq_getD_getElem?, Array.getElem?_eq_none (by rw [h.size]; omega)]; rfl

theorem Tab.set (h : Tab S listed ls) (i : Nat) : Tab S (listed.setIfInBounds i true) (Nat.lor ls (bitN i)) where
  size := by rw [Array.size_setIfInBounds, h.size]
  get := fun k hk => by
    by_cases e : i = k
    · subst e
      rw [Array.getElem?_setIfInBounds_self_of_lt (by rw [h.size]; exact hk), (hasM_mark _ _ _).2 (.inr rfl)]
    · rw [Array.getElem?_setIfInBounds_ne e, h.get k hk, hasM_mark_ne e]

theorem any_end (hS : Stat S) {Q : Exit → Act → World → Prop} (hK : ∀ T H nx a w, Sim S.C S.n S.ρ0 T [] H nx a w → S.K T H nx = some S.r → Q .normal a w) {listed : Array Bool} {hist : List (RO × AV)} {suf : List RO} {ls : Nat} {H : HE} {nx : Nat} {pd : Pend} {as : List (Nat × Clo AskF)} {bs : List (Nat × Nat)} {ρ : Nm} {st : St} {I : Nat → Nat → Prop} {a : Act} {w : World}
    (V : Inv S hist suf ls H nx pd as bs ρ st I a w) (ht : Tab S listed ls) (hr : Region.ready .any S.ops listed = []) : Q .normal a w := by
  have hall : ∀ x ∈ S.xs, hasM ls x.i = true := by
    refine Classical.byContradiction fun hn => ?_
    obtain ⟨pre, x, post, h1, h2, h3⟩ := first_of (xs := S.xs) (p := fun x => hasM ls x.i) (Classical.byContradiction fun hn' => hn fun x hx => by
      cases hq : hasM ls x.i with
      | true => rfl
      | false => exact absurd ⟨x, hx, hq⟩ hn')
    have hx : x ∈ S.xs := by rw [h1]; simp
    have hlt : x.i < S.ops.size := (Array.getElem?_eq_some_iff.1 (hS.idx x hx)).1
    have : x.i ∈ Region.ready .any S.ops listed := mem_ready.2 ⟨by rw [ht.f hlt]; exact h2, x.o, hS.idx x hx, fun e he hb => by
      obtain ⟨y, hy, hyi⟩ := hS.ahead _ _ _ h1 e.on (by rw [hS.E x hx]; exact (edge_mask _).2 ⟨e, by simpa using he, hb, rfl⟩)
      have hy' : y ∈ S.xs := by rw [h1]; exact List.mem_append_left _ hy
      have hlt2 : e.on < S.ops.size := hyi ▸ (Array.getElem?_eq_some_iff.1 (hS.idx y hy')).1
      rw [ht.f hlt2, ← hyi]; exact h3 y hy⟩
    rw [hr] at this; cases this
  have hsuf : suf = [] := by
    cases suf with
    | nil => rfl
    | cons x suf =>
      have := V.unl hS (x := x) (List.mem_cons_self ..)
      rw [hall x (V.mem' (List.mem_cons_self ..))] at this; cases this
  subst hsuf
  have hsel : sel ls hist = hist := List.filter_eq_self.2 fun e he => hall _ (V.mem he)
  have hfl : flushE ls pd H = flushAll pd H := flushE_all fun p hp => by
    obtain ⟨e, he, hi, _⟩ := V.pdh p hp
    rw [← hi]; exact hall _ (V.mem he)
  have hren := V.ren
  rw [hsel, hfl] at hren
  exact hK (tputs S.t0 hist) (flushAll pd H) nx a w ⟨ρ, st, I, V.up, hren, V.rl, V.n⟩ V.run

theorem any_run (hS : Stat S) (hc : CallOk S.G.P S.call) {Q : Exit → Act → World → Prop}
    (hK : ∀ T H nx a w, Sim S.C S.n S.ρ0 T [] H nx a w → S.K T H nx = some S.r → Q .normal a w) : ∀ (fuel : Nat) (listed : Array Bool) (hist : List (RO × AV)) (suf : List RO) (ls : Nat) (H : HE) (nx : Nat) (pd : Pend) (as : List (Nat × Clo AskF)) (bs : List (Nat × Nat)) (ρ : Nm) (st : St) (I : Nat → Nat → Prop) (a : Act) (w : World),
      Inv S hist suf ls H nx pd as bs ρ st I a w → Tab S listed ls → (List.range S.ops.size).countP (fun i => !hasM ls i) ≤ fuel → wpAny S.G.P .any S.ops Q fuel listed a w := by
  intro fuel
  induction fuel with
  | zero =>
    intro listed hist suf ls H nx pd as bs ρ st I a w V ht hf
    have hready : Region.ready .any S.ops listed = [] := by
      refine List.eq_nil_iff_forall_not_mem.2 fun i hi => ?_
      obtain ⟨h1, o, ho, _⟩ := mem_ready.1 hi
      have hlt : i < S.ops.size := (Array.getElem?_eq_some_iff.1 ho).1
      rw [ht.f hlt] at h1
      have h0 : (List.range S.ops.size).countP (fun i => !hasM ls i) = 0 := by omega
      have := List.countP_eq_zero.1 h0 i (List.mem_range.2 hlt)
      rw [h1] at this
      exact this rfl
    refine ⟨hready, ?_⟩
    exact any_end hS hK V ht hready
  | succ fuel ih =>
    intro listed hist suf ls H nx pd as bs ρ st I a w V ht hf
    refine ⟨fun hr => any_end hS hK V ht hr, fun i hi => ?_⟩
    obtain ⟨hist, suf, nx, pd, as, bs, V, hset⟩ := V.settle hS
    obtain ⟨h1, o, ho, hall⟩ := mem_ready.1 hi
    have hlt : i < S.ops.size := (Array.getElem?_eq_some_iff.1 ho).1
    rw [ht.f hlt] at h1
    obtain ⟨x, hx, rfl⟩ := hS.cover i hlt
    have hxo : x.o = o := by have := hS.idx x hx; rw [ho] at this; simpa using this.symm
    subst hxo
    have hE : ∀ k, hasM x.E k = true → hasM ls k = true := fun k hk => by
      rw [hS.E x hx] at hk
      obtain ⟨d, hd, hb, rfl⟩ := edge_mask _ |>.1 hk
      have h2 := hall d (by simpa using hd) hb
      by_cases hlt2 : d.on < S.ops.size
      · rw [ht.f hlt2] at h2; exact h2
      · rw [ht.out hlt2] at h2; cases h2
    have hless : (List.range S.ops.size).countP (fun i => !hasM (Nat.lor ls (bitN x.i)) i) ≤ fuel := by
      have := countP_lt (p := fun i => !hasM ls i) (q := fun i => !hasM (Nat.lor ls (bitN x.i)) i) (l := List.range S.ops.size) (fun k _ hk => by
        have hk' : hasM (Nat.lor ls (bitN x.i)) k = false := by simpa using hk
        simp [((hasM_mark' _ _ _).1 hk').1]) (a := x.i) (List.mem_range.2 hlt) (by simp [h1]) (by have h9 := (hasM_mark ls x.i x.i).2 (.inr rfl); show (!hasM (Nat.lor ls (bitN x.i)) x.i) = false; rw [h9]; rfl)
      omega
    have hx' := hx
    rw [V.split] at hx'
    rcases List.mem_append.1 hx' with hm | hm
    · obtain ⟨⟨x', y⟩, he, hxx⟩ := List.mem_map.1 hm
      simp only at hxx
      subst hxx
      obtain ⟨h2, h3, rfl⟩ := List.append_of_mem he
      exact V.do_found hS hc rfl h1 hE fun ρ' st' I' a' w' V' => ih _ _ _ _ _ _ _ _ _ _ _ _ _ _ V' (ht.set _) hless
    · rcases hset with rfl | ⟨z, rest, rfl, hz⟩
      · cases hm
      · rcases List.mem_cons.1 hm with rfl | hm
        · exact V.do_heavy hS hc hz hE fun _ _ _ _ _ _ _ _ _ _ _ V' => ih _ _ _ _ _ _ _ _ _ _ _ _ _ _ V' (ht.set _) hless
        · exfalso
          obtain ⟨k, hk1, hk2⟩ := hS.heavy _ _ _ V.split hz x hm
          obtain ⟨e, he, hei⟩ := V.lsIn k (hE k hk1)
          exact hk2 e.1 (List.mem_map.2 ⟨e, he, rfl⟩) hei

end

theorem cls_cases (o : Oper) : cls o = 0 ∨ cls o = 1 ∨ cls o = 2 ∨ cls o = 3 := by
  unfold cls
  split <;> first
    | exact .inl rfl
    | exact .inr (.inl rfl)
    | exact .inr (.inr (.inl rfl))
    | exact .inr (.inr (.inr rfl))
    | (split <;> first
        | exact .inr (.inr (.inr rfl))
        | (split <;> first | exact .inl rfl | exact .inr (.inr (.inr rfl))))

theorem clsG_cases (G : Cfg) (fn : Nat) (o : Oper) : clsG G fn o = 0 ∨ clsG G fn o = 1 ∨ clsG G fn o = 2 ∨ clsG G fn o = 3 := by
  rcases isBuild o with ⟨t, n, ps, e⟩ | hb
  · rcases (clsG_is (G := G) (fn := fn) e).2 with ⟨h, _⟩ | h
    · exact .inl h
    · exact .inr (.inr (.inl h))
  · rw [clsG_not hb]; exact cls_cases o

theorem anyOk (G : Cfg) (hm : G.P.follows .mixedOrders = true) : AnyOk G := by
  intro fn n ops id call hc w0 H0 I0 ρ0 K r Q t L H nx a w hs hk h
  refine wp_region_any hm ?_
  have h' : (match okRO (orderRO (lenR ops.toList) (roF G fn ops.toList ops.toList 0) 0) (Nat.sub (bitN (lenR ops.toList)) 1) 0 0 0 with
        | true => (⟨fun call t L H nx K => match L with
          | [] => (drawC G fn n ops.toList (orderRO (lenR ops.toList) (roF G fn ops.toList ops.toList 0) 0) [] []).run call t H nx [] fun t H nx => K t [] H nx
          | _ :: _ => none⟩ : Clo RunF)
        | false => ⟨fun _ _ _ _ _ _ => none⟩).run call t L H nx K = some r := h
  cases hok : okRO (orderRO (lenR ops.toList) (roF G fn ops.toList ops.toList 0) 0) (Nat.sub (bitN (lenR ops.toList)) 1) 0 0 0 with
  | false => rw [hok] at h'; cases h'
  | true =>
    rw [hok] at h'
    cases L with
    | cons p L => cases h'
    | nil =>
      have h2 : (drawC G fn n ops.toList (orderRO (lenR ops.toList) (roF G fn ops.toList ops.toList 0) 0) [] []).run call t H nx [] (fun t H nx => K t [] H nx) = some r := h'
      generalize hxs : orderRO (lenR ops.toList) (roF G fn ops.toList ops.toList 0) 0 = xs at hok h2
      have O := okRO_spec _ _ _ _ _ hok
      have hmem : ∀ x ∈ xs, ∃ j, x.i = 0 + j ∧ ops.toList[j]? = some x.o ∧ x.E = edgeMask x.o ∧ x.D = dstBit x.o.dst ∧ x.W = looksMask ops.toList x.o ∧ x.c = clsG G fn x.o := fun x hx => by
        rw [← hxs] at hx
        exact roF_mem _ _ _ _ _ x (orderRO_mem _ _ _ x hx)
      let S : Reg := { G := G, fn := fn, n := n, ops := ops, xs := xs, call := call, w0 := w0, H0 := H0, I0 := I0, ρ0 := ρ0, t0 := t, K := fun t H nx => K t [] H nx, r := r }
      have hS : Stat S := {
        idx := fun x hx => by
          obtain ⟨j, h1, h3, _⟩ := hmem x hx
          have : x.i = j := by omega
          rw [this]; simpa using h3
        E := fun x hx => by obtain ⟨j, _, _, h3, _⟩ := hmem x hx; exact h3
        D := fun x hx => by obtain ⟨j, _, _, _, h3, _⟩ := hmem x hx; exact h3
        W := fun x hx => by obtain ⟨j, _, _, _, _, h3, _⟩ := hmem x hx; exact h3
        c := fun x hx => by obtain ⟨j, _, _, _, _, _, h3⟩ := hmem x hx; exact h3
        cover := fun i hi => by
          rcases O.cover i (by rw [hasM_all, lenR_eq]; simpa using hi) with h3 | h3
          · rw [hasM_zero] at h3; cases h3
          · exact h3
        nodup := O.nodup
        dp := O.dp.imp_of_mem fun {x y} hx hy h3 i hd hd' => by
          obtain ⟨_, _, _, _, hD, _⟩ := hmem x hx
          obtain ⟨_, _, _, _, hD', _⟩ := hmem y hy
          have h4 := offM_get h3 (i := i) (by rw [hD']; exact dst_bit.2 hd')
          rw [hD, dst_bit.2 hd] at h4; cases h4
        rs := O.rs, rp := O.rp, pair := O.pair
        ahead := fun pre x suf he i hi => by
          rcases O.ahead pre x suf he i hi with h3 | h3
          · rw [hasM_zero] at h3; cases h3
          · exact h3
        heavy := fun pre x suf he hc y hy => by
          obtain ⟨i, h3, _, h4⟩ := O.heavy pre x suf he hc y hy
          exact ⟨i, h3, h4⟩
        cc := fun x hx => by obtain ⟨j, _, _, _, _, _, h3⟩ := hmem x hx; rw [h3]; exact clsG_cases G fn x.o }
      obtain ⟨ρ, st, I, hρ, hs1, hr1, hn1⟩ := hs
      have V : Inv S [] xs 0 H nx [] [] [] ρ st I a { w with drawn := w.drawn + 1 } := {
        split := rfl
        lsIn := fun i hi => by rw [hasM_zero] at hi; cases hi
        closed := fun x _ hi => by rw [hasM_zero] at hi; cases hi
        hv := fun e he => by cases he
        low := fun e he => by cases he
        lown := fun e he => by cases he
        fact := fun h1 x y h2 hh => by cases h1 <;> cases hh
        hask := fun e he => by cases he
        hpass := fun p hp => by cases hp
        hbs := fun p hp => by cases hp
        pdn := .nil, pdx := .nil
        pdh := fun p hp => by cases hp
        pdo := fun p hp => by cases hp
        pd0 := fun p hp => by cases hp
        run := h2
        up := hρ
        ren := hs1
        rl := hr1.world (fun _ _ => rfl) (Nat.le_refl _) ⟨rfl, rfl, rfl⟩
        n := hn1 }
      refine any_run (S := S) hS hc (fun T H nx a w hsim hK => hk T [] H nx a w hsim hK) ops.size _ _ _ _ _ _ _ _ _ _ _ _ _ _ V ⟨by simp [S], fun k hk => ?_⟩ ?_
      · rw [hasM_zero]
        have hk : k < ops.size := hk
        simp [hk]
      · have := List.countP_le_length (p := fun i => !hasM 0 i) (l := List.range S.ops.size)
        simpa using this

end Go.Am
