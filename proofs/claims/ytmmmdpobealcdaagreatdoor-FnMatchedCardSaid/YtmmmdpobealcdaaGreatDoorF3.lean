/- The law's own function: from its beginning to its middle. -/
import Derived.Test.YtmmmdpobealcdaaGreatDoorF2
set_option linter.unusedVariables false
set_option linter.unusedSimpArgs false
namespace Go.Am
open Go Go.Proofs Go.RowKit

/-- The rest of the law's code, behind the two numbers. -/
noncomputable def restC : Code := match Tryz.f3.body with
  | some (.seq _ (.seq _ (.seq _ (.seq _ c)))) => c
  | _ => .skip

/-- The two numbers, as the machine keeps them. -/
noncomputable def startT (n b : Nat) : T3 := tput (tput empty3 3 (ip n)) 4 (ip b)

theorem at_any {a : Option Addr} {len cap : Nat} {zs : List Int} {w : World} (h : IsBytes w a len cap zs) (hlen : len ≤ 1048576) (i : Nat) (hi1 : i ≤ 1) :
    Calls Tryz.prog 5 #[.slice a len cap, .int .i64 i] w fun e w' => (∃ v : Nat, v < 256 ∧ e = .returned (.int .i64 v)) ∧ w' = w := by
  by_cases hi : i < len
  · rcases h with ⟨_, rfl, _⟩ | ⟨x, rfl, h1, h2, h3, h4, h5⟩
    · exact absurd hi (Nat.not_lt_zero i)
    · have hlt : i < zs.length := by omega
      have hz : 0 ≤ zs.getD i 0 ∧ zs.getD i 0 ≤ 255 := by
        have hm : zs.getD i 0 ∈ zs := by
          rw [List.getD_eq_getElem?_getD, List.getElem?_eq_getElem hlt]; exact List.getElem_mem hlt
        have := h5 _ hm
        have h6 : (decide (IntKind.u8.min ≤ zs.getD i 0) && decide (zs.getD i 0 ≤ IntKind.u8.max)) = true := this
        rw [Bool.and_eq_true] at h6
        exact ⟨of_decide_eq_true h6.1, of_decide_eq_true h6.2⟩
      refine (at_in x len cap i (zs.getD i 0) w hi hlen (h4 i hlt) hz).mono fun e w' ⟨he, hw⟩ => ⟨⟨(zs.getD i 0).toNat, by omega, ?_⟩, hw⟩
      rw [he, Int.toNat_of_nonneg hz.1]
  · refine (at_out a len cap i w hi hlen hi1).mono fun e w' ⟨he, hw⟩ => ⟨⟨(i * 31 + len * 7) % 256, Nat.mod_lt _ (by decide), ?_⟩, hw⟩
    rw [he]
    congr 2

theorem eval_const {a : Act} {v : Value} : a.eval (.const v) = v := rfl

theorem rem_run {w : World} {a : Act} {o : Oper} (v m : Nat) {x y : Operand} (ho : o.op = .binOp .rem 3 x y 3) (hx : a.eval x = .int .i64 v) (hy : a.eval y = .int .i64 m) (h0 : 0 < m) : (execOp a.eval o).run Tryz.prog w = .ok (.value (.int .i64 ((v % m : Nat) : Int))) w := by
  obtain ⟨dst, op, ty, pos, after, guard⟩ := o
  simp only at ho
  subst ho
  generalize a.eval = ev at hx hy ⊢
  have hm0 : ¬ m = 0 := by omega
  have hm1 : ¬ (m : Int) = 0 := by omega
  have hmod : ((v : Int).tmod m) = ((v : Int) % m) := Int.tmod_eq_emod_of_nonneg (by omega)
  simp [execOp, hx, hy, eqGuard, binOp, run_underlying Tryz.underlying3, go_sem, hm0, hm1, hmod]

theorem law_wp {a : Option Addr} {len cap : Nat} {zs : List Int} {w : World} (hin : IsBytes w a len cap zs)
    (hrest : ∀ (n b : Nat), n < 4 → b < 2 → ∀ (a' : Act), (∀ i x, i < 512 → tget (startT n b) i = some x → ∃ y, a'.tmps[i]? = some y ∧ x = .v y) → a'.defers = [] → Tryz.f3.ntmps ≤ a'.tmps.size →
      restC.wp Tryz.prog (bodyPost Tryz.prog Tryz.f3 fun e w' => e = .returned (.bool true) ∧ Below w.heap.size w w') a' w) :
    Calls Tryz.prog 3 #[.slice a len cap] w fun e w' => e = .returned (.bool true) ∧ Below w.heap.size w w' := by
  refine calls_of_wp Tryz.func3 rfl ?_
  rw [Tryz.ntmps3]
  generalize hA : ({ tmps := #[Value.slice a len cap] ++ Array.replicate (120 - #[Value.slice a len cap].size) undef, defers := [] } : Act) = A
  have hs : A.tmps.size = 120 := by subst hA; simp
  have h0 : A.tmps[0]? = some (.slice a len cap) := by subst hA; simp
  have hd : A.defers = [] := by subst hA; rfl
  clear hA
  refine wp_seq (wp_region ?_)
  refine wpOps_value (v := .bool false) rfl rfl (by simp [execOp, Act.eval]) ?_
  show Code.wp Tryz.prog _ _ (A.put (some 2) (.bool false)) w
  generalize hA1 : A.put (some 2) (.bool false) = A1
  have hs1 : A1.tmps.size = 120 := by subst hA1; rw [put_size, hs]
  have h01 : A1.tmps[0]? = some (.slice a len cap) := by subst hA1; rw [put_get (by omega), if_neg (by decide)]; exact h0
  have hd1 : A1.defers = [] := by subst hA1; rw [put_defers, hd]
  clear hA1
  refine wp_seq (wp_seq (wp_region ?_))
  refine wpOps_value (v := .slice a len cap) rfl rfl (by simp [execOp, eval_tmp h01]) ?_
  show wpOps Tryz.prog _ _ [1] (A1.put (some 14) (.slice a len cap)) w
  generalize hA2 : A1.put (some 14) (.slice a len cap) = A2
  have hs2 : A2.tmps.size = 120 := by subst hA2; rw [put_size, hs1]
  have h02 : A2.tmps[0]? = some (.slice a len cap) := by subst hA2; rw [put_get (by omega), if_neg (by decide)]; exact h01
  have h142 : A2.tmps[14]? = some (.slice a len cap) := by subst hA2; rw [put_get (by omega), if_pos rfl]
  have hd2 : A2.defers = [] := by subst hA2; rw [put_defers, hd1]
  clear hA2
  refine wpOps_call (f := 4) rfl rfl rfl Tryz.func4 (by kernel_rfl) rfl ?_
  rw [show (#[Operand.tmp 14] : Array Operand).map A2.eval = #[.slice a len cap] from by simp [eval_tmp h142]]
  refine (big_calls a len cap w).mono fun e w1 ⟨he, hw⟩ => ?_
  subst hw
  refine ⟨_, he, ?_⟩
  show Code.wp Tryz.prog _ _ (A2.put (some 15) (.bool (decide ((1048576 : Int) < len)))) w1
  generalize hA3 : A2.put (some 15) (.bool (decide ((1048576 : Int) < len))) = A3
  have hs3 : A3.tmps.size = 120 := by subst hA3; rw [put_size, hs2]
  have h03 : A3.tmps[0]? = some (.slice a len cap) := by subst hA3; rw [put_get (by omega), if_neg (by decide)]; exact h02
  have h153 : A3.tmps[15]? = some (.bool (decide ((1048576 : Int) < len))) := by subst hA3; rw [put_get (by omega), if_pos rfl]
  have hd3 : A3.defers = [] := by subst hA3; rw [put_defers, hd2]
  clear hA3
  refine wp_cond (eval_tmp h153) ?_
  by_cases hbig : (1048576 : Int) < len
  · rw [decide_eq_true hbig, if_pos rfl]
    refine wp_seq (wp_region ?_)
    refine wpOps_value (v := .bool true) rfl rfl (by simp [execOp, Act.eval]) ?_
    show Code.wp Tryz.prog _ _ (A3.put (some 2) (.bool true)) w1
    refine wp_ret ?_
    refine ⟨by rw [put_defers, hd3], .bool true, ?_, rfl, Below.refl _ _⟩
    have h2 : (A3.put (some 2) (.bool true)).tmps[2]? = some (.bool true) := by rw [put_get (by omega), if_pos rfl]
    generalize A3.put (some 2) (.bool true) = A4 at h2
    exact results_tmp rfl _ _ _ |>.trans (by simp [Array.getD_eq_getD_getElem?, h2])
  · rw [decide_eq_false hbig, if_neg (by decide)]
    refine wp_skip ?_
    have hlen : len ≤ 1048576 := by omega
    have hs_A3 := hs3
    have hd_A3 := hd3
    have t0_A3 := h03
    refine wp_seq (wp_region ?_)
    refine wpOps_value (v := .slice a len cap) rfl rfl (by simp [execOp, eval_tmp t0_A3]) ?_
    show wpOps Tryz.prog _ _ [1, 2, 3] (A3.put (some 16) (.slice a len cap)) w1
    generalize hXa : A3.put (some 16) (.slice a len cap) = Xa
    have hs_Xa : Xa.tmps.size = 120 := by subst hXa; rw [put_size, hs_A3]
    have hd_Xa : Xa.defers = [] := by subst hXa; rw [put_defers, hd_A3]
    have t0_Xa : Xa.tmps[0]? = some (.slice a len cap) := by subst hXa; rw [put_get (by omega), if_neg (by decide)]; exact t0_A3
    have t16_Xa : Xa.tmps[16]? = some (.slice a len cap) := by subst hXa; rw [put_get (by omega), if_pos rfl]
    clear hXa
    refine wpOps_call (f := 5) rfl rfl rfl Tryz.func5 (by kernel_rfl) rfl ?_
    rw [show (#[Operand.tmp 16, Operand.const (.int .i64 0)] : Array Operand).map Xa.eval = #[.slice a len cap, .int .i64 (0 : Nat)] from by simp [eval_tmp t16_Xa, eval_const]]
    refine (at_any hin hlen 0 (by decide)).mono fun e w2 ⟨⟨vX, hvX, he⟩, hw⟩ => ?_
    subst hw
    refine ⟨_, he, ?_⟩
    clear he
    show wpOps Tryz.prog _ _ [2, 3] (Xa.put (some 17) (.int .i64 vX)) w2
    generalize hXb : Xa.put (some 17) (.int .i64 vX) = Xb
    have hs_Xb : Xb.tmps.size = 120 := by subst hXb; rw [put_size, hs_Xa]
    have hd_Xb : Xb.defers = [] := by subst hXb; rw [put_defers, hd_Xa]
    have t0_Xb : Xb.tmps[0]? = some (.slice a len cap) := by subst hXb; rw [put_get (by omega), if_neg (by decide)]; exact t0_Xa
    have t17_Xb : Xb.tmps[17]? = some (.int .i64 vX) := by subst hXb; rw [put_get (by omega), if_pos rfl]
    clear hXb
    refine wpOps_value (v := (.int .i64 ((vX % 4 : Nat) : Int))) rfl rfl (rem_run _ _ rfl (eval_tmp t17_Xb) rfl (by decide)) ?_
    show wpOps Tryz.prog _ _ [3] (Xb.put (some 18) (.int .i64 ((vX % 4 : Nat) : Int))) w2
    generalize hXc : Xb.put (some 18) (.int .i64 ((vX % 4 : Nat) : Int)) = Xc
    have hs_Xc : Xc.tmps.size = 120 := by subst hXc; rw [put_size, hs_Xb]
    have hd_Xc : Xc.defers = [] := by subst hXc; rw [put_defers, hd_Xb]
    have t0_Xc : Xc.tmps[0]? = some (.slice a len cap) := by subst hXc; rw [put_get (by omega), if_neg (by decide)]; exact t0_Xb
    have t18_Xc : Xc.tmps[18]? = some (.int .i64 ((vX % 4 : Nat) : Int)) := by subst hXc; rw [put_get (by omega), if_pos rfl]
    clear hXc
    refine wpOps_value (v := (.int .i64 ((vX % 4 : Nat) : Int))) rfl rfl (by simp [execOp, eval_tmp t18_Xc]) ?_
    show Code.wp Tryz.prog _ _ (Xc.put (some 3) (.int .i64 ((vX % 4 : Nat) : Int))) w2
    generalize hXd : Xc.put (some 3) (.int .i64 ((vX % 4 : Nat) : Int)) = Xd
    have hs_Xd : Xd.tmps.size = 120 := by subst hXd; rw [put_size, hs_Xc]
    have hd_Xd : Xd.defers = [] := by subst hXd; rw [put_defers, hd_Xc]
    have t0_Xd : Xd.tmps[0]? = some (.slice a len cap) := by subst hXd; rw [put_get (by omega), if_neg (by decide)]; exact t0_Xc
    have t3_Xd : Xd.tmps[3]? = some (.int .i64 ((vX % 4 : Nat) : Int)) := by subst hXd; rw [put_get (by omega), if_pos rfl]
    clear hXd
    refine wp_seq (wp_region ?_)
    refine wpOps_value (v := .slice a len cap) rfl rfl (by simp [execOp, eval_tmp t0_Xd]) ?_
    show wpOps Tryz.prog _ _ [1, 2, 3] (Xd.put (some 19) (.slice a len cap)) w2
    generalize hYa : Xd.put (some 19) (.slice a len cap) = Ya
    have hs_Ya : Ya.tmps.size = 120 := by subst hYa; rw [put_size, hs_Xd]
    have hd_Ya : Ya.defers = [] := by subst hYa; rw [put_defers, hd_Xd]
    have t0_Ya : Ya.tmps[0]? = some (.slice a len cap) := by subst hYa; rw [put_get (by omega), if_neg (by decide)]; exact t0_Xd
    have t19_Ya : Ya.tmps[19]? = some (.slice a len cap) := by subst hYa; rw [put_get (by omega), if_pos rfl]
    have t3_Ya : Ya.tmps[3]? = some (.int .i64 ((vX % 4 : Nat) : Int)) := by subst hYa; rw [put_get (by omega), if_neg (by decide)]; exact t3_Xd
    clear hYa
    refine wpOps_call (f := 5) rfl rfl rfl Tryz.func5 (by kernel_rfl) rfl ?_
    rw [show (#[Operand.tmp 19, Operand.const (.int .i64 1)] : Array Operand).map Ya.eval = #[.slice a len cap, .int .i64 (1 : Nat)] from by simp [eval_tmp t19_Ya, eval_const]]
    refine (at_any hin hlen 1 (by decide)).mono fun e w3 ⟨⟨vY, hvY, he⟩, hw⟩ => ?_
    subst hw
    refine ⟨_, he, ?_⟩
    clear he
    show wpOps Tryz.prog _ _ [2, 3] (Ya.put (some 20) (.int .i64 vY)) w3
    generalize hYb : Ya.put (some 20) (.int .i64 vY) = Yb
    have hs_Yb : Yb.tmps.size = 120 := by subst hYb; rw [put_size, hs_Ya]
    have hd_Yb : Yb.defers = [] := by subst hYb; rw [put_defers, hd_Ya]
    have t0_Yb : Yb.tmps[0]? = some (.slice a len cap) := by subst hYb; rw [put_get (by omega), if_neg (by decide)]; exact t0_Ya
    have t20_Yb : Yb.tmps[20]? = some (.int .i64 vY) := by subst hYb; rw [put_get (by omega), if_pos rfl]
    have t3_Yb : Yb.tmps[3]? = some (.int .i64 ((vX % 4 : Nat) : Int)) := by subst hYb; rw [put_get (by omega), if_neg (by decide)]; exact t3_Ya
    clear hYb
    refine wpOps_value (v := (.int .i64 ((vY % 2 : Nat) : Int))) rfl rfl (rem_run _ _ rfl (eval_tmp t20_Yb) rfl (by decide)) ?_
    show wpOps Tryz.prog _ _ [3] (Yb.put (some 21) (.int .i64 ((vY % 2 : Nat) : Int))) w3
    generalize hYc : Yb.put (some 21) (.int .i64 ((vY % 2 : Nat) : Int)) = Yc
    have hs_Yc : Yc.tmps.size = 120 := by subst hYc; rw [put_size, hs_Yb]
    have hd_Yc : Yc.defers = [] := by subst hYc; rw [put_defers, hd_Yb]
    have t0_Yc : Yc.tmps[0]? = some (.slice a len cap) := by subst hYc; rw [put_get (by omega), if_neg (by decide)]; exact t0_Yb
    have t21_Yc : Yc.tmps[21]? = some (.int .i64 ((vY % 2 : Nat) : Int)) := by subst hYc; rw [put_get (by omega), if_pos rfl]
    have t3_Yc : Yc.tmps[3]? = some (.int .i64 ((vX % 4 : Nat) : Int)) := by subst hYc; rw [put_get (by omega), if_neg (by decide)]; exact t3_Yb
    clear hYc
    refine wpOps_value (v := (.int .i64 ((vY % 2 : Nat) : Int))) rfl rfl (by simp [execOp, eval_tmp t21_Yc]) ?_
    show Code.wp Tryz.prog _ _ (Yc.put (some 4) (.int .i64 ((vY % 2 : Nat) : Int))) w3
    generalize hYd : Yc.put (some 4) (.int .i64 ((vY % 2 : Nat) : Int)) = Yd
    have hs_Yd : Yd.tmps.size = 120 := by subst hYd; rw [put_size, hs_Yc]
    have hd_Yd : Yd.defers = [] := by subst hYd; rw [put_defers, hd_Yc]
    have t0_Yd : Yd.tmps[0]? = some (.slice a len cap) := by subst hYd; rw [put_get (by omega), if_neg (by decide)]; exact t0_Yc
    have t4_Yd : Yd.tmps[4]? = some (.int .i64 ((vY % 2 : Nat) : Int)) := by subst hYd; rw [put_get (by omega), if_pos rfl]
    have t3_Yd : Yd.tmps[3]? = some (.int .i64 ((vX % 4 : Nat) : Int)) := by subst hYd; rw [put_get (by omega), if_neg (by decide)]; exact t3_Yc
    clear hYd
    refine hrest (vX % 4) (vY % 2) (Nat.mod_lt _ (by decide)) (Nat.mod_lt _ (by decide)) Yd (fun i x hi hx => ?_) hd_Yd (by rw [Tryz.ntmps3]; omega)
    unfold startT at hx
    rw [tget_tput _ _ _ _ (by decide) hi] at hx
    by_cases e4 : i = 4
    · rw [if_pos e4] at hx
      cases hx
      exact ⟨_, by rw [e4]; exact t4_Yd, rfl⟩
    · rw [if_neg e4, tget_tput _ _ _ _ (by decide) hi] at hx
      by_cases e3 : i = 3
      · rw [if_pos e3] at hx
        cases hx
        exact ⟨_, by rw [e3]; exact t3_Yd, rfl⟩
      · rw [if_neg e3, empty_get] at hx; cases hx

end Go.Am
