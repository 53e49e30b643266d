/- The contract of the reference's Power at whole bytes: 2 to the power of 8 m. Condition: 0 to 100000, a multiple of 8. -/
import Derived.Test.YtcljdpaniinhmaaLx0
namespace Go.Proofs.Ytcljdpaniinhmaa.L
open Go.RowKit Go.Proofs.YtcljdpaniinhmaaW.PrintWords Go.Proofs.YtcljdpaniinhmaaW.PrintLast Go.Proofs.YtcljdpaniinhmaaW.PrintMore
set_option linter.unusedVariables false

/-- 2 to the power of a number of whole bytes; of another number nothing is said. -/
def sallyportref04_Power.f (a0 : Int) : Option (List Int) :=
  if 0 ≤ a0 ∧ a0 ≤ 100000 ∧ a0 % 8 = 0 then some ((List.replicate ((a0 / 8).toNat + 1) 0).set (a0 / 8).toNat 1) else none

theorem sallyportref04_Power.calls (a0 : Int) (r : List Int) (w : World) (h : sallyportref04_Power.f a0 = some r) :
    Calls Try.prog 19 #[.int .i64 a0] w fun e w' => ∃ v0_ : Value, e = .returned (v0_) ∧ Kd.R (Kd.int .i64) 3 w' w.heap.size (fun _ => True) v0_ r ∧ Below w.heap.size w w' := by
  unfold sallyportref04_Power.f at h
  by_cases hg : 0 ≤ a0 ∧ a0 ≤ 100000 ∧ a0 % 8 = 0
  · rw [if_pos hg] at h
    obtain ⟨g0, g1, g2⟩ := hg
    obtain ⟨m, rfl⟩ : ∃ m : Nat, a0 = 8 * (m : Int) := ⟨(a0 / 8).toNat, by omega⟩
    have e1 : ((8 * (m : Int)) / 8).toNat = m := by omega
    rw [e1] at h
    injection h with h
    have HM := Aside0.mk h
    have q1 : (8 * (m : Int)).tdiv 8 = m := by rw [Int.mul_comm]; exact Int.mul_tdiv_cancel _ (by decide)
    have q2 : (8 * (m : Int)).tmod 8 = 0 := by rw [Int.mul_comm]; exact Int.mul_tmod_left _ _
    have hm : m ≤ 12500 := by omega
    clear h e1 g0 g1 g2
    have HB := Aside0.mk (Below.refl w.heap.size w)
    go_enter Try.func19, Try.ntmps19
    go_wp2_with ((with_reducible refine gate_dst (N := 7) rfl ?_); refine Kd.R_make (Kd.int .i64) _ 3 rfl (N := 7) rfl 30 _ _ rfl ((m : Int) + 1) rfl rfl Try.underlying30 (.int .i64 0) 8 info3 rfl (by decide) (by omega) 0 (ok := fun _ => True) (okp := fun _ => True) rfl (fun _ hk => hk) trivial (by omega) (by omega) (Below.refl _ _) (Nat.le_refl _) ?_; intro v204 w12 ho13 hb hg_ hnew_; clear hg_ hnew_; (have et : ((m : Int) + 1).toNat = m + 1 := by omega); rw [et] at ho13; clear et; have HO := Aside0.mk (Kd.R_lower ho13 (below_size HB.out)); have HB2 := Aside0.mk (below_step HB.out hb); clear HB hb ho13; obtain ⟨go11, co11, eo11, gb11, gl11, cl11, HG11⟩ := Kd.R_form HO.out (by simp); cases eo11; have GB11 := Aside0.mk gb11; clear gb11 gl11 HG11 cl11; obtain ⟨hx11, hf11⟩ := Kd.R_celln 0 HO.out (m : Int) (by omega) (by simp; omega); simp only [Int.toNat_natCast] at hx11 hf11; have HP := Aside0.mk (Kd.R_putg HO.out (m : Int) 1); simp only [List.length_replicate])
    go_ret
    exact ⟨_, rfl, by have h := HP.out.1; simp only [Int.toNat_natCast, List.length_replicate] at h; rw [← HM.out]; exact h, below_set HB2.out GB11.out⟩
  · rw [if_neg hg] at h
    exact absurd h (by simp)
end Go.Proofs.Ytcljdpaniinhmaa.L
