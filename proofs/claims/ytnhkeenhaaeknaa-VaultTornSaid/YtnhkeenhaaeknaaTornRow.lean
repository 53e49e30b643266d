/- VaultTorn: for every location, index, way of the power's going and list of indexes the law returns true, and its arguments read behind the call as they read before. No condition. -/
import Derived.Test.YtnhkeenhaaeknaaRows
import Derived.Test.YtnhkeenhaaeknaaTorn
import Derived.WalkKit
import Derived.ProofKit
import Derived.OpenShut
import Derived.ShutString
import Derived.ChangeOld
import Derived.Below
import Derived.SizedLaws
namespace Go.Proofs.Ytnhkeenhaaeknaa.vaultTorn
open Go.ChangeShapes Go.WideShapes Go.ChangeAt Go.RowKit
theorem own : ownKnob Try.prog.godebug = none := by kernel_rfl
theorem laidOut : laidOutB Try.prog = true := by kernel_rfl

/-- Whatever the arguments: the law returns true. -/
theorem walk (W : World) (i n : Int) (d : Bool) (a : Option Addr) (len cap : Nat) (h : ∃ zs : List Int, IntsAt W a len zs) :
    Calls Try.prog 5 #[.int .i64 i, .int .i64 n, .bool d, .slice a len cap] W fun e W' => e = .returned (.bool true) ∧ Below W.heap.size W W' := by
  obtain ⟨zs, hz⟩ := h
  by_cases ho : i < 0 ∨ 31 < i ∨ n < 0 ∨ 281474976710656 < n ∨ 50 < len
  · exact torn_out ho
  · obtain ⟨k, rfl⟩ : ∃ k : Nat, i = k := ⟨i.toNat, by omega⟩
    have h1 : ¬ ((k : Int) < 0 ∨ 32 ≤ (k : Int) ∨ n < 0 ∨ 281474976710656 < n) := by omega
    cases d with
    | true =>
      refine torn_walk k (by omega) n (by omega) (by omega) true a len cap (by omega) zs hz ⟨true, putIx (fun _ => 0) k n, -1, true, true, 1⟩ n rfl ?_ rfl rfl (by simp [putIx]) (by simp) (by simp) (by simp) (by simp)
      simp only [St.raise, St.arm, St.new, Bool.false_eq_true, if_false, if_neg h1, Int.toNat_natCast]
      simp [St.change]
      omega
    | false =>
      refine torn_walk k (by omega) n (by omega) (by omega) false a len cap (by omega) zs hz ⟨true, fun _ => 0, 0, false, true, 0⟩ 0 rfl ?_ rfl rfl rfl (by simp) (by simp) (by simp) (by simp)
      simp only [St.raise, St.arm, St.new, Bool.false_eq_true, if_false, if_neg h1]
      simp [St.change]
      omega

set_option maxRecDepth 100000 in
theorem lifted (os : Os) (started : os.Started) (H : Type) (enc : TypeId × Value → H) :
    ReturnsInHanded {} Try.checked os 5 .any (Rows.vaultTornSpec.pre6 enc Try.prog Try.f5 Rows.vaultTornRow.domain false) (Rows.vaultTornSpec.post enc Try.prog Try.f5 false true false false) := by
  refine returnsInHanded_of_change_sized (C := Try.checked) own started (by kernel_rfl) Try.func5
    (ChangeSpec.witness6 (enc := enc) (C := Try.checked) false ⟨#[], #[.int .i64 0, .int .i64 0, .bool false, .slice none 0 0], []⟩ 8 (by kernel_rfl) (by kernel_rfl) (by kernel_rfl) (by kernel_rfl)) ?_
  intro W base args ds gs before hval0 hW hcnd hsz0 _
  have hval : ∀ (j : Nat) t v, Try.f5.params[j]? = some t → args[j]? = some v → Value.okWide Try.prog W .any base t v := hval0
  have hW' := hW
  obtain ⟨p, q, hA0, hV, rfl, hfz, hnd⟩ := hW
  have hA : DataW.TrodAll enc Try.prog W 0 (fun _ => true) true Try.f5.params.toList args.toList ds p := hA0
  rw [Try.params5] at hA hval
  obtain ⟨v0, vs0, d0, ds0, p0, q0, hargs, rfl, rfl, h0, r0⟩ := trodAll_cons hA
  obtain ⟨v1, vs1, d1, ds1, p1, q1, rfl, rfl, rfl, h1, r1⟩ := trodAll_cons r0
  obtain ⟨v2, vs2, d2, ds2, p2, q2, rfl, rfl, rfl, h2, r2⟩ := trodAll_cons r1
  obtain ⟨v3, vs3, d3, ds3, p3, q3, rfl, rfl, rfl, h3, r3⟩ := trodAll_cons r2
  obtain ⟨rfl, rfl, rfl⟩ := trodAll_nil r3
  obtain rfl : args = #[v0, v1, v2, v3] := by cases args; simp_all
  obtain ⟨rfl, rfl⟩ := trodVars_none hV
  obtain ⟨a0, rfl, rfl, rfl, w0⟩ := open_int Try.underlying3 (hval 0 3 v0 rfl rfl) h0
  obtain ⟨a1, rfl, rfl, rfl, w1⟩ := open_int Try.underlying3 (hval 1 3 v1 rfl rfl) h1
  obtain ⟨a2, rfl, rfl, rfl⟩ := open_bool Try.underlying4 (hval 2 4 v2 rfl rfl) h2
  obtain ⟨a3, len3, cap3, rfl⟩ := okWide_slice Try.underlying40 (hval 3 40 v3 rfl rfl)
  have k3 := h3
  have lt3 : ∀ x ∈ p3, x.block < W.heap.size := by
    obtain ⟨m, hm⟩ := k3
    exact DataW.trod_lt m _ _ _ hm
  have w3 : ∃ zs : List Int, IntsAt W a3 len3 zs := by
    obtain ⟨fuel, hf⟩ := h3
    rcases open_ints Try.underlying40 Try.underlying3 (by kernel_rfl) hf with ⟨hcs, _⟩ | ⟨x, l, c, zs, hcs, _, hl, hm, hz, _, hcell, hwz⟩
    · simp [Value.cells] at hcs
      obtain ⟨rfl, rfl, rfl⟩ := hcs
      exact ⟨[], fun j hj => absurd hj (Nat.not_lt_zero _)⟩
    · simp [Value.cells] at hcs
      obtain ⟨rfl, rfl, rfl⟩ := hcs
      have hz' : zs.length = cap3 := by simpa using hz
      exact ⟨zs, fun j hj => ⟨_, rfl, hcell j (by omega)⟩⟩
  clear hA0 hval0 hsz0
  refine (walk W a0 a1 a2 a3 len3 cap3 w3).mono fun e W' ⟨he, bel⟩ => ?_
  subst he
  exact ⟨_, rfl, _, _, _, [], _, [], hW', trodAll_mk1 (shut_bool Try.underlying4 _), (trodAll_cons_mk (shut_int Try.underlying3 w0) (trodAll_cons_mk (shut_int Try.underlying3 w1) (trodAll_cons_mk (shut_bool Try.underlying4 _) (trodAll_cons_mk (Below.trod laidOut (by kernel_rfl) (of_decide_eq_true (by kernel_rfl)) k3 bel lt3) trodAll_mk0)))), rfl, bel.frame _, fun h => by cases h⟩

theorem over : Rows.vaultTornRow.holds Try.pinned (OpenSpec.ofChange Rows.vaultTornSpec) :=
  OpenClaim.holds_of_wide 5 Try.f5 rfl rfl rfl rfl rfl rfl rfl ⟨rfl, rfl, rfl, rfl, rfl⟩ rfl rfl rfl rfl rfl (by kernel_rfl) Try.func5 (by kernel_rfl)
    (of_decide_eq_true (by kernel_rfl)) (by unfold Func.isWrapper; first | (rw [if_pos (by decide +kernel)]; kernel_rfl) | (rw [if_neg (by decide +kernel)]; exact ⟨rfl, rfl⟩))
    (fun os started H enc _ => lifted os started H enc)
theorem proved : Rows.VaultTornSaid := over
#print axioms proved
end Go.Proofs.Ytnhkeenhaaeknaa.vaultTorn
namespace Go.Proofs.Ytnhkeenhaaeknaa
/-- The row, under a short name, for the claim. -/
theorem vaultTorn_holds : Rows.VaultTornSaid := vaultTorn.proved
end Go.Proofs.Ytnhkeenhaaeknaa
