/- The law of widths is true in plain Lean: the pure side of LimbsWidths. Condition: bytes. -/
import Derived.Test.YtcljdpaniinhmaaLx11
import Derived.Test.YtcljdpaniinhmaaV4
import Derived.Test.YtcljdpaniinhmaaV10
import Derived.Test.YtcljdpaniinhmaaV12
namespace Go.Proofs.Ytcljdpaniinhmaa.Pure
open Go.RowKit Go.Proofs.Ytcljdpaniinhmaa.L Go.Proofs.YtcljdpaniinhmaaW.PrintWords Go.Proofs.YtcljdpaniinhmaaW.PrintLast
set_option linter.unusedVariables false

theorem bytes_dig11 {l : List Int} (h : ∀ x ∈ l, (Lit.int .u8 x).wf = true) : Dig 256 l := by
  intro x hx
  have hw := h x hx
  simp only [Lit.wf, Bool.and_eq_true, decide_eq_true_eq] at hw
  have e1 : IntKind.u8.min = 0 := rfl
  have e2 : IntKind.u8.max = 255 := rfl
  rw [e1, e2] at hw
  omega

/-- It has room, at both widths. -/
theorem widths_yes (b : List Int) (w d : Nat) (hb : b.length ≤ 1000) (hd : Dig 256 b) (h1 : 1 ≤ w) (h2 : w + d ≤ 256) (hV : V 256 b.reverse < 4294967296 ^ w) :
    Ev (fun q => sallyportlaw04_LimbsWidths.j0 q b (w : Int) (d : Int) false) true := by
  have hV2 : V 256 b.reverse < 4294967296 ^ (w + d) := Int.lt_of_lt_of_le hV (pow_le_pow (by decide) (by omega))
  obtain ⟨n1, l1, d1, v1, f1⟩ := from_yes w b h1 (by clear hV hV2; omega) (by clear hV hV2; omega) hd hV
  obtain ⟨n2, l2, d2, v2, f2⟩ := from_yes (w + d) b (by clear hV hV2; omega) h2 (by clear hV hV2; omega) hd hV2
  have hp : (256 : Int) ^ (4 * w) = 4294967296 ^ w := by rw [Int.pow_mul]; rfl
  obtain ⟨o1, lo1, do1, vo1, K1, e1⟩ := lbytes_yes n1 (4 * w) (by clear hV hV2 hp; omega) (by clear hV hV2 hp; omega) (by clear hV hV2 hp; omega) d1 (by rw [v1, hp]; exact hV)
  obtain ⟨o2, lo2, do2, vo2, K2, e2⟩ := lbytes_yes n2 (4 * w) (by clear hV hV2 hp; omega) (by clear hV hV2 hp; omega) (by clear hV hV2 hp; omega) d2 (by rw [v2, hp]; exact hV)
  have hoo : o1 = o2 := by
    have := list_same (b := 256) (by decide) do1.reverse do2.reverse (by rw [List.length_reverse, List.length_reverse, lo1, lo2]) (by rw [vo1, vo2, v1, v2])
    exact List.reverse_inj.1 this
  subst hoo
  obtain ⟨K3, e3⟩ := lcompare_ev n1 n2 (by clear hV hV2 hp; omega) (by clear hV hV2 hp; omega) (by clear hV hV2 hp; omega) (by clear hV hV2 hp; omega) d1 d2
  rw [cmpI_zero.2 (v1.trans v2.symm)] at e3
  obtain ⟨x1, ex1, ix1⟩ := lbits_is n1 (by clear hV hV2 hp; omega) (by clear hV hV2 hp; omega) d1
  obtain ⟨x2, ex2, ix2⟩ := lbits_is n2 (by clear hV hV2 hp; omega) (by clear hV hV2 hp; omega) d2
  rw [v1] at ix1
  rw [v2] at ix2
  have hx : x1 = x2 := isBits_unique ix1 ix2
  subst hx
  clear hV hV2 hp v1 v2 vo1 vo2
  have ew : wrap64 ((w : Int) + (d : Int)) = ((w + d : Nat) : Int) := by rw [w64 (by omega) (by omega)]; omega
  have e4 : wrap64 (4 * (w : Int)) = ((4 * w : Nat) : Int) := by rw [w64 (by omega) (by omega)]; omega
  have hl : ((n2.length : Int) == ((w + d : Nat) : Int)) = true := by rw [beq_iff_eq]; omega
  refine ⟨K1 + K2 + K3 + 1, fun m hm => ?_⟩
  obtain ⟨q, rfl⟩ : ∃ q, m = q + 1 := ⟨m - 1, by omega⟩
  have e1' : limbs_Bytes.f q n1 ((4 * w : Nat) : Int) = _ := e1 q (by omega)
  have e2' : limbs_Bytes.f q n2 ((4 * w : Nat) : Int) = _ := e2 q (by omega)
  have e3' : limbs_Compare.f q n1 n2 = _ := e3 q (by omega)
  show sallyportlaw04_LimbsWidths.j0 (q + 1) b (w : Int) (d : Int) false = some true
  simp only [sallyportlaw04_LimbsWidths.j0]
  rw [if_neg (by simp), f1, Option.bind_some, ew, f2, Option.bind_some, if_pos rfl, e4, e1', Option.bind_some, e2', Option.bind_some, if_pos rfl, if_pos rfl, if_pos rfl, e3', Option.bind_some, if_pos rfl, ex1, Option.bind_some, ex2, Option.bind_some, if_pos rfl, if_pos rfl, hl]

/-- It has no room at the lesser width. -/
theorem widths_big (b : List Int) (w d : Nat) (hb : b.length ≤ 1000) (hd : Dig 256 b) (h1 : 1 ≤ w) (h2 : w + d ≤ 256) (hV : ¬ V 256 b.reverse < 4294967296 ^ w) :
    Ev (fun q => sallyportlaw04_LimbsWidths.j0 q b (w : Int) (d : Int) false) true := by
  have f1 := from_big w b h1 (by clear hV; omega) (by clear hV; omega) hd hV
  obtain ⟨t, f2⟩ : ∃ t, limbs_From.f b ((w + d : Nat) : Int) = some t := by
    by_cases h : V 256 b.reverse < 4294967296 ^ (w + d)
    · obtain ⟨n2, _, _, _, f2⟩ := from_yes (w + d) b (by clear hV h; omega) h2 (by clear hV h; omega) hd h
      exact ⟨_, f2⟩
    · exact ⟨_, from_big (w + d) b (by clear hV h; omega) h2 (by clear hV h; omega) hd h⟩
  clear hV
  have ew : wrap64 ((w : Int) + (d : Int)) = ((w + d : Nat) : Int) := by rw [w64 (by omega) (by omega)]; omega
  refine Ev.step (f := fun _ => some true) (fun q => ?_) (Ev.now _)
  simp only [sallyportlaw04_LimbsWidths.j0]
  rw [if_neg (by simp), f1, Option.bind_some, ew, f2, Option.bind_some, if_neg (by decide)]
  rfl

theorem wf_i64_range11 {a : Int} (h : (Lit.int .i64 a).wf = true) : -9223372036854775808 ≤ a ∧ a ≤ 9223372036854775807 := by
  simp only [Lit.wf, Bool.and_eq_true, decide_eq_true_eq] at h
  have e1 : IntKind.i64.min = -9223372036854775808 := rfl
  have e2 : IntKind.i64.max = 9223372036854775807 := rfl
  rw [e1, e2] at h
  exact h

theorem LimbsWidths : sallyportlaw04_LimbsWidths.Pure := by
  intro b a c _ _ hb _ _
  have hd := bytes_dig11 hb
  obtain ⟨K1, e1⟩ := anchor_ev
  have e3' : ∀ k, sallyportlaw04_LimbsWidths.j0 (k + 1) b a c true = some true := fun k => by simp [sallyportlaw04_LimbsWidths.j0]
  have e1' : sallyportlaw04_anchor.f (K1 + 1) = _ := e1 _ (by omega)
  by_cases h1 : (b.length : Int) > 1000
  · refine ⟨K1 + 1, ?_⟩
    unfold sallyportlaw04_LimbsWidths.f
    rw [e1', Option.bind_some, if_pos rfl, if_pos h1, e3']
  · by_cases h2 : a < 1
    · refine ⟨K1 + 1, ?_⟩
      unfold sallyportlaw04_LimbsWidths.f
      rw [e1', Option.bind_some, if_pos rfl, if_neg h1, if_pos h2, e3']
    · by_cases h3 : a > 256
      · refine ⟨K1 + 1, ?_⟩
        unfold sallyportlaw04_LimbsWidths.f
        rw [e1', Option.bind_some, if_pos rfl, if_neg h1, if_neg h2, if_pos h3, e3']
      · by_cases h4 : c < 0
        · refine ⟨K1 + 1, ?_⟩
          unfold sallyportlaw04_LimbsWidths.f
          rw [e1', Option.bind_some, if_pos rfl, if_neg h1, if_neg h2, if_neg h3, if_pos h4, e3']
        · have ew : wrap64 (256 - a) = 256 - a := w64 (by omega) (by omega)
          by_cases h5 : c > 256 - a
          · refine ⟨K1 + 1, ?_⟩
            unfold sallyportlaw04_LimbsWidths.f
            rw [e1', Option.bind_some, if_pos rfl, if_neg h1, if_neg h2, if_neg h3, if_neg h4, ew, decide_eq_true h5, e3']
          · obtain ⟨w, rfl⟩ := Int.eq_ofNat_of_zero_le (a := a) (by omega)
            obtain ⟨d, rfl⟩ := Int.eq_ofNat_of_zero_le (a := c) (by omega)
            have key : Ev (fun q => sallyportlaw04_LimbsWidths.j0 q b (w : Int) (d : Int) false) true := by
              have p1 : b.length ≤ 1000 := by omega
              have p2 : 1 ≤ w := by omega
              have p3 : w + d ≤ 256 := by omega
              by_cases hV : V 256 b.reverse < 4294967296 ^ w
              · exact widths_yes b w d p1 hd p2 p3 hV
              · exact widths_big b w d p1 hd p2 p3 hV
            obtain ⟨K2, e2⟩ := key
            have e1'' : sallyportlaw04_anchor.f (K1 + K2 + 1) = _ := e1 _ (by omega)
            have e2' : sallyportlaw04_LimbsWidths.j0 (K1 + K2 + 1) b (w : Int) (d : Int) false = _ := e2 _ (by omega)
            refine ⟨K1 + K2 + 1, ?_⟩
            unfold sallyportlaw04_LimbsWidths.f
            rw [e1'', Option.bind_some, if_pos rfl, if_neg h1, if_neg h2, if_neg h3, if_neg h4, ew, decide_eq_false h5, e2']
end Go.Proofs.Ytcljdpaniinhmaa.Pure
