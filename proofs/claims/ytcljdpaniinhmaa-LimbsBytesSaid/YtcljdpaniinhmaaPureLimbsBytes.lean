/- The law of bytes is true in plain Lean: the pure side of LimbsBytes. Condition: bytes, words. -/
import Derived.Test.YtcljdpaniinhmaaLx7
import Derived.Test.YtcljdpaniinhmaaV4
import Derived.Test.YtcljdpaniinhmaaV10
import Derived.Test.YtcljdpaniinhmaaV11
namespace Go.Proofs.Ytcljdpaniinhmaa.Pure
open Go.RowKit Go.Proofs.Ytcljdpaniinhmaa.L Go.Proofs.YtcljdpaniinhmaaW.PrintWords Go.Proofs.YtcljdpaniinhmaaW.PrintLast
set_option linter.unusedVariables false

theorem bytes_dig {l : List Int} (h : ∀ x ∈ l, (Lit.int .u8 x).wf = true) : Dig 256 l := by
  intro x hx
  have hw := h x hx
  simp only [Lit.wf, Bool.and_eq_true, decide_eq_true_eq] at hw
  have e1 : IntKind.u8.min = 0 := rfl
  have e2 : IntKind.u8.max = 255 := rfl
  rw [e1, e2] at hw
  omega

theorem norm_fits {r : List Int} {n : Nat} (hn : Norm r) (hd : Dig 256 r) : r.length ≤ n ↔ V 256 r < 256 ^ n := by
  constructor
  · intro h
    exact Int.lt_of_lt_of_le (V_bound (b := 256) (by decide) hd).2 (pow_le_pow (by decide) h)
  · intro h
    by_cases hle : r.length ≤ n
    · exact hle
    · have h1 := norm_low (b := 256) (by decide) hd hn (by omega)
      have h2 : (256 : Int) ^ n ≤ 256 ^ (r.length - 1) := pow_le_pow (by decide) (by omega)
      omega

theorem bytes_j3_no (l : List Int) (a : Int) : Ev (fun q => sallyportlaw04_LimbsBytes.j3 q l a [] 24 true) true := by
  refine Ev.step (f := fun _ => some true) (fun q => ?_) (Ev.now _)
  simp [sallyportlaw04_LimbsBytes.j3]

/-- The second half: a number is written as its bytes. -/
theorem bytes_second (l : List Int) (a : Int) (hl : l.length ≤ 300) (hd : Dig 4294967296 l) : Ev (fun q => sallyportlaw04_LimbsBytes.j2 q l a) true := by
  by_cases hr : (1 ≤ l.length ∧ l.length ≤ 256) ∧ 0 ≤ a ∧ a ≤ 1024
  · obtain ⟨⟨h1, h2⟩, h3, h4⟩ := hr
    obtain ⟨n, rfl⟩ := Int.eq_ofNat_of_zero_le h3
    obtain ⟨r, ⟨K1, er⟩, nr, dr, vr, lr⟩ := digits_ev l (by omega) hd
    have hfit := norm_fits (n := n) nr dr
    rw [vr] at hfit
    by_cases hV : V 4294967296 l < 256 ^ n
    · obtain ⟨o1, l1, d1, v1, K2, e1⟩ := lbytes_yes l n h1 h2 (by omega) hd hV
      obtain ⟨o2, l2, d2, v2, K3, e2⟩ := high_ev r n (by omega) dr (hfit.2 hV)
      have heq : o1 = o2 := by
        have := list_same (b := 256) (by decide) d1.reverse d2.reverse (by rw [List.length_reverse, List.length_reverse, l1, l2]) (by rw [v1, v2, vr])
        exact List.reverse_inj.1 this
      subst heq
      have hle := hfit.2 hV
      refine ⟨K1 + K2 + K3 + 2, fun m hm => ?_⟩
      obtain ⟨q, rfl⟩ : ∃ q, m = q + 2 := ⟨m - 2, by clear hV; omega⟩
      have e1' : limbs_Bytes.f (q + 1) l (n : Int) = _ := e1 (q + 1) (by clear hV; omega)
      have e2' : sallyportref04_High.f q r (n : Int) = _ := e2 q (by clear hV; omega)
      have er' : sallyportref04_Digits.f q l = _ := er q (by clear hV; omega)
      show sallyportlaw04_LimbsBytes.j2 (q + 2) l (n : Int) = some true
      simp only [sallyportlaw04_LimbsBytes.j2]
      rw [e1', Option.bind_some, law_right, Option.bind_some, decide_eq_true ⟨h1, h2⟩, if_pos rfl, if_neg (by omega), decide_eq_false (by omega)]
      simp only [sallyportlaw04_LimbsBytes.j3]
      rw [if_neg (by simp), er', Option.bind_some, if_neg (by omega), if_pos trivial, e2', Option.bind_some]
      simp
    · obtain ⟨K2, e1⟩ := lbytes_big l n h1 h2 (by omega) hd hV
      have hgt : ¬ r.length ≤ n := fun h => hV (hfit.1 h)
      refine ⟨K1 + K2 + 2, fun m hm => ?_⟩
      obtain ⟨q, rfl⟩ : ∃ q, m = q + 2 := ⟨m - 2, by clear hV; omega⟩
      have e1' : limbs_Bytes.f (q + 1) l (n : Int) = _ := e1 (q + 1) (by clear hV; omega)
      have er' : sallyportref04_Digits.f q l = _ := er q (by clear hV; omega)
      show sallyportlaw04_LimbsBytes.j2 (q + 2) l (n : Int) = some true
      simp only [sallyportlaw04_LimbsBytes.j2]
      rw [e1', Option.bind_some, law_right, Option.bind_some, decide_eq_true ⟨h1, h2⟩, if_pos rfl, if_neg (by omega), decide_eq_false (by omega)]
      simp only [sallyportlaw04_LimbsBytes.j3]
      rw [if_neg (by simp), er', Option.bind_some, if_pos (by omega), if_pos trivial]
      rfl
  · obtain ⟨K1, e1⟩ := lbytes_no l a (by omega)
    obtain ⟨K2, e2⟩ := bytes_j3_no l a
    refine ⟨K1 + K2 + 1, fun m hm => ?_⟩
    obtain ⟨q, rfl⟩ : ∃ q, m = q + 1 := ⟨m - 1, by omega⟩
    have e1' : limbs_Bytes.f q l a = _ := e1 q (by omega)
    have e2' : sallyportlaw04_LimbsBytes.j3 q l a [] 24 true = _ := e2 q (by omega)
    show sallyportlaw04_LimbsBytes.j2 (q + 1) l a = some true
    simp only [sallyportlaw04_LimbsBytes.j2]
    rw [e1', Option.bind_some, law_right, Option.bind_some]
    by_cases c1 : 1 ≤ l.length ∧ l.length ≤ 256
    · rw [decide_eq_true c1, if_pos rfl]
      by_cases c2 : a < 0
      · rw [if_pos c2, e2']
      · rw [if_neg c2, decide_eq_true (by omega), e2']
    · rw [decide_eq_false c1, if_neg (by simp), e2']

theorem wf_i64_range {a : Int} (h : (Lit.int .i64 a).wf = true) : -9223372036854775808 ≤ a ∧ a ≤ 9223372036854775807 := by
  simp only [Lit.wf, Bool.and_eq_true, decide_eq_true_eq] at h
  have e1 : IntKind.i64.min = -9223372036854775808 := rfl
  have e2 : IntKind.i64.max = 9223372036854775807 := rfl
  rw [e1, e2] at h
  exact h

/-- The first half: bytes are read as the number that they are. -/
theorem bytes_first (b : List Int) (a : Int) (l : List Int) (c : Int) (hb : b.length ≤ 1200) (hdb : Dig 256 b) (hl : l.length ≤ 300) (hd : Dig 4294967296 l) : Ev (fun q => sallyportlaw04_LimbsBytes.j0 q b a l c false) true := by
  obtain ⟨K0, e0⟩ := bytes_second l c hl hd
  obtain ⟨r, nr, dr, vr, lr, K1, er⟩ := low_ev b (by omega) hdb
  by_cases hr : 1 ≤ a ∧ a ≤ 256
  · obtain ⟨h1, h2⟩ := hr
    obtain ⟨w, rfl⟩ := Int.eq_ofNat_of_zero_le (a := a) (by omega)
    have hfit := norm_fits (n := 4 * w) nr dr
    rw [vr, Int.pow_mul, show (256 : Int) ^ 4 = 4294967296 from rfl] at hfit
    by_cases hV : V 256 b.reverse < 4294967296 ^ w
    · obtain ⟨n, ln, dn, vn, en⟩ := from_yes w b (by omega) (by omega) (by omega) hdb hV
      obtain ⟨K2, ei⟩ := is_ev n r (by omega) dn dr nr (by omega) (w : Int) (by omega) (by rw [vn, vr])
      have hle := hfit.2 hV
      refine ⟨K0 + K1 + K2 + 2, fun m hm => ?_⟩
      obtain ⟨q, rfl⟩ : ∃ q, m = q + 2 := ⟨m - 2, by clear hV; omega⟩
      have e0' : sallyportlaw04_LimbsBytes.j2 q l c = _ := e0 q (by clear hV; omega)
      have er' : sallyportref04_Low.f (q + 1) b = _ := er (q + 1) (by clear hV; omega)
      have ei' : sallyportlaw04_is.f q n r (w : Int) = _ := ei q (by clear hV; omega)
      have e4 : wrap64 (4 * (w : Int)) = ((4 * w : Nat) : Int) := by clear hV; rw [w64 (by omega) (by omega)]; omega
      show sallyportlaw04_LimbsBytes.j0 (q + 2) b (w : Int) l c false = some true
      simp only [sallyportlaw04_LimbsBytes.j0]
      rw [if_neg (by simp), en, Option.bind_some, er', Option.bind_some, if_neg (by omega), decide_eq_false (by omega)]
      simp only [sallyportlaw04_LimbsBytes.j1]
      rw [if_neg (by simp), e4, if_neg (by omega), if_pos trivial, ei', Option.bind_some, if_pos rfl, e0']
    · have en := from_big w b (by omega) (by omega) (by omega) hdb hV
      have hgt : ¬ r.length ≤ 4 * w := fun h => hV (hfit.1 h)
      refine ⟨K0 + K1 + 2, fun m hm => ?_⟩
      obtain ⟨q, rfl⟩ : ∃ q, m = q + 2 := ⟨m - 2, by clear hV; omega⟩
      have e0' : sallyportlaw04_LimbsBytes.j2 q l c = _ := e0 q (by clear hV; omega)
      have er' : sallyportref04_Low.f (q + 1) b = _ := er (q + 1) (by clear hV; omega)
      have e4 : wrap64 (4 * (w : Int)) = ((4 * w : Nat) : Int) := by clear hV; rw [w64 (by omega) (by omega)]; omega
      show sallyportlaw04_LimbsBytes.j0 (q + 2) b (w : Int) l c false = some true
      simp only [sallyportlaw04_LimbsBytes.j0]
      rw [if_neg (by simp), en, Option.bind_some, er', Option.bind_some, if_neg (by omega), decide_eq_false (by omega)]
      simp only [sallyportlaw04_LimbsBytes.j1]
      rw [if_neg (by simp), e4, if_pos (by omega), if_pos trivial, if_pos (by simp), e0']
  · have en := from_no b a (by omega)
    refine ⟨K0 + K1 + 2, fun m hm => ?_⟩
    obtain ⟨q, rfl⟩ : ∃ q, m = q + 2 := ⟨m - 2, by omega⟩
    have e0' : sallyportlaw04_LimbsBytes.j2 q l c = _ := e0 q (by omega)
    have er' : sallyportref04_Low.f (q + 1) b = _ := er (q + 1) (by omega)
    have e5 : sallyportlaw04_LimbsBytes.j1 (q + 1) a l c [] 24 r true = some true := by
      simp only [sallyportlaw04_LimbsBytes.j1]
      rw [if_pos trivial, if_pos trivial, if_pos (by simp), e0']
    show sallyportlaw04_LimbsBytes.j0 (q + 2) b a l c false = some true
    simp only [sallyportlaw04_LimbsBytes.j0]
    rw [if_neg (by simp), en, Option.bind_some, er', Option.bind_some]
    by_cases c1 : a < 1
    · rw [if_pos c1, e5]
    · rw [if_neg c1, decide_eq_true (by omega), e5]

theorem LimbsBytes : sallyportlaw04_LimbsBytes.Pure := by
  intro b a l c _ _ hb _ _ _ hl _
  obtain ⟨K1, e1⟩ := anchor_ev
  have e3' : ∀ k, sallyportlaw04_LimbsBytes.j0 (k + 1) b a l c true = some true := fun k => by simp [sallyportlaw04_LimbsBytes.j0]
  by_cases h1 : b.length ≤ 1200
  · by_cases h2 : l.length ≤ 300
    · obtain ⟨K2, e2⟩ := bytes_first b a l c h1 (bytes_dig hb) h2 (words_dig hl)
      have e1' : sallyportlaw04_anchor.f (K1 + K2 + 1) = _ := e1 _ (by omega)
      have e2' : sallyportlaw04_LimbsBytes.j0 (K1 + K2 + 1) b a l c false = _ := e2 _ (by omega)
      refine ⟨K1 + K2 + 1, ?_⟩
      unfold sallyportlaw04_LimbsBytes.f
      rw [e1', Option.bind_some, if_pos rfl, if_neg (by omega), decide_eq_false (by omega), e2']
    · have e1' : sallyportlaw04_anchor.f (K1 + 1) = _ := e1 _ (by omega)
      refine ⟨K1 + 1, ?_⟩
      unfold sallyportlaw04_LimbsBytes.f
      rw [e1', Option.bind_some, if_pos rfl, if_neg (by omega), decide_eq_true (by omega), e3']
  · have e1' : sallyportlaw04_anchor.f (K1 + 1) = _ := e1 _ (by omega)
    refine ⟨K1 + 1, ?_⟩
    unfold sallyportlaw04_LimbsBytes.f
    rw [e1', Option.bind_some, if_pos rfl, if_pos (by omega), e3']
end Go.Proofs.Ytcljdpaniinhmaa.Pure
