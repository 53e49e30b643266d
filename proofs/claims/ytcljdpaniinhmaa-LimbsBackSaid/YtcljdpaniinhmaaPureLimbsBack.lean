/- The law of what is taken away again is true in plain Lean: the pure side of LimbsBack. Condition: words. -/
import Derived.Test.YtcljdpaniinhmaaLx9
import Derived.Test.YtcljdpaniinhmaaV4
import Derived.Test.YtcljdpaniinhmaaV6
import Derived.Test.YtcljdpaniinhmaaV7
import Derived.Test.YtcljdpaniinhmaaV10
namespace Go.Proofs.Ytcljdpaniinhmaa.Pure
open Go.RowKit Go.Proofs.Ytcljdpaniinhmaa.L Go.Proofs.YtcljdpaniinhmaaW.PrintWords Go.Proofs.YtcljdpaniinhmaaW.PrintLast
set_option linter.unusedVariables false

/-- Two sums with what goes over are the same, if they come to the same. -/
theorem same_carry {o1 o2 c1 c2 s X : Int} (h1 : o1 + c1 * X = s) (h2 : o2 + c2 * X = s) (a0 : 0 ≤ o1) (a1 : o1 < X) (b0 : 0 ≤ o2) (b1 : o2 < X) (c10 : 0 ≤ c1) (c11 : c1 ≤ 1) (c20 : 0 ≤ c2) (c21 : c2 ≤ 1) : c1 = c2 ∧ o1 = o2 := by
  rcases (show c1 = 0 ∨ c1 = 1 by omega) with rfl | rfl
  · rcases (show c2 = 0 ∨ c2 = 1 by omega) with rfl | rfl
    · rw [Int.zero_mul] at h1 h2
      omega
    · rw [Int.zero_mul] at h1
      rw [Int.one_mul] at h2
      omega
  · rcases (show c2 = 0 ∨ c2 = 1 by omega) with rfl | rfl
    · rw [Int.one_mul] at h1
      rw [Int.zero_mul] at h2
      omega
    · rw [Int.one_mul] at h1 h2
      omega

theorem back_sum {s c d w a b X : Int} (h1 : s + c * X = a + b) (h2 : d - w * X = s - b) : d + c * X = a + w * X := by
  generalize c * X = y at h1 ⊢
  generalize w * X = z at h2 ⊢
  omega

/-- What was carried is what is borrowed. -/
theorem same_back {d c w a X : Int} (h : d + c * X = a + w * X) (d0 : 0 ≤ d) (d1 : d < X) (a0 : 0 ≤ a) (a1 : a < X) (c0 : 0 ≤ c) (c1 : c ≤ 1) (w0 : 0 ≤ w) (w1 : w ≤ 1) : w = c ∧ d = a := by
  obtain ⟨e1, e2⟩ := same_carry h rfl d0 d1 a0 a1 c0 c1 w0 w1
  exact ⟨e1.symm, e2⟩

theorem back_loop (s a : List Int) (hl : s.length = a.length) (ha : a.length ≤ 256) : ∀ (c i : Nat), c + i = a.length → Ev (fun q => sallyportlaw04_LimbsBack.l0 q s s a a a (a.length : Int) (i : Int)) true
  | 0, i, hc => by
    refine Ev.step (f := fun _ => some true) (fun q => ?_) (Ev.now _)
    simp only [sallyportlaw04_LimbsBack.l0]
    rw [if_neg (by omega)]
  | c + 1, i, hc => by
    have g1 : (i : Int) < (a.length : Int) := by omega
    have g2 : (0 : Int) ≤ (i : Int) := by omega
    have g3 : (i : Int) < (s.length : Int) := by omega
    have e : wrap64 ((i : Int) + 1) = ((i + 1 : Nat) : Int) := by rw [w64 (by omega) (by omega)]; omega
    refine Ev.step (fun q => ?_) (back_loop s a hl ha c (i + 1) (by omega))
    simp only [sallyportlaw04_LimbsBack.l0]
    rw [if_pos g1, if_pos g2, if_pos g1, if_pos g3, if_pos g3, if_pos trivial, if_pos g1, if_pos trivial, if_pos g1, if_pos trivial, e]

theorem back_mid (a b : List Int) (h1 : 1 ≤ a.length) (h2 : a.length ≤ 256) (h3 : b.length = a.length) (hA : Dig 4294967296 a) (hB : Dig 4294967296 b) : Ev (fun q => sallyportlaw04_LimbsBack.j0 q a b false) true := by
  obtain ⟨s, cy, ls, ds, c0, c1, hs, K1, e1⟩ := ladd_ev a b h1 h2 h3 hA hB
  obtain ⟨s2, cy2, ls2, ds2, p0, p1, hs2, K2, e2⟩ := ladd_ev b a (by omega) (by omega) h3.symm hB hA
  obtain ⟨d, bw, ld, dd, b0, b1, hd, K3, e3⟩ := lsub_ev s b (by omega) (by omega) (by omega) ds hB
  have bA := V_bound (b := 4294967296) (by decide) hA
  have bS := V_bound (b := 4294967296) (by decide) ds
  have bS2 := V_bound (b := 4294967296) (by decide) ds2
  have bD := V_bound (b := 4294967296) (by decide) dd
  have hV : V 4294967296 a < 256 ^ (4 * a.length) := by
    rw [Int.pow_mul]
    exact bA.2
  obtain ⟨bs, lb, db, vb, K4, e4⟩ := lbytes_yes a (4 * a.length) h1 h2 (by clear hV hs hs2 hd bA bS bS2 bD; omega) hA hV
  obtain ⟨n, ln, dn, vn, e5⟩ := from_yes a.length bs h1 h2 (by clear hV hs hs2 hd bA bS bS2 bD; omega) db (by rw [vb]; exact bA.2)
  have hn : n = a := list_same (b := 4294967296) (by decide) dn hA ln (by rw [vn, vb])
  subst hn
  rw [ls] at bS
  rw [ls2, h3] at bS2
  rw [ld, ls] at bD
  rw [h3, Int.add_comm (V 4294967296 b)] at hs2
  rw [ls] at hd
  obtain ⟨q1, q2⟩ := same_carry hs hs2 bS.1 bS.2 bS2.1 bS2.2 c0 c1 p0 p1
  have hss : s = s2 := list_same (b := 4294967296) (by decide) ds ds2 (by omega) q2
  subst hss
  subst q1
  obtain ⟨q3, q4⟩ := same_back (back_sum hs hd) bD.1 bD.2 bA.1 bA.2 c0 c1 b0 b1
  have hdd : d = n := list_same (b := 4294967296) (by decide) dd hA (by omega) q4
  subst hdd
  subst q3
  clear hs hs2 hd hV bA bS bS2 bD
  obtain ⟨K5, e6⟩ := back_loop s d ls h2 d.length 0 (by omega)
  have ew : wrap64 (4 * (d.length : Int)) = ((4 * d.length : Nat) : Int) := by rw [w64 (by omega) (by omega)]; omega
  refine ⟨K1 + K2 + K3 + K4 + K5 + 2, fun m hm => ?_⟩
  obtain ⟨q, rfl⟩ : ∃ q, m = q + 2 := ⟨m - 2, by omega⟩
  have e1' : limbs_Add.f (q + 1) d b = _ := e1 (q + 1) (by omega)
  have e2' : limbs_Add.f (q + 1) b d = _ := e2 (q + 1) (by omega)
  have e3' : limbs_Sub.f (q + 1) s b = _ := e3 (q + 1) (by omega)
  have e4' : limbs_Bytes.f (q + 1) d ((4 * d.length : Nat) : Int) = _ := e4 (q + 1) (by omega)
  have e6' : sallyportlaw04_LimbsBack.l0 q s s d d d (d.length : Int) ((0 : Nat) : Int) = _ := e6 q (by omega)
  have hls : (s.length : Int) = (d.length : Int) := by omega
  show sallyportlaw04_LimbsBack.j0 (q + 2) d b false = some true
  simp only [sallyportlaw04_LimbsBack.j0]
  rw [if_neg (by simp), e1', Option.bind_some, e2', Option.bind_some, e3', Option.bind_some, ew, e4', Option.bind_some, e5, Option.bind_some, if_pos rfl, if_pos rfl, if_pos rfl, if_pos rfl, if_pos rfl, if_neg (by simp), if_neg (by simp), if_pos hls, if_pos rfl]
  simp only [sallyportlaw04_LimbsBack.j1]
  rw [if_neg (by simp)]
  exact e6'

theorem LimbsBack : sallyportlaw04_LimbsBack.Pure := by
  intro a b _ _ ha _ _ hb
  have hA := words_dig ha
  have hB := words_dig hb
  obtain ⟨K1, e1⟩ := anchor_ev
  have e3' : ∀ k, sallyportlaw04_LimbsBack.j0 (k + 1) a b true = some true := fun k => by simp [sallyportlaw04_LimbsBack.j0]
  by_cases ra : 1 ≤ a.length ∧ a.length ≤ 256
  · by_cases rb : 1 ≤ b.length ∧ b.length ≤ 256
    · by_cases hl : b.length = a.length
      · obtain ⟨K2, e2⟩ := back_mid a b ra.1 ra.2 hl hA hB
        have e1' : sallyportlaw04_anchor.f (K1 + K2 + 1) = _ := e1 _ (by omega)
        have e2' : sallyportlaw04_LimbsBack.j0 (K1 + K2 + 1) a b false = _ := e2 _ (by omega)
        have hne : ((a.length : Int) != (b.length : Int)) = false := by rw [hl]; simp
        refine ⟨K1 + K2 + 1, ?_⟩
        unfold sallyportlaw04_LimbsBack.f
        rw [e1', Option.bind_some, if_pos rfl, law_right, law_right, decide_eq_true ra, decide_eq_true rb, Option.bind_some, if_pos rfl, Option.bind_some, if_pos rfl, hne, e2']
      · have e1' : sallyportlaw04_anchor.f (K1 + 1) = _ := e1 _ (by omega)
        have hne : ((a.length : Int) != (b.length : Int)) = true := by rw [bne_iff_ne]; omega
        refine ⟨K1 + 1, ?_⟩
        unfold sallyportlaw04_LimbsBack.f
        rw [e1', Option.bind_some, if_pos rfl, law_right, law_right, decide_eq_true ra, decide_eq_true rb, Option.bind_some, if_pos rfl, Option.bind_some, if_pos rfl, hne, e3']
    · have e1' : sallyportlaw04_anchor.f (K1 + 1) = _ := e1 _ (by omega)
      refine ⟨K1 + 1, ?_⟩
      unfold sallyportlaw04_LimbsBack.f
      rw [e1', Option.bind_some, if_pos rfl, law_right, law_right, decide_eq_true ra, decide_eq_false rb, Option.bind_some, if_pos rfl, Option.bind_some, if_neg (by simp), e3']
  · have e1' : sallyportlaw04_anchor.f (K1 + 1) = _ := e1 _ (by omega)
    refine ⟨K1 + 1, ?_⟩
    unfold sallyportlaw04_LimbsBack.f
    rw [e1', Option.bind_some, if_pos rfl, law_right, decide_eq_false ra, Option.bind_some, if_neg (by simp), e3']
end Go.Proofs.Ytcljdpaniinhmaa.Pure
