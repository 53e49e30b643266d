/- The law of sums and differences is true in plain Lean: the pure side of LimbsSums. Condition: words. -/
import Derived.Test.YtcljdpaniinhmaaLx5
import Derived.Test.YtcljdpaniinhmaaV4
import Derived.Test.YtcljdpaniinhmaaV6
import Derived.Test.YtcljdpaniinhmaaV7
import Derived.Test.YtcljdpaniinhmaaV8
namespace Go.Proofs.Ytcljdpaniinhmaa.Pure
open Go.RowKit Go.Proofs.Ytcljdpaniinhmaa.L Go.Proofs.YtcljdpaniinhmaaW.PrintWords Go.Proofs.YtcljdpaniinhmaaW.PrintLast
set_option linter.unusedVariables false

theorem cmpI_ge {x y : Int} : cmpI x y ≥ 0 ↔ y ≤ x := by
  unfold cmpI
  by_cases h : x < y
  · rw [if_pos h]; omega
  · rw [if_neg h]
    by_cases h2 : y < x
    · rw [if_pos h2]; omega
    · rw [if_neg h2]; omega

theorem cmpI_lt {x y : Int} : cmpI x y < 0 ↔ x < y := by
  unfold cmpI
  by_cases h : x < y
  · rw [if_pos h]; omega
  · rw [if_neg h]
    by_cases h2 : y < x
    · rw [if_pos h2]; omega
    · rw [if_neg h2]; omega

theorem pow_words (n : Nat) : (256 : Int) ^ (4 * n) = 4294967296 ^ n := by rw [Int.pow_mul]; rfl

/-- What goes over is told by the value. -/
theorem carry_is {o cy s X : Int} (h : o + cy * X = s) (ho0 : 0 ≤ o) (ho1 : o < X) (c0 : 0 ≤ cy) (c1 : cy ≤ 1) : (cy == 1) = decide (X ≤ s) ∧ (X ≤ s → o = s - X) ∧ (¬ X ≤ s → o = s) := by
  rcases (show cy = 0 ∨ cy = 1 by omega) with rfl | rfl
  · rw [Int.zero_mul] at h
    exact ⟨by rw [decide_eq_false (by omega)]; rfl, by omega, by omega⟩
  · rw [Int.one_mul] at h
    exact ⟨by rw [decide_eq_true (by omega)]; rfl, by omega, by omega⟩

theorem borrow_val {o bw a b X : Int} (h : o - bw * X = a - b) (ho0 : 0 ≤ o) (ho1 : o < X) (ha : 0 ≤ a) (hb : b < X) (ha1 : a < X) (hb0 : 0 ≤ b) (c0 : 0 ≤ bw) (c1 : bw ≤ 1) : (bw == 1) = decide (a < b) ∧ (a < b → o = a + X - b) ∧ (¬ a < b → o = a - b) := by
  rcases (show bw = 0 ∨ bw = 1 by omega) with rfl | rfl
  · rw [Int.zero_mul] at h
    exact ⟨by rw [decide_eq_false (by omega)]; rfl, by omega, by omega⟩
  · rw [Int.one_mul] at h
    exact ⟨by rw [decide_eq_true (by omega)]; rfl, by omega, by omega⟩

/-- The difference is held against the document's. -/
theorem sums_diff (a s d da db p m : List Int) (over under ov : Bool) (hn2 : a.length ≤ 256) (hls : s.length = a.length) (hds : Dig 4294967296 s) (hld : d.length = a.length) (hdd : Dig 4294967296 d)
    (na : Norm da) (ga : Dig 256 da) (la : da.length ≤ 1500) (nb : Norm db) (gb : Dig 256 db) (lb : db.length ≤ 1500) (gp : Dig 256 p) (lp : p.length ≤ 1500) (nm : Norm m) (gm : Dig 256 m) (lm : m.length ≤ 3000)
    (hover : over = ov) (hsum : V 4294967296 s = V 256 m) (hunder : under = decide (V 256 da < V 256 db)) (hdlt : V 256 da < V 256 db → V 4294967296 d = V 256 da + V 256 p - V 256 db) (hdge : ¬ V 256 da < V 256 db → V 4294967296 d = V 256 da - V 256 db) (hbp : V 256 db ≤ V 256 p) (ha0 : 0 ≤ V 256 da) :
    Ev (fun q => sallyportlaw04_LimbsSums.j2 q a s over 0 d under 0 da db p m ov) true := by
  obtain ⟨K1, hc⟩ := compare_ev da db ga gb na nb (by omega) (by omega)
  obtain ⟨K2, hi⟩ := is_ev s m (by omega) hds gm nm (by omega) (a.length : Int) (by omega) hsum
  by_cases hlt : V 256 da < V 256 db
  · obtain ⟨r1, n1, g1, l1, v1, K3, e1⟩ := radd_ev da p 1500 la lp (by omega) ga gp
    obtain ⟨r2, n2, g2, l2, v2, K4, e2⟩ := rsub_ev r1 db (by omega) g1 gb n1 nb (by omega)
    obtain ⟨K5, hi2⟩ := is_ev d r2 (by omega) hdd g2 n2 (by omega) (a.length : Int) (by omega) (by rw [hdlt hlt]; omega)
    have hneg : cmpI (V 256 da) (V 256 db) < 0 := cmpI_lt.2 hlt
    refine ⟨K1 + K2 + K3 + K4 + K5 + 1, fun n hn => ?_⟩
    obtain ⟨q, rfl⟩ : ∃ q, n = q + 1 := ⟨n - 1, by omega⟩
    have hc' : sallyportref04_Compare.f q da db = _ := hc q (by omega)
    have hi' : sallyportlaw04_is.f q s m a.length = _ := hi q (by omega)
    have e1' : sallyportref04_Add.f q da p = _ := e1 q (by omega)
    have e2' : sallyportref04_Sub.f q r1 db = _ := e2 q (by omega)
    have hi2' : sallyportlaw04_is.f q d r2 a.length = _ := hi2 q (by omega)
    show sallyportlaw04_LimbsSums.j2 (q + 1) a s over 0 d under 0 da db p m ov = some true
    simp only [sallyportlaw04_LimbsSums.j2]
    rw [hc', Option.bind_some, if_pos hneg, e1', Option.bind_some, if_pos trivial, if_pos (by rw [hover]; exact beq_self_eq_true _), hi', Option.bind_some, if_pos rfl, if_pos trivial, hunder, decide_eq_true hlt, decide_eq_true hneg, if_pos (by decide), e2', Option.bind_some, hi2', Option.bind_some]
  · obtain ⟨r2, n2, g2, l2, v2, K4, e2⟩ := rsub_ev da db (by omega) ga gb na nb (by omega)
    obtain ⟨K5, hi2⟩ := is_ev d r2 (by omega) hdd g2 n2 (by omega) (a.length : Int) (by omega) (by rw [hdge hlt]; omega)
    have hneg : ¬ cmpI (V 256 da) (V 256 db) < 0 := fun h => hlt (cmpI_lt.1 h)
    refine ⟨K1 + K2 + K4 + K5 + 1, fun n hn => ?_⟩
    obtain ⟨q, rfl⟩ : ∃ q, n = q + 1 := ⟨n - 1, by omega⟩
    have hc' : sallyportref04_Compare.f q da db = _ := hc q (by omega)
    have hi' : sallyportlaw04_is.f q s m a.length = _ := hi q (by omega)
    have e2' : sallyportref04_Sub.f q da db = _ := e2 q (by omega)
    have hi2' : sallyportlaw04_is.f q d r2 a.length = _ := hi2 q (by omega)
    show sallyportlaw04_LimbsSums.j2 (q + 1) a s over 0 d under 0 da db p m ov = some true
    simp only [sallyportlaw04_LimbsSums.j2]
    rw [hc', Option.bind_some, if_neg hneg, if_pos trivial, if_pos (by rw [hover]; exact beq_self_eq_true _), hi', Option.bind_some, if_pos rfl, if_pos trivial, hunder, decide_eq_false hlt, decide_eq_false hneg, if_pos (by decide), e2', Option.bind_some, hi2', Option.bind_some]

theorem sums_tail (a b s d : List Int) (cy bw : Int) (h1 : 1 ≤ a.length) (h2 : a.length ≤ 256) (h3 : b.length = a.length) (hA : Dig 4294967296 a) (hB : Dig 4294967296 b)
    (hls : s.length = a.length) (hds : Dig 4294967296 s) (c0 : 0 ≤ cy) (c1 : cy ≤ 1) (hs : V 4294967296 s + cy * 4294967296 ^ a.length = V 4294967296 a + V 4294967296 b)
    (hld : d.length = a.length) (hdd : Dig 4294967296 d) (b0 : 0 ≤ bw) (b1 : bw ≤ 1) (hd : V 4294967296 d - bw * 4294967296 ^ a.length = V 4294967296 a - V 4294967296 b) :
    Ev (fun q => sallyportlaw04_LimbsSums.j1 q a b s (cy == 1) 0 d (bw == 1) 0 false) true := by
  obtain ⟨da, ⟨K1, ea⟩, na, ga, va, la⟩ := digits_ev a (by omega) hA
  obtain ⟨db, ⟨K2, eb⟩, nb, gb, vb, lb⟩ := digits_ev b (by omega) hB
  obtain ⟨np, gp, lp, vp⟩ := power_facts (4 * a.length)
  have hp := power_list (4 * a.length)
  rw [if_pos (by omega), show 8 * ((4 * a.length : Nat) : Int) = wrap64 (32 * (a.length : Int)) by rw [w64 (by omega) (by omega)]; omega] at hp
  obtain ⟨p, hpe⟩ : ∃ p, (List.replicate (4 * a.length + 1) (0 : Int)).set (4 * a.length) 1 = p := ⟨_, rfl⟩
  rw [hpe] at np gp lp vp hp
  rw [pow_words] at vp
  obtain ⟨t, nt, gt, lt, vt, K3, et⟩ := radd_ev da db 1200 (by omega) (by omega) (by omega) ga gb
  obtain ⟨K4, hc⟩ := compare_ev t p gt gp nt np (by omega) (by omega)
  have bA := V_bound (by decide) hA
  have bB := V_bound (by decide) hB
  have bS := V_bound (by decide) hds
  have bD := V_bound (by decide) hdd
  rw [h3] at bB
  rw [hls] at bS
  rw [hld] at bD
  obtain ⟨X, hX⟩ : ∃ X : Int, 4294967296 ^ a.length = X := ⟨_, rfl⟩
  rw [hX] at bA bB bS bD hs hd vp
  obtain ⟨cA, cB, cC⟩ := carry_is hs bS.1 bS.2 c0 c1
  obtain ⟨dA, dB, dC⟩ := borrow_val hd bD.1 bD.2 bA.1 bB.2 bA.2 bB.1 b0 b1
  have core : ∀ m, Norm m → Dig 256 m → m.length ≤ 3000 → V 4294967296 s = V 256 m → Ev (fun q => sallyportlaw04_LimbsSums.j2 q a s (cy == 1) 0 d (bw == 1) 0 da db p m (decide (cmpI (V 256 t) (V 256 p) ≥ 0))) true := fun m nm gm lm hm =>
    sums_diff a s d da db p m (cy == 1) (bw == 1) _ h2 hls hds hld hdd na ga (by omega) nb gb (by omega) gp (by omega) nm gm lm (by rw [cA, decide_eq_decide, cmpI_ge, vt, va, vb, vp]) hm (by rw [dA, va, vb]) (by rw [va, vb, vp]; exact dB) (by rw [va, vb]; exact dC) (by omega) (by omega)
  by_cases hge : cmpI (V 256 t) (V 256 p) ≥ 0
  · have hle : V 256 p ≤ V 256 t := cmpI_ge.1 hge
    obtain ⟨m, nm, gm, lm, vm, K5, em⟩ := rsub_ev t p (by omega) gt gp nt np hle
    obtain ⟨K6, hcore⟩ := core m nm gm (by omega) (by rw [vm, vt, va, vb, vp]; exact cB (by omega))
    refine ⟨K1 + K2 + K3 + K4 + K5 + K6 + 1, fun n hn => ?_⟩
    obtain ⟨q, rfl⟩ : ∃ q, n = q + 1 := ⟨n - 1, by clear hs hd; omega⟩
    have ea' : sallyportref04_Digits.f q a = _ := ea q (by clear hs hd; omega)
    have eb' : sallyportref04_Digits.f q b = _ := eb q (by clear hs hd; omega)
    have et' : sallyportref04_Add.f q da db = _ := et q (by clear hs hd; omega)
    have hc' : sallyportref04_Compare.f q t p = _ := hc q (by clear hs hd; omega)
    have em' : sallyportref04_Sub.f q t p = _ := em q (by clear hs hd; omega)
    have hcore' : sallyportlaw04_LimbsSums.j2 q a s (cy == 1) 0 d (bw == 1) 0 da db p m (decide (cmpI (V 256 t) (V 256 p) ≥ 0)) = _ := hcore q (by clear hs hd; omega)
    show sallyportlaw04_LimbsSums.j1 (q + 1) a b s (cy == 1) 0 d (bw == 1) 0 false = some true
    simp only [sallyportlaw04_LimbsSums.j1]
    rw [if_neg (by simp), ea', Option.bind_some, eb', Option.bind_some, hp, Option.bind_some, et', Option.bind_some, hc', Option.bind_some, if_pos hge, em', Option.bind_some, hcore']
  · have hle : ¬ V 256 p ≤ V 256 t := fun h => hge (cmpI_ge.2 h)
    obtain ⟨K6, hcore⟩ := core t nt gt (by omega) (by rw [vt, va, vb]; exact cC (by omega))
    refine ⟨K1 + K2 + K3 + K4 + K6 + 1, fun n hn => ?_⟩
    obtain ⟨q, rfl⟩ : ∃ q, n = q + 1 := ⟨n - 1, by clear hs hd; omega⟩
    have ea' : sallyportref04_Digits.f q a = _ := ea q (by clear hs hd; omega)
    have eb' : sallyportref04_Digits.f q b = _ := eb q (by clear hs hd; omega)
    have et' : sallyportref04_Add.f q da db = _ := et q (by clear hs hd; omega)
    have hc' : sallyportref04_Compare.f q t p = _ := hc q (by clear hs hd; omega)
    have hcore' : sallyportlaw04_LimbsSums.j2 q a s (cy == 1) 0 d (bw == 1) 0 da db p t (decide (cmpI (V 256 t) (V 256 p) ≥ 0)) = _ := hcore q (by clear hs hd; omega)
    show sallyportlaw04_LimbsSums.j1 (q + 1) a b s (cy == 1) 0 d (bw == 1) 0 false = some true
    simp only [sallyportlaw04_LimbsSums.j1]
    rw [if_neg (by simp), ea', Option.bind_some, eb', Option.bind_some, hp, Option.bind_some, et', Option.bind_some, hc', Option.bind_some, if_neg hge, hcore']

theorem sums_refused (a b : List Int) : Ev (fun q => sallyportlaw04_LimbsSums.j1 q a b [] false 24 [] false 24 true) true := by
  refine Ev.step (f := fun _ => some true) (fun q => ?_) (Ev.now _)
  simp [sallyportlaw04_LimbsSums.j1, wrap64]

theorem sums_mid (a b : List Int) (hA : Dig 4294967296 a) (hB : Dig 4294967296 b) : Ev (fun q => sallyportlaw04_LimbsSums.j0 q a b false) true := by
  by_cases hr : (1 ≤ a.length ∧ a.length ≤ 256 ∧ 1 ≤ b.length ∧ b.length ≤ 256) ∧ a.length = b.length
  · obtain ⟨⟨h1, h2, h3, h4⟩, h5⟩ := hr
    obtain ⟨s, cy, hls, hds, c0, c1, hs, K1, e1⟩ := ladd_ev a b h1 h2 h5.symm hA hB
    obtain ⟨d, bw, hld, hdd, b0, b1, hd, K2, e2⟩ := lsub_ev a b h1 h2 h5.symm hA hB
    obtain ⟨K3, e3⟩ := sums_tail a b s d cy bw h1 h2 h5.symm hA hB hls hds c0 c1 hs hld hdd b0 b1 hd
    refine ⟨K1 + K2 + K3 + 1, fun n hn => ?_⟩
    obtain ⟨q, rfl⟩ : ∃ q, n = q + 1 := ⟨n - 1, by clear hs hd; omega⟩
    have e1' : limbs_Add.f q a b = _ := e1 q (by clear hs hd; omega)
    have e2' : limbs_Sub.f q a b = _ := e2 q (by clear hs hd; omega)
    have e3' : sallyportlaw04_LimbsSums.j1 q a b s (cy == 1) 0 d (bw == 1) 0 false = _ := e3 q (by clear hs hd; omega)
    have hne : ((a.length : Int) != (b.length : Int)) = false := by rw [h5]; simp
    show sallyportlaw04_LimbsSums.j0 (q + 1) a b false = some true
    simp only [sallyportlaw04_LimbsSums.j0]
    rw [if_neg (by simp), e1', Option.bind_some, e2', Option.bind_some, law_right, law_right, decide_eq_true ⟨h1, h2⟩, decide_eq_true ⟨h3, h4⟩, Option.bind_some, if_pos rfl, Option.bind_some, if_pos rfl, hne, e3']
  · obtain ⟨K1, e1⟩ := ladd_no a b (by omega)
    obtain ⟨K2, e2⟩ := lsub_no a b (by omega)
    obtain ⟨K3, e3⟩ := sums_refused a b
    refine ⟨K1 + K2 + K3 + 1, fun n hn => ?_⟩
    obtain ⟨q, rfl⟩ : ∃ q, n = q + 1 := ⟨n - 1, by omega⟩
    have e1' : limbs_Add.f q a b = _ := e1 q (by omega)
    have e2' : limbs_Sub.f q a b = _ := e2 q (by omega)
    have e3' : sallyportlaw04_LimbsSums.j1 q a b [] false 24 [] false 24 true = _ := e3 q (by omega)
    show sallyportlaw04_LimbsSums.j0 (q + 1) a b false = some true
    simp only [sallyportlaw04_LimbsSums.j0]
    rw [if_neg (by simp), e1', Option.bind_some, e2', Option.bind_some, law_right, law_right, Option.bind_some]
    by_cases ca : 1 ≤ a.length ∧ a.length ≤ 256
    · rw [decide_eq_true ca, if_pos rfl, Option.bind_some]
      by_cases cb : 1 ≤ b.length ∧ b.length ≤ 256
      · have hne : ((a.length : Int) != (b.length : Int)) = true := by rw [bne_iff_ne]; omega
        rw [decide_eq_true cb, if_pos rfl, hne, e3']
      · rw [decide_eq_false cb, if_neg (by simp), e3']
    · rw [decide_eq_false ca, if_neg (by simp), e3']

theorem LimbsSums : sallyportlaw04_LimbsSums.Pure := by
  intro a b _ _ ha _ _ hb
  obtain ⟨K1, e1⟩ := anchor_ev
  obtain ⟨K2, e2⟩ := sums_mid a b (words_dig ha) (words_dig hb)
  have e1' : sallyportlaw04_anchor.f (K1 + K2 + 1) = _ := e1 _ (by omega)
  have e2' : sallyportlaw04_LimbsSums.j0 (K1 + K2 + 1) a b false = _ := e2 _ (by omega)
  have e3' : sallyportlaw04_LimbsSums.j0 (K1 + K2 + 1) a b true = some true := by simp [sallyportlaw04_LimbsSums.j0]
  refine ⟨K1 + K2 + 1, ?_⟩
  unfold sallyportlaw04_LimbsSums.f
  rw [e1', Option.bind_some, if_pos rfl]
  by_cases h1 : (a.length : Int) > 300
  · rw [if_pos h1, e3']
  · rw [if_neg h1]
    by_cases h2 : (b.length : Int) > 300
    · rw [decide_eq_true h2, e3']
    · rw [decide_eq_false h2, e2']
end Go.Proofs.Ytcljdpaniinhmaa.Pure
