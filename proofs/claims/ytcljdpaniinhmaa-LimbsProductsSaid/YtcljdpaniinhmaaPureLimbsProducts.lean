/- The law of products is true in plain Lean: the pure side of LimbsProducts. Condition: words. -/
import Derived.Test.YtcljdpaniinhmaaLx3
import Derived.Test.YtcljdpaniinhmaaV3
import Derived.Test.YtcljdpaniinhmaaV4
import Derived.Test.YtcljdpaniinhmaaV5
namespace Go.Proofs.Ytcljdpaniinhmaa.Pure
open Go.RowKit Go.Proofs.Ytcljdpaniinhmaa.L Go.Proofs.YtcljdpaniinhmaaW.PrintWords Go.Proofs.YtcljdpaniinhmaaW.PrintLast
set_option linter.unusedVariables false

theorem products_tail (a b out : List Int) (h1 : 1 ≤ a.length) (h2 : 1 ≤ b.length) (h3 : a.length + b.length ≤ 256) (hA : Dig 4294967296 a) (hB : Dig 4294967296 b)
    (hl : out.length = a.length + b.length) (hd : Dig 4294967296 out) (hV : V 4294967296 out = V 4294967296 a * V 4294967296 b) :
    Ev (fun q => sallyportlaw04_LimbsProducts.j1 q a b out 0 false) true := by
  obtain ⟨ra, ha, na, da, va, la⟩ := digits_ev a (by omega) hA
  obtain ⟨rb, hb, nb, db, vb, lb⟩ := digits_ev b (by omega) hB
  obtain ⟨rm, nm, dm, lm, vm, hm⟩ := rmul_ev ra rb (by omega) (by omega) da db
  have hi := is_ev out rm (by omega) hd dm nm (by omega) (wrap64 ((a.length : Int) + (b.length : Int))) (by rw [w64 (by omega) (by omega)]; omega) (by rw [hV, vm, va, vb])
  refine Ev.step (fun q => ?_) (Ev.bind (f := fun q t => (sallyportref04_Digits.f q b).bind fun u => (sallyportref04_Mul.f q t u).bind fun m => (sallyportlaw04_is.f q out m (wrap64 ((a.length : Int) + (b.length : Int)))).bind fun t194 => some t194) ha
    (Ev.bind (f := fun q u => (sallyportref04_Mul.f q ra u).bind fun m => (sallyportlaw04_is.f q out m (wrap64 ((a.length : Int) + (b.length : Int)))).bind fun t194 => some t194) hb
    (Ev.bind (f := fun q m => (sallyportlaw04_is.f q out m (wrap64 ((a.length : Int) + (b.length : Int)))).bind fun t194 => some t194) hm (Ev.bind (f := fun q t => some t) hi (Ev.now true)))))
  simp only [sallyportlaw04_LimbsProducts.j1]
  rw [if_neg (by simp), if_pos trivial]

theorem products_refused (a b : List Int) : Ev (fun q => sallyportlaw04_LimbsProducts.j1 q a b [] 24 true) true := by
  refine Ev.step (f := fun _ => some true) (fun q => ?_) (Ev.now _)
  simp [sallyportlaw04_LimbsProducts.j1]

theorem products_mid (a b : List Int) (hla : a.length ≤ 300) (hlb : b.length ≤ 300) (hA : Dig 4294967296 a) (hB : Dig 4294967296 b) : Ev (fun q => sallyportlaw04_LimbsProducts.j0 q a b false) true := by
  by_cases hr : 1 ≤ a.length ∧ 1 ≤ b.length ∧ a.length + b.length ≤ 256
  · obtain ⟨h1, h2, h3⟩ := hr
    obtain ⟨out, hl, hd, hV, hm⟩ := lmul_ev a b h1 h2 h3 hA hB
    refine Ev.step (f := fun q => (limbs_Mul.f q a b).bind fun bt => sallyportlaw04_LimbsProducts.j1 q a b bt.1 bt.2 false) (fun q => ?_) (Ev.bind hm (products_tail a b out h1 h2 h3 hA hB hl hd hV))
    simp only [sallyportlaw04_LimbsProducts.j0]
    rw [if_neg (by simp), law_right, law_right, decide_eq_true ⟨h1, by omega⟩, decide_eq_true ⟨h2, by omega⟩, w64 (by omega) (by omega), decide_eq_false (by omega)]
    simp only [Option.bind_some, if_true]
  · have hm := lmul_no a b (by omega) (by omega) (by omega)
    refine Ev.step (f := fun q => (limbs_Mul.f q a b).bind fun bt => sallyportlaw04_LimbsProducts.j1 q a b bt.1 bt.2 true) (fun q => ?_) (Ev.bind hm (products_refused a b))
    simp only [sallyportlaw04_LimbsProducts.j0]
    rw [if_neg (by simp), law_right, law_right]
    congr 1
    funext bt
    by_cases ca : 1 ≤ a.length ∧ a.length ≤ 256
    · rw [decide_eq_true ca]
      by_cases cb : 1 ≤ b.length ∧ b.length ≤ 256
      · rw [decide_eq_true cb, w64 (by omega) (by omega), decide_eq_true (by omega)]
        simp only [Option.bind_some, if_true]
      · rw [decide_eq_false cb]
        simp
    · rw [decide_eq_false ca]
      simp

theorem LimbsProducts : sallyportlaw04_LimbsProducts.Pure := by
  intro a b _ _ ha _ _ hb
  have hA := words_dig ha
  have hB := words_dig hb
  have key : Ev (fun q => sallyportlaw04_LimbsProducts.f q a b) true := by
    have hc := anchor_ev
    by_cases h1 : a.length ≤ 300
    · by_cases h2 : b.length ≤ 300
      · refine Ev.congr (f := fun q => (sallyportlaw04_anchor.f q).bind fun t => if t = true then sallyportlaw04_LimbsProducts.j0 q a b false else some false) (fun q => ?_) (Ev.bind hc (Ev.congr (fun q => ?_) (products_mid a b h1 h2 hA hB)))
        · unfold sallyportlaw04_LimbsProducts.f
          rw [if_neg (by omega), decide_eq_false (by omega)]
        · rfl
      · refine Ev.congr (f := fun q => (sallyportlaw04_anchor.f q).bind fun t => if t = true then sallyportlaw04_LimbsProducts.j0 q a b true else some false) (fun q => ?_) (Ev.bind hc (Ev.step (f := fun _ => some true) (fun q => ?_) (Ev.now true)))
        · unfold sallyportlaw04_LimbsProducts.f
          rw [if_neg (by omega), decide_eq_true (by omega)]
        · simp [sallyportlaw04_LimbsProducts.j0]
    · refine Ev.congr (f := fun q => (sallyportlaw04_anchor.f q).bind fun t => if t = true then sallyportlaw04_LimbsProducts.j0 q a b true else some false) (fun q => ?_) (Ev.bind hc (Ev.step (f := fun _ => some true) (fun q => ?_) (Ev.now true)))
      · unfold sallyportlaw04_LimbsProducts.f
        rw [if_pos (by omega)]
      · simp [sallyportlaw04_LimbsProducts.j0]
  obtain ⟨K, h⟩ := key
  exact ⟨K, h K (Nat.le_refl _)⟩
end Go.Proofs.Ytcljdpaniinhmaa.Pure
