/- What the reference's Low and High answer: the digits of bytes; the bytes of digits. Condition: bytes, digits. -/
import Derived.Test.YtcljdpaniinhmaaV9
import Derived.Test.YtcljdpaniinhmaaLx5
import Derived.Test.YtcljdpaniinhmaaLx6
namespace Go.Proofs.Ytcljdpaniinhmaa.Pure
open Go.RowKit Go.Proofs.Ytcljdpaniinhmaa.L Go.Proofs.YtcljdpaniinhmaaW.PrintWords Go.Proofs.YtcljdpaniinhmaaW.PrintLast
set_option linter.unusedVariables false

theorem low_loop (l : List Int) (hl : l.length ≤ 100000) (hd : Dig 256 l) : ∀ (i : Nat), i ≤ l.length →
    ∃ r, Norm r ∧ Dig 256 r ∧ V 256 r = V 256 l.reverse ∧ r.length ≤ l.length ∧ Ev (fun k => sallyportref04_Low.l0 k l (l.drop i).reverse ((i : Int) - 1)) r
  | 0, _ => by
    obtain ⟨r, hr, nr, dr, vr, lr⟩ := trim_ev l.reverse (by rw [List.length_reverse]; exact hl) hd.reverse
    rw [List.length_reverse] at lr
    refine ⟨r, nr, dr, vr, lr, Ev.step (f := fun k => (sallyportref04_Trim.f k l.reverse).bind fun t => some t) (fun k => ?_) (Ev.bind hr (Ev.now _))⟩
    simp only [sallyportref04_Low.l0]
    rw [if_neg (by omega)]
    rfl
  | i + 1, hi => by
    obtain ⟨r, nr, dr, vr, lr, hr⟩ := low_loop l hl hd i (by omega)
    have hlt : i < l.length := by omega
    have hdi := hd.dg (by decide) i
    have e0 : (((i + 1 : Nat) : Int) - 1) = (i : Int) := by omega
    have e1 : wrap64 ((i : Int) - 1) = (i : Int) - 1 := w64 (by omega) (by omega)
    have e2 : wrap64 (dg l i) = dg l i := w64 (by omega) (by omega)
    have e3 : (l.drop (i + 1)).reverse ++ [dg l i] = (l.drop i).reverse := by
      rw [List.drop_eq_getElem_cons hlt, List.reverse_cons, dg_lt hlt]
    have g1 : (i : Int) ≥ 0 := by omega
    have g2 : (i : Int) < (l.length : Int) := by omega
    have g3 : (l.drop (i + 1)).reverse.length < 17592186044416 := by rw [List.length_reverse, List.length_drop]; omega
    refine ⟨r, nr, dr, vr, lr, Ev.step (fun k => ?_) hr⟩
    rw [e0]
    simp only [sallyportref04_Low.l0]
    rw [if_pos g1, if_pos g1, if_pos g2, if_pos g3, rd_dg, e2, e1, e3]

/-- The digits of bytes. -/
theorem low_ev (l : List Int) (hl : l.length ≤ 100000) (hd : Dig 256 l) : ∃ r, Norm r ∧ Dig 256 r ∧ V 256 r = V 256 l.reverse ∧ r.length ≤ l.length ∧ Ev (fun k => sallyportref04_Low.f k l) r := by
  obtain ⟨r, nr, dr, vr, lr, hr⟩ := low_loop l hl hd l.length (Nat.le_refl _)
  refine ⟨r, nr, dr, vr, lr, Ev.congr (fun k => ?_) hr⟩
  unfold sallyportref04_Low.f
  rw [w64 (by omega) (by omega), List.drop_length]
  rfl

theorem high_loop (r : List Int) (n : Nat) (hn : n ≤ 1024) (hd : Dig 256 r) (hr : r.length ≤ n) : ∀ (c i : Nat) (out : List Int), c + i = r.length → out.length = n → (∀ j, j < n → dg out j = if n - 1 - j < i then dg r (n - 1 - j) else 0) →
    ∃ out', out'.length = n ∧ (∀ j, j < n → dg out' j = dg r (n - 1 - j)) ∧ Ev (fun q => sallyportref04_High.l0 q r (n : Int) out (i : Int)) out'
  | 0, i, out, hc, hlen, h => by
    refine ⟨out, hlen, fun j hj => ?_, Ev.step (f := fun _ => some out) (fun q => ?_) (Ev.now _)⟩
    · rw [h j hj]
      by_cases c : n - 1 - j < i
      · rw [if_pos c]
      · rw [if_neg c, dg_above (by omega)]
    · simp only [sallyportref04_High.l0]
      rw [if_neg (by omega)]
  | c + 1, i, out, hc, hlen, h => by
    have hi := hd.dg (by decide) i
    have hlt : n - 1 - i < out.length := by omega
    have g1 : (i : Int) < (r.length : Int) := by omega
    have g2 : (i : Int) < (n : Int) := by omega
    have g3 : (0 : Int) ≤ (i : Int) := by omega
    have e1 : wrap64 (wrap64 ((n : Int) - 1) - (i : Int)) = ((n - 1 - i : Nat) : Int) := by rw [w64 (n := (n : Int) - 1) (by omega) (by omega), w64 (by omega) (by omega)]; omega
    have g4 : (0 : Int) ≤ ((n - 1 - i : Nat) : Int) := by omega
    have g5 : ((n - 1 - i : Nat) : Int) < (out.length : Int) := by omega
    have e2 : dg r i % 256 = dg r i := Int.emod_eq_of_lt hi.1 hi.2
    have e3 : wrap64 ((i : Int) + 1) = ((i + 1 : Nat) : Int) := by rw [w64 (by omega) (by omega)]; omega
    obtain ⟨out', hl', ho', hn'⟩ := high_loop r n hn hd hr c (i + 1) (out.set (n - 1 - i) (dg r i)) (by omega) (by rw [List.length_set]; exact hlen) (fun j hj => by
      rw [dg_set hlt]
      by_cases e : j = n - 1 - i
      · rw [if_pos e, show n - 1 - j = i by omega, if_pos (by omega)]
      · rw [if_neg e, h j hj]
        by_cases c : n - 1 - j < i
        · rw [if_pos c, if_pos (by omega)]
        · rw [if_neg c, if_neg (by omega)])
    refine ⟨out', hl', ho', Ev.step (fun q => ?_) hn'⟩
    simp only [sallyportref04_High.l0]
    rw [if_pos g1, if_pos g2, if_pos g3, e1, if_pos g4, if_pos g5, rd_dg, e2, e3, Int.toNat_natCast]

theorem V_rev' {b : Int} {out : List Int} {f : Nat → Int} (h : ∀ j, j < out.length → dg out j = f (out.length - 1 - j)) : V b out.reverse = sumN b f out.length := by
  unfold V
  rw [List.length_reverse]
  refine sumN_congr _ (fun i hi => ?_)
  rw [dg_reverse hi, h _ (by omega), show out.length - 1 - (out.length - 1 - i) = i by omega]

/-- The bytes of digits. -/
theorem high_ev (r : List Int) (n : Nat) (hn : n ≤ 1024) (hd : Dig 256 r) (hr : r.length ≤ n) :
    ∃ out, out.length = n ∧ Dig 256 out ∧ V 256 out.reverse = V 256 r ∧ Ev (fun q => sallyportref04_High.f q r (n : Int)) out := by
  obtain ⟨out, hl, ho, hn'⟩ := high_loop r n hn hd hr r.length 0 (List.replicate n 0) (by omega) (by simp) (fun j hj => by rw [dg_zeros, if_neg (by omega)])
  refine ⟨out, hl, ?_, ?_, Ev.congr (fun q => ?_) hn'⟩
  · intro x hx
    obtain ⟨i, hi, rfl⟩ := List.getElem_of_mem hx
    have := hd.dg (by decide) (n - 1 - i)
    rw [← ho i (by omega), dg_lt hi] at this
    exact this
  · rw [V_rev' (f := dg r) (fun j hj => by rw [ho j (by omega), hl]), hl, V_sum hr]
  · unfold sallyportref04_High.f
    rw [if_pos (by omega), Int.toNat_natCast, if_pos (by omega)]
    rfl
end Go.Proofs.Ytcljdpaniinhmaa.Pure
