/- The document's play as plain steps (Lw.step), and that the vault's steps keep pace with it. -/
import Derived.Test.YtnhkeenhaaeknaaRises
namespace Go.Proofs.Ytnhkeenhaaeknaa
open Go.RowKit

/-- What the law itself holds. -/
structure Lw where
  lk : Bool
  ix : Nat → Int
  lf : Int
  ar : Bool
  dn : Bool
  dw : Bool
  ch : Int

/-- What is wanted of a raise or a lock, but for the power. -/
def Lw.pre (l : Lw) (o : Opn) : Int :=
  if l.dw then 42
  else if o.kind = 1 ∧ (o.a < 0 ∨ 31 < o.a ∨ o.b < 0 ∨ 281474976710656 < o.b) then 13
  else if o.kind = 1 ∧ o.b < l.ix o.a.toNat then 52
  else 0

/-- The change itself. -/
def Lw.put (l : Lw) (o : Opn) : Lw := if o.kind = 1 then { l with ix := putIx l.ix o.a.toNat o.b } else { l with lk := o.on }

/-- A raise or a lock. -/
def Lw.act (l : Lw) (o : Opn) : Int × Lw :=
  if l.pre o = 0 then
    if l.ar then
      if l.lf = 0 then
        if l.dn then (42, Lw.put { l with dw := true, ch := l.ch + 1 } o) else (42, { l with dw := true })
      else (0, Lw.put { l with lf := l.lf - 1, ch := l.ch + 1 } o)
    else (0, Lw.put { l with ch := l.ch + 1 } o)
  else (l.pre o, l)

def Lw.step (l : Lw) (o : Opn) : Int × Lw :=
  if o.kind = 1 ∨ o.kind = 2 then l.act o
  else if o.kind = 3 then (0, { l with ar := decide (0 ≤ o.a), lf := o.a, dn := o.on })
  else if o.kind = 4 then (0, { l with ar := false, dw := false })
  else (0, l)

/-- What the vault answers. -/
def St.got (s : St) (o : Opn) : Int := if o.kind = 1 then (s.raise o.a o.b).1 else if o.kind = 2 then (s.lock o.on).1 else 0

structure Sim (s : St) (l : Lw) : Prop where
  lk : s.lk = l.lk
  ix : s.ix = l.ix
  dn : s.dn = l.dn
  dw : s.dw = l.dw
  ch : s.ch = l.ch
  lf : l.dw = false → s.lf = if l.ar then l.lf else -1
  ar : l.ar = true → 0 ≤ l.lf

theorem sim_new (lk : Bool) : Sim (St.new lk) ⟨lk, fun _ => 0, 0, false, false, false, 0⟩ := ⟨rfl, rfl, rfl, rfl, rfl, fun _ => rfl, fun h => by simp at h⟩

theorem raised_down' {s : St} (h : s.dw = true) {i n : Int} : s.raise i n = (42, s) := by simp [St.raise, h]

/-- A change of the vault, and the law's, side by side. -/
theorem sim_change {slk : Bool} {six : Nat → Int} {slf : Int} {sdn : Bool} {sch : Int} {llf : Int} {lar : Bool} (h6 : slf = if lar then llf else -1) (h7 : lar = true → 0 ≤ llf) (f : St → St) (o : Opn)
    (hpre : Lw.pre ⟨slk, six, llf, lar, sdn, false, sch⟩ o = 0)
    (hf : ∀ (a : St) (b : Lw), a.lk = b.lk → a.ix = b.ix → (f a).lk = (Lw.put b o).lk ∧ (f a).ix = (Lw.put b o).ix ∧ (f a).lf = a.lf ∧ (f a).dn = a.dn ∧ (f a).dw = a.dw ∧ (f a).ch = a.ch) :
    Sim (St.change ⟨slk, six, slf, sdn, false, sch⟩ f).2 (Lw.act ⟨slk, six, llf, lar, sdn, false, sch⟩ o).2 ∧ (St.change ⟨slk, six, slf, sdn, false, sch⟩ f).1 = (Lw.act ⟨slk, six, llf, lar, sdn, false, sch⟩ o).1 := by
  have hp : ∀ b : Lw, (Lw.put b o).lf = b.lf ∧ (Lw.put b o).ar = b.ar ∧ (Lw.put b o).dn = b.dn ∧ (Lw.put b o).dw = b.dw ∧ (Lw.put b o).ch = b.ch := by
    intro b; unfold Lw.put; split <;> exact ⟨rfl, rfl, rfl, rfl, rfl⟩
  unfold Lw.act
  rw [if_pos hpre]
  unfold St.change
  dsimp only
  cases lar with
  | true =>
    simp only [if_true] at h6 ⊢
    have h7' := h7 rfl
    subst h6
    by_cases hz : slf = 0
    · rw [if_pos hz, if_pos hz]
      cases sdn with
      | true =>
        simp only [if_true]
        obtain ⟨a1, a2, a3, a4, a5, a6⟩ := hf ⟨slk, six, -1, true, true, sch + 1⟩ ⟨slk, six, slf, true, true, true, sch + 1⟩ rfl rfl
        obtain ⟨p1, p2, p3, p4, p5⟩ := hp ⟨slk, six, slf, true, true, true, sch + 1⟩
        exact ⟨⟨a1, a2, by rw [a4, p3], by rw [a5, p4], by rw [a6, p5], fun e => by rw [p4] at e; simp at e, fun _ => by rw [p1]; exact h7'⟩, trivial⟩
      | false =>
        simp only [Bool.false_eq_true, if_false]
        exact ⟨⟨rfl, rfl, rfl, rfl, rfl, fun e => by simp at e, fun _ => h7'⟩, trivial⟩
    · rw [if_neg hz, if_neg hz]
      obtain ⟨a1, a2, a3, a4, a5, a6⟩ := hf ⟨slk, six, if slf - 1 < -1 then -1 else slf - 1, sdn, false, sch + 1⟩ ⟨slk, six, slf - 1, true, sdn, false, sch + 1⟩ rfl rfl
      obtain ⟨p1, p2, p3, p4, p5⟩ := hp ⟨slk, six, slf - 1, true, sdn, false, sch + 1⟩
      exact ⟨⟨a1, a2, by rw [a4, p3], by rw [a5, p4], by rw [a6, p5], fun _ => by rw [a3, p1, p2]; simp only [if_true]; rw [if_neg (by omega)], fun _ => by rw [p1]; show 0 ≤ slf - 1; omega⟩, rfl⟩
  | false =>
    simp only [Bool.false_eq_true, if_false] at h6 ⊢
    subst h6
    rw [if_neg (by omega)]
    obtain ⟨a1, a2, a3, a4, a5, a6⟩ := hf ⟨slk, six, if (-1 : Int) - 1 < -1 then -1 else -1 - 1, sdn, false, sch + 1⟩ ⟨slk, six, llf, false, sdn, false, sch + 1⟩ rfl rfl
    obtain ⟨p1, p2, p3, p4, p5⟩ := hp ⟨slk, six, llf, false, sdn, false, sch + 1⟩
    exact ⟨⟨a1, a2, by rw [a4, p3], by rw [a5, p4], by rw [a6, p5], fun _ => by rw [a3, p2]; simp, fun e => by rw [p2] at e; simp at e⟩, rfl⟩

theorem sim_step {s : St} {l : Lw} (h : Sim s l) (o : Opn) : Sim (s.step o) (l.step o).2 ∧ s.got o = (l.step o).1 := by
  obtain ⟨slk, six, slf, sdn, sdw, sch⟩ := s
  obtain ⟨llk, lix, llf, lar, ldn, ldw, lch⟩ := l
  obtain ⟨h1, h2, h3, h4, h5, h6, h7⟩ := h
  dsimp only at h1 h2 h3 h4 h5 h6 h7
  subst h1 h2 h3 h4 h5
  by_cases k1 : o.kind = 1
  · have e1 : (Lw.step ⟨slk, six, llf, lar, sdn, sdw, sch⟩ o) = Lw.act ⟨slk, six, llf, lar, sdn, sdw, sch⟩ o := if_pos (.inl k1)
    rw [e1]
    simp only [St.step, St.got, if_pos k1]
    cases sdw with
    | true =>
      have e2 : Lw.act ⟨slk, six, llf, lar, sdn, true, sch⟩ o = (42, ⟨slk, six, llf, lar, sdn, true, sch⟩) := by simp [Lw.act, Lw.pre]
      rw [e2, raised_down' rfl]
      exact ⟨⟨rfl, rfl, rfl, rfl, rfl, fun e => by simp at e, h7⟩, rfl⟩
    | false =>
      by_cases hr : o.a < 0 ∨ 31 < o.a ∨ o.b < 0 ∨ 281474976710656 < o.b
      · have hr' : o.a < 0 ∨ 32 ≤ o.a ∨ o.b < 0 ∨ 281474976710656 < o.b := by omega
        have e2 : Lw.act ⟨slk, six, llf, lar, sdn, false, sch⟩ o = (13, ⟨slk, six, llf, lar, sdn, false, sch⟩) := by simp [Lw.act, Lw.pre, k1, hr]
        have e3 : St.raise ⟨slk, six, slf, sdn, false, sch⟩ o.a o.b = (13, ⟨slk, six, slf, sdn, false, sch⟩) := by simp [St.raise, hr']
        rw [e2, e3]
        exact ⟨⟨rfl, rfl, rfl, rfl, rfl, h6, h7⟩, rfl⟩
      · have hr' : ¬ (o.a < 0 ∨ 32 ≤ o.a ∨ o.b < 0 ∨ 281474976710656 < o.b) := by omega
        by_cases hb : o.b < six o.a.toNat
        · have e2 : Lw.act ⟨slk, six, llf, lar, sdn, false, sch⟩ o = (52, ⟨slk, six, llf, lar, sdn, false, sch⟩) := by simp [Lw.act, Lw.pre, k1, hr, hb]
          have e3 : St.raise ⟨slk, six, slf, sdn, false, sch⟩ o.a o.b = (52, ⟨slk, six, slf, sdn, false, sch⟩) := by simp [St.raise, hr', hb]
          rw [e2, e3]
          exact ⟨⟨rfl, rfl, rfl, rfl, rfl, h6, h7⟩, rfl⟩
        · have e3 : St.raise ⟨slk, six, slf, sdn, false, sch⟩ o.a o.b = St.change ⟨slk, six, slf, sdn, false, sch⟩ (fun t => { t with ix := putIx t.ix o.a.toNat o.b }) := by simp [St.raise, hr', hb]
          rw [e3]
          exact sim_change (h6 rfl) h7 _ o (by simp [Lw.pre, k1, hr, hb]) (fun a b e1 e2 => by simp [Lw.put, k1, e1, e2])
  · by_cases k2 : o.kind = 2
    · have e1 : (Lw.step ⟨slk, six, llf, lar, sdn, sdw, sch⟩ o) = Lw.act ⟨slk, six, llf, lar, sdn, sdw, sch⟩ o := if_pos (.inr k2)
      rw [e1]
      simp only [St.step, St.got, if_neg k1, if_pos k2]
      cases sdw with
      | true =>
        have e2 : Lw.act ⟨slk, six, llf, lar, sdn, true, sch⟩ o = (42, ⟨slk, six, llf, lar, sdn, true, sch⟩) := by simp [Lw.act, Lw.pre]
        have e3 : St.lock ⟨slk, six, slf, sdn, true, sch⟩ o.on = (42, ⟨slk, six, slf, sdn, true, sch⟩) := by simp [St.lock]
        rw [e2, e3]
        exact ⟨⟨rfl, rfl, rfl, rfl, rfl, fun e => by simp at e, h7⟩, rfl⟩
      | false =>
        have e3 : St.lock ⟨slk, six, slf, sdn, false, sch⟩ o.on = St.change ⟨slk, six, slf, sdn, false, sch⟩ (fun t => { t with lk := o.on }) := by simp [St.lock]
        rw [e3]
        exact sim_change (h6 rfl) h7 _ o (by simp [Lw.pre, k1]) (fun a b e1 e2 => by simp [Lw.put, k1, e2])
    · have k12 : ¬ (o.kind = 1 ∨ o.kind = 2) := by omega
      by_cases k3 : o.kind = 3
      · simp only [St.step, St.got, Lw.step, if_neg k1, if_neg k2, if_neg k12, if_pos k3]
        refine ⟨⟨rfl, rfl, rfl, rfl, rfl, fun _ => ?_, fun e => by simpa using e⟩, trivial⟩
        show (if o.a < -1 then -1 else o.a) = if decide (0 ≤ o.a) = true then o.a else -1
        by_cases ha : 0 ≤ o.a
        · rw [show decide (0 ≤ o.a) = true from decide_eq_true ha, if_pos rfl, if_neg (by omega)]
        · rw [show decide (0 ≤ o.a) = false from decide_eq_false ha]
          simp only [Bool.false_eq_true, if_false]
          split <;> omega
      · by_cases k4 : o.kind = 4
        · simp only [St.step, St.got, Lw.step, if_neg k1, if_neg k2, if_neg k12, if_neg k3, if_pos k4]
          exact ⟨⟨rfl, rfl, rfl, rfl, rfl, fun _ => rfl, fun e => by simp at e⟩, trivial⟩
        · simp only [St.step, St.got, Lw.step, if_neg k1, if_neg k2, if_neg k12, if_neg k3, if_neg k4]
          exact ⟨⟨rfl, rfl, rfl, rfl, rfl, h6, h7⟩, trivial⟩
end Go.Proofs.Ytnhkeenhaaeknaa
