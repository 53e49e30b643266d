/- A list of steps that reads as data lies in memory as OpsAt says. -/
import Derived.Test.YtnhkeenhaaeknaaRises
import Derived.Deep.Slices
import Derived.Deep.Fields
import Derived.ChangeSame
import Derived.OpenShut
namespace Go.Proofs.Ytnhkeenhaaeknaa
open Go.ChangeShapes Go.WideShapes Go.Deep Go.RowKit
section
variable {H : Type} {enc : TypeId × Value → H} {P : Program} {w : World} {base : Nat} {spare : Nat → Bool} {held : Bool}

/-- A slice of structs, each field one cell, opened element by element and field by field. -/
theorem open_slice_fields {t e : TypeId} {fs : Array Field} {fuel : Nat} {cs : List Value} {x : DataW H × List MemPlace} (ht : P.underlying t = some (.slice e)) (he : P.underlying e = some (.struct fs))
    (hone : oneCellFields P fs = true) (hC : P.cellsOf e = fs.size) (h : DataW.trod enc P w base spare held fuel t cs = some x) :
    cs = [.slice none 0 0] ∨
    ∃ (a : Addr) (len cap m : Nat), cs = [.slice (some a) len cap] ∧ len ≤ m ∧
      ∀ i, i < m → ∃ (n : Nat), ∀ (j : Nat) (f : Field), fs[j]? = some f → ∃ (v : Value) (y : DataW H × List MemPlace), w.cell? (a.add (i * fs.size + j)) = some v ∧ DataW.trod enc P w base spare held n f.type [v] = some y := by
  rcases open_slice ht h with ⟨h0, _⟩ | ⟨a, len, cap, m, n, D, Pl, hcs, hb, hl, hm, hmm, hx, hi⟩
  · exact .inl h0
  · refine .inr ⟨a, len, cap, m, hcs, ?_, fun i him => ?_⟩
    · rw [hmm]; split
      · exact hl
      · exact Nat.le_refl _
    · obtain ⟨cs', hc, ht'⟩ := hi i him
      rw [hC] at hc
      obtain ⟨ys, n', hn', hy, hlen, hyl, hf⟩ := DataW.trod_struct he ht'
      obtain ⟨_, hcl, hat⟩ := World.cells?_some hc
      refine ⟨n', fun j f hj => ?_⟩
      obtain ⟨ho, hk⟩ := hone_of hone j f hj
      have hjl : j < fs.size := (Array.getElem?_eq_some_iff.1 hj).1
      have hcell := hat j hjl
      have hv : cs'[j]? = some (cs'[j]'(by omega)) := List.getElem?_eq_getElem (by omega)
      have h1 := hf j f hj
      rw [ho, hk] at h1
      have hone' : (cs'.drop j).take 1 = [cs'[j]'(by omega)] := by
        rw [List.drop_eq_getElem_cons (by omega)]
        rfl
      rw [hone'] at h1
      have hys : ys[j]? = some (ys[j]'(by omega)) := List.getElem?_eq_getElem (by omega)
      refine ⟨_, _, ?_, h1.trans hys⟩
      rw [← Go.Deep.add_add, hcell, hv]
end

instance : Inhabited Opn := ⟨⟨0, 0, 0, false⟩⟩

theorem ops_of_trod {H : Type} {enc : TypeId × Value → H} {W : World} {base : Nat} {spare : Nat → Bool} {held : Bool} {fuel : Nat} {a : Option Addr} {len cap : Nat} {x : DataW H × List MemPlace}
    (h : DataW.trod enc Try.prog W base spare held fuel 30 [.slice a len cap] = some x) : ∃ os, OpsAt W a len os := by
  rcases open_slice_fields Try.underlying30 Try.underlying33 (by kernel_rfl) (by kernel_rfl) h with hcs | ⟨y, l, c, m, hcs, hm, hf⟩
  · simp at hcs
    obtain ⟨rfl, rfl, rfl⟩ := hcs
    exact ⟨fun _ => ⟨0, 0, 0, false⟩, fun i hi => absurd hi (Nat.not_lt_zero _)⟩
  · simp at hcs
    obtain ⟨rfl, rfl, rfl⟩ := hcs
    refine Go.Deep.choose_lt (p := fun (i : Nat) (o : Opn) => o.a ≤ 9223372036854775807 ∧ ∃ bx off, some y = some ⟨bx, off, none⟩ ∧ bx < W.heap.size ∧
      W.cell? ⟨bx, off + i * 4, none⟩ = some (.int .i64 o.kind) ∧ W.cell? ⟨bx, off + i * 4 + 1, none⟩ = some (.int .i64 o.a) ∧ W.cell? ⟨bx, off + i * 4 + 2, none⟩ = some (.int .i64 o.b) ∧ W.cell? ⟨bx, off + i * 4 + 3, none⟩ = some (.bool o.on)) fun i hi => ?_
    obtain ⟨n, hg⟩ := hf i (by omega)
    obtain ⟨v0, y0, c0, r0⟩ := hg 0 _ rfl
    obtain ⟨v1, y1, c1, r1⟩ := hg 1 _ rfl
    obtain ⟨v2, y2, c2, r2⟩ := hg 2 _ rfl
    obtain ⟨v3, y3, c3, r3⟩ := hg 3 _ rfl
    obtain ⟨x0, e0, _, _⟩ := DataW.trod_int Try.underlying3 r0
    obtain ⟨x1, e1, _, q1⟩ := DataW.trod_int Try.underlying3 r1
    obtain ⟨x2, e2, _, _⟩ := DataW.trod_int Try.underlying3 r2
    obtain ⟨x3, e3, _⟩ := DataW.trod_bool Try.underlying4 r3
    simp at e0 e1 e2 e3
    subst e0 e1 e2 e3
    obtain ⟨bx, off, spot⟩ := y
    have hspot : spot = none := by
      obtain ⟨n0, hg0⟩ := hf 0 (by omega)
      obtain ⟨v00, y00, c00, _⟩ := hg0 0 _ rfl
      exact World.cell?_spot c00
    subst hspot
    have hp : ∀ k, (⟨bx, off, none⟩ : Addr).add k = ⟨bx, off + k, none⟩ := fun k => by unfold Addr.add; split <;> simp_all
    rw [hp] at c0 c1 c2 c3
    refine ⟨⟨x0, x1, x2, x3⟩, ?_, bx, off, rfl, World.block_lt_of_cell? _ _ c0, c0, c1, c2, c3⟩
    exact (bounds_i64 q1).2
end Go.Proofs.Ytnhkeenhaaeknaa
