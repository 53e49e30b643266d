/- An array of 32 ints that is known whole (BlkAt): its cells, its stores, its value. No condition. -/
import Derived.Test.YtnhkeenhaaeknaaRises
import Derived.Laws.Rows
namespace Go.Proofs.Ytnhkeenhaaeknaa
open Go.RowKit
section
variable {w : World}

/-- Block b is an array of 32 ints, f says which. -/
def BlkAt (w : World) (b : Nat) (f : Nat → Int) : Prop := ∃ cs : Array Value, w.heap[b]? = some (.cells cs 31 (0, 0)) ∧ cs.size = 32 ∧ ∀ i, i < 32 → cs[i]? = some (.int .i64 (f i))

theorem BlkAt.arr {b : Nat} {f : Nat → Int} (h : BlkAt w b f) : ArrAt w b f := by
  obtain ⟨cs, hcs, hsz, hc⟩ := h
  refine ⟨(Array.getElem?_eq_some_iff.1 hcs).1, fun i hi => ?_, fun o => ?_⟩
  · rw [cell_of_row w b i cs 31 (0, 0) hcs]
    exact hc i hi
  · simp [World.frozen?, hcs]

theorem BlkAt.kept {w' : World} {row : Option Nat} {b : Nat} {f : Nat → Int} (h : BlkAt w b f) (hg : w.grownBy w' row) (hne : some b ≠ row) : BlkAt w' b f := by
  have hlt := h.arr.lt
  obtain ⟨cs, hcs, hsz, hc⟩ := h
  exact ⟨cs, (hg.block b hlt hne).trans hcs, hsz, hc⟩

theorem BlkAt.alloc {b : Nat} {f : Nat → Int} (h : BlkAt w b f) (o : Obj) : BlkAt (w.alloc o) b f := h.kept (World.grownBy_alloc w o none) (by simp)
theorem BlkAt.drewN {b : Nat} {f : Nat → Int} (h : BlkAt w b f) (n : Nat) : BlkAt (w.drewN n) b f := h

theorem BlkAt.set {b : Nat} {f : Nat → Int} (h : BlkAt w b f) (i : Nat) (x : Int) : BlkAt (w.setCell ⟨b, i, none⟩ (.int .i64 x)) b (putIx f i x) := by
  obtain ⟨cs, hcs, hsz, hc⟩ := h
  refine ⟨cs.setIfInBounds i (.int .i64 x), ?_, by simpa using hsz, fun j hj => ?_⟩
  · simp [World.setCell, Array.getElem?_modify, hcs]
  · unfold putIx
    by_cases e : j = i
    · subst e
      rw [if_pos rfl]
      simp [hsz, hj]
    · rw [if_neg e, Array.getElem?_setIfInBounds_ne (fun h => e h.symm)]
      exact hc j hj

theorem heap_alloc_new' (w : World) (o : Obj) : (w.alloc o).heap[w.heap.size]? = some o := Array.getElem?_push_size

theorem blk_new (w : World) : BlkAt (w.alloc (.cells #[.int .i64 0, .int .i64 0, .int .i64 0, .int .i64 0, .int .i64 0, .int .i64 0, .int .i64 0, .int .i64 0, .int .i64 0, .int .i64 0, .int .i64 0, .int .i64 0, .int .i64 0, .int .i64 0, .int .i64 0, .int .i64 0, .int .i64 0, .int .i64 0, .int .i64 0, .int .i64 0, .int .i64 0, .int .i64 0, .int .i64 0, .int .i64 0, .int .i64 0, .int .i64 0, .int .i64 0, .int .i64 0, .int .i64 0, .int .i64 0, .int .i64 0, .int .i64 0] 31)) w.heap.size (fun _ => 0) := by
  refine ⟨_, heap_alloc_new' w _, by rfl, fun i hi => ?_⟩
  iterate 32 (rcases i with _ | i; · rfl)
  omega

/-- An element of an array by value. -/
theorem run_index_arr {cs : Array Value} {f : Nat → Int} (hc : ∀ i, i < 32 → cs[i]? = some (.int .i64 (f i))) (j : Nat) (hj : j < 32) :
    (Instr.index 31 (.agg cs) (.int .i64 (j : Int))).run Try.prog w = .ok (.int .i64 (f j)) w := by
  have h0 := hc j hj
  have hl := (Array.getElem?_eq_some_iff.1 h0).1
  simp [Instr.index, run_underlying Try.underlying31, asIntOf, go_sem, h0, hj]
end
end Go.Proofs.Ytnhkeenhaaeknaa
