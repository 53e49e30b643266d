/- The contract of limbs.From at bytes: the limbs, or what is wrong. -/
import Derived.Test.YtcljdpaniinhmaaH0
import Derived.Test.YtcljdpaniinhmaaH7
import Derived.Laws.OwnMore
import Derived.IntWalk
namespace Go.Proofs.Ytcljdpaniinhmaa.L
open Go.RowKit Go.Shelf Go.Proofs.YtcljdpaniinhmaaW.PrintWords Go.Proofs.YtcljdpaniinhmaaW.PrintLast Go.Proofs.YtcljdpaniinhmaaW.PrintMore
attribute [local go_sem] Oper.semAt_some
set_option linter.unusedVariables false
set_option linter.unusedSimpArgs false

/-- One byte put into its limb, a being its place from below. -/
def putB (n : List Int) (a : Nat) (c : Int) : List Int := n.set (a / 4) (bits .or .u32 (dgv n (a / 4)) (c * 256 ^ (a % 4)))
/-- A round: the x-th byte from below. -/
def stepF (width : Nat) (zs n : List Int) (x : Nat) : List Int :=
  if (zs.length - 1 - (zs.length - 1 - x)) / 4 < width then putB n (zs.length - 1 - (zs.length - 1 - x)) (dgv zs (zs.length - 1 - x)) else n
/-- There is room, or the byte is 0. -/
def okF (width : Nat) (zs : List Int) (x : Nat) : Prop := (zs.length - 1 - (zs.length - 1 - x)) / 4 < width ∨ dgv zs (zs.length - 1 - x) = 0
instance (width : Nat) (zs : List Int) (x : Nat) : Decidable (okF width zs x) := inferInstanceAs (Decidable (_ ∨ _))
def nf (width : Nat) (zs : List Int) (pre : List Nat) : List Int := pre.foldl (stepF width zs) (List.replicate width 0)

theorem stepF_length (width : Nat) (zs n : List Int) (x : Nat) : (stepF width zs n x).length = n.length := by
  unfold stepF putB
  split
  · exact List.length_set
  · rfl
theorem nf_length (width : Nat) (zs : List Int) (pre : List Nat) : (nf width zs pre).length = width := by
  unfold nf
  have h : ∀ (pre : List Nat) (n : List Int), (pre.foldl (stepF width zs) n).length = n.length := by
    intro pre
    induction pre with
    | nil => intro n; rfl
    | cons x pre ih => intro n; rw [List.foldl_cons, ih, stepF_length]
  rw [h, List.length_replicate]
theorem nf_snoc (width : Nat) (zs : List Int) (pre : List Nat) (x : Nat) : nf width zs (pre ++ [x]) = stepF width zs (nf width zs pre) x := by
  unfold nf
  rw [List.foldl_append]
  rfl

/-- The limbs of bytes; of other numbers nothing is said. -/
def limbs_From.f (l0 : List Int) (a1 : Int) : Option (List Int × Int) :=
  if a1 < 1 ∨ 256 < a1 then some ([], 24)
  else if l0.length ≤ 35184372088832 ∧ ∀ x ∈ l0, 0 ≤ x ∧ x < 256 then
    (if ∀ x, x < l0.length → okF a1.toNat l0 x then some (nf a1.toNat l0 (List.range l0.length), 0) else some ([], 11))
  else none

theorem make_words (n : Nat) (hn : n ≤ 256) : ∃ cs : Array Value, cs.toList = List.replicate n (.int .u32 0) ∧ ∀ W : World, (Instr.makeSlice 23 (.int .i64 n) (.int .i64 n)).run Try.prog W = .ok (.slice (some ⟨W.heap.size, 0, none⟩) n n) (W.alloc (.cells cs 47)) := by
  obtain ⟨i0, hi, hz0, hz1, hz2⟩ := info_parts info47
  refine ⟨madeCells #[.int .u32 0] n, toList_madeCells_one _ _, fun W => ?_⟩
  have h := run_make (P := Try.prog) W 23 47 i0 _ Try.underlying23 hi hz0 .i64 .i64 n n (by omega) (Int.le_refl _) (by rw [hz2]; omega) (by omega)
  simp only [Int.toNat_natCast] at h
  rw [h, hz1, Nat.mul_one]
  rfl

theorem words_row (W : World) (base : Nat) (cs : Array Value) (n : Nat) (hn : n ≤ 256) (hb : base ≤ W.heap.size) (hcs : cs.toList = List.replicate n (.int .u32 0)) :
    (W.alloc (.cells cs 47)).ownsRow base 47 1 (.slice (some ⟨W.heap.size, 0, none⟩) n n) n ((List.replicate n (0 : Int)).map (Value.int .u32)) := by
  have h := World.ownsRow_lit (e := 47) (size := 1) W cs n hb (by unfold maxLen; omega) (by rw [← Array.length_toList, hcs]; simp)
  rw [hcs] at h
  rw [List.map_replicate]
  exact h

/-- What stands in memory between two rounds. -/
structure FI (w : World) (A0 : Option Addr) (c0 : Nat) (zs : List Int) (width : Nat) (pre : List Nat) (W : World) : Prop where
  b : Boxed W w.heap.size 38 (.slice A0 zs.length c0)
  wd : Boxed W (w.heap.size + 1) 3 (.int .i64 width)
  r1 : Boxed W (w.heap.size + 1 + 1) 23 (.slice none 0 0)
  r2 : Boxed W (w.heap.size + 1 + 1 + 1) 25 (.int .i64 0)
  n : Boxed W (w.heap.size + 1 + 1 + 1 + 1 + 1) 23 (.slice (some ⟨w.heap.size + 1 + 1 + 1 + 1, 0, none⟩) width width)
  row : W.ownsRow w.heap.size 47 1 (.slice (some ⟨w.heap.size + 1 + 1 + 1 + 1, 0, none⟩) width width) width ((nf width zs pre).map (Value.int .u32))
  ok : ∀ x ∈ pre, okF width zs x

/-- Behind a round that says that there is too much. -/
structure FX (w : World) (zs : List Int) (width : Nat) (pre : List Nat) (W : World) : Prop where
  r1 : Boxed W (w.heap.size + 1 + 1) 23 (.slice none 0 0)
  r2 : Boxed W (w.heap.size + 1 + 1 + 1) 25 (.int .i64 11)
  bad : ∃ ini last, pre = ini ++ [last] ∧ ¬ okF width zs last

theorem boxed_kept {X Y : World} {row : Option Nat} {B : Nat} {t : TypeId} {v : Value} (h : Boxed X B t v) (hg : X.grownBy Y row) (hr : ∀ r, row = some r → ∃ o, X.heap[r]? = some o ∧ o.isCells = false) : Boxed Y B t v :=
  h.kept hg (fun e => by
    obtain ⟨o, ho, hc⟩ := hr B e.symm
    rw [show X.heap[B]? = _ from h] at ho
    cases ho
    cases hc)

theorem row_kept {X Y : World} {row : Option Nat} {base g : Nat} {n cap : Nat} {xs : List Value} (h : X.ownsRow base 47 1 (.slice (some ⟨g, 0, none⟩) n cap) n xs) (hg : X.grownBy Y row) (hr : ∀ r, row = some r → ∃ o, X.heap[r]? = some o ∧ o.isCells = false) : Y.ownsRow base 47 1 (.slice (some ⟨g, 0, none⟩) n cap) n xs := by
  refine h.kept hg (.inr (fun e => ?_))
  obtain ⟨o, ho, hc⟩ := hr g (by simpa [Value.ownBlock] using e.symm)
  rcases h.2 with ⟨h', _⟩ | ⟨g', cap', cur, h', _, hgb, _⟩
  · simp at h'
  · simp only [Value.slice.injEq, Option.some.injEq, Addr.mk.injEq, and_true, true_and] at h'
    obtain ⟨rfl, rfl⟩ := h'
    rw [hgb] at ho
    cases ho
    cases hc

theorem fi_own (w : World) (A0 : Option Addr) (c0 : Nat) (zs : List Int) (width : Nat) : Own (FI w A0 c0 zs width) := fun s A B row h hg hr =>
  ⟨boxed_kept h.b hg hr, boxed_kept h.wd hg hr, boxed_kept h.r1 hg hr, boxed_kept h.r2 hg hr, boxed_kept h.n hg hr, row_kept h.row hg hr, h.ok⟩
theorem fx_own (w : World) (zs : List Int) (width : Nat) : Own (FX w zs width) := fun s A B row h hg hr => ⟨boxed_kept h.r1 hg hr, boxed_kept h.r2 hg hr, h.bad⟩

theorem fi_start (w : World) (A0 : Option Addr) (c0 : Nat) (zs : List Int) (width : Nat) (h2 : width ≤ 256) (cs : Array Value) (hcs : cs.toList = List.replicate width (.int .u32 0)) :
    FI w A0 c0 zs width [] (((((((w.alloc (.cells #[.slice A0 zs.length c0] 38)).alloc (.cells #[.int .i64 width] 3)).alloc (.cells #[.slice none 0 0] 23)).alloc (.cells #[.int .i64 0] 25)).alloc (.cells cs 47)).alloc
      (.cells #[.slice (some ⟨w.heap.size + 1 + 1 + 1 + 1, 0, none⟩) width width] 23)).alloc (.cells #[.slice A0 zs.length c0] 38)) := by
  have b0 := Boxed.new w 38 (.slice A0 zs.length c0)
  have b1 := Boxed.new (w.alloc (.cells #[.slice A0 zs.length c0] 38)) 3 (.int .i64 width)
  have b2 := Boxed.new ((w.alloc (.cells #[.slice A0 zs.length c0] 38)).alloc (.cells #[.int .i64 width] 3)) 23 (.slice none 0 0)
  have b3 := Boxed.new (((w.alloc (.cells #[.slice A0 zs.length c0] 38)).alloc (.cells #[.int .i64 width] 3)).alloc (.cells #[.slice none 0 0] 23)) 25 (.int .i64 0)
  have b4 := words_row ((((w.alloc (.cells #[.slice A0 zs.length c0] 38)).alloc (.cells #[.int .i64 width] 3)).alloc (.cells #[.slice none 0 0] 23)).alloc (.cells #[.int .i64 0] 25)) w.heap.size cs width h2 (by simp; omega) hcs
  have b5 := Boxed.new (((((w.alloc (.cells #[.slice A0 zs.length c0] 38)).alloc (.cells #[.int .i64 width] 3)).alloc (.cells #[.slice none 0 0] 23)).alloc (.cells #[.int .i64 0] 25)).alloc (.cells cs 47)) 23 (.slice (some ⟨w.heap.size + 1 + 1 + 1 + 1, 0, none⟩) width width)
  simp only [World.size_alloc] at b1 b2 b3 b4 b5
  exact ⟨(((((b0.alloc _).alloc _).alloc _).alloc _).alloc _).alloc _, ((((b1.alloc _).alloc _).alloc _).alloc _).alloc _, (((b2.alloc _).alloc _).alloc _).alloc _, ((b3.alloc _).alloc _).alloc _, b5.alloc _, (b4.alloc _).alloc _, fun x hx => by cases hx⟩

theorem FI.drew {w : World} {A0 : Option Addr} {c0 : Nat} {zs : List Int} {width : Nat} {pre : List Nat} {W : World} (h : FI w A0 c0 zs width pre W) : FI w A0 c0 zs width pre W.drew :=
  ⟨h.b, h.wd, h.r1, h.r2, h.n, h.row, h.ok⟩

/-- A limb stored. -/
theorem FI.stored {w : World} {A0 : Option Addr} {c0 : Nat} {zs : List Int} {width : Nat} {pre : List Nat} {W : World} (h : FI w A0 c0 zs width pre W) (x q : Nat) (v : Int) (hx : okF width zs x) (hn : nf width zs (pre ++ [x]) = (nf width zs pre).set q v) :
    FI w A0 c0 zs width (pre ++ [x]) (W.setCell ⟨w.heap.size + 1 + 1 + 1 + 1, q, none⟩ (.int .u32 v)) := by
  obtain ⟨hr, hg⟩ := h.row.stored q (.int .u32 v)
  refine ⟨h.b.kept hg (by simp; omega), h.wd.kept hg (by simp), h.r1.kept hg (by simp), h.r2.kept hg (by simp), h.n.kept hg (by simp), ?_, ?_⟩
  · rw [hn, List.map_set]
    exact hr
  · intro y hy
    rcases List.mem_append.1 hy with hy | hy
    · exact h.ok y hy
    · simp at hy
      subst hy
      exact hx

theorem FI.passed {w : World} {A0 : Option Addr} {c0 : Nat} {zs : List Int} {width : Nat} {pre : List Nat} {W : World} (h : FI w A0 c0 zs width pre W) (x : Nat) (hx : okF width zs x) (hn : nf width zs (pre ++ [x]) = nf width zs pre) : FI w A0 c0 zs width (pre ++ [x]) W := by
  refine ⟨h.b, h.wd, h.r1, h.r2, h.n, by rw [hn]; exact h.row, ?_⟩
  intro y hy
  rcases List.mem_append.1 hy with hy | hy
  · exact h.ok y hy
  · simp at hy
    subst hy
    exact hx

theorem bytes_dgv {l : List Int} (h : ∀ x ∈ l, 0 ≤ x ∧ x < 256) (i : Nat) : 0 ≤ dgv l i ∧ dgv l i < 256 := by
  unfold dgv
  by_cases hi : i < l.length
  · rw [List.getD_eq_getElem?_getD, List.getElem?_eq_getElem hi]
    exact h _ (List.getElem_mem hi)
  · rw [List.getD_eq_getElem?_getD, List.getElem?_eq_none (by omega)]
    simp

set_option maxRecDepth 100000 in
set_option maxHeartbeats 4000000 in
theorem from_in (A0 : Option Addr) (c0 : Nat) (l0 : List Int) (w : World) (hI : IntsB w.heap.size w A0 l0) (width : Nat) (h1 : 1 ≤ width) (h2 : width ≤ 256) (hlen : l0.length ≤ 35184372088832) (hd : ∀ x ∈ l0, 0 ≤ x ∧ x < 256) (r1 : List Int) (r2 : Int)
    (h : (if ∀ x, x < l0.length → okF width l0 x then some (nf width l0 (List.range l0.length), (0 : Int)) else some ([], 11)) = some (r1, r2)) :
    CallsIn Fence.wide 3 Try.prog 23 #[.slice A0 l0.length c0, .int .i64 width] w fun e W' => (∃ v0_ : Value, e = .returned (.tuple #[v0_, .int .i64 r2]) ∧ Kd.R (Kd.int .u32) 47 W' w.heap.size (fun _ => True) v0_ r1) ∧ Below w.heap.size w W' := by
  obtain ⟨cs, hcs, hmk⟩ := make_words width h2
  have HD := Aside0.mk hd
  have HI := Aside0.mk hI
  have HH := Aside0.mk h
  have HC := Aside0.mk hcs
  have w1b : decide ((width : Int) < 1) = false := decide_eq_false (by omega)
  have w2b : decide ((256 : Int) < (width : Int)) = false := decide_eq_false (by omega)
  clear hd hI h hcs
  refine callsIn_of_wp_marks Try.func23 rfl trivial ?_ rfl
  simp only [Try.ntmps23, List.size_toArray, List.length_cons, List.length_nil, Nat.reduceAdd, Nat.reduceSub, Array.replicate_succ, Array.replicate_zero, List.push_toArray, List.append_toArray, List.nil_append, List.cons_append]
  gi_wp2_with (refine ⟨trivial, ?_⟩; gi_at_call 34; refine (backB_in Fence.wide _ trivial rfl _ _ _ _).mono ?_; rintro e w' ⟨rfl, rfl⟩)
  have hF0 := fi_start w A0 c0 l0 width h2 cs HC.out
  have bN := Boxed.new ((((((w.alloc (.cells #[.slice A0 l0.length c0] 38)).alloc (.cells #[.int .i64 width] 3)).alloc (.cells #[.slice none 0 0] 23)).alloc (.cells #[.int .i64 0] 25)).alloc (.cells cs 47)).alloc (.cells #[.slice (some ⟨w.heap.size + 1 + 1 + 1 + 1, 0, none⟩) width width] 23)) 38 (.slice A0 l0.length c0)
  simp only [World.size_alloc] at bN
  have hB0 : Below w.heap.size w (((((((w.alloc (.cells #[.slice A0 l0.length c0] 38)).alloc (.cells #[.int .i64 width] 3)).alloc (.cells #[.slice none 0 0] 23)).alloc (.cells #[.int .i64 0] 25)).alloc (.cells cs 47)).alloc
      (.cells #[.slice (some ⟨w.heap.size + 1 + 1 + 1 + 1, 0, none⟩) width width] 23)).alloc (.cells #[.slice A0 l0.length c0] 38)) :=
    (((((((Below.refl _ w).alloc (Nat.le_refl _) _).alloc (by simp) _).alloc (by simp; omega) _).alloc (by simp; omega) _).alloc (by simp; omega) _).alloc (by simp; omega) _).alloc (by simp; omega) _
  obtain ⟨W0, hW0⟩ : ∃ W0, (((((((w.alloc (.cells #[.slice A0 l0.length c0] 38)).alloc (.cells #[.int .i64 width] 3)).alloc (.cells #[.slice none 0 0] 23)).alloc (.cells #[.int .i64 0] 25)).alloc (.cells cs 47)).alloc
      (.cells #[.slice (some ⟨w.heap.size + 1 + 1 + 1 + 1, 0, none⟩) width width] 23)).alloc (.cells #[.slice A0 l0.length c0] 38)) = W0 := ⟨_, rfl⟩
  have hsz : W0.heap.size = w.heap.size + 7 := by rw [← hW0]; simp
  rw [hW0] at hF0 bN hB0 ⊢
  clear hW0 hmk
  refine wpIn_rangeFunc_ownG rfl (by omega) (gf := 41) (lb := #[.pointer (some ⟨w.heap.size + 1 + 1 + 1 + 1 + 1 + 1, 0, none⟩)]) rfl trivial (enters_of Try.func41 (by kernel_rfl) rfl)
    (backB_stops Fence.wide _ trivial rfl (by omega) (w.heap.size + 1 + 1 + 1 + 1 + 1 + 1) w.heap.size A0 c0 l0 hlen _ (by omega) (by omega) bN.cell (HI.out.below hB0)) KeepB.trans (keepB_b (by omega) (by omega)) (Below.refl _ _) (fun _ => rfl)
    (fun pre W => FI w A0 c0 l0 width pre W ∧ Below w.heap.size w W)
    (fun c pre W => (c = .ret ∧ FX w l0 width pre W) ∧ Below w.heap.size w W)
    (OwnFrom.and (Own.from (fi_own w A0 c0 l0 width) _) (ownFrom_below (Nat.le_refl _) (by omega)))
    (fun c => OwnFrom.and (Own.from (fun s A B row hs hg hr => ⟨hs.1, fx_own w l0 width s A B row hs.2 hg hr⟩) _) (ownFrom_below (Nat.le_refl _) (by omega)))
    ⟨hF0, hB0⟩
    (fun x => { tmps := #[.slice A0 l0.length c0, .int .i64 width, .pointer (some ⟨w.heap.size, 0, none⟩), .pointer (some ⟨w.heap.size + 1, 0, none⟩), .pointer (some ⟨w.heap.size + 1 + 1, 0, none⟩), .pointer (some ⟨w.heap.size + 1 + 1 + 1, 0, none⟩),
      .pointer (some ⟨w.heap.size + 1 + 1 + 1 + 1 + 1, 0, none⟩), .int .i64 ((l0.length - 1 - x : Nat) : Int), .int .u8 (dgv l0 (l0.length - 1 - x)), undef, .int .i64 width, .bool false, .bool false, .int .i64 width, .bool false, .bool false, .int .i64 width,
      .slice (some ⟨w.heap.size + 1 + 1 + 1 + 1, 0, none⟩) width width, .slice A0 l0.length c0, .func (.func 41) #[] #[.pointer (some ⟨w.heap.size + 1 + 1 + 1 + 1 + 1 + 1, 0, none⟩)], .int .i64 ((l0.length - 1 - x : Nat) : Int), .int .u8 (dgv l0 (l0.length - 1 - x)),
      undef, undef, undef, undef, undef, undef, undef, undef, undef, undef, undef, undef, undef, undef, undef, undef, undef, undef, undef, undef, undef, undef, undef, undef, undef, undef, undef], defers := [] }) ?assign ?body ?done ?stop
  case assign =>
    intro l x W K hK
    gi_wp2
    exact hK
  case body =>
    rintro l pre x W ⟨hF, hB⟩ hlt
    have hlt0 : pre.length < l0.length := hlt
    obtain ⟨i, hie⟩ : ∃ i, l0.length - 1 - x = i := ⟨_, rfl⟩
    have hil : i < l0.length := by omega
    obtain ⟨a, hae⟩ : ∃ a, l0.length - 1 - i = a := ⟨_, rfl⟩
    have hok : okF width l0 x ↔ (a / 4 < width ∨ dgv l0 i = 0) := by unfold okF; rw [hie, hae]
    have hst : nf width l0 (pre ++ [x]) = if a / 4 < width then (nf width l0 pre).set (a / 4) (bits .or .u32 (dgv (nf width l0 pre) (a / 4)) (dgv l0 i * 256 ^ (a % 4))) else nf width l0 pre := by
      rw [nf_snoc]
      unfold stepF putB
      rw [hie, hae]
    have hat : (l0.length : Int) - 1 - (i : Int) = (a : Int) := by omega
    have hal : a < l0.length := by omega
    rw [hie]
    have hbyte := bytes_dgv HD.out i
    obtain ⟨v, hv⟩ : ∃ v, dgv l0 i = v := ⟨_, rfl⟩
    rw [hv] at hbyte hst hok ⊢
    obtain ⟨hv0, hv1⟩ := hbyte
    obtain ⟨q, hq⟩ : ∃ q, a / 4 = q := ⟨_, rfl⟩
    have hqi : (a : Int) / 4 = (q : Int) := by omega
    rw [hq] at hst hok
    have hcb := hF.b.cell
    have hcw := hF.wd.cell
    have hcn := hF.n.cell
    have HST := Aside0.mk hst
    have HOK := Aside0.mk hok
    have HF := Aside0.mk hF
    have HB := Aside0.mk hB
    have HAQ := Aside0.mk hq
    clear hst hok hF hB hlt hlt0 hie hae hv hq
    by_cases hqw : q < width
    · have hqwi : decide ((q : Int) < (width : Int)) = true := decide_eq_true (by omega)
      have hqd : decide (q < width) = true := decide_eq_true hqw
      have hnl := nf_length width l0 pre
      obtain ⟨nn, hnn⟩ : ∃ nn, nf width l0 pre = nn := ⟨_, rfl⟩
      rw [hnn] at hnl
      have HNN := Aside0.mk hnn
      have HST2 := Aside0.mk (show nf width l0 (pre ++ [x]) = nn.set q (bits .or .u32 (dgv nn q) (v * 256 ^ (a % 4))) by rw [HST.out, if_pos hqw, hnn])
      have hce := HF.out.row.cellAt q (by omega)
      rw [hnn, List.getElem?_map, List.getElem?_eq_getElem (by omega)] at hce
      simp only [Option.map_some] at hce
      have hdv : dgv nn q = nn[q]'(by omega) := by unfold dgv; rw [List.getD_eq_getElem?_getD, List.getElem?_eq_getElem (by omega)]; rfl
      rw [← hdv] at hce
      have hcf := HF.out.row.frozenAt q
      obtain ⟨o, ho⟩ : ∃ o, dgv nn q = o := ⟨_, rfl⟩
      rw [ho] at hce HST2
      clear hdv ho hnn hnl
      have hq0 : (0 : Int) ≤ (q : Int) := by omega
      have hq1 : (q : Int) < (width : Int) := by omega
      have ha4 : a % 4 = 0 ∨ a % 4 = 1 ∨ a % 4 = 2 ∨ a % 4 = 3 := by omega
      have htd : (a : Int).tdiv 4 = (q : Int) := by rw [Int.tdiv_eq_ediv_of_nonneg (by omega)]; exact hqi
      have hwq : IntKind.i64.wrap (q : Int) = (q : Int) := IntWalk.i64_in _ (by omega)
      have huv : IntKind.u32.wrap v = v := by rw [IntKind.wrap_u32]; omega
      have hmix : Try.prog.follows Departure.mixedOrders = true := by kernel_rfl
      have hw0 : IntKind.i64.wrap 0 = 0 := by decide
      have hw1 : IntKind.i64.wrap 8 = 8 := by decide
      have hw2 : IntKind.i64.wrap 16 = 16 := by decide
      have hw3 : IntKind.i64.wrap 24 = 24 := by decide
      rcases ha4 with ha4 | ha4 | ha4 | ha4
      · have hmi : (a : Int) % 4 = 0 := by omega
        have htm : (a : Int).tmod 4 = 0 := by rw [Int.tmod_eq_emod_of_nonneg (by omega)]; exact hmi
        have hst3 := HST2.out
        rw [ha4, show (256 : Int) ^ 0 = 1 by decide, Int.mul_one] at hst3
        have HST3 := Aside0.mk hst3
        have hsw : IntKind.u32.wrap v = v := by rw [IntKind.wrap_u32]; omega
        clear ha4 hst3
        gi_wp2
        refine round_region (fun w' => w'.cell? ⟨w.heap.size + 1 + 1 + 1 + 1 + 1, 0, none⟩ = some (.slice (some ⟨w.heap.size + 1 + 1 + 1 + 1, 0, none⟩) width width)) hmix (by kernel_rfl) hcn ?_
        intro hS
        try simp only [List.size_toArray, List.length_cons, List.length_nil, Nat.reduceAdd, Array.replicate_succ, Array.replicate_zero, List.push_toArray, List.append_toArray, List.nil_append, List.cons_append]
        refine wpAnyH_take (i := 0) (v := .slice (some ⟨w.heap.size + 1 + 1 + 1 + 1, 0, none⟩) width width) rfl (by kernel_rfl) (by kernel_rfl) (by kernel_rfl) (fun _ _ _ h => absurd h.1 (by simp)) (Or.inl ⟨by rfl, ?_⟩) hS ?_
        · intro wq hSq
          try dsimp only at hSq
          go_simp
        try simp only [Act.put, List.setIfInBounds_toArray, List.set_cons_zero, List.set_cons_succ]
        refine wpAnyH_take (i := 1) (v := .int .i64 a) rfl (by kernel_rfl) (by kernel_rfl) (by kernel_rfl) (fun _ _ _ h => absurd h.1 (by simp)) (Or.inl ⟨by rfl, ?_⟩) hS ?_
        · intro wq hSq
          try dsimp only at hSq
          go_simp
        try simp only [Act.put, List.setIfInBounds_toArray, List.set_cons_zero, List.set_cons_succ]
        refine wpAnyH_take (i := 2) (v := .int .i64 q) rfl (by kernel_rfl) (by kernel_rfl) (by kernel_rfl) (fun _ _ _ h => absurd h.1 (by simp)) (Or.inl ⟨by rfl, ?_⟩) hS ?_
        · intro wq hSq
          try dsimp only at hSq
          go_simp
        try simp only [Act.put, List.setIfInBounds_toArray, List.set_cons_zero, List.set_cons_succ]
        refine wpAnyH_take (i := 3) (v := .pointer (some ⟨w.heap.size + 1 + 1 + 1 + 1, q, none⟩)) rfl (by kernel_rfl) (by kernel_rfl) (by kernel_rfl) (fun _ _ _ h => absurd h.1 (by simp)) (Or.inl ⟨by rfl, ?_⟩) hS ?_
        · intro wq hSq
          try dsimp only at hSq
          go_simp
        try simp only [Act.put, List.setIfInBounds_toArray, List.set_cons_zero, List.set_cons_succ]
        refine wpAnyH_take (i := 5) (v := .int .u8 v) rfl (by kernel_rfl) (by kernel_rfl) (by kernel_rfl) (fun _ _ _ h => absurd h.1 (by simp)) (Or.inl ⟨by rfl, ?_⟩) hS ?_
        · intro wq hSq
          try dsimp only at hSq
          go_simp
        try simp only [Act.put, List.setIfInBounds_toArray, List.set_cons_zero, List.set_cons_succ]
        refine wpAnyH_take (i := 6) (v := .int .u32 v) rfl (by kernel_rfl) (by kernel_rfl) (by kernel_rfl) (fun _ _ _ h => absurd h.1 (by simp)) (Or.inl ⟨by rfl, ?_⟩) hS ?_
        · intro wq hSq
          try dsimp only at hSq
          go_simp
        try simp only [Act.put, List.setIfInBounds_toArray, List.set_cons_zero, List.set_cons_succ]
        refine wpAnyH_take (i := 7) (v := .int .i64 a) rfl (by kernel_rfl) (by kernel_rfl) (by kernel_rfl) (fun _ _ _ h => absurd h.1 (by simp)) (Or.inl ⟨by rfl, ?_⟩) hS ?_
        · intro wq hSq
          try dsimp only at hSq
          go_simp
        try simp only [Act.put, List.setIfInBounds_toArray, List.set_cons_zero, List.set_cons_succ]
        refine wpAnyH_take (i := 8) (v := .int .i64 0) rfl (by kernel_rfl) (by kernel_rfl) (by kernel_rfl) (fun _ _ _ h => absurd h.1 (by simp)) (Or.inl ⟨by rfl, ?_⟩) hS ?_
        · intro wq hSq
          try dsimp only at hSq
          go_simp
        try simp only [Act.put, List.setIfInBounds_toArray, List.set_cons_zero, List.set_cons_succ]
        refine wpAnyH_take (i := 9) (v := .int .i64 0) rfl (by kernel_rfl) (by kernel_rfl) (by kernel_rfl) (fun _ _ _ h => absurd h.1 (by simp)) (Or.inl ⟨by rfl, ?_⟩) hS ?_
        · intro wq hSq
          try dsimp only at hSq
          go_simp
        try simp only [Act.put, List.setIfInBounds_toArray, List.set_cons_zero, List.set_cons_succ]
        refine wpAnyH_take (i := 10) (v := .int .u32 v) rfl (by kernel_rfl) (by kernel_rfl) (by kernel_rfl) (fun _ _ _ h => absurd h.1 (by simp)) (Or.inl ⟨by rfl, ?_⟩) hS ?_
        · intro wq hSq
          try dsimp only at hSq
          go_simp
        try simp only [Act.put, List.setIfInBounds_toArray, List.set_cons_zero, List.set_cons_succ]
        refine wpAnyH_ready (rs := [4]) (by kernel_rfl) (by simp) (AllReadyH.cons rfl (fun K hK => ?_) AllReadyH.nil)
        go_simp
        refine hK.out _ _ ?_ (fun hS2 => ?_)
        · exact hS
        clear hK K
        try simp only [Act.put, List.setIfInBounds_toArray, List.set_cons_zero, List.set_cons_succ]
        refine wpAnyH_ready (rs := [11]) (by kernel_rfl) (by simp) (AllReadyH.cons rfl (fun K hK => ?_) AllReadyH.nil)
        go_simp
        refine hK.out _ _ ?_ (fun hS2 => ?_)
        · exact hS
        clear hK K
        try simp only [Act.put, List.setIfInBounds_toArray, List.set_cons_zero, List.set_cons_succ]
        refine wpAnyH_ready (rs := [12]) (by kernel_rfl) (by simp) (AllReadyH.cons rfl (fun K hK => ?_) AllReadyH.nil)
        go_simp
        refine hK.out _ _ ?_ (fun hS2 => ?_)
        · exact hS
        clear hK K
        try simp only [Act.put, List.setIfInBounds_toArray, List.set_cons_zero, List.set_cons_succ]
        refine wpAnyH_ready (rs := [13]) (by kernel_rfl) (by simp) (AllReadyH.cons rfl (fun K hK => ?_) AllReadyH.nil)
        go_simp
        refine hK.out _ _ ?_ (fun hS2 => ?_)
        · exact (World.cell?_setCell_other _ _ _ _ (by simp)).trans hS
        clear hK K
        try simp only [Act.put, List.setIfInBounds_toArray, List.set_cons_zero, List.set_cons_succ]
        refine wpAnyH_done (by kernel_rfl) ⟨rfl, ?_⟩ _
        gi_wp2
        have hkd : KeepB w.heap.size (w.heap.size + 1 + 1 + 1 + 1 + 1 + 1) W W.drew := ⟨(Below.refl _ _).drew, rfl⟩
        exact ⟨((KeepsOthers.drew _).trans (KeepsOthers.setCell _ _ _)).from _, hkd.trans (KeepB.set _ _ _ (by show w.heap.size ≤ w.heap.size + 1 + 1 + 1 + 1; omega) (by show w.heap.size + 1 + 1 + 1 + 1 + 1 + 1 ≠ w.heap.size + 1 + 1 + 1 + 1; omega)), HF.out.drew.stored x q _ (HOK.out.2 (.inl hqw)) (by rw [HNN.out]; exact HST3.out), (HB.out.drew).setCell (p := ⟨w.heap.size + 1 + 1 + 1 + 1, q, none⟩) (by show w.heap.size ≤ w.heap.size + 1 + 1 + 1 + 1; omega) _⟩
      · have hmi : (a : Int) % 4 = 1 := by omega
        have htm : (a : Int).tmod 4 = 1 := by rw [Int.tmod_eq_emod_of_nonneg (by omega)]; exact hmi
        have hst3 := HST2.out
        rw [ha4, show (256 : Int) ^ 1 = 256 by decide] at hst3
        have HST3 := Aside0.mk hst3
        have hsw : IntKind.u32.wrap (v * 256) = (v * 256) := by rw [IntKind.wrap_u32]; omega
        clear ha4 hst3
        gi_wp2
        refine round_region (fun w' => w'.cell? ⟨w.heap.size + 1 + 1 + 1 + 1 + 1, 0, none⟩ = some (.slice (some ⟨w.heap.size + 1 + 1 + 1 + 1, 0, none⟩) width width)) hmix (by kernel_rfl) hcn ?_
        intro hS
        try simp only [List.size_toArray, List.length_cons, List.length_nil, Nat.reduceAdd, Array.replicate_succ, Array.replicate_zero, List.push_toArray, List.append_toArray, List.nil_append, List.cons_append]
        refine wpAnyH_take (i := 0) (v := .slice (some ⟨w.heap.size + 1 + 1 + 1 + 1, 0, none⟩) width width) rfl (by kernel_rfl) (by kernel_rfl) (by kernel_rfl) (fun _ _ _ h => absurd h.1 (by simp)) (Or.inl ⟨by rfl, ?_⟩) hS ?_
        · intro wq hSq
          try dsimp only at hSq
          go_simp
        try simp only [Act.put, List.setIfInBounds_toArray, List.set_cons_zero, List.set_cons_succ]
        refine wpAnyH_take (i := 1) (v := .int .i64 a) rfl (by kernel_rfl) (by kernel_rfl) (by kernel_rfl) (fun _ _ _ h => absurd h.1 (by simp)) (Or.inl ⟨by rfl, ?_⟩) hS ?_
        · intro wq hSq
          try dsimp only at hSq
          go_simp
        try simp only [Act.put, List.setIfInBounds_toArray, List.set_cons_zero, List.set_cons_succ]
        refine wpAnyH_take (i := 2) (v := .int .i64 q) rfl (by kernel_rfl) (by kernel_rfl) (by kernel_rfl) (fun _ _ _ h => absurd h.1 (by simp)) (Or.inl ⟨by rfl, ?_⟩) hS ?_
        · intro wq hSq
          try dsimp only at hSq
          go_simp
        try simp only [Act.put, List.setIfInBounds_toArray, List.set_cons_zero, List.set_cons_succ]
        refine wpAnyH_take (i := 3) (v := .pointer (some ⟨w.heap.size + 1 + 1 + 1 + 1, q, none⟩)) rfl (by kernel_rfl) (by kernel_rfl) (by kernel_rfl) (fun _ _ _ h => absurd h.1 (by simp)) (Or.inl ⟨by rfl, ?_⟩) hS ?_
        · intro wq hSq
          try dsimp only at hSq
          go_simp
        try simp only [Act.put, List.setIfInBounds_toArray, List.set_cons_zero, List.set_cons_succ]
        refine wpAnyH_take (i := 5) (v := .int .u8 v) rfl (by kernel_rfl) (by kernel_rfl) (by kernel_rfl) (fun _ _ _ h => absurd h.1 (by simp)) (Or.inl ⟨by rfl, ?_⟩) hS ?_
        · intro wq hSq
          try dsimp only at hSq
          go_simp
        try simp only [Act.put, List.setIfInBounds_toArray, List.set_cons_zero, List.set_cons_succ]
        refine wpAnyH_take (i := 6) (v := .int .u32 v) rfl (by kernel_rfl) (by kernel_rfl) (by kernel_rfl) (fun _ _ _ h => absurd h.1 (by simp)) (Or.inl ⟨by rfl, ?_⟩) hS ?_
        · intro wq hSq
          try dsimp only at hSq
          go_simp
        try simp only [Act.put, List.setIfInBounds_toArray, List.set_cons_zero, List.set_cons_succ]
        refine wpAnyH_take (i := 7) (v := .int .i64 a) rfl (by kernel_rfl) (by kernel_rfl) (by kernel_rfl) (fun _ _ _ h => absurd h.1 (by simp)) (Or.inl ⟨by rfl, ?_⟩) hS ?_
        · intro wq hSq
          try dsimp only at hSq
          go_simp
        try simp only [Act.put, List.setIfInBounds_toArray, List.set_cons_zero, List.set_cons_succ]
        refine wpAnyH_take (i := 8) (v := .int .i64 1) rfl (by kernel_rfl) (by kernel_rfl) (by kernel_rfl) (fun _ _ _ h => absurd h.1 (by simp)) (Or.inl ⟨by rfl, ?_⟩) hS ?_
        · intro wq hSq
          try dsimp only at hSq
          go_simp
        try simp only [Act.put, List.setIfInBounds_toArray, List.set_cons_zero, List.set_cons_succ]
        refine wpAnyH_take (i := 9) (v := .int .i64 8) rfl (by kernel_rfl) (by kernel_rfl) (by kernel_rfl) (fun _ _ _ h => absurd h.1 (by simp)) (Or.inl ⟨by rfl, ?_⟩) hS ?_
        · intro wq hSq
          try dsimp only at hSq
          go_simp
        try simp only [Act.put, List.setIfInBounds_toArray, List.set_cons_zero, List.set_cons_succ]
        refine wpAnyH_take (i := 10) (v := .int .u32 (v * 256)) rfl (by kernel_rfl) (by kernel_rfl) (by kernel_rfl) (fun _ _ _ h => absurd h.1 (by simp)) (Or.inl ⟨by rfl, ?_⟩) hS ?_
        · intro wq hSq
          try dsimp only at hSq
          go_simp
        try simp only [Act.put, List.setIfInBounds_toArray, List.set_cons_zero, List.set_cons_succ]
        refine wpAnyH_ready (rs := [4]) (by kernel_rfl) (by simp) (AllReadyH.cons rfl (fun K hK => ?_) AllReadyH.nil)
        go_simp
        refine hK.out _ _ ?_ (fun hS2 => ?_)
        · exact hS
        clear hK K
        try simp only [Act.put, List.setIfInBounds_toArray, List.set_cons_zero, List.set_cons_succ]
        refine wpAnyH_ready (rs := [11]) (by kernel_rfl) (by simp) (AllReadyH.cons rfl (fun K hK => ?_) AllReadyH.nil)
        go_simp
        refine hK.out _ _ ?_ (fun hS2 => ?_)
        · exact hS
        clear hK K
        try simp only [Act.put, List.setIfInBounds_toArray, List.set_cons_zero, List.set_cons_succ]
        refine wpAnyH_ready (rs := [12]) (by kernel_rfl) (by simp) (AllReadyH.cons rfl (fun K hK => ?_) AllReadyH.nil)
        go_simp
        refine hK.out _ _ ?_ (fun hS2 => ?_)
        · exact hS
        clear hK K
        try simp only [Act.put, List.setIfInBounds_toArray, List.set_cons_zero, List.set_cons_succ]
        refine wpAnyH_ready (rs := [13]) (by kernel_rfl) (by simp) (AllReadyH.cons rfl (fun K hK => ?_) AllReadyH.nil)
        go_simp
        refine hK.out _ _ ?_ (fun hS2 => ?_)
        · exact (World.cell?_setCell_other _ _ _ _ (by simp)).trans hS
        clear hK K
        try simp only [Act.put, List.setIfInBounds_toArray, List.set_cons_zero, List.set_cons_succ]
        refine wpAnyH_done (by kernel_rfl) ⟨rfl, ?_⟩ _
        gi_wp2
        have hkd : KeepB w.heap.size (w.heap.size + 1 + 1 + 1 + 1 + 1 + 1) W W.drew := ⟨(Below.refl _ _).drew, rfl⟩
        exact ⟨((KeepsOthers.drew _).trans (KeepsOthers.setCell _ _ _)).from _, hkd.trans (KeepB.set _ _ _ (by show w.heap.size ≤ w.heap.size + 1 + 1 + 1 + 1; omega) (by show w.heap.size + 1 + 1 + 1 + 1 + 1 + 1 ≠ w.heap.size + 1 + 1 + 1 + 1; omega)), HF.out.drew.stored x q _ (HOK.out.2 (.inl hqw)) (by rw [HNN.out]; exact HST3.out), (HB.out.drew).setCell (p := ⟨w.heap.size + 1 + 1 + 1 + 1, q, none⟩) (by show w.heap.size ≤ w.heap.size + 1 + 1 + 1 + 1; omega) _⟩
      · have hmi : (a : Int) % 4 = 2 := by omega
        have htm : (a : Int).tmod 4 = 2 := by rw [Int.tmod_eq_emod_of_nonneg (by omega)]; exact hmi
        have hst3 := HST2.out
        rw [ha4, show (256 : Int) ^ 2 = 65536 by decide] at hst3
        have HST3 := Aside0.mk hst3
        have hsw : IntKind.u32.wrap (v * 65536) = (v * 65536) := by rw [IntKind.wrap_u32]; omega
        clear ha4 hst3
        gi_wp2
        refine round_region (fun w' => w'.cell? ⟨w.heap.size + 1 + 1 + 1 + 1 + 1, 0, none⟩ = some (.slice (some ⟨w.heap.size + 1 + 1 + 1 + 1, 0, none⟩) width width)) hmix (by kernel_rfl) hcn ?_
        intro hS
        try simp only [List.size_toArray, List.length_cons, List.length_nil, Nat.reduceAdd, Array.replicate_succ, Array.replicate_zero, List.push_toArray, List.append_toArray, List.nil_append, List.cons_append]
        refine wpAnyH_take (i := 0) (v := .slice (some ⟨w.heap.size + 1 + 1 + 1 + 1, 0, none⟩) width width) rfl (by kernel_rfl) (by kernel_rfl) (by kernel_rfl) (fun _ _ _ h => absurd h.1 (by simp)) (Or.inl ⟨by rfl, ?_⟩) hS ?_
        · intro wq hSq
          try dsimp only at hSq
          go_simp
        try simp only [Act.put, List.setIfInBounds_toArray, List.set_cons_zero, List.set_cons_succ]
        refine wpAnyH_take (i := 1) (v := .int .i64 a) rfl (by kernel_rfl) (by kernel_rfl) (by kernel_rfl) (fun _ _ _ h => absurd h.1 (by simp)) (Or.inl ⟨by rfl, ?_⟩) hS ?_
        · intro wq hSq
          try dsimp only at hSq
          go_simp
        try simp only [Act.put, List.setIfInBounds_toArray, List.set_cons_zero, List.set_cons_succ]
        refine wpAnyH_take (i := 2) (v := .int .i64 q) rfl (by kernel_rfl) (by kernel_rfl) (by kernel_rfl) (fun _ _ _ h => absurd h.1 (by simp)) (Or.inl ⟨by rfl, ?_⟩) hS ?_
        · intro wq hSq
          try dsimp only at hSq
          go_simp
        try simp only [Act.put, List.setIfInBounds_toArray, List.set_cons_zero, List.set_cons_succ]
        refine wpAnyH_take (i := 3) (v := .pointer (some ⟨w.heap.size + 1 + 1 + 1 + 1, q, none⟩)) rfl (by kernel_rfl) (by kernel_rfl) (by kernel_rfl) (fun _ _ _ h => absurd h.1 (by simp)) (Or.inl ⟨by rfl, ?_⟩) hS ?_
        · intro wq hSq
          try dsimp only at hSq
          go_simp
        try simp only [Act.put, List.setIfInBounds_toArray, List.set_cons_zero, List.set_cons_succ]
        refine wpAnyH_take (i := 5) (v := .int .u8 v) rfl (by kernel_rfl) (by kernel_rfl) (by kernel_rfl) (fun _ _ _ h => absurd h.1 (by simp)) (Or.inl ⟨by rfl, ?_⟩) hS ?_
        · intro wq hSq
          try dsimp only at hSq
          go_simp
        try simp only [Act.put, List.setIfInBounds_toArray, List.set_cons_zero, List.set_cons_succ]
        refine wpAnyH_take (i := 6) (v := .int .u32 v) rfl (by kernel_rfl) (by kernel_rfl) (by kernel_rfl) (fun _ _ _ h => absurd h.1 (by simp)) (Or.inl ⟨by rfl, ?_⟩) hS ?_
        · intro wq hSq
          try dsimp only at hSq
          go_simp
        try simp only [Act.put, List.setIfInBounds_toArray, List.set_cons_zero, List.set_cons_succ]
        refine wpAnyH_take (i := 7) (v := .int .i64 a) rfl (by kernel_rfl) (by kernel_rfl) (by kernel_rfl) (fun _ _ _ h => absurd h.1 (by simp)) (Or.inl ⟨by rfl, ?_⟩) hS ?_
        · intro wq hSq
          try dsimp only at hSq
          go_simp
        try simp only [Act.put, List.setIfInBounds_toArray, List.set_cons_zero, List.set_cons_succ]
        refine wpAnyH_take (i := 8) (v := .int .i64 2) rfl (by kernel_rfl) (by kernel_rfl) (by kernel_rfl) (fun _ _ _ h => absurd h.1 (by simp)) (Or.inl ⟨by rfl, ?_⟩) hS ?_
        · intro wq hSq
          try dsimp only at hSq
          go_simp
        try simp only [Act.put, List.setIfInBounds_toArray, List.set_cons_zero, List.set_cons_succ]
        refine wpAnyH_take (i := 9) (v := .int .i64 16) rfl (by kernel_rfl) (by kernel_rfl) (by kernel_rfl) (fun _ _ _ h => absurd h.1 (by simp)) (Or.inl ⟨by rfl, ?_⟩) hS ?_
        · intro wq hSq
          try dsimp only at hSq
          go_simp
        try simp only [Act.put, List.setIfInBounds_toArray, List.set_cons_zero, List.set_cons_succ]
        refine wpAnyH_take (i := 10) (v := .int .u32 (v * 65536)) rfl (by kernel_rfl) (by kernel_rfl) (by kernel_rfl) (fun _ _ _ h => absurd h.1 (by simp)) (Or.inl ⟨by rfl, ?_⟩) hS ?_
        · intro wq hSq
          try dsimp only at hSq
          go_simp
        try simp only [Act.put, List.setIfInBounds_toArray, List.set_cons_zero, List.set_cons_succ]
        refine wpAnyH_ready (rs := [4]) (by kernel_rfl) (by simp) (AllReadyH.cons rfl (fun K hK => ?_) AllReadyH.nil)
        go_simp
        refine hK.out _ _ ?_ (fun hS2 => ?_)
        · exact hS
        clear hK K
        try simp only [Act.put, List.setIfInBounds_toArray, List.set_cons_zero, List.set_cons_succ]
        refine wpAnyH_ready (rs := [11]) (by kernel_rfl) (by simp) (AllReadyH.cons rfl (fun K hK => ?_) AllReadyH.nil)
        go_simp
        refine hK.out _ _ ?_ (fun hS2 => ?_)
        · exact hS
        clear hK K
        try simp only [Act.put, List.setIfInBounds_toArray, List.set_cons_zero, List.set_cons_succ]
        refine wpAnyH_ready (rs := [12]) (by kernel_rfl) (by simp) (AllReadyH.cons rfl (fun K hK => ?_) AllReadyH.nil)
        go_simp
        refine hK.out _ _ ?_ (fun hS2 => ?_)
        · exact hS
        clear hK K
        try simp only [Act.put, List.setIfInBounds_toArray, List.set_cons_zero, List.set_cons_succ]
        refine wpAnyH_ready (rs := [13]) (by kernel_rfl) (by simp) (AllReadyH.cons rfl (fun K hK => ?_) AllReadyH.nil)
        go_simp
        refine hK.out _ _ ?_ (fun hS2 => ?_)
        · exact (World.cell?_setCell_other _ _ _ _ (by simp)).trans hS
        clear hK K
        try simp only [Act.put, List.setIfInBounds_toArray, List.set_cons_zero, List.set_cons_succ]
        refine wpAnyH_done (by kernel_rfl) ⟨rfl, ?_⟩ _
        gi_wp2
        have hkd : KeepB w.heap.size (w.heap.size + 1 + 1 + 1 + 1 + 1 + 1) W W.drew := ⟨(Below.refl _ _).drew, rfl⟩
        exact ⟨((KeepsOthers.drew _).trans (KeepsOthers.setCell _ _ _)).from _, hkd.trans (KeepB.set _ _ _ (by show w.heap.size ≤ w.heap.size + 1 + 1 + 1 + 1; omega) (by show w.heap.size + 1 + 1 + 1 + 1 + 1 + 1 ≠ w.heap.size + 1 + 1 + 1 + 1; omega)), HF.out.drew.stored x q _ (HOK.out.2 (.inl hqw)) (by rw [HNN.out]; exact HST3.out), (HB.out.drew).setCell (p := ⟨w.heap.size + 1 + 1 + 1 + 1, q, none⟩) (by show w.heap.size ≤ w.heap.size + 1 + 1 + 1 + 1; omega) _⟩
      · have hmi : (a : Int) % 4 = 3 := by omega
        have htm : (a : Int).tmod 4 = 3 := by rw [Int.tmod_eq_emod_of_nonneg (by omega)]; exact hmi
        have hst3 := HST2.out
        rw [ha4, show (256 : Int) ^ 3 = 16777216 by decide] at hst3
        have HST3 := Aside0.mk hst3
        have hsw : IntKind.u32.wrap (v * 16777216) = (v * 16777216) := by rw [IntKind.wrap_u32]; omega
        clear ha4 hst3
        gi_wp2
        refine round_region (fun w' => w'.cell? ⟨w.heap.size + 1 + 1 + 1 + 1 + 1, 0, none⟩ = some (.slice (some ⟨w.heap.size + 1 + 1 + 1 + 1, 0, none⟩) width width)) hmix (by kernel_rfl) hcn ?_
        intro hS
        try simp only [List.size_toArray, List.length_cons, List.length_nil, Nat.reduceAdd, Array.replicate_succ, Array.replicate_zero, List.push_toArray, List.append_toArray, List.nil_append, List.cons_append]
        refine wpAnyH_take (i := 0) (v := .slice (some ⟨w.heap.size + 1 + 1 + 1 + 1, 0, none⟩) width width) rfl (by kernel_rfl) (by kernel_rfl) (by kernel_rfl) (fun _ _ _ h => absurd h.1 (by simp)) (Or.inl ⟨by rfl, ?_⟩) hS ?_
        · intro wq hSq
          try dsimp only at hSq
          go_simp
        try simp only [Act.put, List.setIfInBounds_toArray, List.set_cons_zero, List.set_cons_succ]
        refine wpAnyH_take (i := 1) (v := .int .i64 a) rfl (by kernel_rfl) (by kernel_rfl) (by kernel_rfl) (fun _ _ _ h => absurd h.1 (by simp)) (Or.inl ⟨by rfl, ?_⟩) hS ?_
        · intro wq hSq
          try dsimp only at hSq
          go_simp
        try simp only [Act.put, List.setIfInBounds_toArray, List.set_cons_zero, List.set_cons_succ]
        refine wpAnyH_take (i := 2) (v := .int .i64 q) rfl (by kernel_rfl) (by kernel_rfl) (by kernel_rfl) (fun _ _ _ h => absurd h.1 (by simp)) (Or.inl ⟨by rfl, ?_⟩) hS ?_
        · intro wq hSq
          try dsimp only at hSq
          go_simp
        try simp only [Act.put, List.setIfInBounds_toArray, List.set_cons_zero, List.set_cons_succ]
        refine wpAnyH_take (i := 3) (v := .pointer (some ⟨w.heap.size + 1 + 1 + 1 + 1, q, none⟩)) rfl (by kernel_rfl) (by kernel_rfl) (by kernel_rfl) (fun _ _ _ h => absurd h.1 (by simp)) (Or.inl ⟨by rfl, ?_⟩) hS ?_
        · intro wq hSq
          try dsimp only at hSq
          go_simp
        try simp only [Act.put, List.setIfInBounds_toArray, List.set_cons_zero, List.set_cons_succ]
        refine wpAnyH_take (i := 5) (v := .int .u8 v) rfl (by kernel_rfl) (by kernel_rfl) (by kernel_rfl) (fun _ _ _ h => absurd h.1 (by simp)) (Or.inl ⟨by rfl, ?_⟩) hS ?_
        · intro wq hSq
          try dsimp only at hSq
          go_simp
        try simp only [Act.put, List.setIfInBounds_toArray, List.set_cons_zero, List.set_cons_succ]
        refine wpAnyH_take (i := 6) (v := .int .u32 v) rfl (by kernel_rfl) (by kernel_rfl) (by kernel_rfl) (fun _ _ _ h => absurd h.1 (by simp)) (Or.inl ⟨by rfl, ?_⟩) hS ?_
        · intro wq hSq
          try dsimp only at hSq
          go_simp
        try simp only [Act.put, List.setIfInBounds_toArray, List.set_cons_zero, List.set_cons_succ]
        refine wpAnyH_take (i := 7) (v := .int .i64 a) rfl (by kernel_rfl) (by kernel_rfl) (by kernel_rfl) (fun _ _ _ h => absurd h.1 (by simp)) (Or.inl ⟨by rfl, ?_⟩) hS ?_
        · intro wq hSq
          try dsimp only at hSq
          go_simp
        try simp only [Act.put, List.setIfInBounds_toArray, List.set_cons_zero, List.set_cons_succ]
        refine wpAnyH_take (i := 8) (v := .int .i64 3) rfl (by kernel_rfl) (by kernel_rfl) (by kernel_rfl) (fun _ _ _ h => absurd h.1 (by simp)) (Or.inl ⟨by rfl, ?_⟩) hS ?_
        · intro wq hSq
          try dsimp only at hSq
          go_simp
        try simp only [Act.put, List.setIfInBounds_toArray, List.set_cons_zero, List.set_cons_succ]
        refine wpAnyH_take (i := 9) (v := .int .i64 24) rfl (by kernel_rfl) (by kernel_rfl) (by kernel_rfl) (fun _ _ _ h => absurd h.1 (by simp)) (Or.inl ⟨by rfl, ?_⟩) hS ?_
        · intro wq hSq
          try dsimp only at hSq
          go_simp
        try simp only [Act.put, List.setIfInBounds_toArray, List.set_cons_zero, List.set_cons_succ]
        refine wpAnyH_take (i := 10) (v := .int .u32 (v * 16777216)) rfl (by kernel_rfl) (by kernel_rfl) (by kernel_rfl) (fun _ _ _ h => absurd h.1 (by simp)) (Or.inl ⟨by rfl, ?_⟩) hS ?_
        · intro wq hSq
          try dsimp only at hSq
          go_simp
        try simp only [Act.put, List.setIfInBounds_toArray, List.set_cons_zero, List.set_cons_succ]
        refine wpAnyH_ready (rs := [4]) (by kernel_rfl) (by simp) (AllReadyH.cons rfl (fun K hK => ?_) AllReadyH.nil)
        go_simp
        refine hK.out _ _ ?_ (fun hS2 => ?_)
        · exact hS
        clear hK K
        try simp only [Act.put, List.setIfInBounds_toArray, List.set_cons_zero, List.set_cons_succ]
        refine wpAnyH_ready (rs := [11]) (by kernel_rfl) (by simp) (AllReadyH.cons rfl (fun K hK => ?_) AllReadyH.nil)
        go_simp
        refine hK.out _ _ ?_ (fun hS2 => ?_)
        · exact hS
        clear hK K
        try simp only [Act.put, List.setIfInBounds_toArray, List.set_cons_zero, List.set_cons_succ]
        refine wpAnyH_ready (rs := [12]) (by kernel_rfl) (by simp) (AllReadyH.cons rfl (fun K hK => ?_) AllReadyH.nil)
        go_simp
        refine hK.out _ _ ?_ (fun hS2 => ?_)
        · exact hS
        clear hK K
        try simp only [Act.put, List.setIfInBounds_toArray, List.set_cons_zero, List.set_cons_succ]
        refine wpAnyH_ready (rs := [13]) (by kernel_rfl) (by simp) (AllReadyH.cons rfl (fun K hK => ?_) AllReadyH.nil)
        go_simp
        refine hK.out _ _ ?_ (fun hS2 => ?_)
        · exact (World.cell?_setCell_other _ _ _ _ (by simp)).trans hS
        clear hK K
        try simp only [Act.put, List.setIfInBounds_toArray, List.set_cons_zero, List.set_cons_succ]
        refine wpAnyH_done (by kernel_rfl) ⟨rfl, ?_⟩ _
        gi_wp2
        have hkd : KeepB w.heap.size (w.heap.size + 1 + 1 + 1 + 1 + 1 + 1) W W.drew := ⟨(Below.refl _ _).drew, rfl⟩
        exact ⟨((KeepsOthers.drew _).trans (KeepsOthers.setCell _ _ _)).from _, hkd.trans (KeepB.set _ _ _ (by show w.heap.size ≤ w.heap.size + 1 + 1 + 1 + 1; omega) (by show w.heap.size + 1 + 1 + 1 + 1 + 1 + 1 ≠ w.heap.size + 1 + 1 + 1 + 1; omega)), HF.out.drew.stored x q _ (HOK.out.2 (.inl hqw)) (by rw [HNN.out]; exact HST3.out), (HB.out.drew).setCell (p := ⟨w.heap.size + 1 + 1 + 1 + 1, q, none⟩) (by show w.heap.size ≤ w.heap.size + 1 + 1 + 1 + 1; omega) _⟩
    · have hqwi : decide ((q : Int) < (width : Int)) = false := decide_eq_false (by omega)
      have hqd : decide (q < width) = false := decide_eq_false hqw
      have HST2 := Aside0.mk (show nf width l0 (pre ++ [x]) = nf width l0 pre by rw [HST.out, if_neg hqw])
      have HQ := Aside0.mk hqw
      clear hqw
      by_cases hz : v = 0
      · subst hz
        gi_wp2
        exact ⟨KeepsFrom.refl _ _, KeepB.refl _ _ _, HF.out.passed x (HOK.out.2 (by simp)) HST2.out, HB.out⟩
      · have hz2 : (v != 0) = true := by simpa using hz
        have HZ := Aside0.mk hz
        have hr1 := HF.out.r1.cell
        have hr1f := HF.out.r1.frozen
        have hr2 := HF.out.r2.cell
        have hr2f := HF.out.r2.frozen
        clear hz
        gi_wp2
        exact ⟨((KeepsOthers.setCell _ _ _).trans (KeepsOthers.setCell _ _ _)).from _, ⟨rfl, (HF.out.r1.set _).kept (grownBy_setCell' _ _ _) (by simp), (HF.out.r2.kept (grownBy_setCell' _ _ _) (by simp)).set _, pre, x, rfl, fun ho => (HOK.out.1 ho).elim HQ.out HZ.out⟩, (HB.out.setCell (p := ⟨w.heap.size + 1 + 1, 0, none⟩) (by show w.heap.size ≤ w.heap.size + 1 + 1; omega) _).setCell (p := ⟨w.heap.size + 1 + 1 + 1, 0, none⟩) (by show w.heap.size ≤ w.heap.size + 1 + 1 + 1; omega) _⟩
  case done =>
    rintro D ys W hD rfl ⟨hF, hB⟩ hK
    have hn := hF.n.cell
    have hr1 := hF.r1.cell
    have hr1f := hF.r1.frozen
    have hr2 := hF.r2.cell
    have hr2f := hF.r2.frozen
    have hall : ∀ x, x < l0.length → okF width l0 x := fun x hx => hF.ok x (List.mem_range.2 hx)
    have hh := HH.out
    rw [if_pos hall] at hh
    simp only [Option.some.injEq, Prod.mk.injEq] at hh
    obtain ⟨rfl, rfl⟩ := hh
    have HF := Aside0.mk hF
    have HALL := Aside0.mk hall
    clear hF hall
    gi_wp2
    have b1 : Boxed ((W.setCell ⟨w.heap.size + 1 + 1, 0, none⟩ (.slice (some ⟨w.heap.size + 1 + 1 + 1 + 1, 0, none⟩) width width)).setCell ⟨w.heap.size + 1 + 1 + 1, 0, none⟩ (.int .i64 0)) (w.heap.size + 1 + 1) 23 (.slice (some ⟨w.heap.size + 1 + 1 + 1 + 1, 0, none⟩) width width) :=
      (HF.out.r1.set _).kept (grownBy_setCell' _ _ _) (by simp)
    have b2 : Boxed ((W.setCell ⟨w.heap.size + 1 + 1, 0, none⟩ (.slice (some ⟨w.heap.size + 1 + 1 + 1 + 1, 0, none⟩) width width)).setCell ⟨w.heap.size + 1 + 1 + 1, 0, none⟩ (.int .i64 0)) (w.heap.size + 1 + 1 + 1) 25 (.int .i64 0) :=
      (HF.out.r2.kept (grownBy_setCell' _ _ _) (by simp)).set _
    have hK' := ((KeepsOthers.setCell W ⟨w.heap.size + 1 + 1, 0, none⟩ (.slice (some ⟨w.heap.size + 1 + 1 + 1 + 1, 0, none⟩) width width)).trans (KeepsOthers.setCell _ ⟨w.heap.size + 1 + 1 + 1, 0, none⟩ (.int .i64 0))).same D _ hK rfl
    have hrow := (HF.out.row.kept (grownBy_setCell' W (w.heap.size + 1 + 1) (.slice (some ⟨w.heap.size + 1 + 1 + 1 + 1, 0, none⟩) width width)) (.inr (by simp [Value.ownBlock] <;> omega))).kept (grownBy_setCell' _ (w.heap.size + 1 + 1 + 1) (.int .i64 0)) (.inr (by simp [Value.ownBlock] <;> omega))
    refine ⟨by simp, .inl ⟨_, _, rfl, run_takeDeferred hK', ?_⟩⟩
    have hc1 := cell_kept b1.cell (grownBy_putObj' _ D (.deferred none)) (fun r e => by cases e; exact ⟨_, hK', rfl⟩)
    have hc2 := cell_kept b2.cell (grownBy_putObj' _ D (.deferred none)) (fun r e => by cases e; exact ⟨_, hK', rfl⟩)
    have hrow2 := ownsRow_putObj hrow (.deferred none) hK' rfl
    have hlen2 := nf_length width l0 (List.range l0.length)
    refine ⟨.tuple #[.slice (some ⟨w.heap.size + 1 + 1 + 1 + 1, 0, none⟩) width width, .int .i64 0], ?_, ⟨_, rfl, Kd.R_of_own (h1 := fun _ => rfl) (by rw [hlen2]; exact hrow2) (fun _ _ => trivial)⟩, ((hB.setCell (p := ⟨w.heap.size + 1 + 1, 0, none⟩) (by show w.heap.size ≤ w.heap.size + 1 + 1; omega) _).setCell (p := ⟨w.heap.size + 1 + 1 + 1, 0, none⟩) (by show w.heap.size ≤ w.heap.size + 1 + 1 + 1; omega) _).trans (belowK_b (w := w) (Nat.le_refl _) _ D _ _ (by omega) hK' rfl rfl)⟩
    simp [results, Try.f23, go_sem, hc1, hc2]
  case stop =>
    rintro D c pre W hD ⟨k, hk, rfl⟩ ⟨⟨rfl, hX⟩, hB⟩ hK
    obtain ⟨b1, b2, ini, last, e1, hbad⟩ := hX
    have hnall : ¬ ∀ x, x < l0.length → okF width l0 x := fun hall => by
      have hm : last ∈ List.range k := by rw [e1]; simp
      exact hbad (hall last (by have := List.mem_range.1 hm; omega))
    have hh := HH.out
    rw [if_neg hnall] at hh
    simp only [Option.some.injEq, Prod.mk.injEq] at hh
    obtain ⟨rfl, rfl⟩ := hh
    clear hbad hnall e1
    gi_wp2
    refine ⟨by simp, .inl ⟨_, _, rfl, run_takeDeferred hK, ?_⟩⟩
    have hc1 := cell_kept b1.cell (grownBy_putObj' _ D (.deferred none)) (fun r e => by cases e; exact ⟨_, hK, rfl⟩)
    have hc2 := cell_kept b2.cell (grownBy_putObj' _ D (.deferred none)) (fun r e => by cases e; exact ⟨_, hK, rfl⟩)
    refine ⟨.tuple #[.slice none 0 0, .int .i64 11], ?_, ⟨_, rfl, Kd.R_nil _ _ _ _ _⟩, hB.trans (belowK_b (w := w) (Nat.le_refl _) _ D _ _ (by omega) hK rfl rfl)⟩
    simp [results, Try.f23, go_sem, hc1, hc2]

theorem from_bad (A0 : Option Addr) (n c0 : Nat) (a1 : Int) (w : World) (h : a1 < 1 ∨ 256 < a1) :
    Calls Try.prog 23 #[.slice A0 n c0, .int .i64 a1] w fun e w' => e = .returned (.tuple #[.slice none 0 0, .int .i64 24]) ∧ Below w.heap.size w w' := by
  rcases h with h | h
  · have h1 : decide (a1 < 1) = true := decide_eq_true h
    go_enter Try.func23, Try.ntmps23
    go_wp2
    exact bodyPost_ret (v := .tuple #[.slice none 0 0, .int .i64 24]) (by simp [results, Try.f23, go_sem]) rfl ⟨rfl, ((((Below.refl _ _).alloc (Nat.le_refl _) _).alloc (by simp) _).alloc (by simp; omega) _).alloc (by simp; omega) _⟩
  · have h1 : decide (a1 < 1) = false := decide_eq_false (by omega)
    have h2 : decide (256 < a1) = true := decide_eq_true h
    go_enter Try.func23, Try.ntmps23
    go_wp2
    exact bodyPost_ret (v := .tuple #[.slice none 0 0, .int .i64 24]) (by simp [results, Try.f23, go_sem]) rfl ⟨rfl, ((((Below.refl _ _).alloc (Nat.le_refl _) _).alloc (by simp) _).alloc (by simp; omega) _).alloc (by simp; omega) _⟩

theorem limbs_From.calls (A0 : Option Addr) (c0 : Nat) (l0 : List Int) (a1 : Int) (r1 : List Int) (r2 : Int) (w : World) (hr0 : Kd.C (Kd.int .u8) w A0 l0.length l0) (hc0 : l0.length ≤ c0) (h : limbs_From.f l0 a1 = some (r1, r2)) :
    Calls Try.prog 23 #[.slice A0 l0.length c0, .int .i64 a1] w fun e w' => ∃ v0_ : Value, e = .returned (.tuple #[v0_, .int .i64 r2]) ∧ Kd.R (Kd.int .u32) 47 w' w.heap.size (fun _ => True) v0_ r1 ∧ Below w.heap.size w w' := by
  unfold limbs_From.f at h
  by_cases hb : a1 < 1 ∨ 256 < a1
  · rw [if_pos hb] at h
    simp only [Option.some.injEq, Prod.mk.injEq] at h
    obtain ⟨rfl, rfl⟩ := h
    exact (from_bad A0 l0.length c0 a1 w hb).mono fun e w' ⟨he, hw⟩ => ⟨_, he, Kd.R_nil _ _ _ _ _, hw⟩
  · rw [if_neg hb] at h
    by_cases hd : l0.length ≤ 35184372088832 ∧ ∀ x ∈ l0, 0 ≤ x ∧ x < 256
    · rw [if_pos hd] at h
      obtain ⟨m, rfl⟩ : ∃ m : Nat, a1 = m := ⟨a1.toNat, by omega⟩
      rw [Int.toNat_natCast] at h
      exact (callsIn_wide.1 (from_in A0 c0 l0 w (intsB_of hr0) m (by omega) (by omega) hd.1 hd.2 r1 r2 h)).mono fun e w' ⟨⟨v, he, hR⟩, hw⟩ => ⟨v, he, hR, hw⟩
    · rw [if_neg hd] at h
      exact absurd h (by simp)
end Go.Proofs.Ytcljdpaniinhmaa.L
