/- The contract of limbs.Bits at a number of words: how many bits it has. -/
import Derived.Test.YtcljdpaniinhmaaH0
import Derived.Test.YtcljdpaniinhmaaH1
import Derived.Test.YtcljdpaniinhmaaH6
namespace Go.Proofs.Ytcljdpaniinhmaa.L
open Go.RowKit Go.Shelf Go.Proofs.YtcljdpaniinhmaaW.PrintWords Go.Proofs.YtcljdpaniinhmaaW.PrintLast Go.Proofs.YtcljdpaniinhmaaW.PrintMore
attribute [local go_sem] Oper.semAt_some
set_option linter.unusedVariables false
set_option linter.unusedSimpArgs false

/-- The bits of the limbs below k, the highest that isn't 0 being looked for from above. -/
def bitsL (l : List Int) : Nat → Int
  | 0 => 0
  | k + 1 => if dgv l k = 0 then bitsL l k else 32 * k + len32 (dgv l k)

/-- How many bits: of words alone anything is said. -/
def limbs_Bits.f (l0 : List Int) : Option Int :=
  if 1 ≤ l0.length ∧ l0.length ≤ 256 then (if ∀ x ∈ l0, 0 ≤ x ∧ x < 4294967296 then some (bitsL l0 l0.length) else none) else some 0

theorem bitsL_none (l : List Int) : ∀ (n : Nat), (∀ j, j < n → dgv l j = 0) → bitsL l n = 0
  | 0, _ => rfl
  | n + 1, h => by
    simp only [bitsL]
    rw [if_pos (h n (by omega)), bitsL_none l n (fun j hj => h j (by omega))]

theorem bitsL_at (l : List Int) (i : Nat) (hi : dgv l i ≠ 0) : ∀ (n : Nat), i < n → (∀ j, i < j → j < n → dgv l j = 0) → bitsL l n = 32 * i + len32 (dgv l i)
  | 0, h, _ => by omega
  | n + 1, h, hz => by
    simp only [bitsL]
    by_cases e : i = n
    · subst e
      rw [if_neg hi]
    · rw [if_pos (hz n (by omega) (by omega)), bitsL_at l i hi n (by omega) (fun j hj hj2 => hz j hj (by omega))]

theorem dgv_word {l : List Int} (h : ∀ x ∈ l, 0 ≤ x ∧ x < 4294967296) (i : Nat) : 0 ≤ dgv l i ∧ dgv l i < 4294967296 := by
  unfold dgv
  by_cases hi : i < l.length
  · rw [List.getD_eq_getElem?_getD, List.getElem?_eq_getElem hi]
    exact h _ (List.getElem_mem hi)
  · rw [List.getD_eq_getElem?_getD, List.getElem?_eq_none (by omega)]
    simp

theorem len32_le (x : Int) (h0 : 0 ≤ x) (h1 : x < 4294967296) : 0 ≤ len32 x ∧ len32 x ≤ 32 := by
  unfold len32
  have := Lib.bitLen_le x.toNat 32 (by omega) (by omega)
  omega

theorem nats_one {w : World} (b : Nat) (A0 : Option Addr) (n c0 : Nat) (hb : b = w.heap.size) : NatsAt (w.alloc (.cells #[.slice A0 n c0] 23)) b 1 (fun _ => A0) (fun _ => n) (fun _ => c0) := by
  subst hb
  intro j hj
  rw [World.cell?_alloc_new]
  obtain rfl : j = 0 := by omega
  rfl

theorem bits_no (A0 : Option Addr) (c0 : Nat) (l0 : List Int) (w : World) (h : l0.length < 1 ∨ 256 < l0.length) :
    Calls Try.prog 28 #[.slice A0 l0.length c0] w fun e w' => e = .returned (.int .i64 0) ∧ Below w.heap.size w w' := by
  have HH := Aside0.mk h
  clear h
  have hb := Boxed.new w 3 (.int .i64 0)
  have hc1 := (hb.alloc (.cells #[.slice A0 l0.length c0] 23)).cell
  have hc2 := (hb.alloc (.cells #[.slice A0 l0.length c0] 23)).frozen
  clear hb
  go_enter Try.func28, Try.ntmps28
  go_wp2_with (go_at_call 30; refine (right_no (by omega) (nats_one _ A0 l0.length c0 (by simp)) 0 (by omega) (fun j hj => by omega) HH.out).mono ?_; rintro e w' ⟨rfl, rfl⟩)
  exact bodyPost_ret (v := .int .i64 0) (by simp [results, Try.f28, go_sem]) rfl ⟨rfl, ((Below.refl _ _).alloc (Nat.le_refl _) _).alloc (by simp) _⟩

set_option maxRecDepth 100000 in
set_option maxHeartbeats 2000000 in
theorem bits_in (A0 : Option Addr) (c0 : Nat) (l0 : List Int) (w : World) (hI : IntsN w.heap.size w A0 l0) (h1 : 1 ≤ l0.length) (h2 : l0.length ≤ 256) (hd : ∀ x ∈ l0, 0 ≤ x ∧ x < 4294967296) :
    CallsIn Fence.wide 3 Try.prog 28 #[.slice A0 l0.length c0] w fun e W' => e = .returned (.int .i64 (bitsL l0 l0.length)) ∧ Below w.heap.size w W' := by
  have HD := Aside0.mk hd
  have HI := Aside0.mk hI
  have HL := Aside0.mk h1
  clear hd hI h1
  refine callsIn_of_wp_marks Try.func28 rfl trivial ?_ rfl
  simp only [Try.ntmps28, List.size_toArray, List.length_cons, List.length_nil, Nat.reduceAdd, Nat.reduceSub, Array.replicate_succ, Array.replicate_zero, List.push_toArray, List.append_toArray, List.nil_append, List.cons_append]
  gi_wp2_with (first | (refine ⟨trivial, ?_⟩; gi_at_call 30; refine (callsIn_wide.2 (right_yes (by omega) (nats_one _ A0 l0.length c0 (by simp)) (fun j hj => ⟨HL.out, h2⟩))).mono ?_; rintro e w' ⟨rfl, rfl⟩) | (refine ⟨trivial, ?_⟩; gi_at_call 37; refine (backN_in Fence.wide _ trivial rfl _ _ _ _).mono ?_; rintro e w' ⟨rfl, rfl⟩))
  have bR := Boxed.new w 3 (.int .i64 0)
  have bN := Boxed.new ((w.alloc (.cells #[.int .i64 0] 3)).alloc (.cells #[.slice A0 l0.length c0] 23)) 23 (.slice A0 l0.length c0)
  rw [World.size_alloc, World.size_alloc] at bN
  have hB0 : Below w.heap.size w (((w.alloc (.cells #[.int .i64 0] 3)).alloc (.cells #[.slice A0 l0.length c0] 23)).alloc (.cells #[.slice A0 l0.length c0] 23)) := (((Below.refl _ w).alloc (Nat.le_refl _) _).alloc (by simp) _).alloc (by simp; omega) _
  refine wpIn_rangeFunc_ownG rfl (by omega) (gf := 43) (lb := #[.pointer (some ⟨w.heap.size + 1 + 1, 0, none⟩)]) rfl trivial (enters_of Try.func43 (by kernel_rfl) rfl)
    (backN_stops Fence.wide _ trivial rfl (by omega) (w.heap.size + 1 + 1) w.heap.size A0 c0 l0 (by omega) _ (by simp) (by simp; omega) bN.cell (HI.out.below hB0)) KeepB.trans (keepB_b (by simp; omega) (by simp)) (Below.refl _ _) (fun _ => rfl)
    (fun pre W => ((∀ j ∈ pre, dgv l0 (l0.length - 1 - j) = 0) ∧ W.cell? ⟨w.heap.size, 0, none⟩ = some (.int .i64 0) ∧ W.frozen? ⟨w.heap.size, 0, none⟩ = false) ∧ Below w.heap.size w W)
    (fun c pre W => (c = .ret ∧ ∃ ini last, pre = ini ++ [last] ∧ (∀ j ∈ ini, dgv l0 (l0.length - 1 - j) = 0) ∧ dgv l0 (l0.length - 1 - last) ≠ 0 ∧ W.cell? ⟨w.heap.size, 0, none⟩ = some (.int .i64 (32 * ((l0.length - 1 - last : Nat) : Int) + len32 (dgv l0 (l0.length - 1 - last))))) ∧ Below w.heap.size w W)
    (OwnFrom.and (Own.from (fun s A B row hs hg hr => ⟨hs.1, cell_kept hs.2.1 hg hr, (frozen_kept hs.2.1 hg hr).trans hs.2.2⟩) _) (ownFrom_below (Nat.le_refl _) (by simp; omega)))
    (fun c => OwnFrom.and (Own.from (fun s A B row hs hg hr => by obtain ⟨hc, ini, last, e1, e2, e3, e4⟩ := hs; exact ⟨hc, ini, last, e1, e2, e3, cell_kept e4 hg hr⟩) _) (ownFrom_below (Nat.le_refl _) (by simp; omega)))
    ⟨⟨by simp, ((bR.alloc _).alloc _).cell, ((bR.alloc _).alloc _).frozen⟩, hB0⟩
    (fun x => { tmps := #[.slice A0 l0.length c0, undef, .pointer (some ⟨w.heap.size, 0, none⟩), .int .i64 ((l0.length - 1 - x : Nat) : Int), .int .u32 (dgv l0 (l0.length - 1 - x)), .slice A0 l0.length c0, .slice (some ⟨w.heap.size + 1, 0, none⟩) 1 1, .bool true, .bool false, .slice A0 l0.length c0, .func (.func 43) #[] #[.pointer (some ⟨w.heap.size + 1 + 1, 0, none⟩)], .int .i64 ((l0.length - 1 - x : Nat) : Int), .int .u32 (dgv l0 (l0.length - 1 - x)), undef, undef, undef, undef, undef, undef, undef], defers := [] }) ?assign ?body ?done ?stop
  case assign =>
    intro l x W K hK
    gi_wp2
    exact hK
  case body =>
    rintro l pre x W ⟨⟨hp, hcr, hfr⟩, hB⟩ hlt
    have hi : l0.length - 1 - x < 256 := by omega
    obtain ⟨i, hie⟩ : ∃ i, l0.length - 1 - x = i := ⟨_, rfl⟩
    rw [hie] at hi ⊢
    have hw := dgv_word HD.out i
    obtain ⟨v, hv⟩ : ∃ v, dgv l0 i = v := ⟨_, rfl⟩
    rw [hv] at hw ⊢
    obtain ⟨hw0, hw1⟩ := hw
    have HV := Aside0.mk hv
    have HIE := Aside0.mk hie
    have HP := Aside0.mk hp
    clear hv hie hp
    by_cases hz : v = 0
    · subst hz
      gi_wp2
      exact ⟨KeepsFrom.refl _ _, KeepB.refl _ _ _, ⟨fun j hj => (List.mem_append.1 hj).elim (HP.out j) (fun e => by simp at e; subst e; rw [HIE.out]; exact HV.out), hcr, hfr⟩, hB⟩
    · have hz2 : (v != 0) = true := by simpa using hz
      obtain ⟨hl0, hl1⟩ := len32_le v hw0 hw1
      have HZ := Aside0.mk hz
      clear hz
      obtain ⟨u, hu⟩ : ∃ u, len32 v = u := ⟨_, rfl⟩
      have hlc := len32_calls v hw0 hw1 W
      rw [hu] at hl0 hl1 hlc
      have HU := Aside0.mk hu
      have HLC := Aside0.mk hlc
      clear hu hlc
      gi_wp2_with (refine ⟨trivial, ?_⟩; gi_at_call 38; refine (CallsIn.inRound l (callsIn_wide.2 HLC.out)).mono ?_; rintro e w' ⟨rfl, rfl⟩)
      have e32 : (32 * (i : Int)) + u = 32 * ((l0.length - 1 - x : Nat) : Int) + len32 (dgv l0 (l0.length - 1 - x)) := by rw [HIE.out, HV.out, HU.out]
      exact ⟨(KeepsOthers.setCell _ _ _).from _, ⟨rfl, pre, x, rfl, HP.out, by rw [HIE.out, HV.out]; exact HZ.out, by rw [← e32]; exact World.cell?_setCell_same' _ _ _ (by rw [hcr]; rfl)⟩, hB.setCell (p := ⟨w.heap.size, 0, none⟩) (Nat.le_refl _) _⟩
  case done =>
    rintro D ys W hD rfl ⟨⟨hne, hcr, hfr⟩, hB⟩ hK
    gi_wp2
    have hK' := (KeepsOthers.setCell W ⟨w.heap.size, 0, none⟩ (.int .i64 0)).same D _ hK rfl
    refine ⟨by simp, .inl ⟨_, _, rfl, run_takeDeferred hK', ?_⟩⟩
    have hc5 := cell_kept (World.cell?_setCell_same' W ⟨w.heap.size, 0, none⟩ (.int .i64 0) (by rw [hcr]; rfl)) (grownBy_putObj' _ D (.deferred none)) (fun r e => by cases e; exact ⟨_, hK', rfl⟩)
    have hres : bitsL l0 l0.length = 0 := bitsL_none l0 _ (fun j hj => by have := hne (l0.length - 1 - j) (List.mem_range.2 (by omega)); rwa [show l0.length - 1 - (l0.length - 1 - j) = j by omega] at this)
    rw [hres]
    refine ⟨.int .i64 0, ?_, rfl, (hB.setCell (p := ⟨w.heap.size, 0, none⟩) (Nat.le_refl _) _).trans (belowK_b (w := w) (Nat.le_refl _) _ D _ _ (by simp at hD; omega) hK' rfl rfl)⟩
    simp [results, Try.f28, go_sem, hc5]
  case stop =>
    rintro D c pre W hD ⟨k, hk, rfl⟩ ⟨⟨rfl, ini, last, e1, e2, e3, hcr⟩, hB⟩ hK
    gi_wp2
    refine ⟨by simp, .inl ⟨_, _, rfl, run_takeDeferred hK, ?_⟩⟩
    have hc5 := cell_kept hcr (grownBy_putObj' _ D (.deferred none)) (fun r e => by cases e; exact ⟨_, hK, rfl⟩)
    obtain ⟨k', rfl⟩ : ∃ k', k = k' + 1 := by
      cases k with
      | zero => simp at e1
      | succ k' => exact ⟨k', rfl⟩
    rw [List.range_succ] at e1
    obtain ⟨rfl, e5⟩ := List.append_inj' e1 rfl
    obtain rfl : k' = last := by simpa using e5
    have hres : bitsL l0 l0.length = 32 * ((l0.length - 1 - k' : Nat) : Int) + len32 (dgv l0 (l0.length - 1 - k')) :=
      bitsL_at l0 _ e3 _ (by omega) (fun j hj hj2 => by have := e2 (l0.length - 1 - j) (List.mem_range.2 (by omega)); rwa [show l0.length - 1 - (l0.length - 1 - j) = j by omega] at this)
    rw [hres]
    refine ⟨_, ?_, rfl, hB.trans (belowK_b (w := w) (Nat.le_refl _) _ D _ _ (by simp at hD; omega) hK rfl rfl)⟩
    simp [results, Try.f28, go_sem, hc5]

theorem limbs_Bits.calls (A0 : Option Addr) (c0 : Nat) (l0 : List Int) (r : Int) (w : World) (hr0 : Kd.C (Kd.int .u32) w A0 l0.length l0) (hc0 : l0.length ≤ c0) (h : limbs_Bits.f l0 = some r) :
    Calls Try.prog 28 #[.slice A0 l0.length c0] w fun e w' => e = .returned (.int .i64 r) ∧ Below w.heap.size w w' := by
  unfold limbs_Bits.f at h
  by_cases hr : 1 ≤ l0.length ∧ l0.length ≤ 256
  · rw [if_pos hr] at h
    by_cases hd : ∀ x ∈ l0, 0 ≤ x ∧ x < 4294967296
    · rw [if_pos hd] at h
      injection h with h
      subst h
      exact callsIn_wide.1 (bits_in A0 c0 l0 w (intsN_of hr0) hr.1 hr.2 hd)
    · rw [if_neg hd] at h
      exact absurd h (by simp)
  · rw [if_neg hr] at h
    injection h with h
    subst h
    exact bits_no A0 c0 l0 w (by omega)
end Go.Proofs.Ytcljdpaniinhmaa.L
