/- The contract of limbs.right (through slices.ContainsFunc and slices.IndexFunc) at one number and at two. Condition: the numbers' headers lie in the array that the call has made. -/
import Derived.Test.YtcljdpaniinhmaaLx0
namespace Go.Proofs.Ytcljdpaniinhmaa.L
open Go.RowKit Go.Proofs.YtcljdpaniinhmaaW.PrintWords Go.Proofs.YtcljdpaniinhmaaW.PrintLast Go.Proofs.YtcljdpaniinhmaaW.PrintMore
set_option linter.unusedVariables false
section
variable {w : World}

theorem closure_good (A : Option Addr) (n c : Nat) (h1 : 1 ≤ n) (h2 : n ≤ 256) :
    Calls Try.prog 40 #[.slice A n c] w fun e w' => e = .returned (.bool false) ∧ w = w' := by
  have h1b : decide ((n : Int) < 1) = false := decide_eq_false (by omega)
  have h2b : decide ((256 : Int) < n) = false := decide_eq_false (by omega)
  have h3b : decide (n < 1) = false := decide_eq_false (by omega)
  have h4b : decide (256 < n) = false := decide_eq_false (by omega)
  go_enter Try.func40, Try.ntmps40
  go_wp2
  go_ret
  exact ⟨by simp [*], rfl⟩

theorem closure_bad (A : Option Addr) (n c : Nat) (h : n < 1 ∨ 256 < n) :
    Calls Try.prog 40 #[.slice A n c] w fun e w' => e = .returned (.bool true) ∧ w = w' := by
  rcases h with h | h
  · have h1b : decide ((n : Int) < 1) = true := decide_eq_true (by omega)
    have h3b : decide (n < 1) = true := decide_eq_true (by omega)
    go_enter Try.func40, Try.ntmps40
    go_wp2
    go_ret
    exact ⟨by simp [*], rfl⟩
  · have h1b : decide ((n : Int) < 1) = false := decide_eq_false (by omega)
    have h3b : decide (n < 1) = false := decide_eq_false (by omega)
    have h2b : decide ((256 : Int) < n) = true := decide_eq_true (by omega)
    have h4b : decide (256 < n) = true := decide_eq_true (by omega)
    clear h
    go_enter Try.func40, Try.ntmps40
    go_wp2
    go_ret
    exact ⟨by simp [*], rfl⟩

/-- The headers of m numbers lie from the begin of block b on. -/
def NatsAt (w : World) (b m : Nat) (A : Nat → Option Addr) (n c : Nat → Nat) : Prop := ∀ j, j < m → w.cell? ⟨b, j, none⟩ = some (.slice (A j) (n j) (c j))

theorem index_none {b m : Nat} {A : Nat → Option Addr} {n c : Nat → Nat} (hm : m ≤ 2) (h : NatsAt w b m A n c) (hr : ∀ j, j < m → 1 ≤ n j ∧ n j ≤ 256) :
    Calls Try.prog 44 #[.slice (some ⟨b, 0, none⟩) m m, .func (.func 40) #[] #[]] w fun e w' => e = .returned (.int .i64 (-1)) ∧ w = w' := by
  have H := Aside0.mk h
  have HR := Aside0.mk hr
  clear h hr
  go_enter Try.func44, Try.ntmps44
  go_wp2
  go_loop [8] (fun i => ∃ k : Nat, k ≤ m ∧ i = .int .i64 k) (fun i => m - (intOf i).toNat)
  case atStart => exact ⟨0, Nat.zero_le _, rfl⟩
  case round =>
    obtain ⟨k, hk, rfl⟩ := hrel
    by_cases hlt : k < m
    · have hc := H.out k hlt
      obtain ⟨h1, h2⟩ := HR.out k hlt
      go_wp2_with (go_at_call 40; refine (closure_good _ _ _ h1 h2).mono ?_; rintro e w' ⟨rfl, rfl⟩)
      go_round
      case rel => exact ⟨k + 1, by omega, by go_num⟩
      case measure => simp [intOf]; omega
    · go_wp2
      go_ret
      exact ⟨rfl, rfl⟩

theorem index_some {b m : Nat} {A : Nat → Option Addr} {n c : Nat → Nat} (hm : m ≤ 2) (h : NatsAt w b m A n c) (i : Nat) (hi : i < m) (hr : ∀ j, j < i → 1 ≤ n j ∧ n j ≤ 256) (hb : n i < 1 ∨ 256 < n i) :
    Calls Try.prog 44 #[.slice (some ⟨b, 0, none⟩) m m, .func (.func 40) #[] #[]] w fun e w' => e = .returned (.int .i64 i) ∧ w = w' := by
  have H := Aside0.mk h
  have HR := Aside0.mk hr
  have HB := Aside0.mk hb
  clear h hr hb
  go_enter Try.func44, Try.ntmps44
  go_wp2
  go_loop [8] (fun v => ∃ k : Nat, k ≤ i ∧ v = .int .i64 k) (fun v => m - (intOf v).toNat)
  case atStart => exact ⟨0, Nat.zero_le _, rfl⟩
  case round =>
    obtain ⟨k, hk, rfl⟩ := hrel
    have hlt : k < m := by omega
    have hc := H.out k hlt
    by_cases hki : k < i
    · obtain ⟨h1, h2⟩ := HR.out k hki
      go_wp2_with (go_at_call 40; refine (closure_good _ _ _ h1 h2).mono ?_; rintro e w' ⟨rfl, rfl⟩)
      go_round
      case rel => exact ⟨k + 1, by omega, by go_num⟩
      case measure => simp [intOf]; omega
    · obtain rfl : k = i := by omega
      go_wp2_with (go_at_call 40; refine (closure_bad _ _ _ HB.out).mono ?_; rintro e w' ⟨rfl, rfl⟩)
      go_ret
      exact ⟨rfl, rfl⟩

theorem right_yes {b m : Nat} {A : Nat → Option Addr} {n c : Nat → Nat} (hm : m ≤ 2) (h : NatsAt w b m A n c) (hr : ∀ j, j < m → 1 ≤ n j ∧ n j ≤ 256) :
    Calls Try.prog 30 #[.slice (some ⟨b, 0, none⟩) m m] w fun e w' => e = .returned (.bool true) ∧ w = w' := by
  have H := Aside0.mk h
  have HR := Aside0.mk hr
  clear h hr
  have h39 : Calls Try.prog 39 #[.slice (some ⟨b, 0, none⟩) m m, .func (.func 40) #[] #[]] w fun e w' => e = .returned (.bool false) ∧ w = w' := by
    go_enter Try.func39, Try.ntmps39
    go_wp2_with (go_at_call 44; refine (index_none hm H.out HR.out).mono ?_; rintro e w' ⟨rfl, rfl⟩)
    go_ret
    exact ⟨rfl, rfl⟩
  have H39 := Aside0.mk h39
  clear h39
  go_enter Try.func30, Try.ntmps30
  go_wp2_with (go_at_call 39; refine H39.out.mono ?_; rintro e w' ⟨rfl, rfl⟩)
  go_ret
  exact ⟨rfl, rfl⟩

theorem right_no {b m : Nat} {A : Nat → Option Addr} {n c : Nat → Nat} (hm : m ≤ 2) (h : NatsAt w b m A n c) (i : Nat) (hi : i < m) (hr : ∀ j, j < i → 1 ≤ n j ∧ n j ≤ 256) (hb : n i < 1 ∨ 256 < n i) :
    Calls Try.prog 30 #[.slice (some ⟨b, 0, none⟩) m m] w fun e w' => e = .returned (.bool false) ∧ w = w' := by
  have H := Aside0.mk h
  have HR := Aside0.mk hr
  have HB := Aside0.mk hb
  clear h hr hb
  have h39 : Calls Try.prog 39 #[.slice (some ⟨b, 0, none⟩) m m, .func (.func 40) #[] #[]] w fun e w' => e = .returned (.bool true) ∧ w = w' := by
    go_enter Try.func39, Try.ntmps39
    go_wp2_with (go_at_call 44; refine (index_some hm H.out i hi HR.out HB.out).mono ?_; rintro e w' ⟨rfl, rfl⟩)
    go_ret
    exact ⟨rfl, rfl⟩
  have H39 := Aside0.mk h39
  clear h39
  go_enter Try.func30, Try.ntmps30
  go_wp2_with (go_at_call 39; refine H39.out.mono ?_; rintro e w' ⟨rfl, rfl⟩)
  go_ret
  exact ⟨rfl, rfl⟩
end

/-- Are both numbers? -/
def limbs_right.f (l0 l1 : List Int) : Option Bool := some (decide (1 ≤ l0.length ∧ l0.length ≤ 256 ∧ 1 ≤ l1.length ∧ l1.length ≤ 256))

theorem limbs_right.calls (A0 : Option Addr) (c0 : Nat) (l0 : List Int) (A1 : Option Addr) (c1 : Nat) (l1 : List Int) (r : Bool) (w : World) (hr0 : Kd.C (Kd.int .u32) w A0 l0.length l0) (hc0 : l0.length ≤ c0) (hr1 : Kd.C (Kd.int .u32) w A1 l1.length l1) (hc1 : l1.length ≤ c1) (h : limbs_right.f l0 l1 = some r) :
    Calls Try.prog 30 #[.slice (some ⟨w.heap.size, 0, none⟩) 2 2] (w.alloc (.cells #[.slice A0 l0.length c0, .slice A1 l1.length c1] 23)) fun e w' => e = .returned (.bool r) ∧ Below (w.alloc (.cells #[.slice A0 l0.length c0, .slice A1 l1.length c1] 23)).heap.size (w.alloc (.cells #[.slice A0 l0.length c0, .slice A1 l1.length c1] 23)) w' := by
  have hn : NatsAt (w.alloc (.cells #[.slice A0 l0.length c0, .slice A1 l1.length c1] 23)) w.heap.size 2 (fun j => if j = 0 then A0 else A1) (fun j => if j = 0 then l0.length else l1.length) (fun j => if j = 0 then c0 else c1) := by
    intro j hj
    rw [World.cell?_alloc_new]
    rcases j with _ | _ | j
    · rfl
    · rfl
    · omega
  unfold limbs_right.f at h
  injection h with h
  subst h
  by_cases h0 : 1 ≤ l0.length ∧ l0.length ≤ 256
  · by_cases h1 : 1 ≤ l1.length ∧ l1.length ≤ 256
    · refine (right_yes (by omega) hn (fun j hj => by
        rcases j with _ | _ | j
        · exact h0
        · exact h1
        · omega)).mono ?_
      rintro e w' ⟨rfl, rfl⟩
      exact ⟨by rw [decide_eq_true ⟨h0.1, h0.2, h1⟩], Below.refl _ _⟩
    · refine (right_no (by omega) hn 1 (by omega) (fun j hj => by
        obtain rfl : j = 0 := by omega
        exact h0) (by show l1.length < 1 ∨ 256 < l1.length; omega)).mono ?_
      rintro e w' ⟨rfl, rfl⟩
      exact ⟨by rw [decide_eq_false (show ¬ (1 ≤ l0.length ∧ l0.length ≤ 256 ∧ 1 ≤ l1.length ∧ l1.length ≤ 256) by omega)], Below.refl _ _⟩
  · refine (right_no (by omega) hn 0 (by omega) (fun j hj => by omega) (by show l0.length < 1 ∨ 256 < l0.length; omega)).mono ?_
    rintro e w' ⟨rfl, rfl⟩
    exact ⟨by rw [decide_eq_false (show ¬ (1 ≤ l0.length ∧ l0.length ≤ 256 ∧ 1 ≤ l1.length ∧ l1.length ≤ 256) by omega)], Below.refl _ _⟩

/-- Is one a number? In the spelling of the law's own function. -/
def limbs_right1.f (l0 : List Int) : Option Bool := if (l0.length : Int) ≥ 1 then (some (decide ((l0.length : Int) ≤ 256))) else (some false)

theorem limbs_right1.calls (A0 : Option Addr) (c0 : Nat) (l0 : List Int) (r : Bool) (w : World) (hr0 : Kd.C (Kd.int .u32) w A0 l0.length l0) (hc0 : l0.length ≤ c0) (h : limbs_right1.f l0 = some r) :
    Calls Try.prog 30 #[.slice (some ⟨w.heap.size, 0, none⟩) 1 1] (w.alloc (.cells #[.slice A0 l0.length c0] 23)) fun e w' => e = .returned (.bool r) ∧ Drawn0 (w.alloc (.cells #[.slice A0 l0.length c0] 23)) w' := by
  have hn : NatsAt (w.alloc (.cells #[.slice A0 l0.length c0] 23)) w.heap.size 1 (fun _ => A0) (fun _ => l0.length) (fun _ => c0) := by
    intro j hj
    rw [World.cell?_alloc_new]
    obtain rfl : j = 0 := by omega
    rfl
  unfold limbs_right1.f at h
  by_cases h0 : 1 ≤ l0.length ∧ l0.length ≤ 256
  · rw [if_pos (by omega), decide_eq_true (by omega)] at h
    injection h with h
    subst h
    refine (right_yes (by omega) hn (fun j hj => h0)).mono ?_
    rintro e w' ⟨rfl, rfl⟩
    exact ⟨rfl, Drawn0.refl _⟩
  · have hf : r = false := by
      by_cases h1 : (l0.length : Int) ≥ 1
      · rw [if_pos h1, decide_eq_false (by omega)] at h
        injection h with h
        exact h.symm
      · rw [if_neg h1] at h
        injection h with h
        exact h.symm
    subst hf
    refine (right_no (by omega) hn 0 (by omega) (fun j hj => by omega) (by show l0.length < 1 ∨ 256 < l0.length; omega)).mono ?_
    rintro e w' ⟨rfl, rfl⟩
    exact ⟨rfl, Drawn0.refl _⟩
end Go.Proofs.Ytcljdpaniinhmaa.L
