/- Numbers as lists of digits, the lowest first: sums (sumN), values (V), stores, bounds, comparing. No program is in sight. -/
namespace Go.Proofs.Ytcljdpaniinhmaa.Pure

/-- The value of the first n digits. -/
def sumN (b : Int) (f : Nat → Int) : Nat → Int
  | 0 => 0
  | n + 1 => sumN b f n + f n * b ^ n

/-- A list's digit, 0 above all. -/
def dg (l : List Int) (i : Nat) : Int := l.getD i 0

/-- A list's value. -/
def V (b : Int) (l : List Int) : Int := sumN b (dg l) l.length

/-- All are digits. -/
def Dig (b : Int) (l : List Int) : Prop := ∀ x ∈ l, 0 ≤ x ∧ x < b

theorem sumN_congr {b : Int} {f g : Nat → Int} : ∀ (n : Nat), (∀ i, i < n → f i = g i) → sumN b f n = sumN b g n
  | 0, _ => rfl
  | n + 1, h => by
    simp only [sumN]
    rw [sumN_congr n (fun i hi => h i (by omega)), h n (by omega)]

theorem sumN_zero {b : Int} {f : Nat → Int} : ∀ (n : Nat), (∀ i, i < n → f i = 0) → sumN b f n = 0
  | 0, _ => rfl
  | n + 1, h => by
    simp only [sumN]
    rw [sumN_zero n (fun i hi => h i (by omega)), h n (by omega)]
    simp

theorem sumN_above {b : Int} {f : Nat → Int} {m : Nat} (h : ∀ i, m ≤ i → f i = 0) : ∀ (n : Nat), m ≤ n → sumN b f n = sumN b f m
  | 0, hn => by obtain rfl : m = 0 := by omega
                rfl
  | n + 1, hn => by
    by_cases e : m = n + 1
    · rw [e]
    · simp only [sumN]
      rw [sumN_above h n (by omega), h n (by omega)]
      simp

theorem dg_above {l : List Int} {i : Nat} (h : l.length ≤ i) : dg l i = 0 := by
  unfold dg
  rw [List.getD_eq_getElem?_getD, List.getElem?_eq_none h]
  rfl

theorem dg_lt {l : List Int} {i : Nat} (h : i < l.length) : dg l i = l[i] := by
  unfold dg
  rw [List.getD_eq_getElem?_getD, List.getElem?_eq_getElem h]
  rfl

theorem V_sum {b : Int} {l : List Int} {n : Nat} (h : l.length ≤ n) : V b l = sumN b (dg l) n :=
  (sumN_above (fun _ hi => dg_above hi) n h).symm

theorem V_nil (b : Int) : V b [] = 0 := rfl

theorem dg_append {l : List Int} {x : Int} {i : Nat} (h : i < l.length) : dg (l ++ [x]) i = dg l i := by
  unfold dg
  rw [List.getD_eq_getElem?_getD, List.getD_eq_getElem?_getD, List.getElem?_append_left h]

theorem dg_snoc {l : List Int} {x : Int} : dg (l ++ [x]) l.length = x := by
  unfold dg
  simp

theorem V_snoc (b : Int) (l : List Int) (x : Int) : V b (l ++ [x]) = V b l + x * b ^ l.length := by
  unfold V
  rw [List.length_append]
  show sumN b (dg (l ++ [x])) (l.length + 1) = _
  simp only [sumN]
  rw [sumN_congr l.length (fun i hi => dg_append hi), dg_snoc]

theorem dg_set {l : List Int} {i j : Nat} {x : Int} (h : i < l.length) : dg (l.set i x) j = if j = i then x else dg l j := by
  unfold dg
  rw [List.getD_eq_getElem?_getD, List.getD_eq_getElem?_getD, List.getElem?_set]
  by_cases e : i = j
  · subst e
    simp [h]
  · rw [if_neg e, if_neg (fun h => e h.symm)]

theorem sumN_set {b : Int} {f g : Nat → Int} {i : Nat} (h : ∀ j, j ≠ i → g j = f j) : ∀ (n : Nat), sumN b g n = sumN b f n + if i < n then (g i - f i) * b ^ i else 0
  | 0 => by simp [sumN]
  | n + 1 => by
    simp only [sumN]
    rw [sumN_set h n]
    by_cases e : n = i
    · subst e
      rw [if_neg (by omega), if_pos (by omega)]
      rw [Int.sub_mul]
      omega
    · rw [h n e]
      by_cases c : i < n
      · rw [if_pos c, if_pos (by omega)]
        omega
      · rw [if_neg c, if_neg (by omega)]
        omega

theorem V_set (b : Int) {l : List Int} {i : Nat} (x : Int) (h : i < l.length) : V b (l.set i x) = V b l + (x - dg l i) * b ^ i := by
  unfold V
  rw [List.length_set, sumN_set (f := dg l) (i := i) (fun j hj => by rw [dg_set h, if_neg hj]) l.length, if_pos h, dg_set h, if_pos rfl]

theorem sumN_set_above {b : Int} {l : List Int} {i n : Nat} (x : Int) (h : i < l.length) (hn : n ≤ i) : sumN b (dg (l.set i x)) n = sumN b (dg l) n :=
  sumN_congr n (fun j hj => by rw [dg_set h, if_neg (by omega)])

theorem Dig.dg {b : Int} {l : List Int} (h : Dig b l) (hb : 0 < b) (i : Nat) : 0 ≤ dg l i ∧ Pure.dg l i < b := by
  by_cases hi : i < l.length
  · rw [dg_lt hi]
    exact h _ (List.getElem_mem hi)
  · rw [dg_above (by omega)]
    omega

theorem Dig.nil (b : Int) : Dig b [] := fun x h => by cases h

theorem Dig.snoc {b : Int} {l : List Int} {x : Int} (h : Dig b l) (h0 : 0 ≤ x) (h1 : x < b) : Dig b (l ++ [x]) := by
  intro y hy
  rcases List.mem_append.1 hy with hy | hy
  · exact h y hy
  · simp at hy
    subst hy
    exact ⟨h0, h1⟩

theorem Dig.set {b : Int} {l : List Int} {i : Nat} {x : Int} (h : Dig b l) (h0 : 0 ≤ x) (h1 : x < b) : Dig b (l.set i x) := by
  intro y hy
  rcases List.mem_or_eq_of_mem_set hy with hy | rfl
  · exact h y hy
  · exact ⟨h0, h1⟩

theorem Dig.zeros {b : Int} (hb : 0 < b) (n : Nat) : Dig b (List.replicate n 0) := by
  intro y hy
  obtain ⟨_, rfl⟩ := List.mem_replicate.1 hy
  omega

theorem Dig.take {b : Int} {l : List Int} (h : Dig b l) (n : Nat) : Dig b (l.take n) := fun x hx => h x (List.mem_of_mem_take hx)

theorem dg_zeros (n i : Nat) : dg (List.replicate n 0) i = 0 := by
  unfold dg
  rw [List.getD_eq_getElem?_getD, List.getElem?_replicate]
  split <;> rfl

theorem V_zeros (b : Int) (n : Nat) : V b (List.replicate n 0) = 0 := sumN_zero _ (fun i _ => dg_zeros n i)

theorem pow_pos' {b : Int} (hb : 0 < b) (n : Nat) : 0 < b ^ n := Int.pow_pos hb

theorem sumN_bound {b : Int} {f : Nat → Int} (hb : 0 < b) (h : ∀ i, 0 ≤ f i ∧ f i < b) : ∀ (n : Nat), 0 ≤ sumN b f n ∧ sumN b f n < b ^ n
  | 0 => by simp [sumN]
  | n + 1 => by
    obtain ⟨h0, h1⟩ := sumN_bound hb h n
    obtain ⟨g0, g1⟩ := h n
    have hp := pow_pos' hb n
    simp only [sumN]
    have e1 : 0 ≤ f n * b ^ n := Int.mul_nonneg g0 (by omega)
    have e2 : f n * b ^ n ≤ (b - 1) * b ^ n := Int.mul_le_mul_of_nonneg_right (by omega) (by omega)
    have e3 : (b - 1) * b ^ n = b ^ (n + 1) - b ^ n := by rw [Int.sub_mul, Int.pow_succ, Int.one_mul, Int.mul_comm b]
    omega

theorem V_bound {b : Int} {l : List Int} (hb : 0 < b) (h : Dig b l) : 0 ≤ V b l ∧ V b l < b ^ l.length :=
  sumN_bound hb (fun i => h.dg hb i) _

theorem sumN_mono {b : Int} {f : Nat → Int} (hb : 0 < b) (h : ∀ i, 0 ≤ f i) {m : Nat} : ∀ (n : Nat), m ≤ n → sumN b f m ≤ sumN b f n
  | 0, hn => by obtain rfl : m = 0 := by omega
                exact Int.le_refl _
  | n + 1, hn => by
    by_cases e : m = n + 1
    · rw [e]; exact Int.le_refl _
    · simp only [sumN]
      have := sumN_mono (m := m) hb h n (by omega)
      have := Int.mul_nonneg (h n) (Int.le_of_lt (pow_pos' hb n))
      omega

/-- -1, 0, 1. -/
def cmpI (x y : Int) : Int := if x < y then -1 else if y < x then 1 else 0

theorem cmpI_add (x y c : Int) : cmpI (x + c) (y + c) = cmpI x y := by
  unfold cmpI
  by_cases h : x < y
  · rw [if_pos h, if_pos (by omega)]
  · rw [if_neg h, if_neg (show ¬ x + c < y + c by omega)]
    by_cases h2 : y < x
    · rw [if_pos h2, if_pos (by omega)]
    · rw [if_neg h2, if_neg (by omega)]

/-- The highest digit decides. -/
theorem sumN_lt {b : Int} {f g : Nat → Int} (hb : 0 < b) (hf : ∀ i, 0 ≤ f i ∧ f i < b) (hg : ∀ i, 0 ≤ g i ∧ g i < b) (n : Nat) (h : f n < g n) : sumN b f (n + 1) < sumN b g (n + 1) := by
  obtain ⟨f0, f1⟩ := sumN_bound hb hf n
  obtain ⟨g0, g1⟩ := sumN_bound hb hg n
  have hp := pow_pos' hb n
  simp only [sumN]
  have e1 : (f n + 1) * b ^ n ≤ g n * b ^ n := Int.mul_le_mul_of_nonneg_right (by omega) (by omega)
  rw [Int.add_mul, Int.one_mul] at e1
  omega

theorem cmpI_step {b : Int} {f g : Nat → Int} (hb : 0 < b) (hf : ∀ i, 0 ≤ f i ∧ f i < b) (hg : ∀ i, 0 ≤ g i ∧ g i < b) (n : Nat) :
    cmpI (sumN b f (n + 1)) (sumN b g (n + 1)) = if f n < g n then -1 else if g n < f n then 1 else cmpI (sumN b f n) (sumN b g n) := by
  by_cases h : f n < g n
  · rw [if_pos h]
    have := sumN_lt hb hf hg n h
    unfold cmpI
    rw [if_pos this]
  · rw [if_neg h]
    by_cases h2 : g n < f n
    · rw [if_pos h2]
      have := sumN_lt hb hg hf n h2
      unfold cmpI
      rw [if_neg (by omega), if_pos this]
    · rw [if_neg h2]
      have e : f n = g n := by omega
      simp only [sumN]
      rw [e, cmpI_add]

/-- No nought at the upper end. -/
def Norm (l : List Int) : Prop := l.length = 0 ∨ dg l (l.length - 1) ≠ 0

theorem norm_low {b : Int} {l : List Int} (hb : 0 < b) (h : Dig b l) (hn : Norm l) (h0 : l.length ≠ 0) : b ^ (l.length - 1) ≤ V b l := by
  obtain ⟨n, hl⟩ : ∃ n, l.length = n + 1 := ⟨l.length - 1, by omega⟩
  have hne : dg l n ≠ 0 := by
    rcases hn with h' | h'
    · exact absurd h' h0
    · rwa [hl] at h'
  have hd := h.dg hb n
  unfold V
  rw [hl]
  simp only [sumN, Nat.add_sub_cancel]
  have h1 := (sumN_bound hb (fun i => h.dg hb i) n).1
  have hp := pow_pos' hb n
  have e1 : 1 * b ^ n ≤ dg l n * b ^ n := Int.mul_le_mul_of_nonneg_right (by omega) (by omega)
  rw [Int.one_mul] at e1
  omega

/-- A shorter number is less. -/
theorem norm_shorter {b : Int} {l m : List Int} (hb : 0 < b) (hl : Dig b l) (hm : Dig b m) (nm : Norm m) (h : l.length < m.length) : V b l < V b m := by
  have h1 := (V_bound hb hl).2
  have h2 := norm_low hb hm nm (by omega)
  have h3 : b ^ l.length ≤ b ^ (m.length - 1) := by
    obtain ⟨d, hd⟩ : ∃ d, m.length - 1 = l.length + d := ⟨m.length - 1 - l.length, by omega⟩
    rw [hd, Int.pow_add]
    have h4 := pow_pos' hb d
    have h5 := pow_pos' hb l.length
    have e1 : b ^ l.length * 1 ≤ b ^ l.length * b ^ d := Int.mul_le_mul_of_nonneg_left (by omega) (by omega)
    omega
  omega
end Go.Proofs.Ytcljdpaniinhmaa.Pure
