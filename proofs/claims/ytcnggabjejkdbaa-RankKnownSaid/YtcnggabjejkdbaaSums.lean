/- Plain lemmas for RankTotal: sums of rows of numbers; what is given along edges is not more than there was; all Take together is not more than One. No program in sight but the plain functions mulF, addF, giveF, takeF. -/
import Derived.Test.YtcnggabjejkdbaaWalkF
namespace Go.Proofs.Ytcnggabjejkdbaa
open Go.RowKit
set_option linter.unusedVariables false

theorem sum_set (ms : List Int) : ∀ (t : Nat) (x : Int), t < ms.length → (ms.set t (ms.getD t 0 + x)).sum = ms.sum + x := by
  induction ms with
  | nil => intro t x h; simp at h
  | cons a ms ih =>
    intro t x h
    cases t with
    | zero => simp; omega
    | succ t =>
      have := ih t x (by simpa using h)
      simp at this ⊢
      omega

theorem nonneg_set (ms : List Int) (t : Nat) (y : Int) (h : ∀ x ∈ ms, 0 ≤ x) (hy : 0 ≤ y) : ∀ x ∈ ms.set t y, 0 ≤ x := by
  intro x hx
  rcases List.mem_or_eq_of_mem_set hx with h' | h'
  · exact h x h'
  · omega

theorem sum_nonneg (ms : List Int) (h : ∀ x ∈ ms, 0 ≤ x) : 0 ≤ ms.sum := by
  induction ms with
  | nil => simp
  | cons a ms ih =>
    have h1 := h a (by simp)
    have h2 := ih (fun x hx => h x (by simp [hx]))
    simp; omega

theorem getD_bd (ms : List Int) (h : ∀ x ∈ ms, 0 ≤ x) : ∀ t, 0 ≤ ms.getD t 0 ∧ ms.getD t 0 ≤ ms.sum := by
  induction ms with
  | nil => intro t; simp
  | cons a ms ih =>
    intro t
    have h1 := h a (by simp)
    have h3 := sum_nonneg ms (fun x hx => h x (by simp [hx]))
    cases t with
    | zero => simp; omega
    | succ t =>
      have h2 := ih (fun x hx => h x (by simp [hx])) t
      simp at h2 ⊢
      omega

theorem take_sum_succ (ms : List Int) (i : Nat) (h : i < ms.length) : (ms.take (i + 1)).sum = (ms.take i).sum + ms.getD i 0 := by
  rw [List.take_succ_eq_append_getElem h, List.sum_append]
  simp [h]

theorem sum_replicate (n : Nat) : (List.replicate n (0 : Int)).sum = 0 := by
  induction n with
  | zero => simp
  | succ n ih => rw [List.replicate_succ, List.sum_cons, ih]; rfl

theorem addF_le (a b : Int) (ha : 0 ≤ a) (hb : 0 ≤ b) : addF a b ≤ a + b := by
  have h1 : distF a ≤ a := by unfold distF; split <;> (try split) <;> omega
  have h2 : distF b ≤ b := by unfold distF; split <;> (try split) <;> omega
  unfold addF; split <;> omega

theorem mulF_le (a b : Int) (ha : 0 ≤ a) (hb : 0 ≤ b) : (mulF a b).1 * 4294967296 ≤ a * b := by
  have hab := Int.mul_nonneg ha hb
  unfold mulF
  split
  · simpa using hab
  · split
    · simpa using hab
    · simp; omega

/-- The two parts of what a vertex has next. -/
theorem takeF_le (n d m s : Int) (hn : 1 ≤ n) (hd : 0 ≤ d) (hd2 : d ≤ 4294967296) (hm : 0 ≤ m) (hs : 0 ≤ s) :
    ∃ x, 0 ≤ x ∧ 0 ≤ takeF n d m s ∧ takeF n d m s ≤ (4294967296 - d) / n + x ∧ x * 4294967296 ≤ d * (m + s / n) := by
  have h1 := ediv_bd hs hn
  have h2 := ediv_bd (v := 4294967296 - d) (by omega) hn
  have h3 := mulF_bd d (addF m (s / n))
  have h4 := addF_bd m (s / n)
  have h5 := addF_le m (s / n) hm h1.1
  have h6 := mulF_le d (addF m (s / n)) hd h4.1
  have h7 : d * addF m (s / n) ≤ d * (m + s / n) := Int.mul_le_mul_of_nonneg_left h5 hd
  refine ⟨(mulF d (addF m (s / n))).1, h3.1, ?_, ?_, by omega⟩
  · unfold takeF; split
    · omega
    · split <;> omega
  · unfold takeF; split
    · omega
    · split <;> omega

/-- What i vertices have next, together: A is the sum so far. -/
def Sofar (n d s : Int) (ms : List Int) (i : Nat) (A : Int) : Prop :=
  0 ≤ A ∧ ∃ x, A ≤ i * ((4294967296 - d) / n) + x ∧ x * 4294967296 ≤ d * ((ms.take i).sum + i * (s / n))

theorem sofar_zero (n d s : Int) (ms : List Int) : Sofar n d s ms 0 0 := ⟨by omega, 0, by simp, by simp⟩

theorem sofar_succ (n d s : Int) (ms : List Int) (i : Nat) (A : Int) (hn : 1 ≤ n) (hd : 0 ≤ d) (hd2 : d ≤ 4294967296) (hs : 0 ≤ s)
    (hi : i < ms.length) (hms : ∀ x ∈ ms, 0 ≤ x) (h : Sofar n d s ms i A) : Sofar n d s ms (i + 1) (A + takeF n d (ms.getD i 0) s) := by
  obtain ⟨h0, x, h1, h2⟩ := h
  obtain ⟨y, g0, g1, g2, g3⟩ := takeF_le n d (ms.getD i 0) s hn hd hd2 (getD_bd ms hms i).1 hs
  refine ⟨by omega, x + y, ?_, ?_⟩
  · have : ((i + 1 : Nat) : Int) * ((4294967296 - d) / n) = i * ((4294967296 - d) / n) + (4294967296 - d) / n := by
      rw [Int.natCast_add, Int.add_mul]; simp
    omega
  · rw [take_sum_succ ms i hi]
    have e1 : ((i + 1 : Nat) : Int) * (s / n) = i * (s / n) + s / n := by
      rw [Int.natCast_add, Int.add_mul]; simp
    rw [e1]
    have e2 : d * ((ms.take i).sum + ms.getD i 0 + (i * (s / n) + s / n)) = d * ((ms.take i).sum + i * (s / n)) + d * (ms.getD i 0 + s / n) := by
      rw [← Int.mul_add]; congr 1; omega
    rw [e2]; omega

theorem sofar_bd (n : Nat) (d s : Int) (ms : List Int) (i : Nat) (A : Int) (hn : 1 ≤ n) (hd : 0 ≤ d) (hd2 : d ≤ 4294967296) (hs : 0 ≤ s)
    (hlen : ms.length = n) (hi : i ≤ n) (hms : ∀ x ∈ ms, 0 ≤ x) (htop : ms.sum + s ≤ 4294967296) (h : Sofar n d s ms i A) : 0 ≤ A ∧ A ≤ 4294967296 := by
  obtain ⟨h0, x, h1, h2⟩ := h
  refine ⟨h0, ?_⟩
  have a1 : (i : Int) * ((4294967296 - d) / n) ≤ n * ((4294967296 - d) / n) :=
    Int.mul_le_mul_of_nonneg_right (by omega) (Int.ediv_nonneg (by omega) (by omega))
  have a2 : (n : Int) * ((4294967296 - d) / n) ≤ 4294967296 - d := by rw [Int.mul_comm]; exact Int.ediv_mul_le _ (by omega)
  have b1 : (i : Int) * (s / n) ≤ n * (s / n) := Int.mul_le_mul_of_nonneg_right (by omega) (Int.ediv_nonneg hs (by omega))
  have b2 : (n : Int) * (s / n) ≤ s := by rw [Int.mul_comm]; exact Int.ediv_mul_le _ (by omega)
  have b3 : (ms.take i).sum ≤ ms.sum := by
    have e := List.take_append_drop i ms
    have : ms.sum = (ms.take i).sum + (ms.drop i).sum := by rw [← List.sum_append, e]
    have := sum_nonneg (ms.drop i) (fun x hx => hms x (List.mem_of_mem_drop hx))
    omega
  have c1 : d * ((ms.take i).sum + i * (s / n)) ≤ d * 4294967296 := Int.mul_le_mul_of_nonneg_left (by omega) hd
  omega

/-- Shares of n numbers below 2^32. -/
theorem share_top (z n : Int) (h0 : 0 ≤ z) (h1 : z ≤ 4294967295) (hn : 1 ≤ n) : 0 ≤ z / n ∧ z / n ≤ 4294967295 / n :=
  ⟨Int.ediv_nonneg h0 (by omega), Int.ediv_le_ediv (by omega) h1⟩
theorem top_all (n : Int) (hn : 1 ≤ n) : n * (4294967295 / n) ≤ 4294967295 := by rw [Int.mul_comm]; exact Int.ediv_mul_le _ (by omega)
theorem top_part (n : Nat) (i : Nat) (hn : 1 ≤ n) (hi : i ≤ n) : (i : Int) * (4294967295 / n) ≤ 4294967295 := by
  have := top_all n (by omega)
  have : (i : Int) * (4294967295 / n) ≤ n * (4294967295 / n) := Int.mul_le_mul_of_nonneg_right (by omega) (Int.ediv_nonneg (by omega) (by omega))
  omega
end Go.Proofs.Ytcnggabjejkdbaa
