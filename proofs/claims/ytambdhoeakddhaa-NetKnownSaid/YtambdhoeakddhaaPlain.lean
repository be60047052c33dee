/- The plain law of NetCounts: what each call does to the number of the messages that are like one. -/
import Derived.Test.YtambdhoeakddhaaWalkW
namespace Go.Proofs.Ytambdhoeakddhaa
open Go
set_option linter.unusedVariables false

def cnt (c : CallV) (l : List Msg) : Nat := l.countP fun m => isB m c
/-- How many of them travel, or wait. -/
def tot (n : Nat) (c : CallV) (way : List Msg) (box : Nat → List Msg) : Nat := cnt c way + cnt c (qAt n box c.dest)
/-- What waits at an end was sent to it. -/
def Homed (n : Nat) (box : Nat → List Msg) : Prop := ∀ j, j < n → ∀ m ∈ box j, m.dst = j
def one (b : Bool) : Nat := if b then 1 else 0

theorem isB_dst {m : Msg} {c : CallV} (h : isB m c = true) : m.dst = c.dest := by
  unfold isB at h; simp only [Bool.and_eq_true, beq_iff_eq] at h; exact h.2.1
theorem cnt_cons (c : CallV) (m : Msg) (l : List Msg) : cnt c (m :: l) = one (isB m c) + cnt c l := by
  unfold cnt one; rw [List.countP_cons]; omega
theorem cnt_append (c : CallV) (l l' : List Msg) : cnt c (l ++ l') = cnt c l + cnt c l' := by unfold cnt; rw [List.countP_append]
theorem cnt_nil (c : CallV) : cnt c [] = 0 := rfl
theorem cnt_mid (c : CallV) (l1 l2 : List Msg) (m : Msg) : cnt c (l1 ++ m :: l2) = cnt c (l1 ++ l2) + one (isB m c) := by
  rw [cnt_append, cnt_cons, cnt_append]; omega
theorem cnt_end (c : CallV) (l1 l2 : List Msg) (m : Msg) : cnt c (l1 ++ (l2 ++ [m])) = cnt c (l1 ++ m :: l2) := by
  rw [cnt_mid, ← List.append_assoc, cnt_append, cnt_cons, cnt_nil]; omega

section
variable {n : Nat} {box : Nat → List Msg} {c : CallV}
theorem homed_q (h : Homed n box) (x : Int) : ∀ m ∈ qAt n box x, m.dst = x := fun m hm => by
  unfold qAt at hm; split at hm
  · rename_i hx; have := h x.toNat (by omega) m hm; omega
  · cases hm
theorem homed_setQ (h : Homed n box) {x : Int} {l : List Msg} (hl : ∀ m ∈ l, m.dst = x) : Homed n (setQ box x l) := fun j hj m hm => by
  unfold setQ at hm; split at hm
  · rename_i e; rw [hl m hm, e]
  · exact h j hj m hm
theorem homed_dlv (h : Homed n box) (m : Msg) : Homed n (dlv n box m) := by
  unfold dlv; split
  · refine homed_setQ h fun m' hm => ?_
    rcases List.mem_append.1 hm with hm | hm
    · exact homed_q h _ _ hm
    · rw [List.mem_singleton.1 hm]
  · exact h
theorem homed_tail (h : Homed n box) {x : Int} {m : Msg} {rest : List Msg} (hq : qAt n box x = m :: rest) : Homed n (setQ box x rest) :=
  homed_setQ h fun m' hm => homed_q h x m' (by rw [hq]; exact List.mem_cons_of_mem _ hm)
theorem homed_clear (h : Homed n box) (x : Int) : Homed n (setQ box x []) := homed_setQ h fun m hm => by cases hm

/-- A delivery: those like one are as many, but where it is one of them and its end is full. -/
theorem cnt_dlv (m : Msg) (hm : 0 ≤ m.dst ∧ m.dst < n) : cnt c (qAt n (dlv n box m) c.dest) + one (isB m c && decide (32 ≤ (qAt n box c.dest).length)) = cnt c (qAt n box c.dest) + one (isB m c) := by
  by_cases hb : isB m c = true
  · have hd := isB_dst hb
    rw [hb]; simp only [Bool.true_and]
    unfold dlv
    rw [hd]
    by_cases hf : (qAt n box c.dest).length < 32
    · rw [if_pos hf, qAt_setQ, if_pos ⟨rfl, by omega, by omega⟩, cnt_append, cnt_cons, hb, cnt_nil]
      have : decide (32 ≤ (qAt n box c.dest).length) = false := by simpa using hf
      rw [this]; simp [one]
    · rw [if_neg hf]
      have : decide (32 ≤ (qAt n box c.dest).length) = true := by simp; omega
      rw [this]
  · have hb : isB m c = false := by simpa using hb
    rw [hb]; simp only [Bool.false_and]
    unfold dlv
    split
    · rw [qAt_setQ]; split
      · rename_i h; rw [cnt_append, cnt_cons, hb, cnt_nil, h.1]; simp [one]
      · rfl
    · rfl
/-- A message taken out of a row: one less, where it is like one. -/
theorem cnt_tail (h : Homed n box) {x : Int} {m : Msg} {rest : List Msg} (hq : qAt n box x = m :: rest) : cnt c (qAt n (setQ box x rest) c.dest) + one (isB m c) = cnt c (qAt n box c.dest) := by
  rw [qAt_setQ]
  by_cases e : c.dest = x
  · have hin : 0 ≤ x ∧ x < n := by
      unfold qAt at hq; split at hq
      · assumption
      · cases hq
    rw [if_pos ⟨e, by omega, by omega⟩, e, hq, cnt_cons]; omega
  · have hb : isB m c = false := by
      cases hb : isB m c with
      | false => rfl
      | true => exact absurd ((isB_dst hb).symm.trans (homed_q h x m (by rw [hq]; simp))) e
    rw [if_neg (by omega), hb]; simp [one]
theorem cnt_clear {x : Int} (hq : qAt n box x = []) : cnt c (qAt n (setQ box x []) c.dest) = cnt c (qAt n box c.dest) := by
  rw [qAt_setQ]; split
  · rename_i h; rw [h.1, hq]
  · rfl
end

/-- The numbers as they stand: made, gone. -/
structure CInv (n : Nat) (c : CallV) (way : List Msg) (box : Nat → List Msg) (k M G : Nat) : Prop where
  homed : Homed n box
  eq : M = G + tot n c way box
  le : M ≤ k

section
variable {n : Nat} {way : List Msg} {box : Nat → List Msg} {c : CallV} {k M G : Nat}
theorem CInv.up (h : CInv n c way box k M G) : CInv n c way box (k + 1) M G := ⟨h.homed, h.eq, by have := h.le; omega⟩
theorem CInv.deliver {l1 l2 : List Msg} {m : Msg} (h : CInv n c (l1 ++ m :: l2) box k M G) (hm : 0 ≤ m.dst ∧ m.dst < n) :
    CInv n c (l1 ++ l2) (dlv n box m) (k + 1) M (G + one (isB m c && decide (32 ≤ (qAt n box c.dest).length))) := by
  refine ⟨homed_dlv h.homed m, ?_, by have := h.le; omega⟩
  have h1 := h.eq
  have h2 := cnt_dlv (box := box) (c := c) m hm
  have h3 := cnt_mid c l1 l2 m
  unfold tot at *; omega
theorem CInv.drop {l1 l2 : List Msg} {m : Msg} (h : CInv n c (l1 ++ m :: l2) box k M G) : CInv n c (l1 ++ l2) box (k + 1) M (G + one (isB m c)) := by
  refine ⟨h.homed, ?_, by have := h.le; omega⟩
  have h1 := h.eq
  have h3 := cnt_mid c l1 l2 m
  unfold tot at *; omega
theorem CInv.delay {l1 l2 : List Msg} {m : Msg} (h : CInv n c (l1 ++ m :: l2) box k M G) : CInv n c (l1 ++ (l2 ++ [m])) box (k + 1) M G := by
  refine ⟨h.homed, ?_, by have := h.le; omega⟩
  have h1 := h.eq
  have h3 := cnt_end c l1 l2 m
  unfold tot at *; omega
theorem CInv.send (h : CInv n c way box k M G) (m : Msg) : CInv n c (way ++ [m]) box (k + 1) (M + one (isB m c)) G := by
  refine ⟨h.homed, ?_, by have := h.le; unfold one; split <;> omega⟩
  have h1 := h.eq
  have h3 : cnt c (way ++ [m]) = cnt c way + one (isB m c) := by rw [cnt_append, cnt_cons, cnt_nil]; omega
  unfold tot at *; omega
theorem CInv.tail (h : CInv n c way box k M G) {x : Int} {m : Msg} {rest : List Msg} (hq : qAt n box x = m :: rest) : CInv n c way (setQ box x rest) k M (G + one (isB m c)) := by
  refine ⟨homed_tail h.homed hq, ?_, h.le⟩
  have h1 := h.eq
  have h2 := cnt_tail (c := c) h.homed hq
  unfold tot at *; omega
theorem CInv.clear (h : CInv n c way box k M G) {x : Int} (hq : qAt n box x = []) : CInv n c way (setQ box x []) k M G := by
  refine ⟨homed_clear h.homed x, ?_, h.le⟩
  have h1 := h.eq
  have h2 := cnt_clear (c := c) hq
  unfold tot at *; omega
end
end Go.Proofs.Ytambdhoeakddhaa
