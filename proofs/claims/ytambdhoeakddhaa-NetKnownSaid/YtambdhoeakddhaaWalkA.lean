/- A net in memory; the walks over Ends, box, Waits. -/
import Derived.Test.YtambdhoeakddhaaSelN
import Derived.WalkSmall
import Derived.Handy
import Derived.Lib.Hide
import Derived.Conc.LoneSelectN
import Derived.Laws.Rows
import Derived.Maps.AppendAt
import Derived.Deep.QuietTactic
import Derived.BigQuiet
namespace Go.Proofs.Ytambdhoeakddhaa
open Go Go.RowKit
set_option linter.unusedVariables false

/-- A message as it lies in memory: from, to, the slice of its bytes. -/
structure PV where
  src : Int
  dst : Int
  a : Option Addr
  len : Nat
  cap : Nat
def pcells (p : PV) : List Value := [.int .i64 p.src, .int .i64 p.dst, .slice p.a p.len p.cap]
def pagg (p : PV) : Value := .agg #[.int .i64 p.src, .int .i64 p.dst, .slice p.a p.len p.cap]

/-- The net at block b: the row of those that travel at vw, n boxes (channels) in the row at block bx, what lies in each. -/
structure NetAt (w : World) (B b : Nat) (vw : Value) (ps : List PV) (bx cap n : Nat) (cs : Nat → Nat) (bufs : Nat → List PV) : Prop where
  head : w.heap[b]? = some (.cells #[vw, .slice (some ⟨bx, 0, none⟩) n cap] 63 (0, 0))
  brow : ∃ cur : Array Value, w.heap[bx]? = some (.cells cur 60 (0, 0)) ∧ ∀ j, j < n → cur[j]? = some (.chan (some (cs j)))
  chans : ∀ j, j < n → ∃ s r, w.heap[cs j]? = some (.chan 32 ((bufs j).map pagg).toArray false s r false)
  sep : ∀ i j, i < n → j < n → cs i = cs j → i = j
  few : ∀ j, j < n → (bufs j).length ≤ 32
  n1 : 1 ≤ n
  n2 : n ≤ 64
  geb : B ≤ b
  gec : ∀ j, j < n → B ≤ cs j
  way : w.ownsRow B 33 3 vw ps.length (ps.flatMap pcells)

section
variable {w : World} {B b bx cap n : Nat} {vw : Value} {ps : List PV} {cs : Nat → Nat} {bufs : Nat → List PV}
theorem NetAt.c0 (h : NetAt w B b vw ps bx cap n cs bufs) : w.cell? ⟨b, 0, none⟩ = some vw := by
  rw [cell_of_row w b 0 _ 63 (0, 0) h.head]; rfl
theorem NetAt.c1 (h : NetAt w B b vw ps bx cap n cs bufs) : w.cell? ⟨b, 1, none⟩ = some (.slice (some ⟨bx, 0, none⟩) n cap) := by
  rw [cell_of_row w b 1 _ 63 (0, 0) h.head]; rfl
theorem NetAt.box (h : NetAt w B b vw ps bx cap n cs bufs) (j : Nat) (hj : j < n) : w.cell? ⟨bx, j, none⟩ = some (.chan (some (cs j))) := by
  obtain ⟨cur, h1, h2⟩ := h.brow
  rw [cell_of_row w bx j _ 60 (0, 0) h1]; exact h2 j hj

theorem ends_any (h : NetAt w B b vw ps bx cap n cs bufs) : Calls Try.prog 30 #[.pointer (some ⟨b, 0, none⟩)] w fun e w' => e = .returned (.int .i64 n) ∧ w = w' := by
  have hc := h.c1
  have hn := h.n2
  go_enter Try.func30, Try.ntmps30
  go_wp2
  go_ret
  exact ⟨rfl, rfl⟩

theorem box_in (h : NetAt w B b vw ps bx cap n cs bufs) (j : Nat) (hj : j < n) : Calls Try.prog 35 #[.pointer (some ⟨b, 0, none⟩), .int .i64 j] w fun e w' => e = .returned (.chan (some (cs j))) ∧ w = w' := by
  have hc := h.c1
  have hb := h.box j hj
  have hn := h.n2
  go_enter Try.func35, Try.ntmps35
  go_wp2_with (go_at_call 30; refine (ends_any h).mono ?_; rintro e w' ⟨rfl, rfl⟩)
  go_ret
  exact ⟨rfl, rfl⟩
theorem box_out (h : NetAt w B b vw ps bx cap n cs bufs) (x : Int) (hx : x < 0 ∨ (n : Int) ≤ x) : Calls Try.prog 35 #[.pointer (some ⟨b, 0, none⟩), .int .i64 x] w fun e w' => e = .returned (.chan none) ∧ w = w' := by
  have hn := h.n2
  by_cases h0 : x < 0
  · go_enter Try.func35, Try.ntmps35
    go_wp2_with (go_at_call 30; refine (ends_any h).mono ?_; rintro e w' ⟨rfl, rfl⟩)
    go_ret
    exact ⟨rfl, rfl⟩
  · have h1 : 0 ≤ x := by omega
    have h2 : (n : Int) ≤ x := by omega
    clear hx
    go_enter Try.func35, Try.ntmps35
    go_wp2_with (go_at_call 30; refine (ends_any h).mono ?_; rintro e w' ⟨rfl, rfl⟩)
    go_ret
    exact ⟨rfl, rfl⟩

theorem run_len_nil (ty : TypeId) (w : World) : (Builtin.len_ #[60] ty #[.chan none]).run Try.prog w = .ok (.int .i64 0) w := by
  simp [Builtin.len_, run_underlying Try.underlying60]
  rfl
theorem waits_in (h : NetAt w B b vw ps bx cap n cs bufs) (j : Nat) (hj : j < n) : Calls Try.prog 12 #[.pointer (some ⟨b, 0, none⟩), .int .i64 j] w fun e w' => e = .returned (.int .i64 (bufs j).length) ∧ w = w' := by
  obtain ⟨s, r, hch⟩ := h.chans j hj
  go_enter Try.func12, Try.ntmps12
  have hlen := fun ty => Conc.run_len_chan (P := Try.prog) 60 ty Try.underlying60 hch
  rw [List.size_toArray, List.length_map] at hlen
  go_wp2_with (go_at_call 35; refine (box_in h j hj).mono ?_; rintro e w' ⟨rfl, rfl⟩)
  go_ret
  exact ⟨rfl, rfl⟩
theorem waits_out (h : NetAt w B b vw ps bx cap n cs bufs) (x : Int) (hx : x < 0 ∨ (n : Int) ≤ x) : Calls Try.prog 12 #[.pointer (some ⟨b, 0, none⟩), .int .i64 x] w fun e w' => e = .returned (.int .i64 0) ∧ w = w' := by
  have hlen : ∀ ty, (Builtin.len_ #[60] ty #[.chan none]).run Try.prog w = .ok (.int .i64 0) w := fun ty => run_len_nil ty w
  go_enter Try.func12, Try.ntmps12
  go_wp2_with (go_at_call 35; refine (box_out h x hx).mono ?_; rintro e w' ⟨rfl, rfl⟩)
  go_ret
  exact ⟨rfl, rfl⟩
end
end Go.Proofs.Ytambdhoeakddhaa
