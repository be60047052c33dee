/- The walk over the reference's Gone. -/
import Derived.Test.YtpiolgpfhplhcaaWalkG
namespace Go.Proofs.Ytpiolgpfhplhcaa
open Go Go.RowKit
set_option linter.unusedVariables false

/-- A slice value that owns the numbers xs in blocks from B on; nil just where there is none. -/
def OwnsI (B : Nat) (w : World) (v : Value) (xs : List Int) : Prop := w.ownsRow B 3 1 v xs.length (xs.map (Value.int .i64)) ∧ (v = .slice none 0 0 ↔ xs = [])

theorem ownBlock_ge {w : World} {B e size n : Nat} {v : Value} {xs : List Value} (h : w.ownsRow B e size v n xs) {r : Nat} (hr : v.ownBlock = some r) : B ≤ r := by
  rcases h.2 with ⟨rfl, _⟩ | ⟨g, cap, cur, rfl, hg, _⟩
  · simp [Value.ownBlock] at hr
  · simp [Value.ownBlock] at hr; omega

set_option maxHeartbeats 2000000 in
theorem refgone_any (w : World) (b s : Nat) (lim now : Int) (ls : List Int) (h : RefAt w b s lim now ls) (hf : RefFair now ls) :
    Calls Try.prog 22 #[.pointer (some ⟨b, 0, none⟩)] w (GonePost lim (agoOf now ls) w) := by
  obtain ⟨i0, hi, hz0, hz1, hz2⟩ := info_parts Try.info3
  have hl := h.len2
  have hlen := agoOf_len now ls
  have HLEN := Lib.hid hlen
  clear hlen
  go_enter Try.func22, Try.ntmps22
  go_wp2
  go_loopw [3, 4] (fun v i wr => ∃ (k : Nat), k ≤ ls.length ∧ i = .int .i64 k ∧ OwnsI w.heap.size wr v (goneUp lim (agoOf now ls) k) ∧ Below w.heap.size w wr)
    (fun _ i _ => ls.length - (intOf i).toNat)
  case atStart => exact ⟨0, by omega, rfl, ⟨World.ownsRow_nil _ _ _ _, by simp [goneUp]⟩, Below.refl _ _⟩
  case round =>
    obtain ⟨k, hk, rfl, ⟨hown, hnil⟩, hB⟩ := hrel
    have hw := h.kept hB
    have hc := hw.c2
    have hc0 := hw.c0
    have hc1 := hw.c1
    by_cases hlt : k < ls.length
    · have hgl := goneUp_len lim (agoOf now ls) k
      have HYES := Lib.hid (fun h => goneUp_succ_yes (lim := lim) (ss := agoOf now ls) (k := k) h)
      have HNO := Lib.hid (fun h => goneUp_succ_no (lim := lim) (ss := agoOf now ls) (k := k) h)
      have hsk : silF (agoOf now ls) (k : Int) = (agoOf now ls).getD k 0 := by
        unfold silF; rw [if_pos (by rw [HLEN.out]; omega)]; simp
      have hsil : ∀ q : Nat, Calls Try.prog 23 #[.pointer (some ⟨b, 0, none⟩), .int .i64 k] (wr.drewN q) fun e w' => e = .returned (.int .i64 ((agoOf now ls).getD k 0)) ∧ ∃ n, w' = (wr.drewN q).drewN n := fun q => by
        rw [← hsk]; exact refsil_all (wr.drewN q) b s lim now ls ⟨hw.head, hw.row, hw.len1, hw.len2⟩ hf k
      have HSIL := Lib.hid hsil
      clear hsil hsk
      generalize (agoOf now ls).getD k 0 = x at *
      have k0 : (0 : Int) ≤ (k : Int) := by omega
      have k1 : (k : Int) < (ls.length : Int) := by omega
      generalize goneUp lim (agoOf now ls) k = gs at *
      by_cases hx : lim < x
      · go_wp2
        go_quiet ((go_at_call 23; exact Calls.quiet_of (HSIL.out _)))
        have hown' : (wr.drewN nq).ownsRow w.heap.size 3 1 _ gs.length (gs.map (Value.int .i64)) := hown
        have hB' : Below w.heap.size w (wr.drewN nq) := below_drewN hB nq
        clear hown hB hw hc hc0 hc1
        generalize wr.drewN nq = w2 at *
        go_wp2_with (at_builtin; refine wpList_append_own _ rfl _ _ 33 rfl w.heap.size 3 i0 (.int .i64 0) 1 8 Try.underlying33 hi hz0 hz1 hz2 rfl (by decide) _ _ _ rfl (hown'.alloc _) ⟨w2.heap.size, 0, none⟩ 1 1 [.int .i64 k] rfl rfl (cell_one_new _ _ _) (by simp [Value.oneCell']) (by unfold maxLen; omega) (by omega) (by have := hB'.size; simp; omega) ?_; intro v' w3 hown3 hgrow hn3)
        have hB3 : Below w.heap.size w w3 := (hB'.alloc hB'.size _).grown hgrow (by have := hB'.size; simp; omega) (fun r e => ownBlock_ge hown' e)
        have hO3 : OwnsI w.heap.size w3 v' (goneUp lim (agoOf now ls) (k + 1)) := by
          rw [HYES.out hx]
          refine ⟨by simpa using hown3, ?_⟩
          constructor
          · intro e; have := (ownsRow_succ hown3); obtain ⟨g, c, h'⟩ := this; rw [h'] at e; cases e
          · intro e; simp at e
        clear hown3 hgrow hown' hB' hn3
        go_roundw
        case rel => exact ⟨k + 1, by omega, by go_num, hO3, hB3⟩
        case measure => simp [intOf]; omega
      · have hx : x ≤ lim := by omega
        go_wp2
        go_quiet ((go_at_call 23; exact Calls.quiet_of (HSIL.out _)))
        have hO3 : OwnsI w.heap.size (wr.drewN nq) u3 (goneUp lim (agoOf now ls) (k + 1)) := by
          rw [HNO.out hx]; exact ⟨hown, hnil⟩
        have hB' : Below w.heap.size w (wr.drewN nq) := below_drewN hB nq
        go_wp2
        go_roundw
        case rel => exact ⟨k + 1, by omega, by go_num, hO3, hB'⟩
        case measure => simp [intOf]; omega
    · obtain rfl : k = ls.length := by omega
      have hO : GonePost lim (agoOf now ls) w (.returned u3) wr := ⟨_, rfl, by unfold goneOf; rw [HLEN.out]; exact hown, by unfold goneOf; rw [HLEN.out]; exact hnil, hB⟩
      go_wp2
      go_ret
      exact hO
end Go.Proofs.Ytpiolgpfhplhcaa
