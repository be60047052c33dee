/- The walk over Deliver. -/
import Derived.Test.YtambdhoeakddhaaWalkN
namespace Go.Proofs.Ytambdhoeakddhaa
open Go Go.RowKit Go.Conc
set_option linter.unusedVariables false

theorem below_drewN {B : Nat} {a w : World} (h : Below B a w) (n : Nat) : Below B a (w.drewN n) := h.trans ⟨rfl, rfl, rfl, Nat.le_refl _, fun _ _ => rfl⟩

section
variable {w w' : World} {B b bx cap n : Nat} {vw : Value} {ps : List PV} {cs : Nat → Nat} {bufs : Nat → List PV}
set_option maxRecDepth 8000 in
set_option maxHeartbeats 4000000 in
theorem deliver_cl {l1 l2 : List PV} {p : PV} (h : NetAt w B b vw (l1 ++ p :: l2) bx cap n cs bufs) (hB : B ≤ w.heap.size) (hlen : l1.length + l2.length < 256) (c1 c2 j : Nat) (hj : j < n) (hpj : p.dst = j)
    (h1 : w.cell? ⟨c1, 0, none⟩ = some (.pointer (some ⟨b, 0, none⟩))) (h2 : w.cell? ⟨c2, 0, none⟩ = some (.int .i64 l1.length)) (hc1 : c1 ≠ b) (hc1v : some c1 ≠ vw.ownBlock) (hroom : (bufs j).length < 32) :
    Calls Try.prog 32 #[.agg #[.int .i64 p.src, .int .i64 p.dst, .slice p.a p.len p.cap], .pointer (some ⟨c1, 0, none⟩), .pointer (some ⟨c2, 0, none⟩)] w fun e w' => e = .returned (.int .i64 0) ∧ (∃ vw', NetAt w' B b vw' (l1 ++ l2) bx cap n cs (upd bufs j (bufs j ++ [p]))) ∧ Moved B w w' := by
  have B1 : Below w.heap.size w (w.alloc (.cells #[.int .i64 p.src, .int .i64 p.dst, .slice p.a p.len p.cap] 33)) := (Below.refl _ _).alloc (Nat.le_refl _) _
  have t1 : Tri (w.alloc (.cells #[.int .i64 p.src, .int .i64 p.dst, .slice p.a p.len p.cap] 33)) w.heap.size (.int .i64 p.src) (.int .i64 p.dst) (.slice p.a p.len p.cap) := tri (heap_alloc_new _ _)
  have b1 := World.block_lt_of_cell? w _ h1
  have hN0 := h.kept B1
  have k1 := (B1.cell b1).trans h1
  have k2 := (B1.cell (World.block_lt_of_cell? w _ h2)).trans h2
  have HO := Lib.hid (off_raw hN0 hlen)
  have hsz : (w.alloc (.cells #[.int .i64 p.src, .int .i64 p.dst, .slice p.a p.len p.cap] 33)).heap.size = w.heap.size + 1 := by simp
  have HVL := Lib.hid h.row_lt
  have hbl := block_lt h.head
  have hn := h.n2
  have HPJ := Lib.hid hpj
  clear hpj
  clear h h1 h2 hN0
  generalize l1.length = i at *
  have HB1 := Lib.hid B1
  clear B1
  refine calls_of_wpN Try.func32 rfl ?_
  simp only [Try.ntmps32, List.size_toArray, List.length_cons, List.length_nil, Nat.reduceAdd, Nat.reduceSub, Array.replicate_succ, Array.replicate_zero, List.push_toArray, List.append_toArray, List.nil_append, List.cons_append]
  refine wpN_seq (wpN_wp ?_)
  go_wp2
  generalize w.alloc (.cells #[.int .i64 p.src, .int .i64 p.dst, .slice p.a p.len p.cap] 33) = w1 at *
  refine wpN_seq (wpN_wp ?_)
  go_wp2_with fail
  refine HO.out.mono ?_
  rintro e w2 ⟨rfl, v2, hN, hW, hM⟩
  have g1 := (World.cell?_of_block (a := ⟨c1, 0, none⟩) (hW.block c1 (by omega) hc1 hc1v)).trans k1
  have t2 := tri ((hW.block w.heap.size (by omega) (by omega) (fun e => by have := HVL.out _ e.symm; omega)).trans t1.blk)
  obtain ⟨_, a20, a21, a22, _, _, _⟩ := t2
  rw [HPJ.out] at a21
  have z2 : w1.heap.size ≤ w2.heap.size := hM.size
  have hcc := hN.c1
  have hbj := hN.box j hj
  have HN2 := Lib.hid hN
  have HM2 := Lib.hid hM
  clear hN hW hM k1 k2 t1 HO
  go_wp2_with fail
  have BQ := Lib.hid (fun k => (below_drewN (Below.refl w2.heap.size w2) k))
  refine wpN_seq (wpN_seq (wpN_seq (wpN_wp ?_)))
  go_quiet (fail)
  refine wpN_wp ?_
  go_wp2_with fail
  have B3 := BQ.out nq
  have HN3 := Lib.hid (HN2.out.kept B3)
  have z3 := B3.size
  have HM3 := Lib.hid (HM2.out.trans (Moved.of_below B3 (by omega)))
  clear HN2 HM2 B3 BQ
  generalize w2.drewN nq = w3 at *
  obtain ⟨s, r, hch⟩ := HN3.out.chans j hj
  refine wpN_seq (wpN_region_comm (w₁ := w3) (cases := #[scase (cs j) (.agg #[.int .i64 p.src, .int .i64 j, .slice p.a p.len p.cap]) (.agg #[.int .i64 0, .int .i64 0, .slice none 0 0])]) (shape := .select) (blocking := false) rfl (by simp [go_sem, execOp, scase, Act.eval]) (fun fr ks es hst => step_lone_select_send_room hst hch (by simpa using hroom)) ?_)
  go_wp2_with fail
  refine wpN_wp ?_
  go_wp2_with fail
  have hcl := block_lt hch
  have ho : Only (cs j) w3 (w3.setChan (cs j) 32 (((bufs j).map pagg).toArray.push (.agg #[.int .i64 p.src, .int .i64 j, .slice p.a p.len p.cap])) false (s + 1) r false) :=
    ⟨rfl, rfl, rfl, by rw [size_setChan]; omega, fun k hk hne => setChan_other' _ _ _ _ _ _ _ _ _ (fun e => hne (by rw [e]))⟩
  have hN := HN3.out.chan j hj ho (bufs j ++ [p]) (by simp; omega) (s := s + 1) (r := r) (by
    rw [heap_setChan _ _ _ _ _ _ _ _ hcl]
    simp [pagg, HPJ.out])
  have hM := HM3.out.trans (Moved.chan ho (HN3.out.gec j hj) (by omega) hch)
  have FIN0 := And.intro hN ((Moved.of_below HB1.out hB).trans hM)
  rw [List.push_toArray] at FIN0
  have FIN := Lib.hid FIN0
  clear FIN0
  clear hN hM ho
  refine wpN_wp ?_
  go_wp2_with fail
  go_ret
  exact ⟨rfl, ⟨_, FIN.out.1⟩, FIN.out.2⟩
set_option maxRecDepth 8000 in
set_option maxHeartbeats 4000000 in
theorem deliver_clfull {l1 l2 : List PV} {p : PV} (h : NetAt w B b vw (l1 ++ p :: l2) bx cap n cs bufs) (hB : B ≤ w.heap.size) (hlen : l1.length + l2.length < 256) (c1 c2 j : Nat) (hj : j < n) (hpj : p.dst = j)
    (h1 : w.cell? ⟨c1, 0, none⟩ = some (.pointer (some ⟨b, 0, none⟩))) (h2 : w.cell? ⟨c2, 0, none⟩ = some (.int .i64 l1.length)) (hc1 : c1 ≠ b) (hc1v : some c1 ≠ vw.ownBlock) (hroom : (bufs j).length = 32) :
    Calls Try.prog 32 #[.agg #[.int .i64 p.src, .int .i64 p.dst, .slice p.a p.len p.cap], .pointer (some ⟨c1, 0, none⟩), .pointer (some ⟨c2, 0, none⟩)] w fun e w' => e = .returned (.int .i64 0) ∧ (∃ vw', NetAt w' B b vw' (l1 ++ l2) bx cap n cs bufs) ∧ Moved B w w' := by
  have B1 : Below w.heap.size w (w.alloc (.cells #[.int .i64 p.src, .int .i64 p.dst, .slice p.a p.len p.cap] 33)) := (Below.refl _ _).alloc (Nat.le_refl _) _
  have t1 : Tri (w.alloc (.cells #[.int .i64 p.src, .int .i64 p.dst, .slice p.a p.len p.cap] 33)) w.heap.size (.int .i64 p.src) (.int .i64 p.dst) (.slice p.a p.len p.cap) := tri (heap_alloc_new _ _)
  have b1 := World.block_lt_of_cell? w _ h1
  have hN0 := h.kept B1
  have k1 := (B1.cell b1).trans h1
  have k2 := (B1.cell (World.block_lt_of_cell? w _ h2)).trans h2
  have HO := Lib.hid (off_raw hN0 hlen)
  have hsz : (w.alloc (.cells #[.int .i64 p.src, .int .i64 p.dst, .slice p.a p.len p.cap] 33)).heap.size = w.heap.size + 1 := by simp
  have HVL := Lib.hid h.row_lt
  have hbl := block_lt h.head
  have hn := h.n2
  have HPJ := Lib.hid hpj
  clear hpj
  clear h h1 h2 hN0
  generalize l1.length = i at *
  have HB1 := Lib.hid B1
  clear B1
  refine calls_of_wpN Try.func32 rfl ?_
  simp only [Try.ntmps32, List.size_toArray, List.length_cons, List.length_nil, Nat.reduceAdd, Nat.reduceSub, Array.replicate_succ, Array.replicate_zero, List.push_toArray, List.append_toArray, List.nil_append, List.cons_append]
  refine wpN_seq (wpN_wp ?_)
  go_wp2
  generalize w.alloc (.cells #[.int .i64 p.src, .int .i64 p.dst, .slice p.a p.len p.cap] 33) = w1 at *
  refine wpN_seq (wpN_wp ?_)
  go_wp2_with fail
  refine HO.out.mono ?_
  rintro e w2 ⟨rfl, v2, hN, hW, hM⟩
  have g1 := (World.cell?_of_block (a := ⟨c1, 0, none⟩) (hW.block c1 (by omega) hc1 hc1v)).trans k1
  have t2 := tri ((hW.block w.heap.size (by omega) (by omega) (fun e => by have := HVL.out _ e.symm; omega)).trans t1.blk)
  obtain ⟨_, a20, a21, a22, _, _, _⟩ := t2
  rw [HPJ.out] at a21
  have z2 : w1.heap.size ≤ w2.heap.size := hM.size
  have hcc := hN.c1
  have hbj := hN.box j hj
  have HN2 := Lib.hid hN
  have HM2 := Lib.hid hM
  clear hN hW hM k1 k2 t1 HO
  go_wp2_with fail
  have BQ := Lib.hid (fun k => (below_drewN (Below.refl w2.heap.size w2) k))
  refine wpN_seq (wpN_seq (wpN_seq (wpN_wp ?_)))
  go_quiet (fail)
  refine wpN_wp ?_
  go_wp2_with fail
  have B3 := BQ.out nq
  have HN3 := Lib.hid (HN2.out.kept B3)
  have z3 := B3.size
  have HM3 := Lib.hid (HM2.out.trans (Moved.of_below B3 (by omega)))
  clear HN2 HM2 B3 BQ
  generalize w2.drewN nq = w3 at *
  obtain ⟨s, r, hch⟩ := HN3.out.chans j hj
  refine wpN_seq (wpN_region_comm (w₁ := w3) (cases := #[scase (cs j) (.agg #[.int .i64 p.src, .int .i64 j, .slice p.a p.len p.cap]) (.agg #[.int .i64 0, .int .i64 0, .slice none 0 0])]) (shape := .select) (blocking := false) rfl (by simp [go_sem, execOp, scase, Act.eval]) (fun fr ks es hst => step_lone_select_send_full hst hch (by simp [hroom])) ?_)
  go_wp2_with fail
  refine wpN_wp ?_
  go_wp2_with fail
  have FIN := Lib.hid (And.intro HN3.out ((Moved.of_below HB1.out hB).trans HM3.out))
  refine wpN_wp ?_
  go_wp2_with fail
  go_ret
  exact ⟨rfl, ⟨_, FIN.out.1⟩, FIN.out.2⟩
set_option maxRecDepth 8000 in
set_option maxHeartbeats 2000000 in
theorem deliver_ok {l1 l2 : List PV} {p : PV} (h : NetAt w B b vw (l1 ++ p :: l2) bx cap n cs bufs) (hB : B ≤ w.heap.size) (hlen : l1.length + l2.length < 256) (j : Nat) (hj : j < n) (hpj : p.dst = j) (hroom : (bufs j).length < 32) :
    Calls Try.prog 9 #[.pointer (some ⟨b, 0, none⟩), .int .i64 l1.length] w fun e w' => e = .returned (.int .i64 0) ∧ (∃ vw', NetAt w' B b vw' (l1 ++ l2) bx cap n cs (upd bufs j (bufs j ++ [p]))) ∧ Moved B w w' := by
  have B1 : Below w.heap.size w ((w.alloc (.cells #[.pointer (some ⟨b, 0, none⟩)] 22)).alloc (.cells #[.int .i64 l1.length] 3)) := ((Below.refl _ _).alloc (Nat.le_refl _) _).alloc (by simp) _
  have k1 : ((w.alloc (.cells #[.pointer (some ⟨b, 0, none⟩)] 22)).alloc (.cells #[.int .i64 l1.length] 3)).heap[w.heap.size]? = some (.cells #[.pointer (some ⟨b, 0, none⟩)] 22 (0, 0)) := by
    rw [Below.heap_alloc _ _ _ (by simp)]; exact heap_alloc_new _ _
  have k2 : ((w.alloc (.cells #[.pointer (some ⟨b, 0, none⟩)] 22)).alloc (.cells #[.int .i64 l1.length] 3)).heap[w.heap.size + 1]? = some (.cells #[.int .i64 l1.length] 3 (0, 0)) := by
    have := heap_alloc_new (w.alloc (.cells #[.pointer (some ⟨b, 0, none⟩)] 22)) (.cells #[.int .i64 l1.length] 3); simpa only [World.size_alloc] using this
  have h1 := h.kept B1
  have hM := Moved.of_below B1 hB
  have hsz := B1.size
  have e1 := cell_of_row _ w.heap.size 0 _ 22 (0, 0) k1
  have e2 := cell_of_row _ (w.heap.size + 1) 0 _ 3 (0, 0) k2
  have HC := Lib.hid (on_fn h1 hlen 32 (.inl rfl) _ _ _ _ (deliver_cl h1 (by omega) hlen w.heap.size (w.heap.size + 1) j hj hpj e1 e2 (by have := block_lt h.head; omega) (fun e => by have := h.row_lt _ e.symm; omega) hroom))
  have HB := Lib.hid B1
  clear h1 h k1 k2 hsz B1
  generalize l1.length = i at *
  go_enter Try.func9, Try.ntmps9
  go_wp2_with fail
  generalize (w.alloc (.cells #[.pointer (some ⟨b, 0, none⟩)] 22)).alloc (.cells #[.int .i64 i] 3) = w1 at *
  refine HC.out.mono ?_
  rintro e w2 ⟨rfl, hN, hM2⟩
  clear e1 e2
  go_wp2
  go_ret
  exact ⟨rfl, hN, hM.trans hM2⟩
set_option maxRecDepth 8000 in
set_option maxHeartbeats 2000000 in
theorem deliver_full {l1 l2 : List PV} {p : PV} (h : NetAt w B b vw (l1 ++ p :: l2) bx cap n cs bufs) (hB : B ≤ w.heap.size) (hlen : l1.length + l2.length < 256) (j : Nat) (hj : j < n) (hpj : p.dst = j) (hroom : (bufs j).length = 32) :
    Calls Try.prog 9 #[.pointer (some ⟨b, 0, none⟩), .int .i64 l1.length] w fun e w' => e = .returned (.int .i64 0) ∧ (∃ vw', NetAt w' B b vw' (l1 ++ l2) bx cap n cs bufs) ∧ Moved B w w' := by
  have B1 : Below w.heap.size w ((w.alloc (.cells #[.pointer (some ⟨b, 0, none⟩)] 22)).alloc (.cells #[.int .i64 l1.length] 3)) := ((Below.refl _ _).alloc (Nat.le_refl _) _).alloc (by simp) _
  have k1 : ((w.alloc (.cells #[.pointer (some ⟨b, 0, none⟩)] 22)).alloc (.cells #[.int .i64 l1.length] 3)).heap[w.heap.size]? = some (.cells #[.pointer (some ⟨b, 0, none⟩)] 22 (0, 0)) := by
    rw [Below.heap_alloc _ _ _ (by simp)]; exact heap_alloc_new _ _
  have k2 : ((w.alloc (.cells #[.pointer (some ⟨b, 0, none⟩)] 22)).alloc (.cells #[.int .i64 l1.length] 3)).heap[w.heap.size + 1]? = some (.cells #[.int .i64 l1.length] 3 (0, 0)) := by
    have := heap_alloc_new (w.alloc (.cells #[.pointer (some ⟨b, 0, none⟩)] 22)) (.cells #[.int .i64 l1.length] 3); simpa only [World.size_alloc] using this
  have h1 := h.kept B1
  have hM := Moved.of_below B1 hB
  have hsz := B1.size
  have e1 := cell_of_row _ w.heap.size 0 _ 22 (0, 0) k1
  have e2 := cell_of_row _ (w.heap.size + 1) 0 _ 3 (0, 0) k2
  have HC := Lib.hid (on_fn h1 hlen 32 (.inl rfl) _ _ _ _ (deliver_clfull h1 (by omega) hlen w.heap.size (w.heap.size + 1) j hj hpj e1 e2 (by have := block_lt h.head; omega) (fun e => by have := h.row_lt _ e.symm; omega) hroom))
  have HB := Lib.hid B1
  clear h1 h k1 k2 hsz B1
  generalize l1.length = i at *
  go_enter Try.func9, Try.ntmps9
  go_wp2_with fail
  generalize (w.alloc (.cells #[.pointer (some ⟨b, 0, none⟩)] 22)).alloc (.cells #[.int .i64 i] 3) = w1 at *
  refine HC.out.mono ?_
  rintro e w2 ⟨rfl, hN, hM2⟩
  clear e1 e2
  go_wp2
  go_ret
  exact ⟨rfl, hN, hM.trans hM2⟩
theorem deliver_out (h : NetAt w B b vw ps bx cap n cs bufs) (hs : ps.length ≤ 256) (x : Int) (hx : x < 0 ∨ (ps.length : Int) ≤ x) :
    Calls Try.prog 9 #[.pointer (some ⟨b, 0, none⟩), .int .i64 x] w fun e w' => e = .returned (.int .i64 5) ∧ Below w.heap.size w w' := by
  have B1 : Below w.heap.size w ((w.alloc (.cells #[.pointer (some ⟨b, 0, none⟩)] 22)).alloc (.cells #[.int .i64 x] 3)) := ((Below.refl _ _).alloc (Nat.le_refl _) _).alloc (by simp) _
  have h1 := h.kept B1
  have k1 : ((w.alloc (.cells #[.pointer (some ⟨b, 0, none⟩)] 22)).alloc (.cells #[.int .i64 x] 3)).heap[w.heap.size]? = some (.cells #[.pointer (some ⟨b, 0, none⟩)] 22 (0, 0)) := by
    rw [Below.heap_alloc _ _ _ (by simp)]; exact heap_alloc_new _ _
  have k2 : ((w.alloc (.cells #[.pointer (some ⟨b, 0, none⟩)] 22)).alloc (.cells #[.int .i64 x] 3)).heap[w.heap.size + 1]? = some (.cells #[.int .i64 x] 3 (0, 0)) := by
    have := heap_alloc_new (w.alloc (.cells #[.pointer (some ⟨b, 0, none⟩)] 22)) (.cells #[.int .i64 x] 3); simpa only [World.size_alloc] using this
  have e1 := cell_of_row _ w.heap.size 0 _ 22 (0, 0) k1
  have e2 := cell_of_row _ (w.heap.size + 1) 0 _ 3 (0, 0) k2
  have HC := Lib.hid (on_out h1 hs x hx (.func (.func 32) #[] #[.pointer (some ⟨w.heap.size, 0, none⟩), .pointer (some ⟨w.heap.size + 1, 0, none⟩)]))
  have HB := Lib.hid B1
  clear h1 h k1 k2 B1 hx
  go_enter Try.func9, Try.ntmps9
  go_wp2_with fail
  generalize (w.alloc (.cells #[.pointer (some ⟨b, 0, none⟩)] 22)).alloc (.cells #[.int .i64 x] 3) = w1 at *
  refine HC.out.mono ?_
  rintro e w2 ⟨rfl, rfl⟩
  clear e1 e2
  go_wp2
  go_ret
  exact ⟨rfl, HB.out⟩
theorem deliver_nil (x : Int) (w : World) : Calls Try.prog 9 #[.pointer none, .int .i64 x] w fun e w' => e = .returned (.int .i64 1) ∧ Below w.heap.size w w' := by
  have B1 : Below w.heap.size w ((w.alloc (.cells #[.pointer none] 22)).alloc (.cells #[.int .i64 x] 3)) := ((Below.refl _ _).alloc (Nat.le_refl _) _).alloc (by simp) _
  have k1 : ((w.alloc (.cells #[.pointer none] 22)).alloc (.cells #[.int .i64 x] 3)).heap[w.heap.size]? = some (.cells #[.pointer none] 22 (0, 0)) := by
    rw [Below.heap_alloc _ _ _ (by simp)]; exact heap_alloc_new _ _
  have k2 : ((w.alloc (.cells #[.pointer none] 22)).alloc (.cells #[.int .i64 x] 3)).heap[w.heap.size + 1]? = some (.cells #[.int .i64 x] 3 (0, 0)) := by
    have := heap_alloc_new (w.alloc (.cells #[.pointer none] 22)) (.cells #[.int .i64 x] 3); simpa only [World.size_alloc] using this
  have e1 := cell_of_row _ w.heap.size 0 _ 22 (0, 0) k1
  have e2 := cell_of_row _ (w.heap.size + 1) 0 _ 3 (0, 0) k2
  have HC := Lib.hid (on_nil x (.func (.func 32) #[] #[.pointer (some ⟨w.heap.size, 0, none⟩), .pointer (some ⟨w.heap.size + 1, 0, none⟩)]) ((w.alloc (.cells #[.pointer none] 22)).alloc (.cells #[.int .i64 x] 3)))
  have HB := Lib.hid B1
  clear k1 k2 B1
  go_enter Try.func9, Try.ntmps9
  go_wp2_with fail
  generalize (w.alloc (.cells #[.pointer none] 22)).alloc (.cells #[.int .i64 x] 3) = w1 at *
  refine HC.out.mono ?_
  rintro e w2 ⟨rfl, rfl⟩
  clear e1 e2
  go_wp2
  go_ret
  exact ⟨rfl, HB.out⟩

end
end Go.Proofs.Ytambdhoeakddhaa
