/- What keeps a net; the walk over Receive. -/
import Derived.Test.YtambdhoeakddhaaWalkA
import Derived.Laws.ResultCell
namespace Go.Proofs.Ytambdhoeakddhaa
open Go Go.RowKit Go.Conc
set_option linter.unusedVariables false

abbrev Only (s : Nat) (w w' : World) : Prop := w.grownBy w' (some s)
theorem block_lt {w : World} {k : Nat} {o : Obj} (h : w.heap[k]? = some o) : k < w.heap.size := (Array.getElem?_eq_some_iff.1 h).1
theorem owns_same {w w' : World} {B e sz m : Nat} {v : Value} {xs : List Value} (h : w.ownsRow B e sz v m xs) (hk : ∀ g cur, v.ownBlock = some g → w.heap[g]? = some (.cells cur e (0, 0)) → w'.heap[g]? = w.heap[g]?) : w'.ownsRow B e sz v m xs := by
  obtain ⟨hl, h⟩ := h
  refine ⟨hl, ?_⟩
  rcases h with h | ⟨g, cap, cur, rfl, h1, h2, h3⟩
  · exact .inl h
  · exact .inr ⟨g, cap, cur, rfl, h1, (hk g cur (by simp [Value.ownBlock]) h2).trans h2, h3⟩

section
variable {w w' : World} {B b bx cap n : Nat} {vw : Value} {ps : List PV} {cs : Nat → Nat} {bufs : Nat → List PV}
theorem NetAt.kept (h : NetAt w B b vw ps bx cap n cs bufs) (hb : Below w.heap.size w w') : NetAt w' B b vw ps bx cap n cs bufs := by
  refine ⟨(hb.block _ (block_lt h.head)).trans h.head, ?_, fun j hj => ?_, h.sep, h.few, h.n1, h.n2, h.geb, h.gec, ?_⟩
  · obtain ⟨cur, h1, h2⟩ := h.brow
    exact ⟨cur, (hb.block _ (block_lt h1)).trans h1, h2⟩
  · obtain ⟨s, r, h1⟩ := h.chans j hj
    exact ⟨s, r, (hb.block _ (block_lt h1)).trans h1⟩
  · exact owns_same h.way fun g cur _ h2 => hb.block _ (block_lt h2)

theorem setChan_other' (w : World) (c c' cap : Nat) (buf : Array Value) (closed : Bool) (s r : Nat) (tm : Bool) (h : c ≠ c') : (w.setChan c cap buf closed s r tm).heap[c']? = w.heap[c']? := by
  simp only [World.setChan]; rw [Array.getElem?_setIfInBounds_ne h]
/-- One box turned. -/
def upd (bufs : Nat → List PV) (j : Nat) (l : List PV) : Nat → List PV := fun i => if i = j then l else bufs i
theorem NetAt.chan (h : NetAt w B b vw ps bx cap n cs bufs) (j : Nat) (hj : j < n) (ho : Only (cs j) w w') (l : List PV) (hl : l.length ≤ 32) {s r : Nat} (hc : w'.heap[cs j]? = some (.chan 32 (l.map pagg).toArray false s r false)) :
    NetAt w' B b vw ps bx cap n cs (upd bufs j l) := by
  obtain ⟨s0, r0, hj0⟩ := h.chans j hj
  have ne : ∀ k cur T, w.heap[k]? = some (Obj.cells cur T (0, 0)) → w'.heap[k]? = w.heap[k]? := fun k cur T hk =>
    ho.block k (block_lt hk) (fun e => by
      have e := Option.some.inj e
      subst e; rw [hj0] at hk; cases hk)
  refine ⟨(ne _ _ _ h.head).trans h.head, ?_, fun i hi => ?_, h.sep, fun i hi => ?_, h.n1, h.n2, h.geb, h.gec, ?_⟩
  · obtain ⟨cur, h1, h2⟩ := h.brow
    exact ⟨cur, (ne _ _ _ h1).trans h1, h2⟩
  · by_cases e : i = j
    · subst e; exact ⟨s, r, by simp only [upd, if_true]; exact hc⟩
    · obtain ⟨s1, r1, h1⟩ := h.chans i hi
      refine ⟨s1, r1, ?_⟩
      simp only [upd, if_neg e]
      exact (ho.block _ (block_lt h1) (fun e' => e (h.sep i j hi hj (Option.some.inj e')))).trans h1
  · unfold upd; split
    · exact hl
    · exact h.few i hi
  · exact owns_same h.way fun g cur _ h2 => ne _ _ _ h2

end

theorem only_setCell (w : World) (s i : Nat) (v : Value) : Only s w (w.setCell ⟨s, i, none⟩ v) :=
  ⟨rfl, rfl, rfl, by simp, fun k _ hk => heap_setCell_other w ⟨s, i, none⟩ k v (fun e => hk (by simp [e]))⟩

/-- A block of three cells: a message's. -/
structure Tri (w : World) (t : Nat) (x y z : Value) : Prop where
  blk : w.heap[t]? = some (.cells #[x, y, z] 33 (0, 0))
  c0 : w.cell? ⟨t, 0, none⟩ = some x
  c1 : w.cell? ⟨t, 1, none⟩ = some y
  c2 : w.cell? ⟨t, 2, none⟩ = some z
  f0 : w.frozen? ⟨t, 0, none⟩ = false
  f1 : w.frozen? ⟨t, 1, none⟩ = false
  f2 : w.frozen? ⟨t, 2, none⟩ = false
theorem tri {w : World} {t : Nat} {x y z : Value} (h : w.heap[t]? = some (.cells #[x, y, z] 33 (0, 0))) : Tri w t x y z :=
  ⟨h, by rw [cell_of_row w t 0 _ 33 (0, 0) h]; rfl, by rw [cell_of_row w t 1 _ 33 (0, 0) h]; rfl, by rw [cell_of_row w t 2 _ 33 (0, 0) h]; rfl, frozen_of_row w t 0 _ 33 h, frozen_of_row w t 1 _ 33 h, frozen_of_row w t 2 _ 33 h⟩
theorem Tri.s0 {w : World} {t : Nat} {x y z : Value} (h : Tri w t x y z) (v : Value) : Tri (w.setCell ⟨t, 0, none⟩ v) t v y z := tri (by rw [heap_setCell_same w t 0 _ 33 v h.blk]; rfl)
theorem Tri.s1 {w : World} {t : Nat} {x y z : Value} (h : Tri w t x y z) (v : Value) : Tri (w.setCell ⟨t, 1, none⟩ v) t x v z := tri (by rw [heap_setCell_same w t 1 _ 33 v h.blk]; rfl)
theorem Tri.s2 {w : World} {t : Nat} {x y z : Value} (h : Tri w t x y z) (v : Value) : Tri (w.setCell ⟨t, 2, none⟩ v) t x y v := tri (by rw [heap_setCell_same w t 2 _ 33 v h.blk]; rfl)

/-- The same message stored over three cells, twice. -/
def put3 (w : World) (t : Nat) (p : PV) : World := ((w.setCell ⟨t, 0, none⟩ (.int .i64 p.src)).setCell ⟨t, 1, none⟩ (.int .i64 p.dst)).setCell ⟨t, 2, none⟩ (.slice p.a p.len p.cap)
theorem only_put3 (w : World) (t : Nat) (p : PV) : Only t w (put3 w t p) := by
  have h1 := only_setCell w t 0 (.int .i64 p.src)
  have h2 := only_setCell (w.setCell ⟨t, 0, none⟩ (.int .i64 p.src)) t 1 (.int .i64 p.dst)
  have h3 := only_setCell ((w.setCell ⟨t, 0, none⟩ (.int .i64 p.src)).setCell ⟨t, 1, none⟩ (.int .i64 p.dst)) t 2 (.slice p.a p.len p.cap)
  exact ⟨(h3.os.trans h2.os).trans h1.os, (h3.tape.trans h2.tape).trans h1.tape, (h3.output.trans h2.output).trans h1.output, Nat.le_trans h1.size (Nat.le_trans h2.size h3.size), fun k hk hne => (h3.block k (Nat.lt_of_lt_of_le hk (Nat.le_trans h1.size h2.size)) hne).trans ((h2.block k (Nat.lt_of_lt_of_le hk h1.size) hne).trans (h1.block k hk hne))⟩

section
variable {w w' : World} {B b bx cap n : Nat} {vw : Value} {ps : List PV} {cs : Nat → Nat} {bufs : Nat → List PV}
set_option maxHeartbeats 1000000 in
theorem receive_in (h : NetAt w B b vw ps bx cap n cs bufs) (j : Nat) (hj : j < n) (p : PV) (rest : List PV) (hb : bufs j = p :: rest) :
    Calls Try.prog 13 #[.pointer (some ⟨b, 0, none⟩), .int .i64 j] w fun e w' => e = .returned (.tuple #[pagg p, .bool true]) ∧ NetAt w' B b vw ps bx cap n cs (upd bufs j rest) ∧ Only (cs j) w w' := by
  obtain ⟨s, r, hch⟩ := h.chans j hj
  rw [hb, List.map_cons] at hch
  unfold pagg at hch
  obtain ⟨L, hL⟩ : ∃ L, rest.map pagg = L := ⟨_, rfl⟩
  have hL' : List.map (fun p => Value.agg #[.int .i64 p.src, .int .i64 p.dst, .slice p.a p.len p.cap]) rest = L := hL
  rw [hL'] at hch
  have B1 : Below w.heap.size w (w.alloc (.cells #[.int .i64 0, .int .i64 0, .slice none 0 0] 33)) := (Below.refl _ _).alloc (Nat.le_refl _) _
  have h1 := h.kept B1
  have hch1 := (B1.block _ (block_lt hch)).trans hch
  have hT : cs j ≠ w.heap.size := by have := block_lt hch; omega
  have ht : (w.alloc (.cells #[.int .i64 0, .int .i64 0, .slice none 0 0] 33)).heap[w.heap.size]? = some (.cells #[.int .i64 0, .int .i64 0, .slice none 0 0] 33 (0, 0)) := heap_alloc_new _ _
  refine calls_of_wpN Try.func13 rfl ?_
  simp only [Try.ntmps13, List.size_toArray, List.length_cons, List.length_nil, Nat.reduceAdd, Nat.reduceSub, Array.replicate_succ, Array.replicate_zero, List.push_toArray, List.append_toArray, List.nil_append, List.cons_append]
  refine wpN_seq (wpN_wp ?_)
  go_wp2
  generalize w.alloc (.cells #[.int .i64 0, .int .i64 0, .slice none 0 0] 33) = w1 at *
  refine wpN_seq (wpN_seq (wpN_wp ?_))
  go_wp2_with fail
  refine (box_in h1 j hj).mono ?_
  rintro e w' ⟨rfl, rfl⟩
  go_wp2_with fail
  refine wpN_seq (wpN_region_comm (cases := #[rcase (cs j) (.agg #[.int .i64 0, .int .i64 0, .slice none 0 0])]) (shape := .select) (blocking := false) rfl (by simp [go_sem, execOp, rcase, Act.eval]) (fun fr ks es hst => step_lone_select_recv_buf hst hch1 (by simp)) ?_)
  go_wp2_with fail
  have t2 : Tri (w1.setChan (cs j) 32 L.toArray false s (r + 1) false) w.heap.size (.int .i64 0) (.int .i64 0) (.slice none 0 0) :=
    tri (by rw [setChan_other' _ _ _ _ _ _ _ _ _ hT]; exact ht)
  have hc2 : (w1.setChan (cs j) 32 L.toArray false s (r + 1) false).heap[cs j]? = some (.chan 32 L.toArray false s (r + 1) false) := heap_setChan _ _ _ _ _ _ _ _ (block_lt hch1)
  have o2 : ∀ k, k < w.heap.size → k ≠ cs j → (w1.setChan (cs j) 32 L.toArray false s (r + 1) false).heap[k]? = w.heap[k]? := fun k hk hne => by
    rw [setChan_other' _ _ _ _ _ _ _ _ _ (Ne.symm hne)]; exact B1.block k hk
  have z2 : w.heap.size ≤ (w1.setChan (cs j) 32 L.toArray false s (r + 1) false).heap.size := by rw [size_setChan]; exact B1.size
  have r2 : (w1.setChan (cs j) 32 L.toArray false s (r + 1) false).os = w.os ∧ (w1.setChan (cs j) 32 L.toArray false s (r + 1) false).tape = w.tape ∧ (w1.setChan (cs j) 32 L.toArray false s (r + 1) false).output = w.output := ⟨B1.os, B1.tape, B1.output⟩
  have el : (#[Value.agg #[.int .i64 p.src, .int .i64 p.dst, .slice p.a p.len p.cap]] ++ L.toArray).extract 1 (L.length + 1) = L.toArray := by simp
  generalize w1.setChan (cs j) 32 L.toArray false s (r + 1) false = w2 at *
  have t3 := t2.s0 (.int .i64 p.src)
  have t4 := t3.s1 (.int .i64 p.dst)
  have t5 := t4.s2 (.slice p.a p.len p.cap)
  have t6 := t5.s0 (.int .i64 p.src)
  have t7 := t6.s1 (.int .i64 p.dst)
  have t8 := t7.s2 (.slice p.a p.len p.cap)
  obtain ⟨_, a20, a21, a22, b20, b21, b22⟩ := t2
  obtain ⟨_, a30, a31, a32, b30, b31, b32⟩ := t3
  obtain ⟨_, a40, a41, a42, b40, b41, b42⟩ := t4
  obtain ⟨_, a50, a51, a52, b50, b51, b52⟩ := t5
  obtain ⟨_, a60, a61, a62, b60, b61, b62⟩ := t6
  obtain ⟨_, a70, a71, a72, b70, b71, b72⟩ := t7
  obtain ⟨_, a80, a81, a82, b80, b81, b82⟩ := t8
  refine wpN_wp ?_
  go_wp2_with fail
  refine wpN_wp ?_
  go_wp2_with fail
  have hlen : rest.length ≤ 32 := by have := h.few j hj; rw [hb] at this; simp at this; omega
  have p1 := only_put3 w2 w.heap.size p
  have p2 := only_put3 (put3 w2 w.heap.size p) w.heap.size p
  have ob : ∀ k, k < w2.heap.size → k ≠ w.heap.size → (put3 (put3 w2 w.heap.size p) w.heap.size p).heap[k]? = w2.heap[k]? := fun k hk hne =>
    (p2.block k (Nat.lt_of_lt_of_le hk p1.size) (fun e => hne (Option.some.inj e))).trans (p1.block k hk (fun e => hne (Option.some.inj e)))
  have hO : Only (cs j) w (put3 (put3 w2 w.heap.size p) w.heap.size p) :=
    ⟨(p2.os.trans p1.os).trans r2.1, (p2.tape.trans p1.tape).trans r2.2.1, (p2.output.trans p1.output).trans r2.2.2, Nat.le_trans z2 (Nat.le_trans p1.size p2.size), fun k hk hne => (ob k (Nat.lt_of_lt_of_le hk z2) (by omega)).trans (o2 k hk (fun e => hne (by rw [e])))⟩
  have hN := h.chan j hj hO rest hlen (s := s) (r := r + 1) (by rw [ob _ (block_lt hc2) hT, hL]; exact hc2)
  clear p1 p2 ob
  simp only [put3] at hN hO
  have hN := Lib.hid hN
  have hO := Lib.hid hO
  refine ⟨rfl, .tuple #[pagg p, .bool true], ?_, rfl, hN.out, hO.out⟩
  rw [results_cell_tmp rfl]
  unfold pagg
  go_simp
end
end Go.Proofs.Ytambdhoeakddhaa
