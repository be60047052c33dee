/- A row of bytes made from a string: what it is, and what stores into it leave of both nets. -/
import Derived.Test.YtambdhoeakddhaaRWalkI
import Derived.Lib.ConvBytes
namespace Go.Proofs.Ytambdhoeakddhaa
open Go Go.RowKit Go.Conc
set_option linter.unusedVariables false

theorem below_bytes (w : World) (e : TypeId) (s : ByteArray) : Below w.heap.size w (Lib.bytesWorld w e s) :=
  ⟨rfl, rfl, rfl, by rw [Lib.bytesWorld_size]; omega, fun k hk => Lib.bytesWorld_at_old w e s k hk⟩
def numsOf (s : ByteArray) : List Int := s.data.toList.map fun b => (b.toNat : Int)
theorem numsOf_len (s : ByteArray) : (numsOf s).length = s.size := by rw [numsOf, List.length_map, Array.length_toList]; rfl
theorem strOf_nums (s : ByteArray) : strOfNums (numsOf s) = s := by
  obtain ⟨⟨l⟩⟩ := s
  simp [strOfNums, numsOf, List.map_map, Function.comp_def]
theorem bread_bytes (w : World) (s : ByteArray) : BRead (Lib.bytesWorld w 5 s) (some ⟨w.heap.size, 0, none⟩) s.size (numsOf s) := by
  refine ⟨numsOf_len s, .inr ⟨_, _, rfl, fun i hi => ?_⟩⟩
  rw [Nat.zero_add, Lib.bytesWorld_cell w 5 s i hi]
  have h : i < s.data.toList.length := by rw [Array.length_toList]; exact hi
  unfold numsOf
  simp only [List.getD_eq_getElem?_getD, List.getElem?_map, List.getElem?_eq_getElem h, Option.map_some, Option.getD_some]

/-- A row of bytes that is no part of a net. -/
structure Spoil (w : World) (t m : Nat) : Prop where
  blk : ∃ cur : Array Value, w.heap[t]? = some (.cells cur 5 (cur.size, cur.size + 1)) ∧ m ≤ cur.size ∧ ∀ j, j < m → ∃ y : Int, cur[j]? = some (.int .u8 y) ∧ 0 ≤ y ∧ y ≤ 255
section
variable {w w' : World} {t m : Nat}
theorem spoil_bytes (w : World) (s : ByteArray) : Spoil (Lib.bytesWorld w 5 s) w.heap.size s.size := by
  refine ⟨_, Lib.bytesWorld_at_new w 5 s, ?_, fun j hj => ?_⟩
  · rw [Lib.bytesCells, Array.size_append, Array.size_map]; exact Nat.le_add_right _ _
  · have h := Lib.bytesWorld_cell w 5 s j hj
    rw [cell_of_row _ _ _ _ _ _ (Lib.bytesWorld_at_new w 5 s)] at h
    refine ⟨_, h, by omega, ?_⟩
    have := (s.data.toList.getD j 0).toNat_lt
    omega
theorem Spoil.same (h : Spoil w t m) (hk : w'.heap[t]? = w.heap[t]?) : Spoil w' t m := by
  obtain ⟨cur, h1, h2, h3⟩ := h.blk
  exact ⟨cur, hk.trans h1, h2, h3⟩
theorem Spoil.keptm {B : Nat} (h : Spoil w t m) (hm : Moved B w w') : Spoil w' t m := by
  obtain ⟨cur, h1, h2, h3⟩ := h.blk
  exact h.same (hm.keeps t _ h1 rfl)
theorem Spoil.keptr {B : Nat} (h : Spoil w t m) (hm : RMoved B w w') : Spoil w' t m := by
  obtain ⟨cur, h1, h2, h3⟩ := h.blk
  exact h.same (hm.keeps t _ h1 rfl)
theorem Spoil.cell (h : Spoil w t m) {j : Nat} (hj : j < m) : ∃ y : Int, w.cell? ⟨t, j, none⟩ = some (.int .u8 y) ∧ w.frozen? ⟨t, j, none⟩ = false ∧ 0 ≤ y ∧ y ≤ 255 := by
  obtain ⟨cur, h1, h2, h3⟩ := h.blk
  obtain ⟨y, h4, h5, h6⟩ := h3 j hj
  refine ⟨y, ?_, ?_, h5, h6⟩
  · rw [cell_of_row w t j cur 5 _ h1]; exact h4
  · simp only [World.frozen?, h1, Bool.and_eq_false_iff, decide_eq_false_iff_not]; omega
theorem spoil_heap {i : Nat} {cur : Array Value} {fr : Nat × Nat} (h : w.heap[t]? = some (.cells cur 5 fr)) (v : Value) : (w.setCell ⟨t, i, none⟩ v).heap[t]? = some (.cells (cur.setIfInBounds i v) 5 fr) := by
  simp [World.setCell, Array.getElem?_modify, h]
theorem Spoil.set (h : Spoil w t m) (j : Nat) (y : Int) (h0 : 0 ≤ y) (h1 : y ≤ 255) : Spoil (w.setCell ⟨t, j, none⟩ (.int .u8 y)) t m := by
  obtain ⟨cur, h2, h3, h4⟩ := h.blk
  refine ⟨cur.setIfInBounds j (.int .u8 y), by rw [spoil_heap h2]; simp, by simpa using h3, fun i hi => ?_⟩
  rw [Array.getElem?_setIfInBounds]
  split
  · rename_i e
    subst e
    rw [if_pos (by omega)]
    exact ⟨y, rfl, h0, h1⟩
  · exact h4 i hi

theorem BRead.at_ {n : Nat} {xs : List Int} (h : BRead w (some ⟨t, 0, none⟩) n xs) (hk : w'.heap[t]? = w.heap[t]?) : BRead w' (some ⟨t, 0, none⟩) n xs := by
  obtain ⟨h1, h2⟩ := h
  refine ⟨h1, h2.imp id ?_⟩
  rintro ⟨b, o, e, hx⟩
  refine ⟨b, o, e, fun i hi => ?_⟩
  have e := Option.some.inj e
  simp only [Addr.mk.injEq, and_true] at e
  obtain ⟨rfl, rfl⟩ := e
  rw [World.cell?_of_block (w := w) (a := ⟨t, 0 + i, none⟩) hk]
  exact hx i hi
theorem Spoil.blkm {B : Nat} (h : Spoil w t m) (hm : Moved B w w') : w'.heap[t]? = w.heap[t]? := by
  obtain ⟨cur, h1, h2, h3⟩ := h.blk
  exact hm.keeps t _ h1 rfl
/-- What nothing marked is. -/
def unm : Obj → Bool
  | .cells _ _ m => m == (0, 0)
  | _ => true
theorem Spoil.keeps (h : Spoil w t m) (j : Nat) (v : Value) (k : Nat) (o : Obj) (hk : w.heap[k]? = some o) (hu : unm o = true) : (w.setCell ⟨t, j, none⟩ v).heap[k]? = w.heap[k]? := by
  obtain ⟨cur, h1, h2, h3⟩ := h.blk
  refine heap_setCell_other w ⟨t, j, none⟩ k v (fun e => ?_)
  have e : k = t := e
  subst e
  rw [h1] at hk
  rw [← Option.some.inj hk] at hu
  simp [unm] at hu
section
variable {B b n T : Nat} {way way' : List Msg} {box : Nat → List Msg}
theorem Net.unmarked (h : Net w B b n way box) (hm : ∀ (k : Nat) (o : Obj), w.heap[k]? = some o → unm o = true → w'.heap[k]? = w.heap[k]?) (hs : w.heap.size ≤ w'.heap.size) : Net w' B b n way box := by
  obtain ⟨vw, ⟨ps, bx, cap, cs, bufs, h1, h2, h3⟩, hlen, hto, hB⟩ := h
  have hb : ∀ (g : Nat) (cur : Array Value), w.heap[g]? = some (Obj.cells cur 5 (0, 0)) → w'.heap[g]? = w.heap[g]? := fun g cur hg => hm g _ hg rfl
  refine ⟨vw, ⟨ps, bx, cap, cs, bufs, ?_, h2.same hb, fun j hj => (h3 j hj).same hb⟩, hlen, hto, Nat.le_trans hB hs⟩
  refine ⟨(hm _ _ h1.head rfl).trans h1.head, ?_, fun j hj => ?_, h1.sep, h1.few, h1.n1, h1.n2, h1.geb, h1.gec, owns_same h1.way fun g cur _ hg => hm g _ hg rfl⟩
  · obtain ⟨cur, c1, c2⟩ := h1.brow
    exact ⟨cur, (hm _ _ c1 rfl).trans c1, c2⟩
  · obtain ⟨s, r, c1⟩ := h1.chans j hj
    exact ⟨s, r, (hm _ _ c1 rfl).trans c1⟩
theorem RNet.unmarked (h : RNet w B b n T way box) (hm : ∀ (k : Nat) (o : Obj), w.heap[k]? = some o → unm o = true → w'.heap[k]? = w.heap[k]?) (hs : w.heap.size ≤ w'.heap.size) : RNet w' B b n T way box := by
  obtain ⟨av, rs, lw, lb, h1, h2⟩ := h
  exact ⟨av, rs, lw, lb, ⟨(hm _ _ h1.head rfl).trans h1.head, owns_same h1.row fun g cur _ hg => hm g _ hg rfl, h1.geb, Nat.le_trans h1.base hs⟩, h2⟩
/-- The document's net speaks of texts alone. -/
theorem RNet.rekey (h : RNet w B b n T way box) (hk : way.map mkey = way'.map mkey) : RNet w B b n T way' box := by
  obtain ⟨av, rs, lw, lb, h1, h2⟩ := h
  exact ⟨av, rs, lw, lb, h1, h2.inj, h2.le, h2.few, h2.dst, h2.roww, h2.rowb, h2.keyw.trans hk, h2.keyb⟩
theorem sendW_key (way : List Msg) (s d : Int) (xs ys : List Int) (h : strOfNums xs = strOfNums ys) : (sendW n way s d xs).map mkey = (sendW n way s d ys).map mkey := by
  unfold sendW
  split
  · simp [mkey, h]
  · rfl
end
end
end Go.Proofs.Ytambdhoeakddhaa
