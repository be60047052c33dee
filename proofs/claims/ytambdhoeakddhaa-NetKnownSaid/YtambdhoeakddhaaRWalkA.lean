/- The document's net in memory; the walks over is, behind, New. -/
import Derived.Test.YtambdhoeakddhaaRefOps
namespace Go.Proofs.Ytambdhoeakddhaa
open Go Go.RowKit Go.Conc
set_option linter.unusedVariables false

def rcells (r : RM) : List Value := [.int .i64 r.src, .int .i64 r.dst, .string r.bs, .bool r.wt, .int .i64 r.tm]
/-- The document's net at b, of blocks from B on. -/
structure RefAt (w : World) (B b n : Nat) (av : Value) (rs : List RM) (T : Nat) : Prop where
  head : w.heap[b]? = some (.cells #[.int .i64 n, av, .int .i64 T] 69 (0, 0))
  row : w.ownsRow B 49 5 av rs.length (rs.flatMap rcells)
  geb : B ≤ b
  base : B ≤ w.heap.size

/-- What the document's net is not made of. -/
def rplain : Obj → Bool
  | .cells _ T _ => T != 49 && T != 69
  | _ => true
/-- What its calls keep. -/
structure RMoved (B : Nat) (w w' : World) : Prop where
  bel : Below B w w'
  keeps : ∀ (k : Nat) (o : Obj), w.heap[k]? = some o → rplain o = true → w'.heap[k]? = w.heap[k]?
  size : w.heap.size ≤ w'.heap.size
theorem RMoved.refl (B : Nat) (w : World) : RMoved B w w := ⟨Below.refl _ _, fun _ _ _ _ => rfl, Nat.le_refl _⟩
theorem RMoved.trans {B : Nat} {a b c : World} (h : RMoved B a b) (k : RMoved B b c) : RMoved B a c :=
  ⟨h.bel.trans k.bel, fun i cur hi hp => (k.keeps i cur ((h.keeps i cur hi hp).trans hi) hp).trans (h.keeps i cur hi hp), Nat.le_trans h.size k.size⟩
theorem RMoved.of_below {B : Nat} {w w' : World} (h : Below w.heap.size w w') (hB : B ≤ w.heap.size) : RMoved B w w' :=
  ⟨h.mono hB, fun k cur hk _ => h.block k (block_lt hk), h.size⟩
theorem RMoved.only {B : Nat} {w w' : World} {g : Nat} (ho : Only g w w') (hc : B ≤ g) (hB : B ≤ w.heap.size) {o : Obj} (hg : w.heap[g]? = some o) (hp : rplain o = false) : RMoved B w w' :=
  ⟨⟨ho.os, ho.tape, ho.output, ho.size, fun k hk => ho.block k (by omega) (fun e => by have := Option.some.inj e; omega)⟩,
    fun k o' hk hpl => ho.block k (block_lt hk) (fun e => by have e := Option.some.inj e; subst e; rw [hg] at hk; rw [← Option.some.inj hk, hp] at hpl; cases hpl), ho.size⟩
theorem RMoved.grown {B : Nat} {W w3 : World} {v : Value} {m : Nat} {xs : List Value} (h : W.ownsRow B 49 5 v m xs) (hg : W.grownBy w3 v.ownBlock) (hB : B ≤ W.heap.size) : RMoved B W w3 := by
  have hr : ∀ k o, W.heap[k]? = some o → rplain o = true → some k ≠ v.ownBlock := fun k o hk hT => by
    rcases h.2 with ⟨rfl, _⟩ | ⟨g, c, cur', rfl, _, hg', _⟩
    · simp [Value.ownBlock]
    · simp only [Value.ownBlock, ne_eq, Option.some.injEq]
      rintro rfl
      rw [hg'] at hk
      rw [← Option.some.inj hk] at hT
      exact absurd hT (by simp [rplain])
  refine ⟨(Below.refl _ _).grown hg hB (fun r e => ?_), fun k o hk hp => hg.block k (block_lt hk) (hr k o hk hp), hg.size⟩
  rcases h.2 with ⟨rfl, _⟩ | ⟨g, c, cur', rfl, hb, _⟩
  · simp [Value.ownBlock] at e
  · simp [Value.ownBlock] at e; omega
theorem RMoved.set {B : Nat} {w : World} {b i T : Nat} {cur : Array Value} (h : w.heap[b]? = some (Obj.cells cur T (0, 0))) (hT : T = 49 ∨ T = 69) (hb : B ≤ b) (v : Value) : RMoved B w (w.setCell ⟨b, i, none⟩ v) :=
  RMoved.only (only_setCell w b i v) hb (Nat.le_trans hb (Nat.le_of_lt (block_lt h))) h (by rcases hT with rfl | rfl <;> rfl)

theorem rcells_len (rs : List RM) : (rs.flatMap rcells).length = rs.length * 5 := by
  induction rs with
  | nil => rfl
  | cons p ps ih => simp only [List.flatMap_cons, List.length_append, ih, List.length_cons]; simp [rcells]; omega
theorem rcells_one (rs : List RM) : ∀ u ∈ rs.flatMap rcells, u.oneCell' = true := by
  intro u hu
  obtain ⟨p, _, hp⟩ := List.mem_flatMap.1 hu
  simp only [rcells, List.mem_cons, List.not_mem_nil, or_false] at hp
  rcases hp with rfl | rfl | rfl | rfl | rfl <;> rfl
theorem rcells_at (rs : List RM) {k : Nat} {r : RM} (hr : rs[k]? = some r) (j : Nat) (hj : j < 5) : (rs.flatMap rcells)[k * 5 + j]? = (rcells r)[j]? := by
  obtain ⟨l1, r', l2, rfl, rfl⟩ := split_at rs k (List.getElem?_eq_some_iff.1 hr).1
  have : r' = r := by simpa using hr
  subst this
  rw [List.flatMap_append, List.getElem?_append_right (by rw [rcells_len]; omega), List.flatMap_cons, List.getElem?_append_left (by rw [rcells_len]; simp [rcells]; omega), rcells_len]
  congr 1; omega

section
variable {w w' : World} {B b n : Nat} {av : Value} {rs : List RM} {T : Nat}
theorem RefAt.c0 (h : RefAt w B b n av rs T) : w.cell? ⟨b, 0, none⟩ = some (.int .i64 n) := by rw [cell_of_row w b 0 _ 69 (0, 0) h.head]; rfl
theorem RefAt.c1 (h : RefAt w B b n av rs T) : w.cell? ⟨b, 1, none⟩ = some av := by rw [cell_of_row w b 1 _ 69 (0, 0) h.head]; rfl
theorem RefAt.c2 (h : RefAt w B b n av rs T) : w.cell? ⟨b, 2, none⟩ = some (.int .i64 T) := by rw [cell_of_row w b 2 _ 69 (0, 0) h.head]; rfl
theorem RefAt.kept (h : RefAt w B b n av rs T) (hb : Below w.heap.size w w') : RefAt w' B b n av rs T :=
  ⟨(hb.block _ (block_lt h.head)).trans h.head, owns_same h.row fun g cur _ h2 => hb.block _ (block_lt h2), h.geb, Nat.le_trans h.base hb.size⟩
theorem RefAt.slice (h : RefAt w B b n av rs T) : ∃ a c, av = .slice a rs.length c := by
  rcases h.row.2 with ⟨rfl, hn⟩ | ⟨g, c, cur, rfl, _⟩
  · exact ⟨none, 0, by rw [hn]⟩
  · exact ⟨_, _, rfl⟩
/-- A message of it, read. -/
theorem RefAt.at_ (h : RefAt w B b n av rs T) {k : Nat} {r : RM} (hr : rs[k]? = some r) :
    ∃ g c, av = .slice (some ⟨g, 0, none⟩) rs.length c ∧ (∃ cur : Array Value, w.heap[g]? = some (.cells cur 49 (0, 0)) ∧ cur.size = c * 5 ∧ rs.length ≤ c) ∧ w.cell? ⟨g, k * 5, none⟩ = some (.int .i64 r.src) ∧ w.cell? ⟨g, k * 5 + 1, none⟩ = some (.int .i64 r.dst) ∧ w.cell? ⟨g, k * 5 + 2, none⟩ = some (.string r.bs) ∧ w.cell? ⟨g, k * 5 + 3, none⟩ = some (.bool r.wt) ∧ w.cell? ⟨g, k * 5 + 4, none⟩ = some (.int .i64 r.tm) := by
  have hk := (List.getElem?_eq_some_iff.1 hr).1
  obtain ⟨hl, ⟨_, hn⟩ | ⟨g, c, cur, hv, hB, hg, hnc, hcm, hsz, htake⟩⟩ := h.row
  · omega
  have hat : ∀ j, j < 5 → w.cell? ⟨g, k * 5 + j, none⟩ = (rcells r)[j]? := fun j hj => by
    rw [cell_of_row w g _ _ 49 (0, 0) hg]
    have e : (cur.toList.take (rs.length * 5))[k * 5 + j]? = cur[k * 5 + j]? := by
      rw [List.getElem?_take_of_lt (by omega)]; simp
    rw [← e, htake, rcells_at rs hr j hj]
  exact ⟨g, c, hv, ⟨cur, hg, hsz, hnc⟩, hat 0 (by omega), hat 1 (by omega), hat 2 (by omega), hat 3 (by omega), hat 4 (by omega)⟩

theorem ref_is_in (h : RefAt w B b n av rs T) (x : Int) (h0 : 0 ≤ x) (h1 : x < n) : Calls Try.prog 40 #[.pointer (some ⟨b, 0, none⟩), .int .i64 x] w fun e w' => e = .returned (.bool true) ∧ w = w' := by
  have hc := h.c0
  clear h
  go_enter Try.func40, Try.ntmps40
  go_wp2
  go_ret
  exact ⟨rfl, rfl⟩
theorem ref_is_out (h : RefAt w B b n av rs T) (x : Int) (hx : x < 0 ∨ (n : Int) ≤ x) : Calls Try.prog 40 #[.pointer (some ⟨b, 0, none⟩), .int .i64 x] w fun e w' => e = .returned (.bool false) ∧ w = w' := by
  have hc := h.c0
  clear h
  by_cases h0 : x < 0
  · clear hx
    go_enter Try.func40, Try.ntmps40
    go_wp2
    go_ret
    exact ⟨rfl, rfl⟩
  · have h1 : 0 ≤ x := by omega
    have h2 : decide (x < (n : Int)) = false := by simp; omega
    clear hx h0
    go_enter Try.func40, Try.ntmps40
    go_wp2
    go_ret
    exact ⟨by rw [← h2]; rfl, rfl⟩
theorem ref_behind (h : RefAt w B b n av rs T) (hT : T ≤ 1000) : Calls Try.prog 38 #[.pointer (some ⟨b, 0, none⟩)] w fun e w' => e = .returned (.int .i64 ((T : Int) + 1)) ∧ w' = w.setCell ⟨b, 2, none⟩ (.int .i64 ((T : Int) + 1)) := by
  have hc := h.c2
  have hf : w.frozen? ⟨b, 2, none⟩ = false := frozen_of_row w b 2 _ 69 h.head
  have hc2 : (w.setCell ⟨b, 2, none⟩ (.int .i64 ((T : Int) + 1))).cell? ⟨b, 2, none⟩ = some (.int .i64 ((T : Int) + 1)) := by
    rw [cell_of_row _ b 2 _ 69 (0, 0) (by rw [heap_setCell_same w b 2 _ 69 _ h.head])]; rfl
  clear h
  go_enter Try.func38, Try.ntmps38
  go_wp2
  go_ret
  exact ⟨rfl, rfl⟩
theorem RefAt.tick (h : RefAt w B b n av rs T) : RefAt (w.setCell ⟨b, 2, none⟩ (.int .i64 ((T : Int) + 1))) B b n av rs (T + 1) := by
  refine ⟨by rw [heap_setCell_same w b 2 _ 69 _ h.head]; rfl, owns_same h.row fun g cur _ hg => heap_setCell_other w ⟨b, 2, none⟩ g _ (fun e => by subst e; rw [h.head] at hg; simp at hg), h.geb, by simpa using h.base⟩
end
theorem ref_new (x : Int) (w : World) : Calls Try.prog 19 #[.int .i64 x] w fun e w' => ∃ b, e = .returned (.pointer (some ⟨b, 0, none⟩)) ∧ RefAt w' w.heap.size b (clampE x) (.slice none 0 0) [] 0 ∧ Below w.heap.size w w' := by
  have hN : max 1 (min 64 x) = ((clampE x : Nat) : Int) := by unfold clampE; omega
  have B1 : Below w.heap.size w (w.alloc (.cells #[.int .i64 (clampE x), .slice none 0 0, .int .i64 0] 69)) := (Below.refl _ _).alloc (Nat.le_refl _) _
  have hR : RefAt (w.alloc (.cells #[.int .i64 (clampE x), .slice none 0 0, .int .i64 0] 69)) w.heap.size w.heap.size (clampE x) (.slice none 0 0) [] 0 := ⟨heap_alloc_new _ _, ⟨rfl, .inl ⟨rfl, rfl⟩⟩, Nat.le_refl _, B1.size⟩
  have H := Lib.hid (And.intro hR B1)
  clear hR B1
  generalize clampE x = N at *
  go_enter Try.func19, Try.ntmps19
  go_wp2
  go_ret
  exact ⟨_, rfl, H.out⟩
end Go.Proofs.Ytambdhoeakddhaa
