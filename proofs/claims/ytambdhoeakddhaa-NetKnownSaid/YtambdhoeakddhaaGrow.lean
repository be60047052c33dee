/- A row of calls that is made by appending, each with one byte. -/
import Derived.Test.YtambdhoeakddhaaWalkW
namespace Go.Proofs.Ytambdhoeakddhaa
open Go Go.RowKit Go.Conc
set_option linter.unusedVariables false

def kcells (c : CallV) : List Value := [.int .u8 c.kind, .int .i64 c.pos, .int .i64 c.dest, .slice c.a c.len c.cap]
def One (w : World) (c : CallV) : Prop := ∃ b y, c.a = some ⟨b, 0, none⟩ ∧ c.len = 1 ∧ c.xs = [y] ∧ w.heap[b]? = some (.cells #[.int .u8 y] 5 (0, 0))
structure Grow (w : World) (B : Nat) (v : Value) (K : List CallV) : Prop where
  row : w.ownsRow B 45 4 v K.length (K.flatMap kcells)
  ones : ∀ c ∈ K, One w c
  kind : ∀ c ∈ K, 0 ≤ c.kind ∧ c.kind ≤ 255
  pos : ∀ c ∈ K, -9223372036854775808 ≤ c.pos ∧ c.pos ≤ 9223372036854775807
  dest : ∀ c ∈ K, -9223372036854775808 ≤ c.dest ∧ c.dest ≤ 9223372036854775807
theorem grow_nil (w : World) (B : Nat) : Grow w B (.slice none 0 0) [] :=
  ⟨⟨rfl, .inl ⟨rfl, rfl⟩⟩, fun c h => (by cases h), fun c h => (by cases h), fun c h => (by cases h), fun c h => (by cases h)⟩
theorem kcells_len (K : List CallV) : (K.flatMap kcells).length = K.length * 4 := by
  induction K with
  | nil => rfl
  | cons p ps ih => simp only [List.flatMap_cons, List.length_append, ih, List.length_cons]; simp [kcells]; omega
theorem kcells_at (K : List CallV) {k : Nat} {r : CallV} (hr : K[k]? = some r) (j : Nat) (hj : j < 4) : (K.flatMap kcells)[k * 4 + j]? = (kcells r)[j]? := by
  obtain ⟨l1, r', l2, rfl, rfl⟩ := split_at K k (List.getElem?_eq_some_iff.1 hr).1
  have : r' = r := by simpa using hr
  subst this
  rw [List.flatMap_append, List.getElem?_append_right (by rw [kcells_len]; omega), List.flatMap_cons, List.getElem?_append_left (by rw [kcells_len]; simp [kcells]; omega), kcells_len]
  congr 1; omega
section
variable {w w' : World} {B : Nat} {v : Value} {K : List CallV}
theorem One.same {c : CallV} (h : One w c) (hk : ∀ (g : Nat) (cur : Array Value), w.heap[g]? = some (Obj.cells cur 5 (0, 0)) → w'.heap[g]? = w.heap[g]?) : One w' c := by
  obtain ⟨b, y, h1, h2, h3, h4⟩ := h
  exact ⟨b, y, h1, h2, h3, (hk _ _ h4).trans h4⟩
theorem One.read {c : CallV} (h : One w c) : BRead w c.a c.len c.xs := by
  obtain ⟨b, y, h1, h2, h3, h4⟩ := h
  rw [h1, h2, h3]
  refine ⟨rfl, .inr ⟨_, _, rfl, fun i hi => ?_⟩⟩
  obtain rfl : i = 0 := by omega
  rw [cell_of_row w b _ _ 5 _ h4]; rfl
theorem Grow.kept (h : Grow w B v K) (hb : Below w.heap.size w w') : Grow w' B v K :=
  ⟨owns_same h.row fun g cur _ hg => hb.block g (block_lt hg), fun c hc => (h.ones c hc).same fun g cur hg => hb.block g (block_lt hg), h.kind, h.pos, h.dest⟩
theorem Grow.slice (h : Grow w B v K) : ∃ a c, v = .slice a K.length c := by
  rcases h.row.2 with ⟨rfl, hn⟩ | ⟨g, c, cur, rfl, _⟩
  · exact ⟨none, 0, by rw [hn]⟩
  · exact ⟨_, _, rfl⟩
theorem Grow.own (h : Grow w B v K) (g : Nat) (cur : Array Value) (hg : w.heap[g]? = some (Obj.cells cur 5 (0, 0))) : some g ≠ v.ownBlock := by
  rcases h.row.2 with ⟨rfl, _⟩ | ⟨g', c, cur', rfl, _, hg', _⟩
  · simp [Value.ownBlock]
  · simp only [Value.ownBlock, ne_eq, Option.some.injEq]
    rintro rfl
    rw [hg'] at hg
    simp at hg
theorem Grow.ownge (h : Grow w B v K) (r : Nat) (e : v.ownBlock = some r) : B ≤ r := by
  rcases h.row.2 with ⟨rfl, _⟩ | ⟨g', c, cur', rfl, hb, _⟩
  · simp [Value.ownBlock] at e
  · simp [Value.ownBlock] at e; omega
/-- One more. -/
theorem Grow.more (h : Grow w B v K) {v' : Value} {c : CallV} (hg : w.grownBy w' v.ownBlock) (ho : w'.ownsRow B 45 4 v' (K.length + 1) (K.flatMap kcells ++ kcells c)) (hc : One w c) (h0 : 0 ≤ c.kind ∧ c.kind ≤ 255) (h1 : -9223372036854775808 ≤ c.pos ∧ c.pos ≤ 9223372036854775807) (h2 : -9223372036854775808 ≤ c.dest ∧ c.dest ≤ 9223372036854775807) : Grow w' B v' (K ++ [c]) := by
  have hk : ∀ (g : Nat) (cur : Array Value), w.heap[g]? = some (Obj.cells cur 5 (0, 0)) → w'.heap[g]? = w.heap[g]? := fun g cur e => hg.block g (block_lt e) (h.own g cur e)
  have all : ∀ {p : CallV → Prop}, (∀ x ∈ K, p x) → p c → ∀ x ∈ K ++ [c], p x := fun ha hb x hx => by
    rcases List.mem_append.1 hx with hx | hx
    · exact ha x hx
    · rw [List.mem_singleton.1 hx]; exact hb
  exact ⟨by simpa using ho, all (fun x hx => (h.ones x hx).same hk) (hc.same hk), all h.kind h0, all h.pos h1, all h.dest h2⟩
def c0V : CallV := ⟨0, 0, 0, none, 0, 0, []⟩
theorem getD_mem {K : List CallV} {k : Nat} (h : k < K.length) : K[k]? = some (K.getD k c0V) ∧ K.getD k c0V ∈ K := by
  have e : K[k]? = some K[k] := List.getElem?_eq_getElem h
  refine ⟨by rw [List.getD_eq_getElem?_getD, e]; rfl, ?_⟩
  rw [List.getD_eq_getElem?_getD, e]; exact List.getElem_mem h
/-- The row as calls in memory. -/
theorem Grow.calls (h : Grow w B v K) (hp : 0 < K.length) : ∃ g cap, v = .slice (some ⟨g, 0, none⟩) K.length cap ∧ K.length ≤ cap ∧ cap ≤ maxLen ∧ ∀ m, m ≤ K.length → CallRow w (some ⟨g, 0, none⟩) m (fun i => K.getD i c0V) := by
  obtain ⟨hl, ⟨_, hn⟩ | ⟨g, c, cur, hv, hB, hg, hnc, hcm, hsz, htake⟩⟩ := h.row
  · omega
  refine ⟨g, c, hv, hnc, hcm, fun m hm => ?_⟩
  have hat : ∀ k, k < K.length → ∀ j, j < 4 → w.cell? ⟨g, 0 + k * 4 + j, none⟩ = (kcells (K.getD k c0V))[j]? := fun k hk j hj => by
    rw [Nat.zero_add, cell_of_row w g _ _ 45 (0, 0) hg]
    have e : (cur.toList.take (K.length * 4))[k * 4 + j]? = cur[k * 4 + j]? := by
      rw [List.getElem?_take_of_lt (by omega)]; simp
    rw [← e, htake, kcells_at K (getD_mem hk).1 j hj]
  have mem := fun k (hk : k < m) => (getD_mem (K := K) (k := k) (by omega)).2
  exact ⟨fun _ => ⟨g, 0, rfl, fun k hk => ⟨hat k (by omega) 0 (by omega), hat k (by omega) 1 (by omega), hat k (by omega) 2 (by omega), hat k (by omega) 3 (by omega)⟩⟩,
    fun k hk => (h.ones _ (mem k hk)).read, fun k hk => by obtain ⟨_, _, _, e, _⟩ := h.ones _ (mem k hk); omega, fun k hk => h.kind _ (mem k hk), fun k hk => h.pos _ (mem k hk), fun k hk => h.dest _ (mem k hk)⟩
theorem CallRow.kept {a : Option Addr} {len : Nat} {C : Nat → CallV} (h : CallRow w a len C) (hb : Below w.heap.size w w') : CallRow w' a len C := by
  refine ⟨fun h0 => ?_, fun k hk => (h.reads k hk).kept hb, h.wide, h.kind, h.pos, h.dest⟩
  obtain ⟨b, off, e, hc⟩ := h.cells h0
  refine ⟨b, off, e, fun k hk => ?_⟩
  obtain ⟨x0, x1, x2, x3⟩ := hc k hk
  exact ⟨(hb.cell (World.block_lt_of_cell? w _ x0)).trans x0, (hb.cell (World.block_lt_of_cell? w _ x1)).trans x1, (hb.cell (World.block_lt_of_cell? w _ x2)).trans x2, (hb.cell (World.block_lt_of_cell? w _ x3)).trans x3⟩
end
end Go.Proofs.Ytambdhoeakddhaa
