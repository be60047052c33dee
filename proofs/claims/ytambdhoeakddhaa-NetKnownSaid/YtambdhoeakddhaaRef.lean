/- The plain law of NetTells: the document's messages with their times, and a net's rows. -/
import Derived.Test.YtambdhoeakddhaaPlain
namespace Go.Proofs.Ytambdhoeakddhaa
open Go
set_option linter.unusedVariables false

/-- A message of the document's net. -/
structure RM where
  src : Int
  dst : Int
  bs : ByteArray
  wt : Bool
  tm : Int
/-- Does it travel (e below 0), or wait at e? -/
def sel (e : Int) (r : RM) : Bool := if e < 0 then !r.wt else (r.wt && r.dst == e)
def tmAt (rs : List RM) (i : Nat) : Int := match rs[i]? with
  | some r => r.tm
  | none => 0
def keyAt (rs : List RM) (i : Nat) : Int × Int × ByteArray := match rs[i]? with
  | some r => (r.src, r.dst, r.bs)
  | none => (0, 0, ⟨#[]⟩)
def mkey (m : Msg) : Int × Int × ByteArray := (m.src, m.dst, strOfNums m.xs)
/-- The indices of those, in the order of their times. -/
structure RowIs (rs : List RM) (e : Int) (l : List Nat) : Prop where
  sorted : l.Pairwise fun a b => tmAt rs a < tmAt rs b
  mem : ∀ i, i ∈ l ↔ ∃ r, rs[i]? = some r ∧ sel e r = true

theorem sorted_unique (f : Nat → Int) : ∀ l l' : List Nat, (l.Pairwise fun a b => f a < f b) → (l'.Pairwise fun a b => f a < f b) → (∀ i, i ∈ l ↔ i ∈ l') → l = l'
  | [], [], _, _, _ => rfl
  | [], b :: l', _, _, h => by have := (h b).2 (by simp); cases this
  | a :: l, [], _, _, h => by have := (h a).1 (by simp); cases this
  | a :: l, b :: l', h1, h2, h => by
    obtain ⟨ha, g1⟩ := List.pairwise_cons.1 h1
    obtain ⟨hb, g2⟩ := List.pairwise_cons.1 h2
    have hab : a = b := by
      rcases List.mem_cons.1 ((h a).1 (by simp)) with e | e
      · exact e
      · rcases List.mem_cons.1 ((h b).2 (by simp)) with e' | e'
        · exact e'.symm
        · have x := hb a e; have y := ha b e'; omega
    subst hab
    rw [sorted_unique f l l' g1 g2 fun i => ⟨fun hi => ?_, fun hi => ?_⟩]
    · rcases List.mem_cons.1 ((h i).1 (List.mem_cons_of_mem _ hi)) with e | e
      · subst e; have := ha i hi; omega
      · exact e
    · rcases List.mem_cons.1 ((h i).2 (List.mem_cons_of_mem _ hi)) with e | e
      · subst e; have := hb i hi; omega
      · exact e
theorem RowIs.unique {rs : List RM} {e : Int} {l l' : List Nat} (h : RowIs rs e l) (h' : RowIs rs e l') : l = l' :=
  sorted_unique _ l l' h.sorted h'.sorted fun i => (h.mem i).trans (h'.mem i).symm
theorem RowIs.lt {rs : List RM} {e : Int} {l : List Nat} (h : RowIs rs e l) {i : Nat} (hi : i ∈ l) : i < rs.length := by
  obtain ⟨r, hr, _⟩ := (h.mem i).1 hi
  exact (List.getElem?_eq_some_iff.1 hr).1
theorem RowIs.nodup {rs : List RM} {e : Int} {l : List Nat} (h : RowIs rs e l) : l.Pairwise fun a b => a ≠ b :=
  h.sorted.imp fun hab e => by subst e; omega

/-! Rows without one index. -/
theorem without_not {l : List Nat} {k : Nat} (h : k ∉ l) : l.filter (· != k) = l :=
  List.filter_eq_self.2 fun a ha => by simp; exact fun e => h (e ▸ ha)
theorem without_mid {l1 l2 : List Nat} {k : Nat} (h : (l1 ++ k :: l2).Pairwise fun a b => a ≠ b) : (l1 ++ k :: l2).filter (· != k) = l1 ++ l2 := by
  obtain ⟨h1, h2, h3⟩ := List.pairwise_append.1 h
  obtain ⟨h4, _⟩ := List.pairwise_cons.1 h2
  rw [List.filter_append, List.filter_cons, without_not (fun hk => h3 k hk k (by simp) rfl), without_not (fun hk => h4 k hk rfl)]
  simp

section
variable {rs : List RM} {T : Int}
theorem at_append_lt {r : RM} {i : Nat} (h : i < rs.length) : (rs ++ [r])[i]? = rs[i]? := List.getElem?_append_left h
theorem row_append {e : Int} {l : List Nat} {r : RM} (h : RowIs rs e l) (hT : ∀ i, i < rs.length → tmAt rs i < r.tm) : RowIs (rs ++ [r]) e (l ++ if sel e r then [rs.length] else []) := by
  have ht : ∀ i, i < rs.length → tmAt (rs ++ [r]) i = tmAt rs i := fun i hi => by unfold tmAt; rw [at_append_lt hi]
  have hl : tmAt (rs ++ [r]) rs.length = r.tm := by unfold tmAt; rw [List.getElem?_append_right (by omega)]; simp
  refine ⟨?_, fun i => ?_⟩
  · refine List.pairwise_append.2 ⟨?_, ?_, fun a ha b hb => ?_⟩
    · exact h.sorted.imp_of_mem fun {a b} ha hb hab => by rw [ht a (h.lt ha), ht b (h.lt hb)]; exact hab
    · split <;> simp
    · split at hb
      · simp only [List.mem_singleton] at hb
        subst hb; rw [hl, ht a (h.lt ha)]; exact hT a (h.lt ha)
      · cases hb
  · rw [List.mem_append]
    constructor
    · rintro (hi | hi)
      · rw [at_append_lt (h.lt hi)]; exact (h.mem i).1 hi
      · split at hi
        · simp only [List.mem_singleton] at hi
          subst hi; rename_i hs
          exact ⟨r, by rw [List.getElem?_append_right (by omega)]; simp, hs⟩
        · cases hi
    · rintro ⟨r', hr', hs⟩
      by_cases hi : i < rs.length
      · rw [at_append_lt hi] at hr'; exact .inl ((h.mem i).2 ⟨r', hr', hs⟩)
      · have hlt := (List.getElem?_eq_some_iff.1 hr').1
        simp only [List.length_append, List.length_singleton] at hlt
        obtain rfl : i = rs.length := by omega
        rw [List.getElem?_append_right (by omega)] at hr'
        simp at hr'; subst hr'
        right; rw [if_pos hs]; simp
theorem row_set {e : Int} {l : List Nat} {k : Nat} {r' : RM} (h : RowIs rs e l) (hk : k < rs.length) (hT : ∀ i, i < rs.length → tmAt rs i < r'.tm) : RowIs (rs.set k r') e (l.filter (· != k) ++ if sel e r' then [k] else []) := by
  have ht : ∀ i, i ≠ k → tmAt (rs.set k r') i = tmAt rs i := fun i hi => by unfold tmAt; rw [List.getElem?_set_ne (Ne.symm hi)]
  have hl : tmAt (rs.set k r') k = r'.tm := by unfold tmAt; rw [List.getElem?_set_self hk]
  refine ⟨?_, fun i => ?_⟩
  · refine List.pairwise_append.2 ⟨?_, ?_, fun a ha b hb => ?_⟩
    · refine (h.sorted.filter _).imp_of_mem fun {a b} ha hb hab => ?_
      rw [ht a (by simpa using (List.mem_filter.1 ha).2), ht b (by simpa using (List.mem_filter.1 hb).2)]; exact hab
    · split <;> simp
    · split at hb
      · simp only [List.mem_singleton] at hb
        have := List.mem_filter.1 ha
        subst hb; rw [hl, ht a (by simpa using this.2)]; exact hT a (h.lt this.1)
      · cases hb
  · rw [List.mem_append, List.mem_filter]
    constructor
    · rintro (⟨hi, hne⟩ | hi)
      · rw [List.getElem?_set_ne (fun e => by simp [e] at hne)]; exact (h.mem i).1 hi
      · split at hi
        · simp only [List.mem_singleton] at hi
          subst hi; rename_i hs
          exact ⟨r', List.getElem?_set_self hk, hs⟩
        · cases hi
    · rintro ⟨r, hr, hs⟩
      by_cases hi : i = k
      · subst hi; rw [List.getElem?_set_self hk] at hr
        right; rw [Option.some.inj hr, if_pos hs]; simp
      · rw [List.getElem?_set_ne (Ne.symm hi)] at hr
        exact .inl ⟨(h.mem i).2 ⟨r, hr, hs⟩, by simpa using hi⟩
/-- An index behind one taken out. -/
def sh (k i : Nat) : Nat := if i < k then i else i - 1
theorem at_sh {k i : Nat} (h : i ≠ k) : (rs.eraseIdx k)[sh k i]? = rs[i]? := by
  unfold sh; rw [List.getElem?_eraseIdx]
  by_cases e : i < k
  · rw [if_pos e, if_pos e]
  · rw [if_neg e, if_neg (by omega)]; congr 1; omega
theorem row_erase {e : Int} {l : List Nat} (h : RowIs rs e l) (k : Nat) : RowIs (rs.eraseIdx k) e ((l.filter (· != k)).map (sh k)) := by
  have ht : ∀ i, i ≠ k → tmAt (rs.eraseIdx k) (sh k i) = tmAt rs i := fun i hi => by unfold tmAt; rw [at_sh hi]
  refine ⟨?_, fun i => ?_⟩
  · refine List.pairwise_map.2 ((h.sorted.filter _).imp_of_mem fun {a b} ha hb hab => ?_)
    rw [ht a (by simpa using (List.mem_filter.1 ha).2), ht b (by simpa using (List.mem_filter.1 hb).2)]; exact hab
  · rw [List.mem_map]
    constructor
    · rintro ⟨j, hj, rfl⟩
      obtain ⟨h1, h2⟩ := List.mem_filter.1 hj
      rw [at_sh (by simpa using h2)]; exact (h.mem j).1 h1
    · rintro ⟨r, hr, hs⟩
      rw [List.getElem?_eraseIdx] at hr
      by_cases hi : i < k
      · rw [if_pos hi] at hr
        exact ⟨i, List.mem_filter.2 ⟨(h.mem i).2 ⟨r, hr, hs⟩, by simp; omega⟩, by unfold sh; rw [if_pos hi]⟩
      · rw [if_neg hi] at hr
        exact ⟨i + 1, List.mem_filter.2 ⟨(h.mem _).2 ⟨r, hr, hs⟩, by simp; omega⟩, by unfold sh; rw [if_neg (by omega)]; omega⟩
end

/-- The document's net and a net agree. -/
structure Agree (n : Nat) (rs : List RM) (T : Nat) (way : List Msg) (box : Nat → List Msg) (lw : List Nat) (lb : Nat → List Nat) : Prop where
  inj : ∀ i j, i < rs.length → j < rs.length → tmAt rs i = tmAt rs j → i = j
  le : ∀ i, i < rs.length → tmAt rs i ≤ T
  few : rs.length ≤ T
  dst : ∀ r ∈ rs, 0 ≤ r.dst ∧ r.dst < n
  roww : RowIs rs (-1) lw
  rowb : ∀ j : Nat, j < n → RowIs rs j (lb j)
  keyw : lw.map (keyAt rs) = way.map mkey
  keyb : ∀ j : Nat, j < n → (lb j).map (keyAt rs) = (box j).map mkey
end Go.Proofs.Ytambdhoeakddhaa
