/- What each call does to the document's messages. -/
import Derived.Test.YtambdhoeakddhaaRef
namespace Go.Proofs.Ytambdhoeakddhaa
open Go
set_option linter.unusedVariables false

section
variable {n : Nat} {rs : List RM} {T : Nat} {way : List Msg} {box : Nat → List Msg} {lw : List Nat} {lb : Nat → List Nat}
theorem key_append {l : List Nat} {r : RM} (h : ∀ i ∈ l, i < rs.length) : l.map (keyAt (rs ++ [r])) = l.map (keyAt rs) :=
  List.map_congr_left fun i hi => by unfold keyAt; rw [at_append_lt (h i hi)]
theorem tm_append_lt {r : RM} {i : Nat} (h : i < rs.length) : tmAt (rs ++ [r]) i = tmAt rs i := by unfold tmAt; rw [at_append_lt h]
theorem tm_append_last {r : RM} : tmAt (rs ++ [r]) rs.length = r.tm := by unfold tmAt; rw [List.getElem?_append_right (by omega)]; simp
theorem Agree.newer (h : Agree n rs T way box lw lb) (i : Nat) (hi : i < rs.length) : tmAt rs i < ((T + 1 : Nat) : Int) := by have := h.le i hi; omega

theorem Agree.send (h : Agree n rs T way box lw lb) (m : Msg) (hd : 0 ≤ m.dst ∧ m.dst < n) :
    Agree n (rs ++ [⟨m.src, m.dst, strOfNums m.xs, false, ((T + 1 : Nat) : Int)⟩]) (T + 1) (way ++ [m]) box (lw ++ [rs.length]) lb := by
  have hlen : (rs ++ [(⟨m.src, m.dst, strOfNums m.xs, false, ((T + 1 : Nat) : Int)⟩ : RM)]).length = rs.length + 1 := by simp
  refine ⟨fun i j hi hj e => ?_, fun i hi => ?_, by rw [hlen]; have := h.few; omega, fun r hr => ?_, ?_, fun j hj => ?_, ?_, fun j hj => ?_⟩
  · rw [hlen] at hi hj
    by_cases h1 : i < rs.length <;> by_cases h2 : j < rs.length
    · rw [tm_append_lt h1, tm_append_lt h2] at e; exact h.inj i j h1 h2 e
    · obtain rfl : j = rs.length := by omega
      rw [tm_append_lt h1, tm_append_last] at e
      have := h.newer i h1; dsimp only at e; omega
    · obtain rfl : i = rs.length := by omega
      rw [tm_append_lt h2, tm_append_last] at e
      have := h.newer j h2; dsimp only at e; omega
    · omega
  · rw [hlen] at hi
    by_cases h1 : i < rs.length
    · rw [tm_append_lt h1]; have := h.le i h1; omega
    · obtain rfl : i = rs.length := by omega
      rw [tm_append_last]; exact Int.le_refl _
  · rcases List.mem_append.1 hr with hr | hr
    · exact h.dst r hr
    · rw [List.mem_singleton.1 hr]; exact hd
  · exact row_append h.roww h.newer
  · have := row_append (r := ⟨m.src, m.dst, strOfNums m.xs, false, ((T + 1 : Nat) : Int)⟩) (h.rowb j hj) h.newer
    have hs : sel (j : Int) ⟨m.src, m.dst, strOfNums m.xs, false, ((T + 1 : Nat) : Int)⟩ = false := by unfold sel; rw [if_neg (by omega)]; rfl
    rw [hs] at this; simpa using this
  · rw [List.map_append, List.map_append, key_append fun i hi => h.roww.lt hi, h.keyw]
    congr 1
    simp only [List.map_cons, List.map_nil]
    unfold keyAt; rw [List.getElem?_append_right (by omega)]; simp [mkey]
  · rw [key_append fun i hi => (h.rowb j hj).lt hi, h.keyb j hj]

/-- What lies at an index of the row of those that travel. -/
theorem Agree.at_way (h : Agree n rs T way box lw lb) {w1 w2 : List Msg} {m : Msg} (hw : way = w1 ++ m :: w2) :
    ∃ l1 k l2 r, lw = l1 ++ k :: l2 ∧ l1.length = w1.length ∧ l1.map (keyAt rs) = w1.map mkey ∧ l2.map (keyAt rs) = w2.map mkey ∧ rs[k]? = some r ∧ k < rs.length ∧ r.wt = false ∧ (r.src, r.dst, r.bs) = mkey m := by
  have hk := h.keyw
  rw [hw, List.map_append, List.map_cons] at hk
  obtain ⟨l1, l2', rfl, h1, h2⟩ := List.map_eq_append_iff.1 hk
  obtain ⟨k, l2, rfl, h3, h4⟩ := List.map_eq_cons_iff.1 h2
  obtain ⟨r, hr, hs⟩ := (h.roww.mem k).1 (by simp)
  refine ⟨l1, k, l2, r, rfl, ?_, h1, h4, hr, (List.getElem?_eq_some_iff.1 hr).1, ?_, ?_⟩
  · have := congrArg List.length h1; simpa using this
  · unfold sel at hs; rw [if_pos (by omega)] at hs; simpa using hs
  · unfold keyAt at h3; rw [hr] at h3; exact h3
theorem Agree.not_box (h : Agree n rs T way box lw lb) {k : Nat} {r : RM} (hr : rs[k]? = some r) (hw : r.wt = false) (j : Nat) (hj : j < n) : k ∉ lb j := fun hk => by
  obtain ⟨r', hr', hs⟩ := ((h.rowb j hj).mem k).1 hk
  rw [hr] at hr'
  rw [← Option.some.inj hr'] at hs
  unfold sel at hs; rw [if_neg (by omega), hw] at hs; cases hs

theorem key_set {k : Nat} {r r' : RM} (hr : rs[k]? = some r) (h1 : r'.src = r.src) (h2 : r'.dst = r.dst) (h3 : r'.bs = r.bs) : keyAt (rs.set k r') = keyAt rs := by
  funext i
  unfold keyAt
  by_cases e : i = k
  · subst e; rw [List.getElem?_set_self (List.getElem?_eq_some_iff.1 hr).1, hr]; dsimp only; rw [h1, h2, h3]
  · rw [List.getElem?_set_ne (Ne.symm e)]
theorem set_core (h : Agree n rs T way box lw lb) {k : Nat} {r r' : RM} (hr : rs[k]? = some r) (h2 : r'.dst = r.dst) (ht : r'.tm = ((T + 1 : Nat) : Int)) :
    (∀ i j, i < (rs.set k r').length → j < (rs.set k r').length → tmAt (rs.set k r') i = tmAt (rs.set k r') j → i = j) ∧ (∀ i, i < (rs.set k r').length → tmAt (rs.set k r') i ≤ ((T + 1 : Nat) : Int)) ∧ (rs.set k r').length ≤ T + 1 ∧ ∀ q ∈ rs.set k r', 0 ≤ q.dst ∧ q.dst < n := by
  have hk := (List.getElem?_eq_some_iff.1 hr).1
  have hne : ∀ i, i ≠ k → tmAt (rs.set k r') i = tmAt rs i := fun i hi => by unfold tmAt; rw [List.getElem?_set_ne (Ne.symm hi)]
  have hl : tmAt (rs.set k r') k = ((T + 1 : Nat) : Int) := by unfold tmAt; rw [List.getElem?_set_self hk]; exact ht
  rw [List.length_set]
  refine ⟨fun i j hi hj e => ?_, fun i hi => ?_, by have := h.few; omega, fun q hq => ?_⟩
  · by_cases e1 : i = k <;> by_cases e2 : j = k
    · omega
    · rw [e1, hl, hne j e2] at e; have := h.le j hj; omega
    · rw [e2, hl, hne i e1] at e; have := h.le i hi; omega
    · rw [hne i e1, hne j e2] at e; exact h.inj i j hi hj e
  · by_cases e1 : i = k
    · rw [e1, hl]; exact Int.le_refl _
    · rw [hne i e1]; have := h.le i hi; omega
  · rcases List.mem_or_eq_of_mem_set hq with hq | hq
    · exact h.dst q hq
    · rw [hq, h2]; exact h.dst r (List.mem_of_getElem? hr)

theorem Agree.delay (h : Agree n rs T way box lw lb) {w1 w2 : List Msg} {m : Msg} {l1 l2 : List Nat} {k : Nat} {r : RM} (hl : lw = l1 ++ k :: l2) (h1 : l1.map (keyAt rs) = w1.map mkey) (h2 : l2.map (keyAt rs) = w2.map mkey)
    (hr : rs[k]? = some r) (hw : r.wt = false) (hm : (r.src, r.dst, r.bs) = mkey m) :
    Agree n (rs.set k ⟨r.src, r.dst, r.bs, r.wt, ((T + 1 : Nat) : Int)⟩) (T + 1) (w1 ++ (w2 ++ [m])) box (l1 ++ l2 ++ [k]) lb := by
  have hk := (List.getElem?_eq_some_iff.1 hr).1
  obtain ⟨c1, c2, c3, c4⟩ := set_core h (r' := ⟨r.src, r.dst, r.bs, r.wt, ((T + 1 : Nat) : Int)⟩) hr rfl rfl
  have hks := key_set (r' := ⟨r.src, r.dst, r.bs, r.wt, ((T + 1 : Nat) : Int)⟩) hr rfl rfl rfl
  refine ⟨c1, c2, c3, c4, ?_, fun j hj => ?_, ?_, fun j hj => ?_⟩
  · have hrw := h.roww
    have hnd := hrw.nodup
    have := row_set (r' := ⟨r.src, r.dst, r.bs, r.wt, ((T + 1 : Nat) : Int)⟩) hrw hk h.newer
    rw [hl] at hnd this
    rw [without_mid hnd] at this
    have hs : sel (-1) ⟨r.src, r.dst, r.bs, r.wt, ((T + 1 : Nat) : Int)⟩ = true := by unfold sel; rw [if_pos (by omega)]; simp [hw]
    rw [hs] at this; simpa using this
  · have := row_set (r' := ⟨r.src, r.dst, r.bs, r.wt, ((T + 1 : Nat) : Int)⟩) (h.rowb j hj) hk h.newer
    rw [without_not (h.not_box hr hw j hj)] at this
    have hs : sel (j : Int) ⟨r.src, r.dst, r.bs, r.wt, ((T + 1 : Nat) : Int)⟩ = false := by unfold sel; rw [if_neg (by omega)]; simp [hw]
    rw [hs] at this; simpa using this
  · rw [hks]
    simp only [List.map_append, List.map_cons, List.map_nil, h1, h2, List.append_assoc]
    congr 3
    unfold keyAt; rw [hr]; exact hm
  · rw [hks]; exact h.keyb j hj

theorem Agree.deliver (h : Agree n rs T way box lw lb) {w1 w2 : List Msg} {m : Msg} {l1 l2 : List Nat} {k : Nat} {r : RM} (hl : lw = l1 ++ k :: l2) (h1 : l1.map (keyAt rs) = w1.map mkey) (h2 : l2.map (keyAt rs) = w2.map mkey)
    (hr : rs[k]? = some r) (hw : r.wt = false) (hm : (r.src, r.dst, r.bs) = mkey m) :
    Agree n (rs.set k ⟨r.src, r.dst, r.bs, true, ((T + 1 : Nat) : Int)⟩) (T + 1) (w1 ++ w2) (setQ box m.dst (qAt n box m.dst ++ [m])) (l1 ++ l2) (fun j => if (j : Int) = m.dst then lb j ++ [k] else lb j) := by
  have hk := (List.getElem?_eq_some_iff.1 hr).1
  have hmd : r.dst = m.dst := by have := congrArg (fun x => x.2.1) hm; exact this
  obtain ⟨c1, c2, c3, c4⟩ := set_core h (r' := ⟨r.src, r.dst, r.bs, true, ((T + 1 : Nat) : Int)⟩) hr rfl rfl
  have hks := key_set (r' := ⟨r.src, r.dst, r.bs, true, ((T + 1 : Nat) : Int)⟩) hr rfl rfl rfl
  refine ⟨c1, c2, c3, c4, ?_, fun j hj => ?_, ?_, fun j hj => ?_⟩
  · have hrw := h.roww
    have hnd := hrw.nodup
    have := row_set (r' := ⟨r.src, r.dst, r.bs, true, ((T + 1 : Nat) : Int)⟩) hrw hk h.newer
    rw [hl] at hnd this
    rw [without_mid hnd] at this
    have hs : sel (-1) ⟨r.src, r.dst, r.bs, true, ((T + 1 : Nat) : Int)⟩ = false := by unfold sel; rw [if_pos (by omega)]; rfl
    rw [hs] at this; simpa using this
  · have := row_set (r' := ⟨r.src, r.dst, r.bs, true, ((T + 1 : Nat) : Int)⟩) (h.rowb j hj) hk h.newer
    rw [without_not (h.not_box hr hw j hj)] at this
    have hs : sel (j : Int) ⟨r.src, r.dst, r.bs, true, ((T + 1 : Nat) : Int)⟩ = (r.dst == (j : Int)) := by unfold sel; rw [if_neg (by omega)]; rfl
    rw [hs] at this
    by_cases e : (j : Int) = m.dst
    · rw [if_pos e]; rw [show (r.dst == (j : Int)) = true by simp [hmd, e]] at this; simpa using this
    · rw [if_neg e]; rw [show (r.dst == (j : Int)) = false by simp [hmd]; exact fun e' => e e'.symm] at this; simpa using this
  · rw [hks]
    simp only [List.map_append, h1, h2]
  · rw [hks]
    unfold setQ
    by_cases e : (j : Int) = m.dst
    · rw [if_pos e, if_pos e, ← e, qAt_nat j hj]
      simp only [List.map_append, List.map_cons, List.map_nil, h.keyb j hj]
      congr 2
      unfold keyAt; rw [hr]; exact hm
    · rw [if_neg e, if_neg e]; exact h.keyb j hj

theorem erase_core (h : Agree n rs T way box lw lb) (k : Nat) :
    (∀ i j, i < (rs.eraseIdx k).length → j < (rs.eraseIdx k).length → tmAt (rs.eraseIdx k) i = tmAt (rs.eraseIdx k) j → i = j) ∧ (∀ i, i < (rs.eraseIdx k).length → tmAt (rs.eraseIdx k) i ≤ T) ∧ (rs.eraseIdx k).length ≤ T ∧ ∀ q ∈ rs.eraseIdx k, 0 ≤ q.dst ∧ q.dst < n := by
  have hlen : (rs.eraseIdx k).length ≤ rs.length := List.length_eraseIdx_le _ _
  have back : ∀ i, i < (rs.eraseIdx k).length → ∃ i0, i0 < rs.length ∧ tmAt (rs.eraseIdx k) i = tmAt rs i0 ∧ i0 = if i < k then i else i + 1 := fun i hi => by
    refine ⟨if i < k then i else i + 1, ?_, ?_, rfl⟩
    · rw [List.length_eraseIdx] at hi
      split at hi <;> split <;> omega
    · unfold tmAt; rw [List.getElem?_eraseIdx]; by_cases e : i < k <;> simp only [e, if_true, if_false]
  refine ⟨fun i j hi hj e => ?_, fun i hi => ?_, by have := h.few; omega, fun q hq => h.dst q (List.mem_of_mem_eraseIdx hq)⟩
  · obtain ⟨i0, a1, a2, a3⟩ := back i hi
    obtain ⟨j0, b1, b2, b3⟩ := back j hj
    rw [a2, b2] at e
    have := h.inj i0 j0 a1 b1 e
    split at a3 <;> split at b3 <;> omega
  · obtain ⟨i0, a1, a2, _⟩ := back i hi
    rw [a2]; exact h.le i0 a1
theorem key_erase {k : Nat} {l : List Nat} (h : k ∉ l) : (l.map (sh k)).map (keyAt (rs.eraseIdx k)) = l.map (keyAt rs) := by
  rw [List.map_map]
  exact List.map_congr_left fun i hi => by
    simp only [Function.comp]
    have hne : i ≠ k := fun e => h (by rw [← e]; exact hi)
    unfold keyAt; rw [at_sh hne]

theorem Agree.drop (h : Agree n rs T way box lw lb) {w1 w2 : List Msg} {m : Msg} {l1 l2 : List Nat} {k : Nat} {r : RM} (hl : lw = l1 ++ k :: l2) (h1 : l1.map (keyAt rs) = w1.map mkey) (h2 : l2.map (keyAt rs) = w2.map mkey)
    (hr : rs[k]? = some r) (hw : r.wt = false) :
    Agree n (rs.eraseIdx k) T (w1 ++ w2) box ((l1 ++ l2).map (sh k)) (fun j => (lb j).map (sh k)) := by
  obtain ⟨c1, c2, c3, c4⟩ := erase_core h k
  have hrw := h.roww
  have hnd := hrw.nodup
  rw [hl] at hnd
  have hkn : k ∉ l1 ++ l2 := by
    have := without_mid hnd
    rw [← this]; simp
  refine ⟨c1, c2, c3, c4, ?_, fun j hj => ?_, ?_, fun j hj => ?_⟩
  · have := row_erase hrw k
    rw [hl, without_mid hnd] at this; exact this
  · have := row_erase (h.rowb j hj) k
    rw [without_not (h.not_box hr hw j hj)] at this; exact this
  · rw [key_erase hkn, List.map_append, List.map_append, h1, h2]
  · rw [key_erase (h.not_box hr hw j hj)]; exact h.keyb j hj

/-- The first one that waits at an end. -/
theorem Agree.at_box (h : Agree n rs T way box lw lb) {d : Nat} (hd : d < n) {m : Msg} {rest : List Msg} (hb : box d = m :: rest) :
    ∃ k l2 r, lb d = k :: l2 ∧ l2.map (keyAt rs) = rest.map mkey ∧ rs[k]? = some r ∧ k < rs.length ∧ r.wt = true ∧ r.dst = d ∧ (r.src, r.dst, r.bs) = mkey m := by
  have hk := h.keyb d hd
  rw [hb, List.map_cons] at hk
  obtain ⟨k, l2, e, h3, h4⟩ := List.map_eq_cons_iff.1 hk
  obtain ⟨r, hr, hs⟩ := ((h.rowb d hd).mem k).1 (by rw [e]; simp)
  unfold sel at hs; rw [if_neg (by omega)] at hs
  simp only [Bool.and_eq_true, beq_iff_eq] at hs
  refine ⟨k, l2, r, e, h4, hr, (List.getElem?_eq_some_iff.1 hr).1, hs.1, hs.2, ?_⟩
  unfold keyAt at h3; rw [hr] at h3; exact h3
theorem Agree.take (h : Agree n rs T way box lw lb) {d : Nat} (hd : d < n) {m : Msg} {rest : List Msg} {k : Nat} {l2 : List Nat} {r : RM} (hl : lb d = k :: l2) (h2 : l2.map (keyAt rs) = rest.map mkey)
    (hr : rs[k]? = some r) (hw : r.wt = true) (hrd : r.dst = d) :
    Agree n (rs.eraseIdx k) T way (setQ box d rest) (lw.map (sh k)) (fun j => if j = d then l2.map (sh k) else (lb j).map (sh k)) := by
  obtain ⟨c1, c2, c3, c4⟩ := erase_core h k
  have hkw : k ∉ lw := fun hk => by
    obtain ⟨r', hr', hs⟩ := (h.roww.mem k).1 hk
    rw [hr] at hr'
    rw [← Option.some.inj hr'] at hs
    unfold sel at hs; rw [if_pos (by omega), hw] at hs; cases hs
  have hkb : ∀ j, j < n → j ≠ d → k ∉ lb j := fun j hj hne hk => by
    obtain ⟨r', hr', hs⟩ := ((h.rowb j hj).mem k).1 hk
    rw [hr] at hr'
    rw [← Option.some.inj hr'] at hs
    unfold sel at hs; rw [if_neg (by omega)] at hs
    simp only [Bool.and_eq_true, beq_iff_eq] at hs
    omega
  have hnd := (h.rowb d hd).nodup
  rw [hl] at hnd
  have hk2 : k ∉ l2 := fun hk => (List.pairwise_cons.1 hnd).1 k hk rfl
  refine ⟨c1, c2, c3, c4, ?_, fun j hj => ?_, ?_, fun j hj => ?_⟩
  · have := row_erase h.roww k
    rw [without_not hkw] at this; exact this
  · have := row_erase (h.rowb j hj) k
    by_cases e : j = d
    · subst e
      rw [if_pos rfl]
      rw [hl, List.filter_cons] at this
      simp only [bne_self_eq_false, Bool.false_eq_true, if_false] at this
      rw [without_not hk2] at this; exact this
    · rw [if_neg e]; rw [without_not (hkb j hj e)] at this; exact this
  · rw [key_erase hkw]; exact h.keyw
  · unfold setQ
    by_cases e : j = d
    · subst e; rw [if_pos rfl, if_pos rfl, key_erase hk2, h2]
    · rw [if_neg e, if_neg (by omega), key_erase (hkb j hj e)]; exact h.keyb j hj
theorem agree_new (n : Nat) : Agree n [] 0 [] (fun _ => []) [] (fun _ => []) :=
  ⟨fun i j hi => by simp at hi, fun i hi => by simp at hi, by simp, fun r hr => (by cases hr), ⟨List.Pairwise.nil, fun i => by simp⟩, fun j hj => ⟨List.Pairwise.nil, fun i => by simp⟩, rfl, fun j hj => rfl⟩
theorem Agree.lens (h : Agree n rs T way box lw lb) : lw.length = way.length ∧ ∀ j, j < n → (lb j).length = (box j).length :=
  ⟨by have := congrArg List.length h.keyw; simpa using this, fun j hj => by have := congrArg List.length (h.keyb j hj); simpa using this⟩
end
end Go.Proofs.Ytambdhoeakddhaa
