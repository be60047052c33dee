/- The walk over HeartsApart. -/
import Derived.Test.YtpiolgpfhplhcaaWalkP
namespace Go.Proofs.Ytpiolgpfhplhcaa
open Go Go.RowKit
set_option linter.unusedVariables false

theorem Try.info24 : (Try.prog.info? 24).map (fun i => (i.zero, i.size, i.bytes)) = some (some (.pointer none), 1, 8) := by kernel_rfl

theorem memF_small (n : Nat) (h : 1 ≤ n) (h' : n ≤ 8) : memF n = n := by
  unfold memF; rw [if_neg (by omega), if_neg (by omega)]; simp

/-- What holds at the heads of the loops over the calls: each own watch says of its member what the one over all says. -/
def Agree (n : Nat) (D : List Int) (E : Nat → List Int) : Prop := ∀ j, j < n → (E j).getD j 0 = D.getD j 0

theorem AInv.kept {B : Nat} {wr w' : World} {n b s : Nat} {lim : Int} {D : List Int} {v : Value} {P : List (Nat × Nat)} {E : Nat → List Int} (h : AInv B wr n b s lim D v P E) (hb : Below wr.heap.size wr w') : AInv B w' n b s lim D v P E :=
  ⟨h.all.kept hb, h.fairA, h.lenA, fun j hj => ⟨(h.own j hj).1.kept hb, (h.own j hj).2⟩, h.apartA, h.apartO, by
    refine h.row.kept (row := none) ⟨hb.os, hb.tape, hb.output, hb.size, fun k hk _ => hb.block k hk⟩ ?_
    rcases h.row.2 with ⟨hv, _⟩ | ⟨g, cap, cur, hv, _⟩
    · rw [hv]; exact .inl rfl
    · rw [hv]; exact .inr (by simp [Value.ownBlock]), h.geA, h.geO⟩

theorem owns_head {w : World} {B e sz n : Nat} {v : Value} {xs : List Value} (h : w.ownsRow B e sz v n xs) (hn : 1 ≤ n) : ∃ g cap, v = .slice (some ⟨g, 0, none⟩) n cap := by
  rcases h.2 with ⟨_, h0⟩ | ⟨g, cap, cur, rfl, _⟩
  · omega
  · exact ⟨g, cap, rfl⟩

theorem AInv.ptr {B : Nat} {wr : World} {n b s : Nat} {lim : Int} {D : List Int} {g m cp : Nat} {P : List (Nat × Nat)} {E : Nat → List Int} (h : AInv B wr n b s lim D (.slice (some ⟨g, 0, none⟩) m cp) P E) (hm : P.length = m) (j : Nat) (hj : j < m) :
    wr.cell? ⟨g, j, none⟩ = some (.pointer (some ⟨(P.getD j (0, 0)).1, 0, none⟩)) := by
  subst hm
  rw [h.row.cellAt j (by omega)]
  simp [ptrs, hj]

/-- What holds in the loop over the own watches: the first i of them say what the one over all says now, the others what it said. -/
def Half (n i : Nat) (D D' : List Int) (E : Nat → List Int) : Prop := ∀ j, j < n → (E j).getD j 0 = if j < i then D'.getD j 0 else D.getD j 0
theorem half_start {n : Nat} {D D' : List Int} {E : Nat → List Int} (h : Agree n D E) : Half n 0 D D' E := fun j hj => by rw [if_neg (by omega)]; exact h j hj
theorem half_end {n : Nat} {D D' : List Int} {E : Nat → List Int} (h : Half n n D D' E) : Agree n D' E := fun j hj => by rw [h j hj, if_pos hj]
theorem half_step {n i : Nat} {D D' : List Int} {E : Nat → List Int} (h : Half n i D D' E) (E' : List Int) (he : E'.getD i 0 = D'.getD i 0) : Half n (i + 1) D D' (fun j => if j = i then E' else E j) := fun j hj => by
  by_cases e : j = i
  · subst e; simp only [if_true]; rw [he, if_pos (by omega)]
  · simp only [if_neg e]; rw [h j hj]
    by_cases g : j < i
    · rw [if_pos g, if_pos (by omega)]
    · rw [if_neg g, if_neg (by omega)]
theorem half_same {n i : Nat} {D D' : List Int} {E : Nat → List Int} (h : Half n i D D' E) (hi : i < n) (he : (E i).getD i 0 = D'.getD i 0) : Half n (i + 1) D D' E := fun j hj => by
  by_cases e : j = i
  · subst e; rw [he, if_pos (by omega)]
  · rw [h j hj]
    by_cases g : j < i
    · rw [if_pos g, if_pos (by omega)]
    · rw [if_neg g, if_neg (by omega)]
theorem half_at {n i : Nat} {D D' : List Int} {E : Nat → List Int} (h : Half n i D D' E) (hi : i < n) : (E i).getD i 0 = D.getD i 0 := by
  rw [h i hi, if_neg (by omega)]
theorem zero_at (n i : Nat) : (List.replicate n (0 : Int)).getD i 0 = 0 := by
  rw [List.getD_eq_getElem?_getD, List.getElem?_replicate]; split <;> simp

/-- The i-th own watch by its blocks. -/
def OwnAt (P : List (Nat × Nat)) (i pb ps : Nat) : Prop := pb = (P.getD i (0, 0)).1 ∧ ps = (P.getD i (0, 0)).2
theorem ownAt_ex (P : List (Nat × Nat)) (i : Nat) : ∃ pb ps, OwnAt P i pb ps := ⟨_, _, rfl, rfl⟩
section
variable {B : Nat} {wr w' : World} {n b s : Nat} {lim : Int} {D : List Int} {v : Value} {P : List (Nat × Nat)} {E : Nat → List Int} {i pb ps : Nat}
theorem AInv.own_at (h : AInv B wr n b s lim D v P E) (hi : i < P.length) (o : OwnAt P i pb ps) : WatchAt wr pb ps lim (E i) := by rw [o.1, o.2]; exact (h.own i hi).1
theorem AInv.ge_at (h : AInv B wr n b s lim D v P E) (hi : i < P.length) (o : OwnAt P i pb ps) : B ≤ ps := by rw [o.2]; exact h.geO i hi
theorem AInv.step_at (h : AInv B wr n b s lim D v P E) (hi : i < P.length) (o : OwnAt P i pb ps) {E' : List Int} (ht : Turned pb ps lim E' wr w') (hf : Fair E') (hl : E'.length = n) :
    AInv B w' n b s lim D v P (fun j => if j = i then E' else E j) := h.ownStep i hi (by rw [← o.1, ← o.2]; exact ht) hf hl
end
theorem AInv.ptr_at {B : Nat} {wr : World} {n b s : Nat} {lim : Int} {D : List Int} {g m cp : Nat} {P : List (Nat × Nat)} {E : Nat → List Int} (h : AInv B wr n b s lim D (.slice (some ⟨g, 0, none⟩) m cp) P E) (hm : P.length = m) {j pb ps : Nat} (hj : j < m) (o : OwnAt P j pb ps) :
    wr.cell? ⟨g, j, none⟩ = some (.pointer (some ⟨pb, 0, none⟩)) := by rw [o.1]; exact h.ptr hm j hj

set_option maxRecDepth 16000 in
set_option maxHeartbeats 8000000 in
theorem apart_main (m l : Int) (a : Option Addr) (q cap : Nat) (K N : Nat → Int) (w : World) (hrow : CallRow w a q K N) (hq : q ≤ 500) (hm : 0 ≤ m ∧ m ≤ 255) (hl : 0 ≤ l ∧ l ≤ 255) :
    Calls Try.prog 6 #[.int .u8 m, .int .u8 l, .slice a q cap] w fun e w' => e = .returned (.bool true) ∧ Below w.heap.size w w' := by
  obtain ⟨i0, hi, hz0, hz1, hz2⟩ := info_parts Try.info24
  obtain ⟨n, hn⟩ : ∃ n : Nat, (1 : Int) + m % 8 = n := Int.eq_ofNat_of_zero_le (by omega)
  have hn1 : 1 ≤ n ∧ n ≤ 8 := by omega
  have HN := Lib.hid hn
  clear hn
  go_enter Try.func6, Try.ntmps6
  go_wp2_with fail
  rw [HN.out]
  refine (new_any n l w).mono ?_
  rintro e w1 ⟨b, s, rfl, h1, gb, gs, B1⟩
  rw [memF_small n hn1.1 hn1.2] at h1
  have A0 : AInv w.heap.size w1 n b s (limF l) (List.replicate n 0) (.slice none 0 0) [] (fun _ => []) :=
    ⟨h1, fair_zero n, by simp, fun j hj => by simp at hj, fun j hj => by simp at hj, fun i j hi => by simp at hi, World.ownsRow_nil _ _ _ _, gs, fun j hj => by simp at hj⟩
  have HMEM := Lib.hid (memF_small n hn1.1 hn1.2)
  have HC := Lib.hid hrow.cells
  have HK := Lib.hid hrow.kinds
  clear h1 hrow
  go_wp2
  go_loopw [9, 10] (fun v j wr => ∃ (k : Nat) (P : List (Nat × Nat)) (E : Nat → List Int), k ≤ n ∧ j = .int .i64 k ∧ P.length = k ∧ AInv w.heap.size wr n b s (limF l) (List.replicate n 0) v P E ∧ (∀ j, j < k → E j = List.replicate n 0) ∧ Below w.heap.size w wr)
    (fun _ j _ => n - (intOf j).toNat)
  case atStart => exact ⟨0, [], _, by omega, rfl, rfl, A0, fun j hj => by omega, B1⟩
  case round =>
    clear A0 B1
    obtain ⟨k, P, E, hk, rfl, hPk, A, hE, B2⟩ := hrel
    have HP := Lib.hid hPk
    have HE := Lib.hid hE
    clear hPk hE
    by_cases hlt : k < n
    · go_wp2_with fail
      refine (new_any n l wr).mono ?_
      rintro e w2 ⟨b', s', rfl, h2, gb', gs', B3⟩
      rw [HMEM.out] at h2
      have R := (A.kept B3).row
      have hz := B2.size
      have hz3 := B3.size
      have hPl : P.length ≤ 8 := by rw [HP.out]; omega
      go_wp2_with (at_builtin; refine wpList_append_own _ rfl _ _ 42 rfl w.heap.size 24 i0 (.pointer none) 1 8 Try.underlying42 hi hz0 hz1 hz2 rfl (by decide) _ _ _ rfl (R.alloc _) ⟨w2.heap.size, 0, none⟩ 1 1 [.pointer (some ⟨b', 0, none⟩)] rfl rfl (cell_one_new _ _ _) (by simp [Value.oneCell']) (by unfold maxLen; omega) (by omega) (by simp; omega) ?_; intro v' w3 hown3 hgrow hn3)
      have hg9 : (w2.alloc (.cells #[.pointer (some ⟨b', 0, none⟩)] 24)).grownBy w3 u9.ownBlock := hgrow
      have A' := A.more hz h2 B3 gb' gs' _ hg9 hown3
      have B4 : Below w.heap.size w w3 := ((B2.trans (B3.mono hz)).alloc (by omega) _).grown hg9 (by simp; omega) (fun r e => by
        rcases R.2 with ⟨hv, _⟩ | ⟨g, c, cur, hv, hg, _⟩
        · rw [hv] at e; simp [Value.ownBlock] at e
        · rw [hv] at e; simp [Value.ownBlock] at e; omega)
      have E' : ∀ j, j < k + 1 → (fun j => if j < P.length then E j else List.replicate n 0) j = List.replicate n 0 := fun j hj => by
        simp only; split
        · exact HE.out j (by rw [← HP.out]; assumption)
        · rfl
      have P' : (P ++ [(b', s')]).length = k + 1 := by simp [HP.out]
      clear hown3 hgrow hg9 R A h2 hn3 B2 B3
      go_roundw
      case rel => exact ⟨k + 1, _, _, by omega, by go_num, P', A', E', B4⟩
      case measure => simp [intOf]; omega
    · obtain rfl : k = n := by omega
      obtain ⟨g, cp, rfl⟩ := owns_head A.row (by rw [HP.out]; omega)
      rw [HP.out] at A ⊢
      have AG : Agree k (List.replicate k 0) E := fun j hj => by rw [HE.out j hj]
      go_wp2
      go_loopw [11] (fun j wx => ∃ (c : Nat) (D : List Int) (E : Nat → List Int), c ≤ q ∧ j = .int .i64 c ∧ AInv w.heap.size wx k b s (limF l) D (.slice (some ⟨g, 0, none⟩) k cp) P E ∧ Agree k D E ∧ Below w.heap.size w wx)
        (fun j _ => q - (intOf j).toNat)
      case atStart => exact ⟨0, _, E, by omega, rfl, A, AG, B2⟩
      case round =>
        clear A AG B2 HE
        obtain ⟨c, D, E, hc, rfl, A, AG, B2⟩ := hrel
        by_cases hcq : c < q
        · obtain ⟨ba, off, rfl, hba, hcc⟩ := HC.out (by omega)
          obtain ⟨hc1, hc2⟩ := hcc c hcq
          have d1 := (B2.cell (p := ⟨ba, off + c * 2, none⟩) hba).trans hc1
          have D2 := Lib.hid (fun w' (hb' : Below w.heap.size w w') => (hb'.cell (p := ⟨ba, off + c * 2 + 1, none⟩) hba).trans hc2)
          have d3 := D2.out _ B2
          have hKk := HK.out c
          clear hcc hc1 hc2
          generalize K c = x at *
          generalize N c = y at *
          have c0 : (0 : Int) ≤ (c : Int) := by omega
          have c1 : (c : Int) < (q : Int) := by omega
          have hz := B2.size
          by_cases hx7 : x % 8 = 7
          · have hx7b : (x % 8 == 7) = true := by simpa using hx7
            go_wp2_with fail
            refine (reset_all wr b s (limF l) D A.all).mono ?_
            rintro e w4 ⟨rfl, h4⟩
            have A4 := A.allStep h4 (fair_zero _) (by simpa using A.lenA)
            have B4 := B2.trans (h4.2.below A.geA hz)
            clear h4 d1 d3
            go_wp2
            go_loopw [13] (fun j wx => ∃ (i : Nat) (E : Nat → List Int), i ≤ k ∧ j = .int .i64 i ∧ AInv w.heap.size wx k b s (limF l) (List.replicate D.length 0) (.slice (some ⟨g, 0, none⟩) k cp) P E ∧ Half k i D (List.replicate D.length 0) E ∧ Below w.heap.size w wx)
              (fun j _ => k - (intOf j).toNat)
            case atStart => exact ⟨0, E, by omega, rfl, A4, half_start AG, B4⟩
            case round =>
              clear A4 AG B4
              obtain ⟨i, E, hik, rfl, A, HF, B2⟩ := hrel
              have hz := B2.size
              by_cases hilt : i < k
              · have hiP : i < P.length := by rw [HP.out]; exact hilt
                obtain ⟨pb, ps, ho⟩ := ownAt_ex P i
                have d4 := A.ptr_at HP.out hilt ho
                have hlE := (A.own i hiP).2.2
                have hfE := (A.own i hiP).2.1
                have HLE := Lib.hid hlE
                clear hlE
                go_wp2_with fail
                refine (reset_all wr pb ps _ _ (A.own_at hiP ho)).mono ?_
                rintro e w5 ⟨rfl, h5⟩
                have A5 := A.step_at hiP ho h5 (fair_zero _) (by simpa using HLE.out)
                have B5 := B2.trans (h5.2.below (A.ge_at hiP ho) hz)
                have hv : (List.replicate (E i).length (0 : Int)).getD i 0 = (List.replicate D.length (0 : Int)).getD i 0 := by
                  rw [zero_at, zero_at]
                have HF' := half_step HF _ hv
                have hw5 := h5.1
                have d5 := A5.ptr_at HP.out hilt ho
                obtain ⟨z, hz9⟩ : ∃ z : Int, (List.replicate D.length (0 : Int)).getD i 0 = z := ⟨_, rfl⟩
                rw [hz9] at hv
                have HV := Lib.hid hv
                have HZ := Lib.hid hz9
                clear hz9
                clear hv h5 d4 A HF B2
                go_wp2_with fail
                refine (silent_in w5 _ _ _ _ hw5 i (by rw [show (List.replicate (E i).length (0 : Int)).length = k from by simpa using HLE.out]; exact hilt)).mono ?_
                rintro e w' ⟨rfl, rfl⟩
                rw [HV.out]
                go_wp2_with fail
                refine (silent_in w5 b s _ _ A5.all i (by rw [A5.lenA]; exact hilt)).mono ?_
                rintro e w' ⟨rfl, rfl⟩
                rw [HZ.out]
                clear HV HZ d5 hw5
                go_wp2_with fail
                go_roundw
                case rel => exact ⟨i + 1, _, by omega, by go_num, A5, HF', B5⟩
                case measure => simp [intOf]; omega
              · obtain rfl : i = k := by omega
                go_wp2_with fail
                go_roundw
                case rel => exact ⟨c + 1, _, E, by omega, by go_num, A, half_end HF, B2⟩
                case measure => simp [intOf]; omega
          · have hx7b : (x % 8 == 7) = false := by simpa using hx7
            by_cases hx3 : x % 8 ≤ 3
            · have hx3b : decide (3 < x % 8) = false := by simpa using hx3
              have hx3c : decide (x % 8 > 3) = false := by simpa using hx3
              go_wp2_with fail
              refine (tick_all wr b s (limF l) D A.all A.fairA).mono ?_
              rintro e w4 ⟨rfl, h4⟩
              have A4 := A.allStep h4 (fair_tick A.fairA) (by simpa using A.lenA)
              have B4 := B2.trans (h4.2.below A.geA hz)
              have hlD := A.lenA
              have HLD := Lib.hid hlD
              clear h4 d1 d3 hlD A B2
              go_wp2
              go_loopw [13] (fun j wx => ∃ (i : Nat) (E : Nat → List Int), i ≤ k ∧ j = .int .i64 i ∧ AInv w.heap.size wx k b s (limF l) (D.map t1) (.slice (some ⟨g, 0, none⟩) k cp) P E ∧ Half k i D (D.map t1) E ∧ Below w.heap.size w wx)
                (fun j _ => k - (intOf j).toNat)
              case atStart => exact ⟨0, E, by omega, rfl, A4, half_start AG, B4⟩
              case round =>
                clear A4 AG B4
                obtain ⟨i, E, hik, rfl, A, HF, B2⟩ := hrel
                have hz := B2.size
                by_cases hilt : i < k
                · have hiP : i < P.length := by rw [HP.out]; exact hilt
                  obtain ⟨pb, ps, ho⟩ := ownAt_ex P i
                  have d4 := A.ptr_at HP.out hilt ho
                  have hlE := (A.own i hiP).2.2
                  have hfE := (A.own i hiP).2.1
                  have HLE := Lib.hid hlE
                  clear hlE
                  go_wp2_with fail
                  refine (tick_all wr pb ps _ _ (A.own_at hiP ho) hfE).mono ?_
                  rintro e w5 ⟨rfl, h5⟩
                  have A5 := A.step_at hiP ho h5 (fair_tick hfE) (by simpa using HLE.out)
                  have B5 := B2.trans (h5.2.below (A.ge_at hiP ho) hz)
                  have hv : ((E i).map t1).getD i 0 = (D.map t1).getD i 0 := by
                    rw [getD_map, getD_map, if_pos (by rw [HLE.out]; exact hilt), if_pos (by rw [HLD.out]; exact hilt), half_at HF hilt]
                  have HF' := half_step HF _ hv
                  have hw5 := h5.1
                  have d5 := A5.ptr_at HP.out hilt ho
                  obtain ⟨z, hz9⟩ : ∃ z : Int, (D.map t1).getD i 0 = z := ⟨_, rfl⟩
                  rw [hz9] at hv
                  have HV := Lib.hid hv
                  have HZ := Lib.hid hz9
                  clear hz9
                  clear hv h5 d4 A HF B2
                  go_wp2_with fail
                  refine (silent_in w5 _ _ _ _ hw5 i (by rw [show ((E i).map t1).length = k from by simpa using HLE.out]; exact hilt)).mono ?_
                  rintro e w' ⟨rfl, rfl⟩
                  rw [HV.out]
                  go_wp2_with fail
                  refine (silent_in w5 b s _ _ A5.all i (by rw [A5.lenA]; exact hilt)).mono ?_
                  rintro e w' ⟨rfl, rfl⟩
                  rw [HZ.out]
                  clear HV HZ d5 hw5
                  go_wp2_with fail
                  go_roundw
                  case rel => exact ⟨i + 1, _, by omega, by go_num, A5, HF', B5⟩
                  case measure => simp [intOf]; omega
                · obtain rfl : i = k := by omega
                  go_wp2_with fail
                  go_roundw
                  case rel => exact ⟨c + 1, _, E, by omega, by go_num, A, half_end HF, B2⟩
                  case measure => simp [intOf]; omega
            · have hx3 : 3 < x % 8 := by omega
              go_wp2_with fail
              refine (hear_all wr b s (limF l) D A.all y).mono ?_
              rintro e w4 ⟨rfl, h4⟩
              have A4 := A.allStep h4 (fair_hear A.fairA y) (by rw [hearF_len]; exact A.lenA)
              have B4 := B2.trans (h4.2.below A.geA hz)
              have hlD := A.lenA
              have HLD := Lib.hid hlD
              clear h4 d1 d3 hlD A B2
              go_wp2
              go_loopw [13] (fun j wx => ∃ (i : Nat) (E : Nat → List Int), i ≤ k ∧ j = .int .i64 i ∧ AInv w.heap.size wx k b s (limF l) (hearF D y) (.slice (some ⟨g, 0, none⟩) k cp) P E ∧ Half k i D (hearF D y) E ∧ Below w.heap.size w wx)
                (fun j _ => k - (intOf j).toNat)
              case atStart => exact ⟨0, E, by omega, rfl, A4, half_start AG, B4⟩
              case round =>
                clear A4 AG B4
                obtain ⟨i, E, hik, rfl, A, HF, B2⟩ := hrel
                have hz := B2.size
                by_cases hilt : i < k
                · have hiP : i < P.length := by rw [HP.out]; exact hilt
                  obtain ⟨pb, ps, ho⟩ := ownAt_ex P i
                  have d4 := A.ptr_at HP.out hilt ho
                  have d3 := D2.out _ B2
                  have hlE := (A.own i hiP).2.2
                  have hfE := (A.own i hiP).2.1
                  have HLE := Lib.hid hlE
                  clear hlE
                  have hya : (hearF D y).getD i 0 = if y = i then 0 else D.getD i 0 := hearF_at D y i (by rw [HLD.out]; exact hilt)
                  have HYA := Lib.hid hya
                  clear hya
                  by_cases hyi : y = i
                  · have hyb : (y == (i : Int)) = true := by simpa using hyi
                    have HYI := Lib.hid hyi
                    clear hyi
                    go_wp2_with fail
                    refine (hear_all wr pb ps _ _ (A.own_at hiP ho) i).mono ?_
                    rintro e w5 ⟨rfl, h5⟩
                    have A5 := A.step_at hiP ho h5 (fair_hear hfE _) (by rw [hearF_len]; exact HLE.out)
                    have B5 := B2.trans (h5.2.below (A.ge_at hiP ho) hz)
                    have hv : (hearF (E i) i).getD i 0 = (hearF D y).getD i 0 := by
                      rw [hearF_at _ _ _ (by rw [HLE.out]; exact hilt), if_pos rfl, HYA.out, if_pos HYI.out]
                    have HF' := half_step HF _ hv
                    have hw5 := h5.1
                    have d5 := A5.ptr_at HP.out hilt ho
                    obtain ⟨z, hz9⟩ : ∃ z : Int, (hearF D y).getD i 0 = z := ⟨_, rfl⟩
                    rw [hz9] at hv
                    have HV := Lib.hid hv
                    have HZ := Lib.hid hz9
                    clear hz9
                    clear hv h5 d4 d3 A HF B2
                    go_wp2_with fail
                    refine (silent_in w5 _ _ _ _ hw5 i (by rw [hearF_len, HLE.out]; exact hilt)).mono ?_
                    rintro e w' ⟨rfl, rfl⟩
                    rw [HV.out]
                    go_wp2_with fail
                    refine (silent_in w5 b s _ _ A5.all i (by rw [A5.lenA]; exact hilt)).mono ?_
                    rintro e w' ⟨rfl, rfl⟩
                    rw [HZ.out]
                    clear HV HZ d5 hw5
                    go_wp2_with fail
                    go_roundw
                    case rel => exact ⟨i + 1, _, by omega, by go_num, A5, HF', B5⟩
                    case measure => simp [intOf]; omega
                  · have hyb : (y == (i : Int)) = false := by simpa using hyi
                    have hv : (E i).getD i 0 = (hearF D y).getD i 0 := by
                      rw [HYA.out, if_neg hyi, half_at HF hilt]
                    have HF' := half_same HF hilt hv
                    have hw5 := A.own_at hiP ho
                    obtain ⟨z, hz9⟩ : ∃ z : Int, (hearF D y).getD i 0 = z := ⟨_, rfl⟩
                    rw [hz9] at hv
                    have HV := Lib.hid hv
                    have HZ := Lib.hid hz9
                    clear hz9
                    clear hv HF hyi
                    go_wp2_with fail
                    refine (silent_in wr _ _ _ _ hw5 i (by rw [HLE.out]; exact hilt)).mono ?_
                    rintro e w' ⟨rfl, rfl⟩
                    rw [HV.out]
                    go_wp2_with fail
                    refine (silent_in wr b s _ _ A.all i (by rw [A.lenA]; exact hilt)).mono ?_
                    rintro e w' ⟨rfl, rfl⟩
                    rw [HZ.out]
                    clear HV HZ d4 d3 hw5
                    go_wp2_with fail
                    go_roundw
                    case rel => exact ⟨i + 1, _, by omega, by go_num, A, HF', B2⟩
                    case measure => simp [intOf]; omega
                · obtain rfl : i = k := by omega
                  go_wp2_with fail
                  go_roundw
                  case rel => exact ⟨c + 1, _, E, by omega, by go_num, A, half_end HF, B2⟩
                  case measure => simp [intOf]; omega
        · obtain rfl : c = q := by omega
          clear A HC HK
          go_wp2_with (go_at_call 8; refine (works_any _).mono ?_; rintro e w9 ⟨rfl, B9⟩)
          go_ret
          exact ⟨rfl, B2.trans (B9.mono B2.size)⟩
end Go.Proofs.Ytpiolgpfhplhcaa
