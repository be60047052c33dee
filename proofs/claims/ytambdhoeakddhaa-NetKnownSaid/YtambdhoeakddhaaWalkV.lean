/- The walk over NetTurns. -/
import Derived.Test.YtambdhoeakddhaaWalkU
namespace Go.Proofs.Ytambdhoeakddhaa
open Go Go.RowKit Go.Conc
set_option linter.unusedVariables false

def rot1 {α : Type} : List α → List α
  | [] => []
  | x :: l => l ++ [x]
def rotN {α : Type} : Nat → List α → List α
  | 0, l => l
  | i + 1, l => rot1 (rotN i l)
theorem rot1_len {α : Type} (l : List α) : (rot1 l).length = l.length := by cases l <;> simp [rot1]
theorem rotN_len {α : Type} (l : List α) : ∀ i, (rotN i l).length = l.length
  | 0 => rfl
  | i + 1 => by rw [rotN, rot1_len, rotN_len l i]
theorem rot1_at {α : Type} (l : List α) (j : Nat) (hj : j < l.length) : (rot1 l)[j]? = l[(j + 1) % l.length]? := by
  cases l with
  | nil => simp at hj
  | cons x l =>
    simp only [rot1, List.length_cons] at *
    by_cases e : j < l.length
    · rw [Nat.mod_eq_of_lt (by omega), List.getElem?_append_left e, List.getElem?_cons_succ]
    · have e2 : j = l.length := by omega
      rw [e2, Nat.mod_self, List.getElem?_append_right (by omega)]; simp
theorem rotN_at {α : Type} (l : List α) : ∀ i j, j < l.length → (rotN i l)[j]? = l[(i + j) % l.length]?
  | 0, j, hj => by rw [rotN, Nat.zero_add, Nat.mod_eq_of_lt hj]
  | i + 1, j, hj => by
    rw [rotN, rot1_at _ _ (by rw [rotN_len]; exact hj), rotN_len, rotN_at l i _ (Nat.mod_lt _ (by omega)), Nat.add_mod_mod]
    congr 2; omega

theorem Moved.below_of {B B' : Nat} {w w' : World} (h : Moved B w w') : Below B w w' := h.bel
theorem NetV.row_lt {w : World} {B b n : Nat} {way : List Msg} {box : Nat → List Msg} {vw : Value} (h : NetV w B b n way box vw) (g : Nat) (hg : vw.ownBlock = some g) : g < w.heap.size := by
  obtain ⟨⟨ps, bx, cap, cs, bufs, h1, _⟩, _⟩ := h
  exact h1.row_lt g hg
theorem NetV.b_lt {w : World} {B b n : Nat} {way : List Msg} {box : Nat → List Msg} {vw : Value} (h : NetV w B b n way box vw) : b < w.heap.size := by
  obtain ⟨⟨ps, bx, cap, cs, bufs, h1, _⟩, _⟩ := h
  exact block_lt h1.head

/-- The first net behind k rounds of delays; the told row v of the second one as it was. -/
structure Turning (B b H2 : Nat) (w3 : World) (v : Value) (way : List Msg) (w wr : World) (vw : Value) : Prop where
  net : NetV wr B b 3 way (fun _ => []) vw
  far : ∀ g, vw.ownBlock = some g → g < H2 ∨ w3.heap.size ≤ g
  told : ∀ g, v.ownBlock = some g → wr.heap[g]? = w3.heap[g]?
  moved : Moved B w3 wr
  bel : Below B w wr

theorem Turning.next {B b H2 : Nat} {w3 : World} {v : Value} {way way' : List Msg} {w wr w' : World} {vw vw' : Value} (h : Turning B b H2 w3 v way w wr vw) (hN : NetV w' B b 3 way' (fun _ => []) vw') (hW : Way wr w' b vw vw') (hM : Moved B wr w')
    (hv : ∀ g, v.ownBlock = some g → H2 ≤ g ∧ g < w3.heap.size ∧ g ≠ b) : Turning B b H2 w3 v way' w w' vw' := by
  refine ⟨hN, fun g hg => ?_, fun g hg => ?_, h.moved.trans hM, h.bel.trans hM.bel⟩
  · rcases hW.row g hg with e | e
    · exact h.far g e
    · exact .inr (Nat.le_trans h.moved.size e)
  · obtain ⟨h1, h2, h3⟩ := hv g hg
    refine (hW.block g (Nat.lt_of_lt_of_le h2 h.moved.size) h3 (fun e => ?_)).trans (h.told g hg)
    rcases h.far g e.symm with e | e <;> omega

theorem pown_drewN {w : World} {base : Nat} {a : Option Addr} {len cap : Nat} {xs : List Int} (h : POwn w base a len cap xs) (q : Nat) : POwn (w.drewN q) base a len cap xs := h.same fun _ _ _ => rfl

set_option maxRecDepth 8000 in
set_option maxHeartbeats 2000000 in
theorem turns_any (w : World) (a0 a1 : Int) (h00 : 0 ≤ a0) (h01 : a0 < 256) (h10 : 0 ≤ a1) (h11 : a1 < 256) :
    Calls Try.prog 4 #[.int .u8 a0, .int .u8 a1] w fun e w' => e = .returned (.bool true) ∧ Below w.heap.size w w' := by
  obtain ⟨K, hK⟩ : ∃ k : Nat, a0 % 101 = k := ⟨(a0 % 101).toNat, by omega⟩
  obtain ⟨T, rfl⟩ : ∃ k : Nat, a1 = k := ⟨a1.toNat, by omega⟩
  have hK2 : K ≤ 100 := by omega
  go_enter Try.func4, Try.ntmps4
  go_wp2_with fail
  clear hK h00 h01
  refine (sent_any w K hK2).mono ?_
  rintro e w1 ⟨b1, rfl, hN1, hB1⟩
  have HN1 := Lib.hid hN1
  have HB1 := Lib.hid hB1
  clear hN1 hB1
  go_wp2_with fail
  refine (sent_any w1 K hK2).mono ?_
  rintro e w2 ⟨b2, rfl, hN2, hB2⟩
  obtain ⟨vw0, hV0⟩ := HN1.out
  have HV2 := Lib.hid (hV0.kept hB2)
  have hb1 := (hV0.kept hB2).b_lt
  have HB2 := Lib.hid (HB1.out.trans (hB2.mono HB1.out.size))
  have HM2 := Lib.hid hN2
  clear hV0 hN2 hB2 HN1 HB1
  go_wp2_with fail
  refine (n_way HM2.out).mono ?_
  rintro e w3 ⟨v, qs, rfl, hown, hr, hB3⟩
  have hvv : ∀ g, v.ownBlock = some g → w2.heap.size ≤ g ∧ g < w3.heap.size ∧ g ≠ b1 := fun g hg => by
    have h1 := ownBlock_ge hown hg
    rcases hown.2 with ⟨rfl, _⟩ | ⟨g', c, cur, rfl, _, hg', _⟩
    · simp [Value.ownBlock] at hg
    · simp only [Value.ownBlock, Option.some.injEq] at hg; subst hg
      exact ⟨h1, block_lt hg', by omega⟩
  have hT3 : Turning w.heap.size b1 w2.heap.size w3 v (sentL K) w w3 vw0 :=
    ⟨HV2.out.kept hB3, fun g hg => .inl (HV2.out.row_lt g hg), fun _ _ => rfl, Moved.refl _ _, HB2.out.trans (hB3.mono HB2.out.size)⟩
  obtain ⟨a, c, hv⟩ := told_slice hown hr
  rw [sentL_len] at hv
  subst hv
  have HO := Lib.hid (And.intro hown hr)
  have HVV := Lib.hid hvv
  have HT3 := Lib.hid hT3
  generalize w2.heap.size = H2 at *
  clear HV2 HB2 HM2 hown hr hB3 hvv hT3 hb1
  go_wp2_with fail
  go_loopw [9] (fun i wr => ∃ (k : Nat) (vw : Value), k ≤ T ∧ i = .int .i64 k ∧ Turning w.heap.size b1 H2 w3 (.slice a K c) (rotN k (sentL K)) w wr vw)
    (fun i _ => T - (intOf i).toNat)
  case atStart => exact ⟨0, _, by omega, rfl, HT3.out⟩
  case round =>
    clear HT3
    obtain ⟨k, vw, hk, rfl, hT⟩ := hrel
    have HT := Lib.hid hT
    clear hT
    by_cases hgo : k < T ∧ 0 < K
    · obtain ⟨hlt, hK0⟩ := hgo
      have k0 : (0 : Int) ≤ (k : Int) := by omega
      have k1 : (k : Int) < (T : Int) := by omega
      have k2 : (0 : Int) < (K : Int) := by omega
      have hl : (rotN k (sentL K)).length = K := by rw [rotN_len, sentL_len]
      obtain ⟨m, r, hmr⟩ : ∃ m r, rotN k (sentL K) = m :: r := by
        cases h : rotN k (sentL K) with
        | nil => rw [h] at hl; simp at hl; omega
        | cons m r => exact ⟨m, r, rfl⟩
      have hnx : rotN (k + 1) (sentL K) = r ++ [m] := by rw [rotN, hmr]; rfl
      have hT := HT.out
      rw [hmr] at hT hl
      have HT' := Lib.hid hT
      have HL := Lib.hid hl
      have HNX := Lib.hid hnx
      clear hT hl hmr hnx HT
      go_wp2_with fail
      refine (v_delay (l1 := []) HT'.out.net).mono ?_
      rintro e w4 ⟨rfl, vw4, hN4, hW4, hM4⟩
      have HT4 := Lib.hid (HT'.out.next hN4 hW4 hM4 HVV.out)
      clear hN4 hW4 hM4
      have hcast : (K : Int) - 1 = (r.length : Nat) := by have := HL.out; simp at this; omega
      have HC := Lib.hid hcast
      clear hcast
      go_wp2_with fail
      rw [HC.out]
      have hN4 : NetV w4 w.heap.size b1 3 (r ++ m :: []) (fun _ => []) vw4 := HT4.out.net
      refine (v_delay hN4).mono ?_
      rintro e w5 ⟨rfl, vw5, hN5, hW5, hM5⟩
      have hT5 := HT4.out.next hN5 hW5 hM5 HVV.out
      rw [List.nil_append, ← HNX.out] at hT5
      have HT5 := Lib.hid hT5
      clear hN4 hN5 hW5 hM5 hT5
      go_wp2_with fail
      go_roundw
      case rel => exact ⟨k + 1, vw5, by omega, by go_num, HT5.out⟩
      case measure => simp [intOf]; omega
    · have HEX : Hid (K = 0 ∨ k = T) := Lib.hid (by omega)
      have hex : (k < T ∧ K = 0) ∨ T ≤ k := by omega
      clear hgo
      have hll : (rotN k (sentL K)).length = K := by rw [rotN_len, sentL_len]
      have hkT : (k : Int) ≤ T := by omega
      rcases hex with ⟨e1, e2⟩ | e1
      · have e0 : (k : Int) < (T : Int) := by omega
        have e3 : (K : Int) ≤ 0 := by omega
        have HK0 := Lib.hid e2
        clear e1 e2 hkT
        go_wp2_with fail
        clear e0 e3
        refine (n_way ⟨vw, HT.out.net⟩).mono ?_
        rintro e w5 ⟨v5, qs5, rfl, hown5, hr5, hB5⟩
        obtain ⟨a5, c5, rfl⟩ := told_slice hown5 hr5
        rw [hll] at hown5 ⊢
        have hN5 := NetV.kept HT.out.net hB5
        have hO3 : w5.ownsRow H2 33 3 (.slice a K c) qs.length (qs.flatMap pcells) := owns_same HO.out.1 fun g cur hg hcur => (hB5.block g (by have := HVV.out g hg; have := HT.out.moved.size; omega)).trans (HT.out.told g hg)
        have hR3 : Rows w5 H2 qs (sentL K) := (HO.out.2.same HT.out.moved.bytes).same fun g cur hg => hB5.block g (block_lt hg)
        have HL5 := Lib.hid (And.intro hO3 hR3)
        have HW5 := Lib.hid (And.intro hown5 hr5)
        have HN5 := Lib.hid hN5
        have HB5 := Lib.hid (HT.out.bel.trans (hB5.mono HT.out.net.base))
        clear hown5 hr5 hB5 hN5 hO3 hR3 HT HVV HO
        generalize wr.heap.size = H4 at *
        go_wp2_with fail
        go_loopw [11] (fun i wx => ∃ (j : Nat), j ≤ K ∧ i = .int .i64 j ∧ Below w5.heap.size w5 wx)
          (fun i _ => K - (intOf i).toNat)
        case atStart => exact ⟨0, by omega, rfl, Below.refl _ _⟩
        case round =>
          obtain ⟨j, hj, rfl, hBx⟩ := hrel
          by_cases hjl : j < K
          · exact absurd hjl (by have := HK0.out; omega)
          · obtain rfl : j = K := by omega
            have hN6 : Net wr w.heap.size b1 3 (rotN k (sentL j)) (fun _ => []) := ⟨vw, HN5.out.kept hBx⟩
            have HB6 := Lib.hid (HB5.out.trans (hBx.mono HB5.out.size))
            have HO6 := Lib.hid (n_out hN6 j (by omega) 16 (by simp))
            clear hN6 hBx hll
            go_wp2_with fail
            refine HO6.out.mono ?_
            rintro e w7 ⟨rfl, _, hB7⟩
            go_wp2_with fail
            refine (works_any w7).mono ?_
            rintro e w8 ⟨rfl, hB8⟩
            go_wp2_with fail
            go_ret
            exact ⟨rfl, HB6.out.trans ((hB7.trans (hB8.mono hB7.size)).mono HB6.out.size)⟩
      · have e0 : (T : Int) ≤ (k : Int) := by omega
        clear e1 hkT
        go_wp2_with fail
        clear e0
        refine (n_way ⟨vw, HT.out.net⟩).mono ?_
        rintro e w5 ⟨v5, qs5, rfl, hown5, hr5, hB5⟩
        obtain ⟨a5, c5, rfl⟩ := told_slice hown5 hr5
        rw [hll] at hown5 ⊢
        have hN5 := NetV.kept HT.out.net hB5
        have hO3 : w5.ownsRow H2 33 3 (.slice a K c) qs.length (qs.flatMap pcells) := owns_same HO.out.1 fun g cur hg hcur => (hB5.block g (by have := HVV.out g hg; have := HT.out.moved.size; omega)).trans (HT.out.told g hg)
        have hR3 : Rows w5 H2 qs (sentL K) := (HO.out.2.same HT.out.moved.bytes).same fun g cur hg => hB5.block g (block_lt hg)
        have HL5 := Lib.hid (And.intro hO3 hR3)
        have HW5 := Lib.hid (And.intro hown5 hr5)
        have HN5 := Lib.hid hN5
        have HB5 := Lib.hid (HT.out.bel.trans (hB5.mono HT.out.net.base))
        clear hown5 hr5 hB5 hN5 hO3 hR3 HT HVV HO
        generalize wr.heap.size = H4 at *
        go_wp2_with fail
        go_loopw [11] (fun i wx => ∃ (j : Nat), j ≤ K ∧ i = .int .i64 j ∧ Below w5.heap.size w5 wx)
          (fun i _ => K - (intOf i).toNat)
        case atStart => exact ⟨0, by omega, rfl, Below.refl _ _⟩
        case round =>
          obtain ⟨j, hj, rfl, hBx⟩ := hrel
          by_cases hjl : j < K
          · have j0 : (0 : Int) ≤ (j : Int) := by omega
            have j1 : (j : Int) < (K : Int) := by omega
            have j2 : ¬ K = 0 := by omega
            obtain ⟨jj, hjj⟩ : ∃ jj, (j + T) % K = jj := ⟨_, rfl⟩
            have hjjl : jj < K := by rw [← hjj]; exact Nat.mod_lt _ (by omega)
            have hmod : ((j : Int) + (T : Int)) % (K : Int) = (jj : Int) := by rw [← hjj]; push_cast; rfl
            obtain ⟨gx, cx, mx, px, hvx, hmx, _, hpx, x0, x1, x2⟩ := told_at (w0 := w) HL5.out.1 HL5.out.2 jj (by rw [sentL_len]; exact hjjl)
            obtain ⟨gy, cy, my, py, hvy, hmy, _, hpy, y0, y1, y2⟩ := told_at (w0 := w) HW5.out.1 HW5.out.2 j (by rw [hll]; exact hjl)
            have hkk : k = T := by have := HEX.out; omega
            have hxy : my = mx := by
              rw [rotN_at _ _ _ (by rw [sentL_len]; exact hjl), sentL_len, hkk, Nat.add_comm, hjj, hmx] at hmy
              exact (Option.some.inj hmy).symm
            subst hxy
            simp only [Value.slice.injEq] at hvx hvy
            obtain ⟨rfl, hq1, rfl⟩ := hvx
            obtain ⟨rfl, hq2, rfl⟩ := hvy
            have bA : Below wr.heap.size wr (wr.alloc (.cells #[.int .i64 my.src, .int .i64 my.dst, .slice px.a px.len px.cap] 33)) := (Below.refl _ _).alloc (Nat.le_refl _) _
            have bX : Below w5.heap.size w5 (wr.alloc (.cells #[.int .i64 my.src, .int .i64 my.dst, .slice px.a px.len px.cap] 33)) := hBx.trans (bA.mono hBx.size)
            have t1 := tri (show (wr.alloc (.cells #[.int .i64 my.src, .int .i64 my.dst, .slice px.a px.len px.cap] 33)).heap[wr.heap.size]? = some (.cells #[.int .i64 my.src, .int .i64 my.dst, .slice px.a px.len px.cap] 33 (0, 0)) from heap_alloc_new _ _)
            have u0 := (hBx.cell (World.block_lt_of_cell? w5 _ x0)).trans x0
            have u1 := (hBx.cell (World.block_lt_of_cell? w5 _ x1)).trans x1
            have u2 := (hBx.cell (World.block_lt_of_cell? w5 _ x2)).trans x2
            have v0 := (bX.cell (World.block_lt_of_cell? w5 _ y0)).trans y0
            have v1 := (bX.cell (World.block_lt_of_cell? w5 _ y1)).trans y1
            have v2 := (bX.cell (World.block_lt_of_cell? w5 _ y2)).trans y2
            have cx := fun q => conv_own (pown_drewN (hpx.own.same (fun g cur hg => bX.block g (block_lt hg))) q)
            have cy := fun q => conv_own (pown_drewN (hpy.own.same (fun g cur hg => bX.block g (block_lt hg))) q)
            obtain ⟨_, t10, t11, t12, _, _, _⟩ := t1
            have BX := Lib.hid bX
            have CX := Lib.hid cx
            have CY := Lib.hid cy
            have TT := Lib.hid (And.intro t10 (And.intro t11 (And.intro t12 (And.intro v0 (And.intro v1 v2)))))
            clear hBx bA bX x0 x1 x2 y0 y1 y2 hpx hpy hmx hmy hkk hjj hq1 hq2 hll cx cy t10 t11 t12 v0 v1 v2
            go_wp2_with fail
            generalize wr.alloc (.cells #[.int .i64 my.src, .int .i64 my.dst, .slice px.a px.len px.cap] 33) = wA at *
            obtain ⟨t10, t11, t12, v0, v1, v2⟩ := TT.out
            have cx := CX.out
            have cy := CY.out
            clear TT CX CY
            go_quiet (fail)
            have BQ := Lib.hid (below_drewN BX.out nq)
            go_wp2_with fail
            go_roundw
            case rel => exact ⟨j + 1, by omega, by go_num, BQ.out⟩
            case measure => simp [intOf]; omega
          · obtain rfl : j = K := by omega
            have hN6 : Net wr w.heap.size b1 3 (rotN k (sentL j)) (fun _ => []) := ⟨vw, HN5.out.kept hBx⟩
            have HB6 := Lib.hid (HB5.out.trans (hBx.mono HB5.out.size))
            have HO6 := Lib.hid (n_out hN6 j (by omega) 16 (by simp))
            clear hN6 hBx hll
            go_wp2_with fail
            refine HO6.out.mono ?_
            rintro e w7 ⟨rfl, _, hB7⟩
            go_wp2_with fail
            refine (works_any w7).mono ?_
            rintro e w8 ⟨rfl, hB8⟩
            go_wp2_with fail
            go_ret
            exact ⟨rfl, HB6.out.trans ((hB7.trans (hB8.mono hB7.size)).mono HB6.out.size)⟩
end Go.Proofs.Ytambdhoeakddhaa
