/- The walk over NetAlone. -/
import Derived.Test.YtambdhoeakddhaaWalkT
namespace Go.Proofs.Ytambdhoeakddhaa
open Go Go.RowKit Go.Conc
set_option linter.unusedVariables false

theorem qAt_setQ {n : Nat} {box : Nat → List Msg} {x y : Int} {l : List Msg} : qAt n (setQ box x l) y = if y = x ∧ 0 ≤ y ∧ y < n then l else qAt n box y := by
  unfold qAt setQ
  by_cases h : 0 ≤ y ∧ y < n
  · rw [if_pos h, if_pos h]
    by_cases e : y = x
    · rw [if_pos (by omega), if_pos ⟨e, h⟩]
    · rw [if_neg (by omega), if_neg (by omega)]
  · rw [if_neg h, if_neg h, if_neg (by omega)]
theorem setQ_setQ (box : Nat → List Msg) (x : Int) (l l' : List Msg) : setQ (setQ box x l) x l' = setQ box x l' := by
  funext i; unfold setQ; split <;> rfl
theorem last_split {α : Type} (l : List α) (h : l ≠ []) : ∃ l1 m, l = l1 ++ m :: [] ∧ l1.length + 1 = l.length :=
  ⟨l.dropLast, l.getLast h, by rw [List.dropLast_concat_getLast], by rw [List.length_dropLast]; have := List.length_pos_iff.2 h; omega⟩

theorem Net.cong {w : World} {B b n : Nat} {way : List Msg} {box box' : Nat → List Msg} (h : Net w B b n way box) (e : ∀ j, j < n → box j = box' j) : Net w B b n way box' := by
  obtain ⟨vw, ⟨ps, bx, cap, cs, bufs, h1, h2, h3⟩, hlen, hto, hB⟩ := h
  exact ⟨vw, ⟨ps, bx, cap, cs, bufs, h1, h2, fun j hj => by rw [← e j hj]; exact h3 j hj⟩, hlen, hto, hB⟩
theorem setQ_self {n : Nat} {box : Nat → List Msg} {x : Int} (j : Nat) (hj : j < n) : box j = setQ box x (qAt n box x) j := by
  unfold setQ qAt
  by_cases e : (j : Int) = x
  · rw [if_pos e, if_pos (by omega), ← e]; simp
  · rw [if_neg e]

/-- The three lengths, as they lie in memory. -/
theorem three_at {w : World} {t : Nat} {x : Nat → Nat} (h : w.heap[t]? = some (.cells #[.int .i64 (x 0), .int .i64 (x 1), .int .i64 (x 2)] 30 (0, 0))) (k : Nat) (hk : k < 3) : w.cell? ⟨t, k, none⟩ = some (.int .i64 (x k)) := by
  rw [cell_of_row w t k _ 30 (0, 0) h]
  rcases k with _ | _ | _ | k
  · rfl
  · rfl
  · rfl
  · omega

/-- What waits at last: at the end that was received from, or cleared, and at the others. -/
def leftLen (c : Bool) (O : Nat) (x : Int) (L : Nat → Nat) (j : Nat) : Nat := if (j : Int) = x then (if c then 0 else L j - O) else L j
theorem left_false (box : Nat → List Msg) (x : Int) (O : Nat) (j : Nat) (hj : j < 3) : (qAt 3 (setQ box x ((qAt 3 box x).drop O)) j).length = leftLen false O x (fun i => (qAt 3 box i).length) j := by
  rw [qAt_setQ]; unfold leftLen
  by_cases e : (j : Int) = x
  · rw [if_pos ⟨e, by omega, by omega⟩, if_pos e, ← e, List.length_drop]; rfl
  · rw [if_neg (by omega), if_neg e]
theorem left_true (box : Nat → List Msg) (x : Int) (O : Nat) (l : List Msg) (j : Nat) (hj : j < 3) : (qAt 3 (setQ (setQ box x l) x []) j).length = leftLen true O x (fun i => (qAt 3 box i).length) j := by
  rw [setQ_setQ, qAt_setQ]; unfold leftLen
  by_cases e : (j : Int) = x
  · rw [if_pos ⟨e, by omega, by omega⟩, if_pos e]; rfl
  · rw [if_neg (by omega), if_neg e]

set_option maxRecDepth 8000 in
set_option maxHeartbeats 1000000 in
theorem alone_any (w : World) (a0 a1 a2 a3 : Int) (a4 : Bool) (h00 : 0 ≤ a0) (h01 : a0 < 256) (h10 : 0 ≤ a1) (h11 : a1 < 256) (h30 : 0 ≤ a3) (h31 : a3 < 256) :
    Calls Try.prog 3 #[.int .u8 a0, .int .u8 a1, .int .i64 a2, .int .u8 a3, .bool a4] w fun e w' => e = .returned (.bool true) ∧ Below w.heap.size w w' := by
  obtain ⟨K, hK⟩ : ∃ k : Nat, a0 % 101 = k := ⟨(a0 % 101).toNat, by omega⟩
  obtain ⟨D, hD⟩ : ∃ k : Nat, a1 % 60 = k := ⟨(a1 % 60).toNat, by omega⟩
  obtain ⟨O, rfl⟩ : ∃ k : Nat, a3 = k := ⟨a3.toNat, by omega⟩
  have hK2 : K ≤ 100 := by omega
  have hD2 : D < 60 := by omega
  go_enter Try.func3, Try.ntmps3
  go_wp2_with fail
  refine (sent_any w K hK2).mono ?_
  rintro e w1 ⟨b, rfl, hN, hB⟩
  have HN := Lib.hid hN
  have HB := Lib.hid hB
  clear hN hB
  clear hK h00 h01
  go_wp2_with fail
  go_loopw [12] (fun i wr => ∃ (k : Nat) (way : List Msg) (box : Nat → List Msg), k ≤ D ∧ i = .int .i64 k ∧ Net wr w.heap.size b 3 way box ∧ Below w.heap.size w wr)
    (fun i _ => D - (intOf i).toNat)
  case atStart => exact ⟨0, _, _, by omega, rfl, HN.out, HB.out⟩
  case round =>
    clear HN HB
    obtain ⟨k, way, box, hk, rfl, hN, hBw⟩ := hrel
    have HN := Lib.hid hN
    have HB := Lib.hid hBw
    clear hN hBw
    by_cases hlt : k < D
    · have k0 : (0 : Int) ≤ (k : Int) := by omega
      have k1 : (k : Int) < (D : Int) := by omega
      go_wp2_with fail
      refine (n_way HN.out).mono ?_
      rintro e w2 ⟨v, qs, rfl, hown, hr, hB2⟩
      obtain ⟨a, c, rfl⟩ := told_slice hown hr
      have HN2 := Lib.hid (HN.out.kept hB2)
      have HB2 := Lib.hid (HB.out.trans (hB2.mono HB.out.size))
      have hl := HN.out.len
      clear hown hr hB2
      go_wp2_with fail
      by_cases hne : way = []
      · subst hne
        have e0 : ((([] : List Msg).length : Nat) : Int) - 1 = -1 := rfl
        rw [e0]
        refine (n_out HN2.out (-1) (by omega) 9 (.inl rfl)).mono ?_
        rintro e w3 ⟨rfl, hN3, hB3⟩
        have FIN := Lib.hid (And.intro hN3 (HB2.out.trans (hB3.mono HB2.out.size)))
        clear hN3 hB3
        go_wp2_with fail
        go_roundw
        case rel => exact ⟨k + 1, _, _, by omega, by go_num, FIN.out⟩
        case measure => simp [intOf]; omega
      · obtain ⟨l1, m, rfl, hl1⟩ := last_split way hne
        have hcast : (((l1 ++ [m]).length : Nat) : Int) - 1 = (l1.length : Nat) := by omega
        rw [hcast]
        refine (n_deliver HN2.out).mono ?_
        rintro e w3 ⟨rfl, hN3, hM3⟩
        have FIN := Lib.hid (And.intro hN3 (HB2.out.trans hM3.bel))
        clear hN3 hM3 hcast hne hl hl1
        go_wp2_with fail
        go_roundw
        case rel => exact ⟨k + 1, _, _, by omega, by go_num, FIN.out⟩
        case measure => simp [intOf]; omega
    · obtain rfl : k = D := by omega
      go_wp2_with fail
      refine (row_any HN.out).mono ?_
      rintro e w2 ⟨rfl, hB2⟩
      have HN2 := Lib.hid (HN.out.kept hB2)
      have HB2 := Lib.hid (HB.out.trans (hB2.mono HB.out.size))
      clear hB2 HN HB hlt hD h10 h11 hk hD2
      go_wp2_with fail
      refine (n_waits HN2.out 0).mono ?_
      rintro e w2 ⟨rfl, rfl⟩
      go_wp2_with fail
      refine (n_waits HN2.out 1).mono ?_
      rintro e w2 ⟨rfl, rfl⟩
      go_wp2_with fail
      refine (n_waits HN2.out 2).mono ?_
      rintro e w2 ⟨rfl, rfl⟩
      have q0 := HN2.out.few_q 0
      have q1 := HN2.out.few_q 1
      have q2 := HN2.out.few_q 2
      go_wp2_with fail
      obtain ⟨Q, hQ⟩ : ∃ Q, qAt 3 box a2 = Q := ⟨_, rfl⟩
      have hq3 := HN2.out.few_q a2
      rw [hQ] at hq3
      have bA : Below w2.heap.size w2 (w2.alloc (.cells #[.int .i64 ((qAt 3 box 0).length : Nat), .int .i64 ((qAt 3 box 1).length : Nat), .int .i64 ((qAt 3 box 2).length : Nat)] 30)) := (Below.refl _ _).alloc (Nat.le_refl _) _
      have hblk := heap_alloc_new w2 (.cells #[.int .i64 ((qAt 3 box 0).length : Nat), .int .i64 ((qAt 3 box 1).length : Nat), .int .i64 ((qAt 3 box 2).length : Nat)] 30)
      have HN3 := Lib.hid ((HN2.out.kept bA).cong (box' := setQ box a2 Q) fun j hj => by rw [← hQ]; exact setQ_self j hj)
      have HB3 := Lib.hid (HB2.out.trans (bA.mono HB2.out.size))
      have HQ := Lib.hid hQ
      clear bA HN2 HB2 hQ
      generalize w2.alloc (.cells #[.int .i64 ((qAt 3 box 0).length : Nat), .int .i64 ((qAt 3 box 1).length : Nat), .int .i64 ((qAt 3 box 2).length : Nat)] 30) = w3 at *
      generalize w2.heap.size = t at *
      go_loopw [15, 16] (fun got i wr => ∃ (k : Nat), k ≤ O ∧ i = .int .i64 k ∧ got = .int .i64 ((min k Q.length : Nat) : Int) ∧ Net wr w.heap.size b 3 way (setQ box a2 (Q.drop k)) ∧ wr.heap[t]? = some (.cells #[.int .i64 ((qAt 3 box 0).length : Nat), .int .i64 ((qAt 3 box 1).length : Nat), .int .i64 ((qAt 3 box 2).length : Nat)] 30 (0, 0)) ∧ Below w.heap.size w wr)
        (fun _ i _ => O - (intOf i).toNat)
      case atStart => exact ⟨0, by omega, rfl, by simp, by simpa using HN3.out, hblk, HB3.out⟩
      case round =>
        clear HN3 HB3 hblk
        obtain ⟨k', hk, rfl, rfl, hN, hblk, hBw⟩ := hrel
        have HN := Lib.hid hN
        have HB := Lib.hid hBw
        have HT := Lib.hid hblk
        clear hN hBw hblk
        by_cases hlt : k' < O
        · have k0 : (0 : Int) ≤ (k' : Int) := by omega
          have k1 : (k' : Int) < (O : Int) := by omega
          by_cases hq : k' < Q.length
          · have hd : Q.drop k' = Q[k'] :: Q.drop (k' + 1) := List.drop_eq_getElem_cons hq
            have hin : 0 ≤ a2 ∧ a2 < (3 : Nat) := by
              rcases Classical.em (0 ≤ a2 ∧ a2 < (3 : Nat)) with h | h
              · exact h
              · have := HQ.out; unfold qAt at this; rw [if_neg h] at this; subst this; simp at hq
            have hqq : qAt 3 (setQ box a2 (Q.drop k')) a2 = Q[k'] :: Q.drop (k' + 1) := by
              rw [qAt_setQ, if_pos ⟨rfl, hin⟩, hd]
            have HR := Lib.hid (n_receive_one HN.out a2 _ _ hqq)
            have hm1 : min k' Q.length = k' := by omega
            have hm2 : min (k' + 1) Q.length = k' + 1 := by omega
            have HM := Lib.hid (And.intro hm1 hm2)
            clear hd hin hqq hm1 hm2
            rw [HM.out.1]
            go_wp2_with fail
            refine HR.out.mono ?_
            rintro e w4 ⟨p, rfl, hp, hN4, hM4⟩
            rw [setQ_setQ] at hN4
            have hT4 := (hM4.keeps t _ HT.out rfl).trans HT.out
            have bA : Below w4.heap.size w4 (w4.alloc (.cells #[.int .i64 p.src, .int .i64 p.dst, .slice p.a p.len p.cap] 33)) := (Below.refl _ _).alloc (Nat.le_refl _) _
            have FIN := Lib.hid (And.intro (hN4.kept bA) (And.intro ((bA.block t (block_lt hT4)).trans hT4) (HB.out.trans (hM4.bel.trans (bA.mono hN4.base)))))
            clear hp hN4 hM4 hT4 bA
            unfold pagg
            go_wp2_with fail
            go_roundw
            case rel => exact ⟨k' + 1, by omega, by go_num, by rw [HM.out.2]; go_num, FIN.out⟩
            case measure => simp [intOf]; omega
          · have hd : Q.drop k' = [] := List.drop_of_length_le (by omega)
            have hd' : Q.drop (k' + 1) = [] := List.drop_of_length_le (by omega)
            have hqq : qAt 3 (setQ box a2 (Q.drop k')) a2 = [] := by
              rw [qAt_setQ, hd]; split
              · rfl
              · have := HQ.out; rw [this]; rename_i h; unfold qAt at this; rw [if_neg (by omega)] at this; exact this.symm
            have hN' := HN.out
            rw [hd, ← hd'] at hN'
            have HN' := Lib.hid hN'
            have hqq' : qAt 3 (setQ box a2 (Q.drop (k' + 1))) a2 = [] := by rw [hd']; rw [hd] at hqq; exact hqq
            have HR := Lib.hid (n_receive_none HN'.out a2 hqq')
            have hm2 : min (k' + 1) Q.length = min k' Q.length := by omega
            have HM := Lib.hid hm2
            clear hd hd' hqq hm2 hN' hqq'
            generalize hmm : min k' Q.length = g at *
            clear hmm
            unfold nobody at HR
            go_wp2_with fail
            refine HR.out.mono ?_
            rintro e w4 ⟨rfl, hN4, hB4⟩
            have bA : Below w4.heap.size w4 (w4.alloc (.cells #[.int .i64 0, .int .i64 0, .slice none 0 0] 33)) := (Below.refl _ _).alloc (Nat.le_refl _) _
            have BB := hB4.trans (bA.mono hB4.size)
            have FIN := Lib.hid (And.intro (hN4.kept bA) (And.intro ((BB.block t (block_lt HT.out)).trans HT.out) (HB.out.trans (BB.mono HB.out.size))))
            clear hN4 hB4 bA BB
            go_wp2_with fail
            go_roundw
            case rel => exact ⟨k' + 1, by omega, by go_num, by rw [HM.out], FIN.out⟩
            case measure => simp [intOf]; omega
        · obtain rfl : k' = O := by omega
          clear hlt hk hK2
          have hQL := HQ.out
          have HQL := Lib.hid (congrArg List.length hQL)
          clear hQL
          cases a4
          · have hl := fun j hj => left_false box a2 k' j hj
            rw [HQ.out] at hl
            have HF := Lib.hid (And.intro HN.out (And.intro HT.out (And.intro HB.out hl)))
            clear hl HN HT HB
            generalize setQ box a2 (Q.drop k') = boxF at *
            go_wp2_with fail
            refine (row_any HF.out.1).mono ?_
            rintro e wF ⟨rfl, hBF⟩
            have HNF := Lib.hid (HF.out.1.kept hBF)
            have HTF := Lib.hid ((hBF.block t (block_lt HF.out.2.1)).trans HF.out.2.1)
            have HBF := Lib.hid (HF.out.2.2.1.trans (hBF.mono HF.out.1.base))
            have HLF := Lib.hid HF.out.2.2.2
            clear HF hBF
            go_wp2_with fail
            go_loopw [19] (fun i wr => ∃ (c : Nat), c ≤ 3 ∧ i = .int .i64 c ∧ wr = wF)
              (fun i _ => 3 - (intOf i).toNat)
            case atStart => exact ⟨0, by omega, rfl, rfl⟩
            case round =>
              obtain ⟨c, hc, rfl, rfl⟩ := hrel
              by_cases hlt : c < 3
              · have c0 : (0 : Int) ≤ (c : Int) := by omega
                have c1 : (c : Int) < 3 := by omega
                have hcell := three_at (x := fun i => (qAt 3 box i).length) HTF.out c hlt
                have hw := n_waits HNF.out c
                have hl := HLF.out c hlt
                rw [hl] at hw
                have hf : (qAt 3 box c).length ≤ 32 := by
                  rcases c with _ | _ | _ | c
                  · exact q0
                  · exact q1
                  · exact q2
                  · omega
                by_cases he : (c : Int) = a2
                · have hd : ((c : Int) == a2) = true := by simpa using he
                  have hg : Q.length = (qAt 3 box c).length := by rw [← HQL.out, he]
                  unfold leftLen at hw
                  rw [if_pos he, if_neg (by decide)] at hw
                  have HW := Lib.hid hw
                  clear hw hl he
                  obtain ⟨L, hL⟩ : ∃ L, (qAt 3 box c).length = L := ⟨_, rfl⟩
                  simp only [hL] at hcell hg hf HW
                  have hmx : max 0 ((L : Int) - (k' : Int)) = ((L - k' : Nat) : Int) := by omega
                  rw [hg]
                  have hsb : (L : Int) - ((L - k' : Nat) : Int) = ((min k' L : Nat) : Int) := by omega
                  have hs1 : L - k' ≤ 32 := by omega
                  generalize L - k' = M at *
                  clear hL hg
                  go_wp2_with fail
                  refine HW.out.mono ?_
                  rintro e w' ⟨rfl, rfl⟩
                  go_wp2_with fail
                  go_roundw
                  case rel => exact ⟨c + 1, by omega, by go_num, by trivial⟩
                  case measure => simp [intOf]; omega
                · have hd : ((c : Int) == a2) = false := by simpa using he
                  unfold leftLen at hw
                  rw [if_neg he] at hw
                  have HW := Lib.hid hw
                  clear hw hl he
                  obtain ⟨L, hL⟩ : ∃ L, (qAt 3 box c).length = L := ⟨_, rfl⟩
                  simp only [hL] at hcell hf HW
                  clear hL
                  go_wp2_with fail
                  refine HW.out.mono ?_
                  rintro e w' ⟨rfl, rfl⟩
                  go_wp2_with fail
                  go_roundw
                  case rel => exact ⟨c + 1, by omega, by go_num, by trivial⟩
                  case measure => simp [intOf]; omega
              · obtain rfl : c = 3 := by omega
                by_cases hin : 0 ≤ a2 ∧ a2 < 3
                · have i1 := hin.1
                  have i2 := hin.2
                  clear hin
                  go_wp2_with fail
                  refine (works_any wr).mono ?_
                  rintro e w5 ⟨rfl, hB5⟩
                  go_wp2_with fail
                  go_ret
                  exact ⟨rfl, HBF.out.trans (hB5.mono HBF.out.size)⟩
                · have hq0 : Q.length = 0 := by
                    rw [← HQL.out]; unfold qAt; rw [if_neg (by omega)]; rfl
                  rw [hq0, Nat.min_zero]
                  by_cases i1 : a2 < 0
                  · clear hin hq0
                    go_wp2_with fail
                    refine (works_any wr).mono ?_
                    rintro e w5 ⟨rfl, hB5⟩
                    go_wp2_with fail
                    go_ret
                    exact ⟨rfl, HBF.out.trans (hB5.mono HBF.out.size)⟩
                  · have i2 : 3 ≤ a2 := by omega
                    clear hin hq0
                    go_wp2_with fail
                    refine (works_any wr).mono ?_
                    rintro e w5 ⟨rfl, hB5⟩
                    go_wp2_with fail
                    go_ret
                    exact ⟨rfl, HBF.out.trans (hB5.mono HBF.out.size)⟩
          · have hl := fun j hj => left_true box a2 k' (Q.drop k') j hj
            have HC := Lib.hid (n_clear HN.out a2)
            have HHL := Lib.hid hl
            clear hl
            go_wp2_with fail
            refine HC.out.mono ?_
            rintro e wc ⟨rfl, hN4, hM4⟩
            have HF := Lib.hid (And.intro hN4 (And.intro ((hM4.keeps t _ HT.out rfl).trans HT.out) (And.intro (HB.out.trans hM4.bel) HHL.out)))
            clear HHL HN HT HB HC hN4 hM4
            generalize setQ (setQ box a2 (Q.drop k')) a2 [] = boxF at *
            go_wp2_with fail
            refine (row_any HF.out.1).mono ?_
            rintro e wF ⟨rfl, hBF⟩
            have HNF := Lib.hid (HF.out.1.kept hBF)
            have HTF := Lib.hid ((hBF.block t (block_lt HF.out.2.1)).trans HF.out.2.1)
            have HBF := Lib.hid (HF.out.2.2.1.trans (hBF.mono HF.out.1.base))
            have HLF := Lib.hid HF.out.2.2.2
            clear HF hBF
            go_wp2_with fail
            go_loopw [19] (fun i wr => ∃ (c : Nat), c ≤ 3 ∧ i = .int .i64 c ∧ wr = wF)
              (fun i _ => 3 - (intOf i).toNat)
            case atStart => exact ⟨0, by omega, rfl, rfl⟩
            case round =>
              obtain ⟨c, hc, rfl, rfl⟩ := hrel
              by_cases hlt : c < 3
              · have c0 : (0 : Int) ≤ (c : Int) := by omega
                have c1 : (c : Int) < 3 := by omega
                have hcell := three_at (x := fun i => (qAt 3 box i).length) HTF.out c hlt
                have hw := n_waits HNF.out c
                have hl := HLF.out c hlt
                rw [hl] at hw
                have hf : (qAt 3 box c).length ≤ 32 := by
                  rcases c with _ | _ | _ | c
                  · exact q0
                  · exact q1
                  · exact q2
                  · omega
                by_cases he : (c : Int) = a2
                · have hd : ((c : Int) == a2) = true := by simpa using he
                  have hg : Q.length = (qAt 3 box c).length := by rw [← HQL.out, he]
                  unfold leftLen at hw
                  rw [if_pos he, if_pos rfl] at hw
                  have HW := Lib.hid hw
                  clear hw hl he
                  obtain ⟨L, hL⟩ : ∃ L, (qAt 3 box c).length = L := ⟨_, rfl⟩
                  simp only [hL] at hcell hg hf HW
                  have hmx : max 0 ((L : Int) - (k' : Int)) = ((L - k' : Nat) : Int) := by omega
                  rw [hg]
                  have hsb : (L : Int) - ((L - k' : Nat) : Int) = ((min k' L : Nat) : Int) := by omega
                  have hs1 : L - k' ≤ 32 := by omega
                  generalize L - k' = M at *
                  clear hL hg
                  go_wp2_with fail
                  refine HW.out.mono ?_
                  rintro e w' ⟨rfl, rfl⟩
                  go_wp2_with fail
                  go_roundw
                  case rel => exact ⟨c + 1, by omega, by go_num, by trivial⟩
                  case measure => simp [intOf]; omega
                · have hd : ((c : Int) == a2) = false := by simpa using he
                  unfold leftLen at hw
                  rw [if_neg he] at hw
                  have HW := Lib.hid hw
                  clear hw hl he
                  obtain ⟨L, hL⟩ : ∃ L, (qAt 3 box c).length = L := ⟨_, rfl⟩
                  simp only [hL] at hcell hf HW
                  clear hL
                  go_wp2_with fail
                  refine HW.out.mono ?_
                  rintro e w' ⟨rfl, rfl⟩
                  go_wp2_with fail
                  go_roundw
                  case rel => exact ⟨c + 1, by omega, by go_num, by trivial⟩
                  case measure => simp [intOf]; omega
              · obtain rfl : c = 3 := by omega
                by_cases hin : 0 ≤ a2 ∧ a2 < 3
                · have i1 := hin.1
                  have i2 := hin.2
                  clear hin
                  go_wp2_with fail
                  refine (works_any wr).mono ?_
                  rintro e w5 ⟨rfl, hB5⟩
                  go_wp2_with fail
                  go_ret
                  exact ⟨rfl, HBF.out.trans (hB5.mono HBF.out.size)⟩
                · have hq0 : Q.length = 0 := by
                    rw [← HQL.out]; unfold qAt; rw [if_neg (by omega)]; rfl
                  rw [hq0, Nat.min_zero]
                  by_cases i1 : a2 < 0
                  · clear hin hq0
                    go_wp2_with fail
                    refine (works_any wr).mono ?_
                    rintro e w5 ⟨rfl, hB5⟩
                    go_wp2_with fail
                    go_ret
                    exact ⟨rfl, HBF.out.trans (hB5.mono HBF.out.size)⟩
                  · have i2 : 3 ≤ a2 := by omega
                    clear hin hq0
                    go_wp2_with fail
                    refine (works_any wr).mono ?_
                    rintro e w5 ⟨rfl, hB5⟩
                    go_wp2_with fail
                    go_ret
                    exact ⟨rfl, HBF.out.trans (hB5.mono HBF.out.size)⟩
end Go.Proofs.Ytambdhoeakddhaa
