/- A range over a method value ('for x := range w.gone'): the kit's laws take a function value that holds nothing ahead of its arguments; a method value holds its receiver there. The law is proved here for values with such bound arguments, at an outermost loop. -/
import Derived.RangeFuncNested
import Derived.RangeFuncBound
import Derived.RangeFuncCalls
import Derived.RangeFuncLeaves
import Derived.RangeFuncBox
import Derived.WalkKit
namespace Go.Proofs.Ytpiolgpfhplhcaa
open Go Go.RowKit
set_option linter.unusedVariables false

/-- What an iterator with bound arguments promises: as the kit's 'SeqStopsK', its first arguments named. -/
def SeqM {α : Type} (F : Fence) (n : Nat) (P : Program) (gf : Nat) (fs : Array Value) (encs : α → Array Value) (n₀ : Nat) (S Sp : List α → Prop) (N : Nat) (w : World) : Prop :=
  ∀ (l : Nat) (J Jx : List α → World → Prop) (W : World), Below w.heap.size w W → AbidesFrom W.heap.size J → AbidesFrom W.heap.size Jx →
    (∀ pre x W1, J pre W1 → pre.length < N → YieldAt F (n - 1) P l (encs x) W1 fun e W' =>
      (e = .returned (.bool true) ∧ J (pre ++ [x]) W' ∧ Below n₀ W1 W') ∨ (e = .returned (.bool false) ∧ Jx (pre ++ [x]) W')) →
    J [] W →
    CallsIn F n P gf (fs ++ #[.func (.yield l) #[] #[]]) W fun e W' => (∃ v, e = .returned v) ∧ ((∃ xs, S xs ∧ J xs W') ∨ (∃ pre, Sp pre ∧ Jx pre W'))

/-- The loop's own two blocks. -/
structure Blocks (mk : LoopState → Option Code → Loop) (l D : Nat) (st : LoopState) (pe : Option Code) (W : World) : Prop where
  lp : W.heap[l]? = some (.loop (mk st pe))
  shut : W.heap[D]? = some (.deferred (some []))

theorem Blocks.keeps {mk : LoopState → Option Code → Loop} {l D : Nat} {st : LoopState} {pe : Option Code} {W W' : World} (h : Blocks mk l D st pe W) (k : KeepsOthers W W') : Blocks mk l D st pe W' :=
  ⟨k.same _ _ h.lp rfl, k.same _ _ h.shut rfl⟩
theorem Blocks.lt {mk : LoopState → Option Code → Loop} {l D : Nat} {st : LoopState} {pe : Option Code} {W : World} (h : Blocks mk l D st pe W) : l < W.heap.size := (Array.getElem?_eq_some_iff.1 h.lp).1
theorem Blocks.turn {mk : LoopState → Option Code → Loop} {l D : Nat} {st st' : LoopState} {pe pe' : Option Code} {W : World} (h : Blocks mk l D st pe W) (hne : D ≠ l) : Blocks mk l D st' pe' (W.putObj l (.loop (mk st' pe'))) :=
  ⟨World.putObj_heap_same h.lt, (World.putObj_heap_other hne).trans h.shut⟩
theorem Blocks.step {mk : LoopState → Option Code → Loop} {l D : Nat} {st : LoopState} {pe : Option Code} {A B : World} {row : Option Nat} (h : Blocks mk l D st pe A) (hg : A.grownBy B row)
    (hr : ∀ r, row = some r → ∃ o : Obj, A.heap[r]? = some o ∧ o.isWalk = true) : Blocks mk l D st pe B :=
  ⟨(grownBy_keeps hg hr h.lp rfl).trans h.lp, (grownBy_keeps hg hr h.shut rfl).trans h.shut⟩

theorem wpIn_range_bound {α : Type} {F : Fence} {n : Nat} {P : Program} {g : Operand} {ps : Array Tmp} {assign body : Code} {Q : Exit → Act → World → Prop} {a : Act} {w : World}
    (hro : F.round = none) (h1 : 1 ≤ n) {gf : Nat} {fs : Array Value} (hg : a.eval g = .func (.func gf) fs #[]) (hFg : F.fn gf) (eg : ∀ args w, (callFunc gf args).run P w = .ok (.enter gf args) w)
    {encs : α → Array Value} {n₀ : Nat} {S Sp : List α → Prop} {N : Nat} (hn : n₀ ≤ w.heap.size) (hseq : SeqM F (n - 1) P gf fs encs n₀ S Sp N w) (hps : ∀ x, (encs x).size = ps.size)
    (I : List α → World → Prop) (Ix : Code → List α → World → Prop) (hI : OwnFrom w.heap.size I) (hIx : ∀ c, OwnFrom w.heap.size (Ix c)) (h0 : I [] w) (a₁ : α → Act)
    (hassign : ∀ (l : Nat) (x : α) (W : World) (K : Act → World → Prop), K (a₁ x) W →
      assign.wpIn (F.inRound l) (n - 1 - 1) P (Exit.then K (fun _ _ _ => False)) { tmps := (ps.zip (encs x)).foldl (fun t (p, v) => t.setIfInBounds p v) a.tmps, defers := [] } W)
    (hbody : ∀ (l : Nat) (pre : List α) (x : α) (W : World), I pre W → pre.length < N → body.wpIn (F.inRound l) (n - 1 - 1) P (ownPostK (Below n₀) I Ix (pre ++ [x]) W) (a₁ x) W)
    (hdone : ∀ (D : Nat) (xs : List α) (W : World), w.heap.size ≤ D → S xs → I xs W → W.heap[D]? = some (.deferred (some [])) → Q .normal { a with defers := { target := .collected D, args := #[] } :: a.defers } W)
    (hstop : ∀ (D : Nat) (c : Code) (pre : List α) (W : World), w.heap.size ≤ D → Sp pre → Ix c pre W → W.heap[D]? = some (.deferred (some [])) → c.wpIn F n P Q { a with defers := { target := .collected D, args := #[] } :: a.defers } W) :
    (Code.rangeFunc g ps assign body).wpIn F n P Q a w := by
  refine wpIn_rangeFunc fun fn hfn => ?_
  rw [hro]
  generalize hmk : (fun (st : LoopState) (pe : Option Code) => ({ state := st, pending := pe, fn, tmps := a.tmps, params := ps, assign, body, defers := w.heap.size } : Loop)) = mk
  have hrdy : ({ state := .ready, pending := none, fn, tmps := a.tmps, params := ps, assign, body, defers := w.heap.size } : Loop) = mk .ready none := by rw [← hmk]
  have f1 : ∀ st pe, (mk st pe).state = st := fun st pe => by rw [← hmk]
  have f2 : ∀ st pe, (mk st pe).pending = pe := fun st pe => by rw [← hmk]
  have f3 : ∀ st pe, (mk st pe).params = ps := fun st pe => by rw [← hmk]
  have f4 : ∀ st pe st', { mk st pe with state := st' } = mk st' pe := fun st pe st' => by rw [← hmk]
  have f5 : ∀ st pe st' pe', { mk st pe with state := st', pending := pe' } = mk st' pe' := fun st pe st' pe' => by rw [← hmk]
  have f6 : ∀ st pe, (mk st pe).fn = fn ∧ (mk st pe).tmps = a.tmps ∧ (mk st pe).assign = assign ∧ (mk st pe).body = body := fun st pe => by rw [← hmk]; exact ⟨rfl, rfl, rfl, rfl⟩
  generalize hW1 : (w.alloc (.deferred (some []))).alloc (.loop (mk .ready none)) = W1
  have hs1 : W1.heap.size = w.heap.size + 2 := by rw [← hW1]; simp
  have hB1 : Blocks mk (w.heap.size + 1) w.heap.size .ready none W1 := by
    rw [← hW1]
    refine ⟨?_, (Below.heap_alloc _ _ _ (by simp)).trans (World.alloc_heap_new w _)⟩
    have := World.alloc_heap_new (w.alloc (.deferred (some []))) (.loop (mk .ready none))
    rwa [World.size_alloc] at this
  have hI1 : I [] W1 := by rw [← hW1]; exact hI.alloc _ (hI.alloc _ h0)
  have hb1 : Below w.heap.size w W1 := by rw [← hW1]; exact ((Below.refl _ w).alloc (Nat.le_refl _) _).alloc (by simp) _
  have hbl : ∀ (W : World) (o : Obj), w.heap.size + 1 < W.heap.size → Below n₀ W (W.putObj (w.heap.size + 1) o) := fun W o h =>
    (Below.refl n₀ W).grown (grownBy_putObj' W _ o) (by omega) (fun k e => by cases e; omega)
  clear hmk
  refine ⟨w.heap.size + 1, [{ target := .collected w.heap.size, args := #[] }], W1, { target := .fn (.func gf) #[], args := fs ++ #[.func (.yield (w.heap.size + 1)) #[] #[]] }, W1, gf,
    fs ++ #[.func (.yield (w.heap.size + 1)) #[] #[]], W1, ?_, ?_, ?_, ?_, fun _ => h1, ?_⟩
  · rw [← hW1, ← hrdy]; exact run_enterLoop_outer _ _ _ _ _
  · simp only [resolve, hg]
    simp [go_sem]
  · intro f' hf'; simp [Target.leads] at hf'; subst hf'; exact hFg
  · simp [invoke, go_sem, eg]
  · have hwide : ∀ {A B : World} {row : Option Nat}, (∀ r, row = some r → W1.heap.size ≤ r ∧ ∃ o : Obj, A.heap[r]? = some o ∧ o.isWalk = true) → (∀ r, row = some r → w.heap.size ≤ r ∧ ∃ o : Obj, A.heap[r]? = some o ∧ o.isCells = false) :=
      fun hr r e => by obtain ⟨hB, o, ho, hw⟩ := hr r e; exact ⟨by omega, o, ho, Obj.not_cells_of_walk hw⟩
    refine (hseq (w.heap.size + 1) (fun pre W => I pre W ∧ Blocks mk (w.heap.size + 1) w.heap.size .ready none W) (fun pre W => ∃ c, Ix c pre W ∧ Blocks mk (w.heap.size + 1) w.heap.size .done (some c) W) W1 hb1
      (fun s A B row hs hg' hr => ⟨hI s A B row hs.1 hg' (hwide (B := B) hr), hs.2.step hg' (fun r e => (hr r e).2)⟩)
      (fun s A B row ⟨c, hc, hb⟩ hg' hr => ⟨c, hIx c s A B row hc hg' (hwide (B := B) hr), hb.step hg' (fun r e => (hr r e).2)⟩) ?_ ⟨hI1, hB1⟩).mono ?_
    · rintro pre x W ⟨hi, hb⟩ hlen
      have hy := run_yield (P := P) (args := encs x) hb.lp (by rw [f3]; exact hps x)
      rw [f3, (f6 _ _).1, (f6 _ _).2.1, (f6 _ _).2.2.1, (f6 _ _).2.2.2] at hy
      have hbeg := run_beginRound (P := P) hb.lp (f1 _ _)
      rw [f4] at hbeg
      have hb2 : Blocks mk (w.heap.size + 1) w.heap.size .busy none (W.putObj (w.heap.size + 1) (.loop (mk .busy none))) := hb.turn (by omega)
      have hbe2 := hbl W (.loop (mk .busy none)) hb.lt
      refine ⟨fn, _, assign, body, hy, roundIn_of_wpIn hfn (hassign _ x W _ ⟨_, hbeg, ?_⟩)⟩
      refine wpIn_mono (hbody _ pre x _ (hI.putObj _ hi (by omega) hb.lp rfl) hlen) ?_
      generalize W.putObj (w.heap.size + 1) (.loop (mk .busy none)) = W2 at *
      have fin : ∀ (jump : Option Code) (W3 : World), KeepsOthers W2 W3 → Blocks mk (w.heap.size + 1) w.heap.size .busy none W3 ∧
          (Instr.endRound (w.heap.size + 1) jump).run P W3 = .ok (.bool jump.isNone) (W3.putObj (w.heap.size + 1) (.loop (mk (if jump.isNone then .ready else .done) jump))) := fun jump W3 hk => by
        have hb3 := hb2.keeps hk
        have := run_endRound (P := P) jump hb3.lp
        rw [f5] at this
        exact ⟨hb3, this⟩
      rintro e a3 W3 hp
      cases e with
      | normal =>
        obtain ⟨hk3, hbel3, hi3⟩ := hp
        obtain ⟨hb3, hr⟩ := fin none W3 hk3
        exact ⟨_, _, hr, .inl ⟨rfl, ⟨hI.putObj _ hi3 (by omega) hb3.lp rfl, hb3.turn (by omega)⟩, (hbe2.trans hbel3).trans (hbl W3 _ hb3.lt)⟩⟩
      | ret =>
        obtain ⟨hk3, hi3⟩ := hp
        obtain ⟨hb3, hr⟩ := fin (some .ret) W3 hk3
        exact ⟨_, _, hr, .inr ⟨rfl, .ret, (hIx _).putObj _ hi3 (by omega) hb3.lp rfl, hb3.turn (by omega)⟩⟩
      | exit id =>
        obtain ⟨hk3, hi3⟩ := hp
        obtain ⟨hb3, hr⟩ := fin (some (.exit id)) W3 hk3
        exact ⟨_, _, hr, .inr ⟨rfl, .exit id, (hIx _).putObj _ hi3 (by omega) hb3.lp rfl, hb3.turn (by omega)⟩⟩
      | goto t =>
        obtain ⟨hk3, hi3⟩ := hp
        obtain ⟨hb3, hr⟩ := fin (some (.goto t)) W3 hk3
        exact ⟨_, _, hr, .inr ⟨rfl, .goto t, (hIx _).putObj _ hi3 (by omega) hb3.lp rfl, hb3.turn (by omega)⟩⟩
      | panic ch => exact hp.elim
      | outgrown => exact hp.elim
    · rintro e W2 ⟨⟨v, rfl⟩, (⟨xs, hS, hi, hb⟩ | ⟨pre, hSp, c, hi, hb⟩)⟩
      · have he := run_endLoop (P := P) hb.lp (by rw [f1]; simp)
        rw [f4, f2] at he
        exact ⟨none, _, he, hdone _ xs _ (Nat.le_refl _) hS (hI.putObj _ hi (by omega) hb.lp rfl) ((World.putObj_heap_other (by omega)).trans hb.shut)⟩
      · have he := run_endLoop (P := P) hb.lp (by rw [f1]; simp)
        rw [f4, f2] at he
        exact ⟨some c, _, he, hstop _ c pre _ (Nat.le_refl _) hSp ((hIx c).putObj _ hi (by omega) hb.lp rfl) ((World.putObj_heap_other (by omega)).trans hb.shut)⟩
end Go.Proofs.Ytpiolgpfhplhcaa
