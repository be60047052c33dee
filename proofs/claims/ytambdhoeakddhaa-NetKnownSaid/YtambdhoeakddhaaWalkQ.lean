/- A net as rows of messages: what each call does to them. -/
import Derived.Test.YtambdhoeakddhaaWalkP
namespace Go.Proofs.Ytambdhoeakddhaa
open Go Go.RowKit Go.Conc
set_option linter.unusedVariables false

/-- A message: from, to, its bytes. -/
structure Msg where
  src : Int
  dst : Int
  xs : List Int
structure Is (w : World) (B : Nat) (p : PV) (m : Msg) : Prop where
  src : p.src = m.src
  dst : p.dst = m.dst
  own : POwn w B p.a p.len p.cap m.xs
def Rows (w : World) (B : Nat) : List PV → List Msg → Prop
  | [], [] => True
  | p :: ps, m :: ms => Is w B p m ∧ Rows w B ps ms
  | _, _ => False

section
variable {w w' : World} {B B' : Nat}
theorem Is.same {p : PV} {m : Msg} (h : Is w B p m) (hk : ∀ (g : Nat) (cur : Array Value), w.heap[g]? = some (Obj.cells cur 5 (0, 0)) → w'.heap[g]? = w.heap[g]?) : Is w' B p m := ⟨h.src, h.dst, h.own.same hk⟩
theorem Is.mono {p : PV} {m : Msg} (h : Is w B p m) (hB : B' ≤ B) : Is w B' p m := ⟨h.src, h.dst, ⟨h.own.1, h.own.2.mono hB⟩⟩
theorem Rows.len : ∀ {ps : List PV} {ms : List Msg}, Rows w B ps ms → ps.length = ms.length
  | [], [], _ => rfl
  | _ :: _, _ :: _, h => by simp [h.2.len]
  | [], _ :: _, h => h.elim
  | _ :: _, [], h => h.elim
theorem Rows.same : ∀ {ps : List PV} {ms : List Msg}, Rows w B ps ms → (∀ (g : Nat) (cur : Array Value), w.heap[g]? = some (Obj.cells cur 5 (0, 0)) → w'.heap[g]? = w.heap[g]?) → Rows w' B ps ms
  | [], [], _, _ => trivial
  | _ :: _, _ :: _, h, hk => ⟨h.1.same hk, h.2.same hk⟩
  | [], _ :: _, h, _ => h.elim
  | _ :: _, [], h, _ => h.elim
theorem Rows.mono (hB : B' ≤ B) : ∀ {ps : List PV} {ms : List Msg}, Rows w B ps ms → Rows w B' ps ms
  | [], [], _ => trivial
  | _ :: _, _ :: _, h => ⟨h.1.mono hB, h.2.mono hB⟩
  | [], _ :: _, h => h.elim
  | _ :: _, [], h => h.elim
theorem Rows.append : ∀ {ps : List PV} {ms : List Msg} {qs : List PV} {ns : List Msg}, Rows w B ps ms → Rows w B qs ns → Rows w B (ps ++ qs) (ms ++ ns)
  | [], [], _, _, _, h2 => h2
  | _ :: _, _ :: _, _, _, h, h2 => ⟨h.1, h.2.append h2⟩
  | [], _ :: _, _, _, h, _ => h.elim
  | _ :: _, [], _, _, h, _ => h.elim
theorem Rows.one {p : PV} {m : Msg} (h : Is w B p m) : Rows w B [p] [m] := ⟨h, trivial⟩
theorem Rows.split : ∀ {ps : List PV} {l1 : List Msg} {m : Msg} {l2 : List Msg}, Rows w B ps (l1 ++ m :: l2) → ∃ q1 p q2, ps = q1 ++ p :: q2 ∧ q1.length = l1.length ∧ Rows w B q1 l1 ∧ Is w B p m ∧ Rows w B q2 l2
  | [], [], _, _, h => h.elim
  | p :: ps, [], m, l2, h => ⟨[], p, ps, rfl, rfl, trivial, h.1, h.2⟩
  | [], _ :: _, _, _, h => h.elim
  | p :: ps, m0 :: l1, m, l2, h => by
    obtain ⟨q1, p', q2, rfl, h1, h2, h3, h4⟩ := Rows.split (l1 := l1) h.2
    exact ⟨p :: q1, p', q2, rfl, by simp [h1], ⟨h.1, h2⟩, h3, h4⟩
theorem Rows.nil_inv {ps : List PV} (h : Rows w B ps []) : ps = [] := by cases ps with
  | nil => rfl
  | cons => exact h.elim
theorem Rows.cons_inv {ps : List PV} {m : Msg} {ms : List Msg} (h : Rows w B ps (m :: ms)) : ∃ p q, ps = p :: q ∧ Is w B p m ∧ Rows w B q ms := by cases ps with
  | nil => exact h.elim
  | cons p q => exact ⟨p, q, rfl, h.1, h.2⟩
end

/-- The net at b (of blocks from B on) with n ends: the messages that travel, those that wait; vw is its row. -/
structure NetV (w : World) (B b n : Nat) (way : List Msg) (box : Nat → List Msg) (vw : Value) : Prop where
  net : ∃ ps bx cap cs bufs, NetAt w B b vw ps bx cap n cs bufs ∧ Rows w B ps way ∧ ∀ j, j < n → Rows w B (bufs j) (box j)
  len : way.length ≤ 256
  to : ∀ m ∈ way, 0 ≤ m.dst ∧ m.dst < n
  base : B ≤ w.heap.size
def Net (w : World) (B b n : Nat) (way : List Msg) (box : Nat → List Msg) : Prop := ∃ vw, NetV w B b n way box vw
/-- One end's row turned. -/
def setQ (box : Nat → List Msg) (x : Int) (l : List Msg) : Nat → List Msg := fun i => if (i : Int) = x then l else box i
/-- What waits at an end, or at none. -/
def qAt (n : Nat) (box : Nat → List Msg) (x : Int) : List Msg := if 0 ≤ x ∧ x < n then box x.toNat else []
/-- Those that wait behind a delivery. -/
def dlv (n : Nat) (box : Nat → List Msg) (m : Msg) : Nat → List Msg := if (qAt n box m.dst).length < 32 then setQ box m.dst (qAt n box m.dst ++ [m]) else box

section
variable {w w' : World} {B b n : Nat} {way : List Msg} {box : Nat → List Msg} {vw : Value}
theorem NetV.kept (h : NetV w B b n way box vw) (hb : Below w.heap.size w w') : NetV w' B b n way box vw := by
  obtain ⟨ps, bx, cap, cs, bufs, h1, h2, h3⟩ := h.net
  exact ⟨⟨ps, bx, cap, cs, bufs, h1.kept hb, h2.same fun g cur hg => hb.block g (block_lt hg), fun j hj => (h3 j hj).same fun g cur hg => hb.block g (block_lt hg)⟩, h.len, h.to, Nat.le_trans h.base hb.size⟩
theorem Net.kept (h : Net w B b n way box) (hb : Below w.heap.size w w') : Net w' B b n way box := by
  obtain ⟨vw, h⟩ := h; exact ⟨vw, h.kept hb⟩
theorem Net.base (h : Net w B b n way box) : B ≤ w.heap.size := by obtain ⟨_, h⟩ := h; exact h.base
theorem Net.len (h : Net w B b n way box) : way.length ≤ 256 := by obtain ⟨_, h⟩ := h; exact h.len
theorem Net.to (h : Net w B b n way box) : ∀ m ∈ way, 0 ≤ m.dst ∧ m.dst < n := by obtain ⟨_, h⟩ := h; exact h.to
theorem Net.n12 (h : Net w B b n way box) : 1 ≤ n ∧ n ≤ 64 := by obtain ⟨_, ⟨ps, bx, cap, cs, bufs, h1, _⟩, _⟩ := h; exact ⟨h1.n1, h1.n2⟩
theorem Net.few (h : Net w B b n way box) : ∀ j, j < n → (box j).length ≤ 32 := by
  obtain ⟨_, ⟨ps, bx, cap, cs, bufs, h1, _, h3⟩, _⟩ := h
  intro j hj; rw [← (h3 j hj).len]; exact h1.few j hj
theorem Net.few_q (h : Net w B b n way box) (x : Int) : (qAt n box x).length ≤ 32 := by
  unfold qAt; split
  · rename_i hx; exact h.few _ (by omega)
  · simp
theorem toNat_cast {x : Int} (h : 0 ≤ x) : ((x.toNat : Nat) : Int) = x := by omega
theorem setQ_upd (bufs : Nat → List PV) (box : Nat → List Msg) (j : Nat) (l : List PV) (m : List Msg) (hl : Rows w B l m) (h : ∀ j, j < n → Rows w B (bufs j) (box j)) : ∀ i, i < n → Rows w B (upd bufs j l i) (setQ box j m i) := fun i hi => by
  unfold upd setQ
  by_cases e : i = j
  · rw [if_pos e, if_pos (by omega)]; exact hl
  · rw [if_neg e, if_neg (by omega)]; exact h i hi
theorem qAt_in (x : Int) (h0 : 0 ≤ x) (h1 : x < n) : qAt n box x = box x.toNat := by unfold qAt; rw [if_pos ⟨h0, h1⟩]
theorem qAt_out (x : Int) (h : x < 0 ∨ (n : Int) ≤ x) : qAt n box x = [] := by unfold qAt; rw [if_neg (by omega)]
theorem qAt_nat (j : Nat) (h : j < n) : qAt n box j = box j := by rw [qAt_in _ (by omega) (by omega)]; simp

/-! What each call does. -/
theorem n_new (x : Int) (w : World) : Calls Try.prog 18 #[.int .i64 x] w fun e w' => ∃ b, e = .returned (.pointer (some ⟨b, 0, none⟩)) ∧ Net w' w.heap.size b (clampE x) [] (fun _ => []) ∧ Below w.heap.size w w' := by
  refine (new_any x w).mono ?_
  rintro e w' ⟨b, bx, cap, cs, rfl, h, hB⟩
  exact ⟨b, rfl, ⟨_, ⟨[], bx, cap, cs, _, h, trivial, fun _ _ => trivial⟩, by simp, by simp, hB.size⟩, hB⟩

/-- What Send answers. -/
def sendE (n len : Nat) (s d : Int) : Int := if s < 0 ∨ (n : Int) ≤ s ∨ d < 0 ∨ (n : Int) ≤ d then 2 else if len < 256 then 0 else 3
def sendW (n : Nat) (way : List Msg) (s d : Int) (xs : List Int) : List Msg := if sendE n way.length s d = 0 then way ++ [⟨s, d, xs⟩] else way
theorem n_send (h : Net w B b n way box) (s d : Int) (a : Option Addr) (l c : Nat) (xs : List Int) (hx : BAt w a l xs) :
    Calls Try.prog 24 #[.pointer (some ⟨b, 0, none⟩), .int .i64 s, .int .i64 d, .slice a l c] w fun e w' => e = .returned (.int .i64 (sendE n way.length s d)) ∧ Net w' B b n (sendW n way s d xs) box ∧ Moved B w w' := by
  obtain ⟨vw, ⟨ps, bx, cap, cs, bufs, h1, h2, h3⟩, hlen, hto, hB⟩ := h
  have hl := h2.len
  by_cases hs : s < 0 ∨ (n : Int) ≤ s
  · refine (send_bad_from h1 s d hs a l c).mono ?_
    rintro e w' ⟨rfl, rfl⟩
    have e : sendE n way.length s d = 2 := by unfold sendE; rw [if_pos (by omega)]
    exact ⟨by rw [e], by unfold sendW; rw [e]; exact ⟨vw, ⟨ps, bx, cap, cs, bufs, h1, h2, h3⟩, hlen, hto, hB⟩, Moved.refl _ _⟩
  · obtain ⟨s, rfl⟩ : ∃ k : Nat, s = k := ⟨s.toNat, by omega⟩
    by_cases hd : d < 0 ∨ (n : Int) ≤ d
    · refine (send_bad_to h1 s (by omega) d hd a l c).mono ?_
      rintro e w' ⟨rfl, rfl⟩
      have e : sendE n way.length s d = 2 := by unfold sendE; rw [if_pos (by omega)]
      exact ⟨by rw [e], by unfold sendW; rw [e]; exact ⟨vw, ⟨ps, bx, cap, cs, bufs, h1, h2, h3⟩, hlen, hto, hB⟩, Moved.refl _ _⟩
    · obtain ⟨d, rfl⟩ : ∃ k : Nat, d = k := ⟨d.toNat, by omega⟩
      by_cases hf : way.length < 256
      · refine (send_ok h1 hB (by omega) s d (by omega) (by omega) a l c xs hx).mono ?_
        rintro e w' ⟨rfl, vw', a', c', hN, hP, hM⟩
        have e : sendE n way.length s d = 0 := by unfold sendE; rw [if_neg (by omega), if_pos hf]
        refine ⟨by rw [e], ?_, hM⟩
        unfold sendW; rw [e]
        refine ⟨vw', ⟨_, bx, cap, cs, bufs, hN, (h2.same hM.bytes).append (Rows.one ⟨rfl, rfl, hP⟩), fun j hj => (h3 j hj).same hM.bytes⟩, by simp; omega, fun m hm => ?_, Nat.le_trans hB hM.size⟩
        simp only [if_true, List.mem_append, List.mem_singleton] at hm
        rcases hm with hm | rfl
        · exact hto m hm
        · exact ⟨by simp, by simp; omega⟩
      · refine (send_full h1 (by omega) (by omega) s d (by omega) (by omega) a l c).mono ?_
        rintro e w' ⟨rfl, hb⟩
        have e : sendE n way.length s d = 3 := by unfold sendE; rw [if_neg (by omega), if_neg hf]
        exact ⟨by rw [e], by unfold sendW; rw [e]; exact ⟨vw, (NetV.mk ⟨ps, bx, cap, cs, bufs, h1, h2, h3⟩ hlen hto hB).kept hb⟩, Moved.of_below hb hB⟩

theorem n_drop {l1 l2 : List Msg} {m : Msg} (h : Net w B b n (l1 ++ m :: l2) box) :
    Calls Try.prog 29 #[.pointer (some ⟨b, 0, none⟩), .int .i64 l1.length] w fun e w' => e = .returned (.int .i64 0) ∧ Net w' B b n (l1 ++ l2) box ∧ Moved B w w' := by
  obtain ⟨vw, ⟨ps, bx, cap, cs, bufs, h1, h2, h3⟩, hlen, hto, hB⟩ := h
  obtain ⟨q1, p, q2, rfl, e1, r1, r2, r3⟩ := h2.split
  have e2 := r3.len
  simp only [List.length_append, List.length_cons] at hlen
  rw [← e1]
  refine (drop_ok h1 hB (by omega)).mono ?_
  rintro e w' ⟨rfl, vw', hN, _, hM⟩
  refine ⟨rfl, ⟨vw', ⟨_, bx, cap, cs, bufs, hN, (r1.append r3).same hM.bytes, fun j hj => (h3 j hj).same hM.bytes⟩, by simp; omega, fun m' hm => hto m' ?_, Nat.le_trans hB hM.size⟩, hM⟩
  simp only [List.mem_append, List.mem_cons] at hm ⊢
  exact hm.imp id .inr

theorem v_delay {l1 l2 : List Msg} {m : Msg} (h : NetV w B b n (l1 ++ m :: l2) box vw) :
    Calls Try.prog 16 #[.pointer (some ⟨b, 0, none⟩), .int .i64 l1.length] w fun e w' => e = .returned (.int .i64 0) ∧ ∃ vw', NetV w' B b n (l1 ++ (l2 ++ [m])) box vw' ∧ Way w w' b vw vw' ∧ Moved B w w' := by
  obtain ⟨⟨ps, bx, cap, cs, bufs, h1, h2, h3⟩, hlen, hto, hB⟩ := h
  obtain ⟨q1, p, q2, rfl, e1, r1, r2, r3⟩ := h2.split
  have e2 := r3.len
  simp only [List.length_append, List.length_cons] at hlen
  rw [← e1]
  refine (delay_ok h1 hB (by omega)).mono ?_
  rintro e w' ⟨rfl, vw', hN, hW, hM⟩
  refine ⟨rfl, vw', ⟨⟨_, bx, cap, cs, bufs, hN, (r1.append (r3.append (Rows.one r2))).same hM.bytes, fun j hj => (h3 j hj).same hM.bytes⟩, by simp; omega, fun m' hm => hto m' ?_, Nat.le_trans hB hM.size⟩, hW, hM⟩
  simp only [List.mem_append, List.mem_cons] at hm ⊢
  rcases hm with hm | hm | hm
  · exact .inl hm
  · exact .inr (.inr hm)
  · exact .inr (.inl (by simpa using hm))
theorem n_delay {l1 l2 : List Msg} {m : Msg} (h : Net w B b n (l1 ++ m :: l2) box) :
    Calls Try.prog 16 #[.pointer (some ⟨b, 0, none⟩), .int .i64 l1.length] w fun e w' => e = .returned (.int .i64 0) ∧ Net w' B b n (l1 ++ (l2 ++ [m])) box ∧ Moved B w w' := by
  obtain ⟨vw, h⟩ := h
  refine (v_delay h).mono ?_
  rintro e w' ⟨rfl, vw', hN, _, hM⟩
  exact ⟨rfl, ⟨vw', hN⟩, hM⟩

theorem n_deliver {l1 l2 : List Msg} {m : Msg} (h : Net w B b n (l1 ++ m :: l2) box) :
    Calls Try.prog 9 #[.pointer (some ⟨b, 0, none⟩), .int .i64 l1.length] w fun e w' => e = .returned (.int .i64 0) ∧ Net w' B b n (l1 ++ l2) (dlv n box m) ∧ Moved B w w' := by
  obtain ⟨vw, ⟨ps, bx, cap, cs, bufs, h1, h2, h3⟩, hlen, hto, hB⟩ := h
  obtain ⟨q1, p, q2, rfl, e1, r1, r2, r3⟩ := h2.split
  have e2 := r3.len
  simp only [List.length_append, List.length_cons] at hlen
  obtain ⟨hm0, hm1⟩ := hto m (by simp)
  obtain ⟨j, hj⟩ : ∃ j : Nat, m.dst = j := ⟨m.dst.toNat, by omega⟩
  have hjn : j < n := by omega
  have hq : qAt n box m.dst = box j := by rw [hj]; exact qAt_nat j hjn
  have hbl := (h3 j hjn).len
  have hf := h1.few j hjn
  have hto' : ∀ m' ∈ l1 ++ l2, 0 ≤ m'.dst ∧ m'.dst < n := fun m' hm => hto m' (by
    simp only [List.mem_append, List.mem_cons] at hm ⊢
    exact hm.imp id .inr)
  rw [← e1]
  by_cases hr : (box j).length < 32
  · refine (deliver_ok h1 hB (by omega) j hjn (by rw [r2.dst, hj]) (by omega)).mono ?_
    rintro e w' ⟨rfl, ⟨vw', hN⟩, hM⟩
    refine ⟨rfl, ⟨vw', ⟨_, bx, cap, cs, _, hN, (r1.append r3).same hM.bytes, ?_⟩, by simp; omega, hto', Nat.le_trans hB hM.size⟩, hM⟩
    unfold dlv
    rw [hq, if_pos hr, hj]
    exact setQ_upd bufs box j _ _ (((h3 j hjn).append (Rows.one r2)).same hM.bytes) fun i hi => (h3 i hi).same hM.bytes
  · refine (deliver_full h1 hB (by omega) j hjn (by rw [r2.dst, hj]) (by omega)).mono ?_
    rintro e w' ⟨rfl, ⟨vw', hN⟩, hM⟩
    refine ⟨rfl, ⟨vw', ⟨_, bx, cap, cs, _, hN, (r1.append r3).same hM.bytes, ?_⟩, by simp; omega, hto', Nat.le_trans hB hM.size⟩, hM⟩
    unfold dlv
    rw [hq, if_neg hr]
    exact fun i hi => (h3 i hi).same hM.bytes

/-- What Double answers, and leaves. -/
def dblE (len : Nat) : Int := if len < 256 then 0 else 3
def dblW (way : List Msg) (m : Msg) : List Msg := if way.length < 256 then way ++ [m] else way
theorem n_double {l1 l2 : List Msg} {m : Msg} (h : Net w B b n (l1 ++ m :: l2) box) :
    Calls Try.prog 28 #[.pointer (some ⟨b, 0, none⟩), .int .i64 l1.length] w fun e w' => e = .returned (.int .i64 (dblE (l1 ++ m :: l2).length)) ∧ Net w' B b n (dblW (l1 ++ m :: l2) m) box ∧ Moved B w w' := by
  obtain ⟨vw, ⟨ps, bx, cap, cs, bufs, h1, h2, h3⟩, hlen, hto, hB⟩ := h
  have hpl := h2.len
  obtain ⟨q1, p, q2, rfl, e1, r1, r2, r3⟩ := h2.split
  have e2 := r3.len
  by_cases hf : (l1 ++ m :: l2).length < 256
  · have hT := travels_ok h1 hB (by omega) p m.xs r2.own.reads
    unfold pagg at hT
    rw [← e1]
    refine (double_fn h1 (by simp at hf; omega) 0 _ hT).mono ?_
    rintro e w' ⟨rfl, vw', a', c', hN, hP, hM⟩
    refine ⟨by unfold dblE; rw [if_pos hf], ⟨vw', ⟨_, bx, cap, cs, bufs, hN, ?_, fun j hj => (h3 j hj).same hM.bytes⟩, ?_, ?_, Nat.le_trans hB hM.size⟩, hM⟩
    · unfold dblW; rw [if_pos hf]
      exact (h2.same hM.bytes).append (Rows.one ⟨r2.src, r2.dst, hP⟩)
    · unfold dblW; rw [if_pos hf]; rw [List.length_append]; simp at hf ⊢; omega
    · unfold dblW; rw [if_pos hf]
      intro m' hm
      rw [List.mem_append] at hm
      rcases hm with hm | hm
      · exact hto m' hm
      · rw [List.mem_singleton] at hm; rw [hm]; exact hto m (by simp)
  · have hT := travels_full h1 (by omega) (by omega) p
    unfold pagg at hT
    rw [← e1]
    refine (double_fn h1 (by simp at hlen; omega) 3 _ hT).mono ?_
    rintro e w' ⟨rfl, hb⟩
    refine ⟨by unfold dblE; rw [if_neg hf], ?_, Moved.of_below hb hB⟩
    unfold dblW; rw [if_neg hf]
    exact ⟨vw, (NetV.mk ⟨_, bx, cap, cs, bufs, h1, h2, h3⟩ hlen hto hB).kept hb⟩

/-- Where none travels. -/
theorem n_out (h : Net w B b n way box) (x : Int) (hx : x < 0 ∨ (way.length : Int) ≤ x) (k : FuncId) (hk : k = 9 ∨ k = 29 ∨ k = 28 ∨ k = 16) :
    Calls Try.prog k #[.pointer (some ⟨b, 0, none⟩), .int .i64 x] w fun e w' => e = .returned (.int .i64 5) ∧ Net w' B b n way box ∧ Below w.heap.size w w' := by
  obtain ⟨vw, ⟨ps, bx, cap, cs, bufs, h1, h2, h3⟩, hlen, hto, hB⟩ := h
  have hpl := h2.len
  have hN := NetV.mk ⟨ps, bx, cap, cs, bufs, h1, h2, h3⟩ hlen hto hB
  rcases hk with rfl | rfl | rfl | rfl
  · refine (deliver_out h1 (by omega) x (by omega)).mono ?_
    rintro e w' ⟨rfl, hb⟩; exact ⟨rfl, ⟨vw, hN.kept hb⟩, hb⟩
  · refine (drop_out h1 (by omega) x (by omega)).mono ?_
    rintro e w' ⟨rfl, hb⟩; exact ⟨rfl, ⟨vw, hN.kept hb⟩, hb⟩
  · refine (double_out h1 (by omega) x (by omega)).mono ?_
    rintro e w' ⟨rfl, rfl⟩; exact ⟨rfl, ⟨vw, hN⟩, Below.refl _ _⟩
  · refine (delay_out h1 (by omega) x (by omega)).mono ?_
    rintro e w' ⟨rfl, hb⟩; exact ⟨rfl, ⟨vw, hN.kept hb⟩, hb⟩

theorem n_ends (h : Net w B b n way box) : Calls Try.prog 30 #[.pointer (some ⟨b, 0, none⟩)] w fun e w' => e = .returned (.int .i64 n) ∧ w = w' := by
  obtain ⟨vw, ⟨ps, bx, cap, cs, bufs, h1, h2, h3⟩, _⟩ := h
  exact ends_any h1
theorem n_waits (h : Net w B b n way box) (x : Int) : Calls Try.prog 12 #[.pointer (some ⟨b, 0, none⟩), .int .i64 x] w fun e w' => e = .returned (.int .i64 (qAt n box x).length) ∧ w = w' := by
  obtain ⟨vw, ⟨ps, bx, cap, cs, bufs, h1, h2, h3⟩, _⟩ := h
  by_cases hx : x < 0 ∨ (n : Int) ≤ x
  · rw [qAt_out x hx]; exact waits_out h1 x hx
  · obtain ⟨j, rfl⟩ : ∃ k : Nat, x = k := ⟨x.toNat, by omega⟩
    rw [qAt_nat j (by omega), ← (h3 j (by omega)).len]
    exact waits_in h1 j (by omega)
theorem n_receive_none (h : Net w B b n way box) (x : Int) (hq : qAt n box x = []) :
    Calls Try.prog 13 #[.pointer (some ⟨b, 0, none⟩), .int .i64 x] w fun e w' => e = .returned (.tuple #[nobody, .bool false]) ∧ Net w' B b n way box ∧ Below w.heap.size w w' := by
  have hN := h
  obtain ⟨vw, ⟨ps, bx, cap, cs, bufs, h1, h2, h3⟩, _⟩ := h
  by_cases hx : x < 0 ∨ (n : Int) ≤ x
  · refine (receive_out h1 x hx).mono ?_
    rintro e w' ⟨rfl, hb⟩; exact ⟨rfl, hN.kept hb, hb⟩
  · obtain ⟨j, rfl⟩ : ∃ k : Nat, x = k := ⟨x.toNat, by omega⟩
    rw [qAt_nat j (by omega)] at hq
    have hbj := h3 j (by omega)
    rw [hq] at hbj
    refine (receive_empty h1 j (by omega) hbj.nil_inv).mono ?_
    rintro e w' ⟨rfl, hb⟩; exact ⟨rfl, hN.kept hb, hb⟩
theorem n_receive_one (h : Net w B b n way box) (x : Int) (m : Msg) (rest : List Msg) (hq : qAt n box x = m :: rest) :
    Calls Try.prog 13 #[.pointer (some ⟨b, 0, none⟩), .int .i64 x] w fun e w' => ∃ p, e = .returned (.tuple #[pagg p, .bool true]) ∧ Is w' B p m ∧ Net w' B b n way (setQ box x rest) ∧ Moved B w w' := by
  obtain ⟨vw, ⟨ps, bx, cap, cs, bufs, h1, h2, h3⟩, hlen, hto, hB⟩ := h
  by_cases hx : x < 0 ∨ (n : Int) ≤ x
  · rw [qAt_out x hx] at hq; cases hq
  · obtain ⟨j, rfl⟩ : ∃ k : Nat, x = k := ⟨x.toNat, by omega⟩
    rw [qAt_nat j (by omega)] at hq
    have hbj := h3 j (by omega)
    rw [hq] at hbj
    obtain ⟨p, q, e, r1, r2⟩ := hbj.cons_inv
    obtain ⟨s, r, hc⟩ := h1.chans j (by omega)
    refine (receive_in h1 j (by omega) p q e).mono ?_
    rintro e w' ⟨rfl, hN, hO⟩
    have hM : Moved B w w' := Moved.chan hO (h1.gec j (by omega)) hB hc
    exact ⟨p, rfl, r1.same hM.bytes, ⟨vw, ⟨ps, bx, cap, cs, _, hN, h2.same hM.bytes, setQ_upd bufs box j q rest (r2.same hM.bytes) fun i hi => (h3 i hi).same hM.bytes⟩, hlen, hto, Nat.le_trans hB hM.size⟩, hM⟩
theorem setQ_out {x : Int} {l : List Msg} (h : Net w B b n way box) (hx : x < 0 ∨ (n : Int) ≤ x) : Net w B b n way (setQ box x l) := by
  obtain ⟨vw, ⟨ps, bx, cap, cs, bufs, h1, h2, h3⟩, hlen, hto, hB⟩ := h
  exact ⟨vw, ⟨ps, bx, cap, cs, bufs, h1, h2, fun j hj => by unfold setQ; rw [if_neg (by omega)]; exact h3 j hj⟩, hlen, hto, hB⟩
theorem n_clear (h : Net w B b n way box) (x : Int) :
    Calls Try.prog 14 #[.pointer (some ⟨b, 0, none⟩), .int .i64 x] w fun e w' => e = .returned (.tuple #[]) ∧ Net w' B b n way (setQ box x []) ∧ Moved B w w' := by
  have hN0 := h
  obtain ⟨vw, ⟨ps, bx, cap, cs, bufs, h1, h2, h3⟩, hlen, hto, hB⟩ := h
  by_cases hx : x < 0 ∨ (n : Int) ≤ x
  · refine (clear_out h1 x hx).mono ?_
    rintro e w' ⟨rfl, rfl⟩
    exact ⟨rfl, setQ_out hN0 hx, Moved.refl _ _⟩
  · obtain ⟨j, rfl⟩ : ∃ k : Nat, x = k := ⟨x.toNat, by omega⟩
    refine (clear_in h1 hB j (by omega)).mono ?_
    rintro e w' ⟨rfl, hN, hM⟩
    exact ⟨rfl, ⟨vw, ⟨ps, bx, cap, cs, _, hN, h2.same hM.bytes, setQ_upd bufs box j [] [] trivial fun i hi => (h3 i hi).same hM.bytes⟩, hlen, hto, Nat.le_trans hB hM.size⟩, hM⟩
end
end Go.Proofs.Ytambdhoeakddhaa
