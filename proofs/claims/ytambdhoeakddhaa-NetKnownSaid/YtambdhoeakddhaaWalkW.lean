/- Calls in memory; the walks over is, few, moves. -/
import Derived.Test.YtambdhoeakddhaaWalkV
import Derived.Test.YtambdhoeakddhaaQuiet
namespace Go.Proofs.Ytambdhoeakddhaa
open Go Go.RowKit Go.Conc
set_option linter.unusedVariables false

/-- A call as it lies in memory. -/
structure CallV where
  kind : Int
  pos : Int
  dest : Int
  a : Option Addr
  len : Nat
  cap : Nat
  xs : List Int
def cagg (c : CallV) : Value := .agg #[.int .u8 c.kind, .int .i64 c.pos, .int .i64 c.dest, .slice c.a c.len c.cap]
/-- The bytes that came in. -/
def BRead (w : World) (a : Option Addr) (len : Nat) (xs : List Int) : Prop :=
  xs.length = len ∧ (len = 0 ∨ ∃ b o, a = some ⟨b, o, none⟩ ∧ ∀ i, i < len → w.cell? ⟨b, o + i, none⟩ = some (.int .u8 (xs.getD i 0)))
theorem BRead.kept {w w' : World} {a : Option Addr} {len : Nat} {xs : List Int} (h : BRead w a len xs) (hb : Below w.heap.size w w') : BRead w' a len xs := by
  obtain ⟨h1, h2⟩ := h
  refine ⟨h1, h2.imp id ?_⟩
  rintro ⟨b, o, rfl, hx⟩
  exact ⟨b, o, rfl, fun i hi => (hb.cell (World.block_lt_of_cell? w _ (hx i hi))).trans (hx i hi)⟩
theorem BRead.below {w w' : World} {B : Nat} {a : Option Addr} {len : Nat} {xs : List Int} (h : BRead w a len xs) (hB : w.heap.size ≤ B) (hb : Below B w w') : BRead w' a len xs := h.kept (hb.mono hB)
theorem BRead.bat {w : World} {a : Option Addr} {len : Nat} {xs : List Int} (h : BRead w a len xs) (hl : len ≤ 140737488355328) : BAt w a len xs := by
  obtain ⟨h1, h2⟩ := h
  refine ⟨h1, hl, ?_⟩
  rcases h2 with h2 | ⟨b, o, rfl, hx⟩
  · cases a with
    | none => exact .inl ⟨rfl, h2⟩
    | some x => exact .inr ⟨x, rfl, fun i hi => by omega⟩
  · refine .inr ⟨_, rfl, fun i hi => ?_⟩
    have ha : (⟨b, o, none⟩ : Addr).add i = ⟨b, o + i, none⟩ := by unfold Addr.add; split <;> simp_all
    rw [ha]; exact hx i hi
theorem conv_zero (w : World) (a : Option Addr) (cap : Nat) : (convert 31 9 (.slice a 0 cap)).run Try.prog w = .ok (.string (strOfNums [])) w := by
  cases a with
  | none => exact run_convert_bytes_nil (P := Try.prog) w 31 5 Try.underlying31 Try.underlying5 0 cap 9 Try.underlying9
  | some x =>
    have hl : (loadCells x 0).run Try.prog w = .ok (([] : List Int).map (Value.int .u8)).toArray w := by
      have := run_loadCells_list (P := Try.prog) w x (([] : List Int).map (Value.int .u8)) (fun j v hj => by simp at hj)
      simpa using this
    rw [run_convert_bytes_string w 31 9 5 _ 0 cap Try.underlying31 Try.underlying5 Try.underlying9, run_bytesToString w _ 0 cap [] hl, foldl_push_bytes]
    rfl
theorem conv_read {w : World} {a : Option Addr} {len cap : Nat} {xs : List Int} (h : BRead w a len xs) : (convert 31 9 (.slice a len cap)).run Try.prog w = .ok (.string (strOfNums xs)) w := by
  obtain ⟨h1, rfl | ⟨b, o, rfl, hx⟩⟩ := h
  · have : xs = [] := List.length_eq_zero_iff.1 h1
    subst this
    exact conv_zero w a cap
  · exact run_convert_bytes_arg (P := Try.prog) w 31 5 Try.underlying31 Try.underlying5 b o len cap xs h1 hx 9 Try.underlying9

structure CallRow (w : World) (a : Option Addr) (len : Nat) (C : Nat → CallV) : Prop where
  cells : 0 < len → ∃ b off, a = some ⟨b, off, none⟩ ∧ ∀ k, k < len → w.cell? ⟨b, off + k * 4, none⟩ = some (.int .u8 (C k).kind) ∧ w.cell? ⟨b, off + k * 4 + 1, none⟩ = some (.int .i64 (C k).pos) ∧ w.cell? ⟨b, off + k * 4 + 2, none⟩ = some (.int .i64 (C k).dest) ∧ w.cell? ⟨b, off + k * 4 + 3, none⟩ = some (.slice (C k).a (C k).len (C k).cap)
  reads : ∀ k, k < len → BRead w (C k).a (C k).len (C k).xs
  wide : ∀ k, k < len → (C k).len ≤ 9223372036854775807
  kind : ∀ k, k < len → 0 ≤ (C k).kind ∧ (C k).kind ≤ 255
  pos : ∀ k, k < len → -9223372036854775808 ≤ (C k).pos ∧ (C k).pos ≤ 9223372036854775807
  dest : ∀ k, k < len → -9223372036854775808 ≤ (C k).dest ∧ (C k).dest ≤ 9223372036854775807

/-- Is a message just the one that a call sends? -/
def isB (m : Msg) (c : CallV) : Bool := (m.src == c.pos) && ((m.dst == c.dest) && ((strOfNums m.xs).toList == (strOfNums c.xs).toList))

set_option maxRecDepth 8000 in
set_option maxHeartbeats 2000000 in
theorem is_any {w : World} {B : Nat} {p : PV} {m : Msg} {c : CallV} (hp : Is w B p m) (hc : BRead w c.a c.len c.xs) :
    Calls Try.prog 27 #[.agg #[.int .i64 m.src, .int .i64 m.dst, .slice p.a p.len p.cap], .agg #[.int .u8 c.kind, .int .i64 c.pos, .int .i64 c.dest, .slice c.a c.len c.cap]] w fun e w' => e = .returned (.bool (isB m c)) ∧ Below w.heap.size w w' := by
  have bA : Below w.heap.size w ((w.alloc (.cells #[.int .i64 m.src, .int .i64 m.dst, .slice p.a p.len p.cap] 33)).alloc (.cells #[.int .u8 c.kind, .int .i64 c.pos, .int .i64 c.dest, .slice c.a c.len c.cap] 45)) := ((Below.refl _ _).alloc (Nat.le_refl _) _).alloc (by simp) _
  have cx := conv_own (cap := p.cap) (hp.own.same (fun g cur hg => bA.block g (block_lt hg)))
  have cy := conv_read (cap := c.cap) (hc.kept bA)
  have HB := Lib.hid bA
  clear bA hp hc
  by_cases e1 : m.src = c.pos
  · have d1 : (m.src == c.pos) = true := by simpa using e1
    by_cases e2 : m.dst = c.dest
    · have d2 : (m.dst == c.dest) = true := by simpa using e2
      have HV : Hid (isB m c = ((strOfNums m.xs).toList == (strOfNums c.xs).toList)) := Lib.hid (by unfold isB; rw [d1, d2]; rfl)
      clear e1 e2
      rw [HV.out]
      generalize strOfNums m.xs = s at *
      generalize strOfNums c.xs = t at *
      go_enter Try.func27, Try.ntmps27
      go_wp2
      go_ret
      exact ⟨rfl, HB.out⟩
    · have d2 : (m.dst == c.dest) = false := by simpa using e2
      have HV : Hid (isB m c = false) := Lib.hid (by unfold isB; rw [d1, d2]; rfl)
      clear e1 e2
      rw [HV.out]
      go_enter Try.func27, Try.ntmps27
      go_wp2
      go_ret
      exact ⟨rfl, HB.out⟩
  · have d1 : (m.src == c.pos) = false := by simpa using e1
    have HV : Hid (isB m c = false) := Lib.hid (by unfold isB; rw [d1]; rfl)
    clear e1
    rw [HV.out]
    go_enter Try.func27, Try.ntmps27
    go_wp2
    go_ret
    exact ⟨rfl, HB.out⟩

/-- What few answers. -/
def FewOk (e : Ending) (len most : Nat) (C : Nat → CallV) : Prop := ∃ r, e = .returned (.bool r) ∧ (r = true → len ≤ most ∧ ∀ k, k < len → (C k).len ≤ 3000)
set_option maxRecDepth 8000 in
set_option maxHeartbeats 2000000 in
theorem few_any {w : World} {a : Option Addr} {len cap : Nat} {C : Nat → CallV} (h : CallRow w a len C) (hl : len ≤ 9223372036854775807) (most : Nat) (hm : most ≤ 1000) :
    Calls Try.prog 17 #[.slice a len cap, .int .i64 most] w fun e w' => FewOk e len most C ∧ w = w' := by
  have H := Lib.hid h
  clear h
  go_enter Try.func17, Try.ntmps17
  go_wp2
  go_loopw [5, 6] (fun s i wr => ∃ (k t : Nat), k ≤ len ∧ i = .int .i64 k ∧ s = .int .i64 t ∧ t ≤ 7000 ∧ (∀ j, j < k → (C j).len ≤ t ∨ 4000 ≤ t) ∧ wr = w)
    (fun _ i _ => len - (intOf i).toNat)
  case atStart => exact ⟨0, 0, by omega, rfl, rfl, by omega, fun j hj => absurd hj (by omega), rfl⟩
  case round =>
    obtain ⟨k, t, hk, rfl, rfl, ht, hj, rfl⟩ := hrel
    have HJ := Lib.hid hj
    clear hj
    by_cases hlt : k < len
    · have k0 : (0 : Int) ≤ (k : Int) := by omega
      have k1 : (k : Int) < (len : Int) := by omega
      by_cases ht2 : t ≤ 3000
      · have t1 : (t : Int) ≤ 3000 := by omega
        obtain ⟨b, off, rfl, hc⟩ := H.out.cells (by omega)
        obtain ⟨_, _, _, x3⟩ := hc k hlt
        have hw := H.out.wide k hlt
        have HN : Hid (∀ j, j < k + 1 → (C j).len ≤ t + min 4000 (C k).len ∨ 4000 ≤ t + min 4000 (C k).len) := Lib.hid fun j hj => by
          rcases Nat.lt_or_ge j k with e | e
          · rcases HJ.out j e with e | e <;> omega
          · obtain rfl : j = k := by omega
            omega
        clear hc HJ
        generalize (C k).len = L at *
        have hmn : min 4000 (L : Int) = ((min 4000 L : Nat) : Int) := by omega
        have hmb : min 4000 L ≤ 4000 := by omega
        generalize min 4000 L = M at *
        go_wp2_with fail
        go_roundw
        case rel => exact ⟨k + 1, t + M, by omega, by go_num, by go_num, by omega, HN.out, by trivial⟩
        case measure => simp [intOf]; omega
      · have t1 : (3000 : Int) < (t : Int) := by omega
        by_cases hmo : (len : Int) ≤ (most : Int)
        · go_wp2_with fail
          go_ret
          exact ⟨⟨_, rfl, fun h => by (try simp at h) <;> omega⟩, rfl⟩
        · have hmo : (most : Int) < (len : Int) := by omega
          go_wp2_with fail
          go_ret
          exact ⟨⟨_, rfl, fun h => by (try simp at h) <;> omega⟩, rfl⟩
    · obtain rfl : k = len := by omega
      by_cases hmo : (k : Int) ≤ (most : Int)
      · by_cases ht2 : t ≤ 3000
        · have t1 : (t : Int) ≤ 3000 := by omega
          go_wp2_with fail
          go_ret
          exact ⟨⟨_, rfl, fun _ => ⟨by omega, fun j hj => by rcases HJ.out j hj with e | e <;> omega⟩⟩, rfl⟩
        · have t1 : (3000 : Int) < (t : Int) := by omega
          go_wp2_with fail
          go_ret
          exact ⟨⟨_, rfl, fun h => by (try simp at h) <;> omega⟩, rfl⟩
      · have hmo : (most : Int) < (k : Int) := by omega
        go_wp2_with fail
        go_ret
        exact ⟨⟨_, rfl, fun h => by (try simp at h) <;> omega⟩, rfl⟩

/-! moves -/
def mvE (kind : Int) (way : List Msg) : Int := if kind = 2 then dblE way.length else 0
def mvW (kind : Int) (l1 : List Msg) (m : Msg) (l2 : List Msg) : List Msg := if kind = 0 then l1 ++ l2 else if kind = 1 then l1 ++ l2 else if kind = 2 then dblW (l1 ++ m :: l2) m else l1 ++ (l2 ++ [m])
def mvQ (kind : Int) (n : Nat) (box : Nat → List Msg) (m : Msg) : Nat → List Msg := if kind = 0 then dlv n box m else box

set_option maxRecDepth 8000 in
set_option maxHeartbeats 2000000 in
theorem moves_fn {w : World} {b : Nat} (c : CallV) (h0 : 0 ≤ c.kind) (h1 : c.kind ≤ 255) (r : Int) (R : World → Prop)
    (k0 : c.kind = 0 → Calls Try.prog 9 #[.pointer (some ⟨b, 0, none⟩), .int .i64 c.pos] (w.alloc (.cells #[.int .u8 c.kind, .int .i64 c.pos, .int .i64 c.dest, .slice c.a c.len c.cap] 45)) fun e w' => e = .returned (.int .i64 r) ∧ R w')
    (k1 : c.kind = 1 → Calls Try.prog 29 #[.pointer (some ⟨b, 0, none⟩), .int .i64 c.pos] (w.alloc (.cells #[.int .u8 c.kind, .int .i64 c.pos, .int .i64 c.dest, .slice c.a c.len c.cap] 45)) fun e w' => e = .returned (.int .i64 r) ∧ R w')
    (k2 : c.kind = 2 → Calls Try.prog 28 #[.pointer (some ⟨b, 0, none⟩), .int .i64 c.pos] (w.alloc (.cells #[.int .u8 c.kind, .int .i64 c.pos, .int .i64 c.dest, .slice c.a c.len c.cap] 45)) fun e w' => e = .returned (.int .i64 r) ∧ R w')
    (k3 : 3 ≤ c.kind → Calls Try.prog 16 #[.pointer (some ⟨b, 0, none⟩), .int .i64 c.pos] (w.alloc (.cells #[.int .u8 c.kind, .int .i64 c.pos, .int .i64 c.dest, .slice c.a c.len c.cap] 45)) fun e w' => e = .returned (.int .i64 r) ∧ R w') :
    Calls Try.prog 20 #[.pointer (some ⟨b, 0, none⟩), .agg #[.int .u8 c.kind, .int .i64 c.pos, .int .i64 c.dest, .slice c.a c.len c.cap]] w fun e w' => e = .returned (.int .i64 r) ∧ R w' := by
  have K0 := Lib.hid k0
  have K1 := Lib.hid k1
  have K2 := Lib.hid k2
  have K3 := Lib.hid k3
  clear k0 k1 k2 k3
  by_cases e0 : c.kind = 0
  · have KK := Lib.hid (K0.out e0)
    clear K0 K1 K2 K3 h0 h1
    have d0 : (c.kind == 0) = true := by simpa using e0
    clear e0
    generalize c.kind = kd at *
    go_enter Try.func20, Try.ntmps20
    go_wp2_with fail
    refine KK.out.mono ?_
    rintro e w' ⟨rfl, hR⟩
    go_wp2
    go_ret
    exact ⟨rfl, hR⟩
  · have d0 : (c.kind == 0) = false := by simpa using e0
    by_cases e1 : c.kind = 1
    · have KK := Lib.hid (K1.out e1)
      clear K0 K1 K2 K3 h0 h1
      have d1 : (c.kind == 1) = true := by simpa using e1
      clear e0 e1
      generalize c.kind = kd at *
      go_enter Try.func20, Try.ntmps20
      go_wp2_with fail
      refine KK.out.mono ?_
      rintro e w' ⟨rfl, hR⟩
      go_wp2
      go_ret
      exact ⟨rfl, hR⟩
    · have d1 : (c.kind == 1) = false := by simpa using e1
      by_cases e2 : c.kind = 2
      · have KK := Lib.hid (K2.out e2)
        clear K0 K1 K2 K3 h0 h1
        have d2 : (c.kind == 2) = true := by simpa using e2
        clear e0 e1 e2
        generalize c.kind = kd at *
        go_enter Try.func20, Try.ntmps20
        go_wp2_with fail
        refine KK.out.mono ?_
        rintro e w' ⟨rfl, hR⟩
        go_wp2
        go_ret
        exact ⟨rfl, hR⟩
      · have d2 : (c.kind == 2) = false := by simpa using e2
        have KK := Lib.hid (K3.out (by omega))
        clear K0 K1 K2 K3 h0 h1 e0 e1 e2
        generalize c.kind = kd at *
        go_enter Try.func20, Try.ntmps20
        go_wp2_with fail
        refine KK.out.mono ?_
        rintro e w' ⟨rfl, hR⟩
        go_wp2
        go_ret
        exact ⟨rfl, hR⟩

section
variable {w : World} {B b n : Nat} {way : List Msg} {box : Nat → List Msg}
theorem n_moves_out (h : Net w B b n way box) (c : CallV) (h0 : 0 ≤ c.kind) (h1 : c.kind ≤ 255) (hx : c.pos < 0 ∨ (way.length : Int) ≤ c.pos) :
    Calls Try.prog 20 #[.pointer (some ⟨b, 0, none⟩), .agg #[.int .u8 c.kind, .int .i64 c.pos, .int .i64 c.dest, .slice c.a c.len c.cap]] w fun e w' => e = .returned (.int .i64 5) ∧ Net w' B b n way box ∧ Moved B w w' := by
  have bA : Below w.heap.size w (w.alloc (.cells #[.int .u8 c.kind, .int .i64 c.pos, .int .i64 c.dest, .slice c.a c.len c.cap] 45)) := (Below.refl _ _).alloc (Nat.le_refl _) _
  have hN := h.kept bA
  have key : ∀ k, (k = 9 ∨ k = 29 ∨ k = 28 ∨ k = 16) → Calls Try.prog k #[.pointer (some ⟨b, 0, none⟩), .int .i64 c.pos] (w.alloc (.cells #[.int .u8 c.kind, .int .i64 c.pos, .int .i64 c.dest, .slice c.a c.len c.cap] 45)) fun e w' => e = .returned (.int .i64 5) ∧ Net w' B b n way box ∧ Moved B w w' := fun k hk => by
    refine (n_out hN c.pos hx k hk).mono ?_
    rintro e w' ⟨rfl, hN', hb⟩
    exact ⟨rfl, hN', Moved.of_below (bA.trans (hb.mono bA.size)) h.base⟩
  exact moves_fn c h0 h1 5 _ (fun _ => key 9 (by simp)) (fun _ => key 29 (by simp)) (fun _ => key 28 (by simp)) (fun _ => key 16 (by simp))
theorem n_moves_in {l1 l2 : List Msg} {m : Msg} (h : Net w B b n (l1 ++ m :: l2) box) (c : CallV) (h0 : 0 ≤ c.kind) (h1 : c.kind ≤ 255) (hx : c.pos = l1.length) :
    Calls Try.prog 20 #[.pointer (some ⟨b, 0, none⟩), .agg #[.int .u8 c.kind, .int .i64 c.pos, .int .i64 c.dest, .slice c.a c.len c.cap]] w fun e w' => e = .returned (.int .i64 (mvE c.kind (l1 ++ m :: l2))) ∧ Net w' B b n (mvW c.kind l1 m l2) (mvQ c.kind n box m) ∧ Moved B w w' := by
  have bA : Below w.heap.size w (w.alloc (.cells #[.int .u8 c.kind, .int .i64 c.pos, .int .i64 c.dest, .slice c.a c.len c.cap] 45)) := (Below.refl _ _).alloc (Nat.le_refl _) _
  have hM : Moved B w (w.alloc (.cells #[.int .u8 c.kind, .int .i64 c.pos, .int .i64 c.dest, .slice c.a c.len c.cap] 45)) := Moved.of_below bA h.base
  have hN := h.kept bA
  refine moves_fn c h0 h1 _ _ (fun e => ?_) (fun e => ?_) (fun e => ?_) (fun e => ?_)
  · have e1 : mvE c.kind (l1 ++ m :: l2) = 0 := by unfold mvE; rw [if_neg (by omega)]
    have e2 : mvW c.kind l1 m l2 = l1 ++ l2 := by unfold mvW; rw [if_pos e]
    have e3 : mvQ c.kind n box m = dlv n box m := by unfold mvQ; rw [if_pos e]
    rw [e1, e2, e3, hx]
    refine (n_deliver (hx ▸ hN)).mono ?_
    rintro e w' ⟨rfl, hN', hM'⟩
    exact ⟨rfl, hN', (hx ▸ hM).trans hM'⟩
  · have e1 : mvE c.kind (l1 ++ m :: l2) = 0 := by unfold mvE; rw [if_neg (by omega)]
    have e2 : mvW c.kind l1 m l2 = l1 ++ l2 := by unfold mvW; rw [if_neg (by omega), if_pos e]
    have e3 : mvQ c.kind n box m = box := by unfold mvQ; rw [if_neg (by omega)]
    rw [e1, e2, e3, hx]
    refine (n_drop (hx ▸ hN)).mono ?_
    rintro e w' ⟨rfl, hN', hM'⟩
    exact ⟨rfl, hN', (hx ▸ hM).trans hM'⟩
  · have e1 : mvE c.kind (l1 ++ m :: l2) = dblE (l1 ++ m :: l2).length := by unfold mvE; rw [if_pos e]
    have e2 : mvW c.kind l1 m l2 = dblW (l1 ++ m :: l2) m := by unfold mvW; rw [if_neg (by omega), if_neg (by omega), if_pos e]
    have e3 : mvQ c.kind n box m = box := by unfold mvQ; rw [if_neg (by omega)]
    rw [e1, e2, e3, hx]
    refine (n_double (hx ▸ hN)).mono ?_
    rintro e w' ⟨rfl, hN', hM'⟩
    exact ⟨rfl, hN', (hx ▸ hM).trans hM'⟩
  · have e1 : mvE c.kind (l1 ++ m :: l2) = 0 := by unfold mvE; rw [if_neg (by omega)]
    have e2 : mvW c.kind l1 m l2 = l1 ++ (l2 ++ [m]) := by unfold mvW; rw [if_neg (by omega), if_neg (by omega), if_neg (by omega)]
    have e3 : mvQ c.kind n box m = box := by unfold mvQ; rw [if_neg (by omega)]
    rw [e1, e2, e3, hx]
    refine (n_delay (hx ▸ hN)).mono ?_
    rintro e w' ⟨rfl, hN', hM'⟩
    exact ⟨rfl, hN', (hx ▸ hM).trans hM'⟩
end
end Go.Proofs.Ytambdhoeakddhaa
