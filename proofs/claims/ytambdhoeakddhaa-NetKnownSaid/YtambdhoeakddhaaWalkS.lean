/- The walks over row and sent. -/
import Derived.Test.YtambdhoeakddhaaWalkR
import Derived.Laws.BytesArg
namespace Go.Proofs.Ytambdhoeakddhaa
open Go Go.RowKit Go.Conc
set_option linter.unusedVariables false

/-- The bytes of those that travel, each with its end. -/
def rowStr (way : List Msg) : ByteArray := way.foldl (fun s m => s ++ strOfNums m.xs ++ ⟨#[59]⟩) ⟨#[]⟩
theorem rowStr_next (way : List Msg) (m : Msg) : rowStr (way ++ [m]) = rowStr way ++ strOfNums m.xs ++ ⟨#[59]⟩ := by simp [rowStr]

theorem rowStr_size (way : List Msg) (h : ∀ m ∈ way, m.xs.length ≤ 140737488355328) : (rowStr way).size ≤ way.length * 140737488355329 := by
  have key : ∀ (l : List Msg) (s : ByteArray), (∀ m ∈ l, m.xs.length ≤ 140737488355328) → (l.foldl (fun s m => s ++ strOfNums m.xs ++ ⟨#[59]⟩) s).size ≤ s.size + l.length * 140737488355329 := by
    intro l
    induction l with
    | nil => intro s _; simp
    | cons m l ih =>
      intro s hl
      have h1 := hl m (by simp)
      have h2 := ih (s ++ strOfNums m.xs ++ ⟨#[59]⟩) fun m' hm => hl m' (by simp [hm])
      have h3 : (⟨#[59]⟩ : ByteArray).size = 1 := rfl
      simp only [ByteArray.size_append, strOfNums_size, h3] at h2
      simp only [List.foldl_cons, List.length_cons]
      omega
  have := key way ⟨#[]⟩ h
  have h3 : (⟨#[]⟩ : ByteArray).size = 0 := rfl
  rw [h3, Nat.zero_add] at this
  exact this
theorem Rows.bound {w : World} {B : Nat} : ∀ {ps : List PV} {ms : List Msg}, Rows w B ps ms → ∀ m ∈ ms, m.xs.length ≤ 140737488355328
  | [], [], _, m, hm => by cases hm
  | p :: _, m :: _, h, m', hm => by
    rcases List.mem_cons.1 hm with rfl | hm
    · rw [h.1.own.reads.1]; exact h.1.own.1
    · exact Rows.bound h.2 m' hm
  | [], _ :: _, h, _, _ => h.elim
  | _ :: _, [], h, _, _ => h.elim
theorem conv_own {w : World} {base : Nat} {a : Option Addr} {len cap : Nat} {xs : List Int} (h : POwn w base a len cap xs) : (convert 31 9 (.slice a len cap)).run Try.prog w = .ok (.string (strOfNums xs)) w := by
  have hr := h.reads
  obtain ⟨hb, hl, ⟨hv, hn⟩ | ⟨g, c, cur, hv, _, hg, _, _, _, htake⟩⟩ := h
  · simp only [Value.slice.injEq] at hv
    obtain ⟨rfl, rfl, rfl⟩ := hv
    have : xs = [] := by simpa using hl
    subst this
    exact run_convert_bytes_nil (P := Try.prog) w 31 5 Try.underlying31 Try.underlying5 0 0 9 Try.underlying9
  · simp only [Value.slice.injEq] at hv
    obtain ⟨rfl, _, rfl⟩ := hv
    refine run_convert_bytes_arg (P := Try.prog) w 31 5 Try.underlying31 Try.underlying5 g 0 len cap xs hr.1 (fun i hi => ?_) 9 Try.underlying9
    obtain ⟨_, _, h | ⟨x, hx, hc⟩⟩ := hr
    · simp at h
    · simp only [Option.some.injEq] at hx
      subst hx
      have := hc i hi
      have ha : (⟨g, 0, none⟩ : Addr).add i = ⟨g, i, none⟩ := by unfold Addr.add; split <;> simp_all
      rw [ha] at this; simpa using this

/-- The k-th of a told row, read. -/
theorem told_at {w w0 : World} {B : Nat} {v : Value} {qs : List PV} {way : List Msg} (hown : w.ownsRow B 33 3 v qs.length (qs.flatMap pcells)) (hr : Rows w B qs way) (k : Nat) (hk : k < way.length) :
    ∃ g c m p, v = .slice (some ⟨g, 0, none⟩) way.length c ∧ way[k]? = some m ∧ way.take (k + 1) = way.take k ++ [m] ∧ Is w B p m ∧ w.cell? ⟨g, k * 3, none⟩ = some (.int .i64 m.src) ∧ w.cell? ⟨g, k * 3 + 1, none⟩ = some (.int .i64 m.dst) ∧ w.cell? ⟨g, k * 3 + 2, none⟩ = some (.slice p.a p.len p.cap) := by
  obtain ⟨m1, m, m2, rfl, rfl⟩ := split_at way k hk
  obtain ⟨q1, p, q2, rfl, hq1, _, hp, _⟩ := hr.split
  have hlen := hr.len
  obtain ⟨hl, ⟨_, hn⟩ | ⟨g, c, cur, hv, hB, hg, hnc, hcm, hsz, htake⟩⟩ := hown
  · simp at hn
  have hat : ∀ j, j < 3 → w.cell? ⟨g, m1.length * 3 + j, none⟩ = (pcells p)[j]? := fun j hj => by
    rw [cell_of_row w g _ _ 33 (0, 0) hg]
    have e : (cur.toList.take ((q1 ++ p :: q2).length * 3))[m1.length * 3 + j]? = cur[m1.length * 3 + j]? := by
      rw [List.getElem?_take_of_lt (by simp; omega)]; simp
    rw [← e, htake, ← hq1, List.flatMap_append, List.getElem?_append_right (by rw [pcells_len]; omega), List.flatMap_cons, List.getElem?_append_left (by rw [pcells_len]; simp [pcells]; omega), pcells_len]
    congr 1; omega
  refine ⟨g, c, m, p, by rw [hv, hlen], by simp, take_next m m2 m1, hp, ?_, ?_, ?_⟩
  · have := hat 0 (by omega); rw [← hp.src]; simpa [pcells] using this
  · have := hat 1 (by omega); rw [← hp.dst]; simpa [pcells] using this
  · have := hat 2 (by omega); simpa [pcells] using this
theorem told_slice {w : World} {B : Nat} {v : Value} {qs : List PV} {way : List Msg} (hown : w.ownsRow B 33 3 v qs.length (qs.flatMap pcells)) (hr : Rows w B qs way) : ∃ a c, v = .slice a way.length c := by
  rw [← hr.len]; exact owns_slice hown

set_option maxRecDepth 8000 in
set_option maxHeartbeats 4000000 in
theorem row_any {w : World} {B b n : Nat} {way : List Msg} {box : Nat → List Msg} (h : Net w B b n way box) :
    Calls Try.prog 11 #[.pointer (some ⟨b, 0, none⟩)] w fun e w' => e = .returned (.string (rowStr way)) ∧ Below w.heap.size w w' := by
  have HW := Lib.hid (n_way h)
  have hlen := h.len
  clear h
  go_enter Try.func11, Try.ntmps11
  go_wp2_with fail
  refine HW.out.mono ?_
  rintro e w1 ⟨v, qs, rfl, hown, hr, hB⟩
  obtain ⟨a, c, rfl⟩ := told_slice hown hr
  have HO := Lib.hid (And.intro hown hr)
  have HB := Lib.hid hB
  clear hown hr hB HW
  go_wp2_with fail
  go_loopw [4, 5] (fun s i wr => ∃ (k : Nat), k ≤ way.length ∧ i = .int .i64 k ∧ s = .string (rowStr (way.take k)) ∧ wr = w1)
    (fun _ i _ => way.length - (intOf i).toNat)
  case atStart => exact ⟨0, by omega, rfl, rfl, rfl⟩
  case round =>
    obtain ⟨k, hk, rfl, rfl, rfl⟩ := hrel
    by_cases hlt : k < way.length
    · have k0 : (0 : Int) ≤ (k : Int) := by omega
      have k1 : (k : Int) < (way.length : Int) := by omega
      obtain ⟨g, c', m, p, hv, _, ht, hp, _, _, x2⟩ := told_at (w0 := w) HO.out.1 HO.out.2 k hlt
      simp only [Value.slice.injEq] at hv
      obtain ⟨rfl, _, rfl⟩ := hv
      have hconv := conv_own hp.own
      have HS := Lib.hid (show rowStr (way.take (k + 1)) = rowStr (way.take k) ++ strOfNums m.xs ++ ⟨#[59]⟩ by rw [ht]; exact rowStr_next _ _)
      have hbd := HO.out.2.bound
      have hs1 := rowStr_size (way.take k) fun m' hm => hbd m' (List.mem_of_mem_take hm)
      have hs2 := hp.own.reads.1
      have hs3 := hp.own.1
      have hs4 : (strOfNums m.xs).size = m.xs.length := strOfNums_size _
      have hs5 : (way.take k).length = k := by rw [List.length_take]; omega
      have hs6 : (rowStr (way.take k)).size ≤ 256 * 140737488355329 := Nat.le_trans hs1 (Nat.mul_le_mul_right _ (by omega))
      have hs7 : ¬ 9223372036854775807 < (rowStr (way.take k)).size + (strOfNums m.xs).size := by omega
      have hs8 : ¬ 9223372036854775807 < (rowStr (way.take k)).size + (strOfNums m.xs).size + 1 := by omega
      clear ht hs1 hs2 hs3 hs4 hs5 hs6 hbd
      generalize rowStr (way.take k) = s at *
      go_wp2_with fail
      go_roundw
      case rel => exact ⟨k + 1, by omega, by go_num, by rw [HS.out], trivial⟩
      case measure => simp [intOf]; omega
    · have hkl : k = way.length := by omega
      have ht : way.take k = way := by rw [List.take_of_length_le (by omega)]
      rw [ht]
      go_wp2_with fail
      go_ret
      exact ⟨rfl, HB.out⟩
end Go.Proofs.Ytambdhoeakddhaa
