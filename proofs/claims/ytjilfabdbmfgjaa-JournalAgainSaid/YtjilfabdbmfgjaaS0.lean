/- slices.Sort of few strings: the walk, over the printed insertion sort. -/
import Derived.Test.YtjilfabdbmfgjaaD3
import Derived.Test.YtjilfabdbmfgjaaPJournalOrderx3
namespace Go.Proofs.Ytjilfabdbmfgjaa
open Go.RowKit Go.Proofs.YtjilfabdbmfgjaaW.PrintWords Go.Proofs.Ytjilfabdbmfgjaa.PJournalOrder
set_option maxRecDepth 100000

theorem len64_small (n : Nat) (hn : n ≤ 2) (w : World) : Calls Try.prog 57 #[.int .u64 (n : Int)] w fun e w' => ∃ r : Int, e = .returned (.int .i64 r) ∧ w = w' := by
  rcases (by omega : n = 0 ∨ n = 1 ∨ n = 2) with rfl | rfl | rfl
  · go_enter Try.func57, Try.ntmps57
    go_wp2
    go_ret
    exact ⟨_, rfl, rfl⟩
  · go_enter Try.func57, Try.ntmps57
    go_wp2
    go_ret
    exact ⟨_, rfl, rfl⟩
  · go_enter Try.func57, Try.ntmps57
    go_wp2
    go_ret
    exact ⟨_, rfl, rfl⟩
theorem len_small (n : Nat) (hn : n ≤ 2) (w : World) : Calls Try.prog 46 #[.int .u64 (n : Int)] w fun e w' => ∃ r : Int, e = .returned (.int .i64 r) ∧ w = w' := by
  have H := Lib.hid (len64_small n hn w)
  clear hn
  go_enter Try.func46, Try.ntmps46
  go_wp2_with (go_at_call 57; refine H.out.mono ?_; rintro e w' ⟨r, rfl, rfl⟩)
  go_ret
  exact ⟨_, rfl, rfl⟩

/-- two strings in their order -/
def sorted2 : List ByteArray → List ByteArray
  | [a, b] => if Op.bytesLess b.toList a.toList then [b, a] else [a, b]
  | l => l
theorem less_is (a b : ByteArray) : cmp_Less_string.f a b = some (Op.bytesLess a.toList b.toList) := by
  simp [cmp_Less_string.f, cmp_isNaN_string.f]
theorem ins_small (l : List ByteArray) (hl : l.length ≤ 2) : slices_insertionSortOrdered_string.f 9 l 0 (l.length : Int) = some (sorted2 l) := by
  match l, hl with
  | [], _ => simp [slices_insertionSortOrdered_string.f, slices_insertionSortOrdered_string.l0, wrap64, sorted2]
  | [a], _ => simp [slices_insertionSortOrdered_string.f, slices_insertionSortOrdered_string.l0, wrap64, sorted2]
  | [a, b], _ =>
    cases h : Op.bytesLess b.toList a.toList <;>
    simp [slices_insertionSortOrdered_string.f, slices_insertionSortOrdered_string.l0, slices_insertionSortOrdered_string.l1, wrap64, sorted2, rdOf, less_is, h]

theorem pdq_small (lim : Int) (v : Value) (l : List ByteArray) (hl : l.length ≤ 2) (w0 w : World) (hB : Below w0.heap.size w0 w) (ho : Kd.R Kd.string 9 w w0.heap.size (fun _ => True) v l) :
    Calls Try.prog 45 #[v, .int .i64 0, .int .i64 (l.length : Int), .int .i64 lim] w fun e w' => e = .returned (.tuple #[]) ∧ Kd.R Kd.string 9 w' w0.heap.size (fun _ => True) v (sorted2 l) ∧ Below w0.heap.size w0 w' := by
  have H := Lib.hid (slices_insertionSortOrdered_string.calls 9 (fun _ => True) v l 0 (l.length : Int) _ w0 w hB ho (ins_small l hl))
  have hl' : (l.length : Int) ≤ 12 := by omega
  have hl0 : (0 : Int) ≤ (l.length : Int) := by omega
  clear hB ho hl
  generalize hn : (l.length : Int) = n at *
  clear hn
  go_enter Try.func45, Try.ntmps45
  go_wp2
  refine wp_loop_rounds 1 ?_
  rw [rounds_succ]
  go_wp2_with (go_at_call 47; refine H.out.mono ?_; rintro e w' ⟨rfl, h1, h2, h3⟩)
  refine bodyPost_ret (results_none rfl _ _ _) rfl ?_
  exact ⟨rfl, Kd.R_mono h1 (fun _ _ => trivial), h2⟩

theorem sort_small (v : Value) (l : List ByteArray) (hl : l.length ≤ 2) (w0 w : World) (hB : Below w0.heap.size w0 w) (ho : Kd.R Kd.string 9 w w0.heap.size (fun _ => True) v l) :
    Calls Try.prog 42 #[v] w fun e w' => e = .returned (.tuple #[]) ∧ Kd.R Kd.string 9 w' w0.heap.size (fun _ => True) v (sorted2 l) ∧ Below w0.heap.size w0 w' := by
  have H := Lib.hid (fun lim => pdq_small lim v l hl w0 w hB ho)
  have HL := Lib.hid (len_small l.length hl w)
  obtain ⟨A, c, rfl⟩ := Kd.R_slice ho
  have hl' : (l.length : Int) ≤ 12 := by omega
  clear hB ho hl
  generalize l.length = n at *
  go_enter Try.func42, Try.ntmps42
  go_wp2_with (first | (go_at_call 46; refine HL.out.mono ?_; rintro e w' ⟨r, rfl, rfl⟩) | (go_at_call 45; refine (H.out r).mono ?_; rintro e w' ⟨rfl, h1, h2⟩))
  go_end0
  exact ⟨rfl, h1, h2⟩
end Go.Proofs.Ytjilfabdbmfgjaa
