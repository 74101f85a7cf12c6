/- A number's bytes: the plain words, and the walk of octets.Number. -/
import Derived.Test.YtjilfabdbmfgjaaB0
import Derived.Laws.BytesArg
namespace Go.Proofs.Ytjilfabdbmfgjaa
open Go.RowKit Go.Proofs.YtjilfabdbmfgjaaW.PrintWords
set_option maxRecDepth 100000

/-- a number's digits to the base 256, the highest first -/
def beD (n : Nat) : List Nat := if _h : n = 0 then [] else beD (n / 256) ++ [n % 256]
termination_by n
decreasing_by omega
theorem beD_zero : beD 0 = [] := by rw [beD]; simp
theorem beD_pos {n : Nat} (h : n ≠ 0) : beD n = beD (n / 256) ++ [n % 256] := by rw [beD]; simp [h]
theorem beD_length : ∀ (k n : Nat), n < 256 ^ k → (beD n).length ≤ k
  | 0, n, h => by
    have : n = 0 := by simp at h; exact h
    subst this
    rw [beD_zero]
    simp
  | k + 1, n, h => by
    by_cases hn : n = 0
    · subst hn; rw [beD_zero]; simp
    · rw [beD_pos hn, List.length_append]
      have := beD_length k (n / 256) (by rw [Nat.pow_succ] at h; exact Nat.div_lt_of_lt_mul (by rw [Nat.mul_comm]; exact h))
      simp
      omega
theorem beD_lt (n : Nat) : ∀ d ∈ beD n, d < 256 := by
  induction n using Nat.strongRecOn with
  | _ n ih =>
    by_cases hn : n = 0
    · subst hn; rw [beD_zero]; simp
    · rw [beD_pos hn]
      intro d hd
      rcases List.mem_append.1 hd with hd | hd
      · exact ih (n / 256) (by omega) d hd
      · simp at hd
        omega
theorem beD_eq_nil {n : Nat} : beD n = [] ↔ n = 0 := by
  constructor
  · intro h
    apply Classical.byContradiction
    intro hn
    rw [beD_pos hn] at h
    simp at h
  · rintro rfl
    exact beD_zero
def u8s (l : List Nat) : List UInt8 := l.map UInt8.ofNat
/-- a number's bytes -/
def numB (n : Nat) : List UInt8 := UInt8.ofNat (beD n).length :: u8s (beD n)
def u8V (l : List Nat) : List Value := l.map fun (d : Nat) => .int .u8 (d : Int)

theorem rep_set (k : Nat) (ds : List Nat) (x : Nat) : (u8V (List.replicate (k + 1) 0 ++ ds)).set k (.int .u8 (x : Int)) = u8V (List.replicate k 0 ++ x :: ds) := by
  unfold u8V
  rw [List.replicate_succ', List.append_assoc, List.map_append, List.set_append_right _ _ (by simp)]
  simp

theorem slice_arr (b m : Nat) (hm : m < 9) (W : World) : (Instr.sliceAt 77 (.pointer (some ⟨b, 0, none⟩)) (some (.int .i64 (m : Int))) none none).run Try.prog W = .ok (.slice (some ⟨b, m, none⟩) (9 - m) (9 - m)) W := by
  have h9 : (m : Int) ≤ 9 := by omega
  have h0 : (0 : Int) ≤ (m : Int) := by omega
  simp [Instr.sliceAt, Instr.slice, go_sem]
  rw [if_pos h9, if_neg (by omega)]

theorem strOfNums_u8 (l : List Nat) : strOfNums (l.map fun (d : Nat) => (d : Int)) = ⟨(u8s l).toArray⟩ := by
  unfold strOfNums u8s
  rw [List.map_map]
  rfl

theorem number_any (n : Nat) (hn : n < 9223372036854775808) (w : World) :
    Calls Try.prog 43 #[.int .i64 (n : Int)] w fun e w' => e = .returned (.tuple #[.string ⟨(numB n).toArray⟩, .int .i64 0]) ∧ Below w.heap.size w w' := by
  have hn0 : (0 : Int) ≤ (n : Int) := by omega
  have hlen : (beD n).length ≤ 8 := beD_length 8 n (by omega)
  have hlen := Lib.hid hlen
  go_enter Try.func43, Try.ntmps43
  go_wp2
  go_loopw [0, 5] (fun c a wr => ∃ (cur m : Nat) (ds : List Nat), c = .int .i64 (cur : Int) ∧ a = .int .i64 ((m : Int) + 1) ∧ Hid (m + 1 + ds.length = 9 ∧ beD n = beD cur ++ ds ∧
      wr.heap[w.heap.size]? = some (.cells (u8V (List.replicate (m + 1) 0 ++ ds)).toArray 77 (0, 0)) ∧ Below w.heap.size w wr ∧ cur < 9223372036854775808)) (fun c _ _ => (intOf c).toNat)
  case atStart => exact ⟨n, 8, [], rfl, rfl, rfl, by simp, blk_new _ _, (Below.refl _ _).alloc (Nat.le_refl _) _, hn⟩
  case round =>
    obtain ⟨cur, m, ds, rfl, rfl, hI⟩ := hrel
    obtain ⟨h1, h2, h3, h4, h5⟩ := hI.out
    by_cases hc : cur = 0
    · subst hc
      have hds : beD n = ds := by rw [h2, beD_zero]; rfl
      have hm9 : m < 9 := by omega
      have c0 : ∃ v, wr.cell? ⟨w.heap.size, m, none⟩ = some v := by
        rw [blk_cell h3]
        refine ⟨.int .u8 0, ?_⟩
        simp [u8V, List.getElem?_append]
      obtain ⟨v0, c0⟩ := c0
      have z0 : wr.frozen? ⟨w.heap.size, m, none⟩ = false := blk_frozen h3 _
      have hlen8 : (8 : Int) - (m : Int) = (ds.length : Int) := by omega
      have hl256 : (ds.length : Int) % 256 = (ds.length : Int) := by omega
      have hW : (wr.setCell ⟨w.heap.size, m, none⟩ (.int .u8 (9 - ((m : Int) + 1)))).heap[w.heap.size]? = some (.cells (u8V (List.replicate m 0 ++ ds.length :: ds)).toArray 77 (0, 0)) := by
        rw [blk_set h3 m _, List.setIfInBounds_toArray, show (9 - ((m : Int) + 1)) = ((ds.length : Nat) : Int) from by omega, rep_set]
      have hconv : Hid ((convert 70 9 (.slice (some ⟨w.heap.size, m, none⟩) (9 - m) (9 - m))).run Try.prog (wr.setCell ⟨w.heap.size, m, none⟩ (.int .u8 (9 - ((m : Int) + 1)))) =
          .ok (.string ⟨(numB n).toArray⟩) (wr.setCell ⟨w.heap.size, m, none⟩ (.int .u8 (9 - ((m : Int) + 1))))) := by
        have := run_convert_bytes_arg (P := Try.prog) (wr.setCell ⟨w.heap.size, m, none⟩ (.int .u8 (9 - ((m : Int) + 1)))) 70 5 Try.underlying70 Try.underlying5 w.heap.size m (9 - m) (9 - m) ((ds.length :: ds).map fun (d : Nat) => (d : Int)) (by simp; omega) (fun i hi => by
          rw [blk_cell hW]
          have hlt : i < (ds.length :: ds).length := by simp; omega
          simp only [u8V, List.getElem?_toArray, List.map_append, List.getD_eq_getElem?_getD]
          rw [List.getElem?_append_right (by simp)]
          simp only [List.length_map, List.length_replicate, Nat.add_sub_cancel_left, List.getElem?_map, List.getElem?_eq_getElem hlt]
          rfl) 9 Try.underlying9
        rw [strOfNums_u8] at this
        rw [this]
        unfold numB
        rw [hds]
        rfl
      have hsl := slice_arr w.heap.size m (by omega)
      have hbel : Hid (Below w.heap.size w (wr.setCell ⟨w.heap.size, m, none⟩ (.int .u8 (9 - ((m : Int) + 1))))) := h4.setCell (Nat.le_refl _) _
      clear hW hI
      have h1 := Lib.hid h1
      have h2 := Lib.hid h2
      have h3 := Lib.hid h3
      have h4 := Lib.hid h4
      have hds := Lib.hid hds
      go_wp2_with (refine conv_is rfl _ _ _ rfl _ rfl hconv.out ?_)
      go_ret2
      exact ⟨rfl, hbel.out⟩
    · have hcur : (0 : Int) < (cur : Int) := by omega
      have hcm : m ≠ 0 := by
        intro hm
        have hl := congrArg List.length h2
        rw [beD_pos hc, List.length_append, List.length_append] at hl
        have := hlen.out
        simp at hl
        omega
      obtain ⟨m, rfl⟩ : ∃ k, m = k + 1 := ⟨m - 1, by omega⟩
      have hm8 : m < 8 := by omega
      have c0 : wr.cell? ⟨w.heap.size, m + 1, none⟩ = some (.int .u8 0) := by
        rw [blk_cell h3]
        simp [u8V, List.getElem?_append]
      have z0 : wr.frozen? ⟨w.heap.size, m + 1, none⟩ = false := blk_frozen h3 _
      have hfin : Hid (m + 1 + (cur % 256 :: ds).length = 9 ∧ beD n = beD (cur / 256) ++ (cur % 256 :: ds) ∧
          (wr.setCell ⟨w.heap.size, m + 1, none⟩ (.int .u8 ((cur : Int) % 256))).heap[w.heap.size]? = some (.cells (u8V (List.replicate (m + 1) 0 ++ (cur % 256 :: ds))).toArray 77 (0, 0)) ∧
          Below w.heap.size w (wr.setCell ⟨w.heap.size, m + 1, none⟩ (.int .u8 ((cur : Int) % 256))) ∧ cur / 256 < 9223372036854775808) := by
        refine ⟨by simp; omega, by rw [h2, beD_pos hc]; simp, ?_, h4.setCell (Nat.le_refl _) _, by omega⟩
        rw [blk_set h3 (m + 1) _]
        rw [List.setIfInBounds_toArray, show Value.int .u8 ((cur : Int) % 256) = .int .u8 ((cur % 256 : Nat) : Int) from rfl, rep_set]
      clear h1 h2 h3 h4 hI
      go_wp2_with (fail)
      exact ⟨⟨cur / 256, m, cur % 256 :: ds, rfl, rfl, hfin.out⟩, by simp [intOf]; omega⟩
end Go.Proofs.Ytjilfabdbmfgjaa
