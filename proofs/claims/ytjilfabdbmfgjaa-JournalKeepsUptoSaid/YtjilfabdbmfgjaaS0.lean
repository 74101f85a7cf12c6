/- slices.Sort of few strings: the walk, over the printed insertion sort. -/
import Derived.Test.YtjilfabdbmfgjaaD3
import Derived.Test.YtjilfabdbmfgjaaPJournalOrderx3
import Derived.Maps.RangeRun
import Derived.Maps.RangeWalk
namespace Go.Proofs.Ytjilfabdbmfgjaa
open Go.RowKit Go.Proofs.YtjilfabdbmfgjaaW.PrintWords Go.Proofs.Ytjilfabdbmfgjaa.PJournalOrder
set_option maxRecDepth 100000

theorem len64_small (n : Nat) (hn : n ≤ 2) (w : World) : Calls Try.prog 57 #[.int .u64 (n : Int)] w fun e w' => ∃ r : Int, e = .returned (.int .i64 r) ∧ w = w' := by
  rcases (by omega : n = 0 ∨ n = 1 ∨ n = 2) with rfl | rfl | rfl
  · go_enter Try.func57, Try.ntmps57
    go_wp2
    go_ret
    exact ⟨_, rfl, rfl⟩
  · go_enter Try.func57, Try.ntmps57
    go_wp2
    go_ret
    exact ⟨_, rfl, rfl⟩
  · go_enter Try.func57, Try.ntmps57
    go_wp2
    go_ret
    exact ⟨_, rfl, rfl⟩
theorem len_small (n : Nat) (hn : n ≤ 2) (w : World) : Calls Try.prog 46 #[.int .u64 (n : Int)] w fun e w' => ∃ r : Int, e = .returned (.int .i64 r) ∧ w = w' := by
  have H := Lib.hid (len64_small n hn w)
  clear hn
  go_enter Try.func46, Try.ntmps46
  go_wp2_with (go_at_call 57; refine H.out.mono ?_; rintro e w' ⟨r, rfl, rfl⟩)
  go_ret
  exact ⟨_, rfl, rfl⟩

/-- two strings in their order -/
def sorted2 : List ByteArray → List ByteArray
  | [a, b] => if Op.bytesLess b.toList a.toList then [b, a] else [a, b]
  | l => l
theorem less_is (a b : ByteArray) : cmp_Less_string.f a b = some (Op.bytesLess a.toList b.toList) := by
  simp [cmp_Less_string.f, cmp_isNaN_string.f]
theorem ins_small (l : List ByteArray) (hl : l.length ≤ 2) : slices_insertionSortOrdered_string.f 9 l 0 (l.length : Int) = some (sorted2 l) := by
  match l, hl with
  | [], _ => simp [slices_insertionSortOrdered_string.f, slices_insertionSortOrdered_string.l0, wrap64, sorted2]
  | [a], _ => simp [slices_insertionSortOrdered_string.f, slices_insertionSortOrdered_string.l0, wrap64, sorted2]
  | [a, b], _ =>
    cases h : Op.bytesLess b.toList a.toList <;>
    simp [slices_insertionSortOrdered_string.f, slices_insertionSortOrdered_string.l0, slices_insertionSortOrdered_string.l1, wrap64, sorted2, rdOf, less_is, h]

theorem pdq_small (lim : Int) (v : Value) (l : List ByteArray) (hl : l.length ≤ 2) (w0 w : World) (hB : Below w0.heap.size w0 w) (ho : Kd.R Kd.string 9 w w0.heap.size (fun _ => True) v l) :
    Calls Try.prog 45 #[v, .int .i64 0, .int .i64 (l.length : Int), .int .i64 lim] w fun e w' => e = .returned (.tuple #[]) ∧ Kd.R Kd.string 9 w' w0.heap.size (fun _ => True) v (sorted2 l) ∧ Below w0.heap.size w0 w' := by
  have H := Lib.hid (slices_insertionSortOrdered_string.calls 9 (fun _ => True) v l 0 (l.length : Int) _ w0 w hB ho (ins_small l hl))
  have hl' : (l.length : Int) ≤ 12 := by omega
  have hl0 : (0 : Int) ≤ (l.length : Int) := by omega
  clear hB ho hl
  generalize hn : (l.length : Int) = n at *
  clear hn
  go_enter Try.func45, Try.ntmps45
  go_wp2
  refine wp_loop_rounds 1 ?_
  rw [rounds_succ]
  go_wp2_with (go_at_call 47; refine H.out.mono ?_; rintro e w' ⟨rfl, h1, h2, h3⟩)
  refine bodyPost_ret (results_none rfl _ _ _) rfl ?_
  exact ⟨rfl, Kd.R_mono h1 (fun _ _ => trivial), h2⟩

theorem sort_small (v : Value) (l : List ByteArray) (hl : l.length ≤ 2) (w0 w : World) (hB : Below w0.heap.size w0 w) (ho : Kd.R Kd.string 9 w w0.heap.size (fun _ => True) v l) :
    Calls Try.prog 42 #[v] w fun e w' => e = .returned (.tuple #[]) ∧ Kd.R Kd.string 9 w' w0.heap.size (fun _ => True) v (sorted2 l) ∧ Below w0.heap.size w0 w' := by
  have H := Lib.hid (fun lim => pdq_small lim v l hl w0 w hB ho)
  have HL := Lib.hid (len_small l.length hl w)
  obtain ⟨A, c, rfl⟩ := Kd.R_slice ho
  have hl' : (l.length : Int) ≤ 12 := by omega
  clear hB ho hl
  generalize l.length = n at *
  go_enter Try.func42, Try.ntmps42
  go_wp2_with (first | (go_at_call 46; refine HL.out.mono ?_; rintro e w' ⟨r, rfl, rfl⟩) | (go_at_call 45; refine (H.out r).mono ?_; rintro e w' ⟨rfl, h1, h2⟩))
  go_end0
  exact ⟨rfl, h1, h2⟩
end Go.Proofs.Ytjilfabdbmfgjaa
namespace Go.Proofs.Ytjilfabdbmfgjaa
open Go.RowKit Go.Proofs.YtjilfabdbmfgjaaW.PrintWords Go.Proofs.Ytjilfabdbmfgjaa.PJournalOrder
open Go.ChangeMaps (setBlock)
set_option maxRecDepth 100000

section
variable {P : Program} {w : World} {ops : Array Oper} {rest : List Oper} {o : Oper} {a : Act} {Q : Exit → Act → World → Prop}
theorem range_is (hg : o.guard = none) (m : Operand) (t : TypeId) (hop : o.op = Op.range t m) (mv : Value) (hm : a.eval m = mv) {v : Value} {w' : World}
    (hrun : (Instr.range t mv).run P w = .ok v w') (hK : wpList P ops Q rest (a.put o.dst v) w') : wpList P ops Q (o :: rest) a w := by
  refine wpList_plain hg fun K' hK' => ?_
  unfold Oper.wp
  simp [execOp, hop, hm, hrun, Result.andThen]
  exact hK' _ _ hK
theorem next_is (hg : o.guard = none) (it : Operand) (hop : o.op = Op.next it false) (mv : Value) (hm : a.eval it = mv) {v : Value} {w' : World}
    (hrun : (Instr.next mv false o.type).run P w = .ok v w') (hK : wpList P ops Q rest (a.put o.dst v) w') : wpList P ops Q (o :: rest) a w := by
  refine wpList_plain hg fun K' hK' => ?_
  unfold Oper.wp
  simp [execOp, hop, hm, hrun, Result.andThen]
  exact hK' _ _ hK
theorem entry_is (hg : o.guard = none) (it : Operand) (hop : o.op = Op.entry it) (mv : Value) (hm : a.eval it = mv) {v : Value} {w' : World}
    (hrun : (Instr.entry mv).run P w = .ok v w') (hK : wpList P ops Q rest (a.put o.dst v) w') : wpList P ops Q (o :: rest) a w := by
  refine wpList_plain hg fun K' hK' => ?_
  unfold Oper.wp
  simp [execOp, hop, hm, hrun, Result.andThen]
  exact hK' _ _ hK
end

theorem setBlock_eq {w : World} {r : Nat} {o : Obj} (h : w.heap[r]? = some o) (x : Obj) : (setBlock w r x).heap[r]? = some x := by
  have := (Array.getElem?_eq_some_iff.1 h).1
  simp [setBlock, this]
theorem setBlock_ne {w : World} {r k : Nat} (h : k ≠ r) (x : Obj) : (setBlock w r x).heap[k]? = w.heap[k]? := by
  simp only [setBlock]
  rw [Array.getElem?_setIfInBounds_ne (Ne.symm h)]

/-- a walk over the files is under way -/
structure NIter (base : Nat) (nm : ByteArray) (w0 wr : World) (d it : Nat) (R : Raw) (seen : List GF) : Prop where
  iter : wr.heap[it]? = some (.mapIter (some R.mb) R.clock (seen.map (·.born)).toArray R.clock)
  disk : RawDisk base nm wr d R
  below : Below w0.heap.size w0 wr
  le : it = w0.heap.size
  sub : ∀ g ∈ seen, g ∈ R.gs
  nodup : (seen.map (·.i)).Nodup

theorem ent_find {nm : ByteArray} {gs : List GF} {e : MapEntry} (he : e ∈ (gs.map (GF.key nm)).map sent) : ∃ g ∈ gs, e = { key := .string (nameOf nm g.i), val := .pointer (some ⟨g.blk, 0, none⟩), born := g.born } := by
  obtain ⟨x, hx, rfl⟩ := List.mem_map.1 he
  obtain ⟨g, hg, rfl⟩ := List.mem_map.1 hx
  exact ⟨g, hg, rfl⟩

theorem NIter.step {base : Nat} {nm : ByteArray} {w0 wr : World} {d it : Nat} {R : Raw} {seen : List GF} (h : NIter base nm w0 wr d it R seen) (hd0 : d < w0.heap.size) (ty : TypeId) (hold : ∀ g ∈ R.gs, g.blk < w0.heap.size) (hmb : R.mb < w0.heap.size) :
    ((∀ g ∈ R.gs, g ∈ seen) ∧ (Instr.next (.pointer (some ⟨it, 0, none⟩)) false ty).run Try.prog wr = .ok (.tuple #[.bool false]) wr) ∨
    ∃ (g : GF) (w2 : World), (Instr.next (.pointer (some ⟨it, 0, none⟩)) false ty).run Try.prog wr = .ok (.tuple #[.bool true, .string (nameOf nm g.i), .pointer (some ⟨g.blk, 0, none⟩)]) w2 ∧
      NIter base nm w0 w2 d it R (seen ++ [g]) ∧ (Instr.entry (.pointer (some ⟨it, 0, none⟩))).run Try.prog w2 = .ok (.tuple #[.string (nameOf nm g.i), .pointer (some ⟨g.blk, 0, none⟩)]) w2 ∧ w2.heap.size = wr.heap.size ∧
      (∀ k, k ≠ it → w2.heap[k]? = wr.heap[k]?) := by
  have hb := h.disk.map
  have hborn : ∀ x ∈ ((R.gs.map (GF.key nm)).map sent).toArray.toList, x.born < R.clock := by
    intro x hx
    obtain ⟨g, hg, rfl⟩ := ent_find (by simpa using hx)
    exact (h.disk.files g hg).2.2.2.2
  have binj : ∀ g g', g ∈ R.gs → g' ∈ R.gs → g.born = g'.born → g = g' := by
    have hn := h.disk.borns
    clear hborn hb hold
    generalize R.gs = gs at *
    induction gs with
    | nil => intro g g' hg; cases hg
    | cons x gs ih =>
      intro g g' hg hg' he
      simp only [List.map_cons, List.nodup_cons] at hn
      rcases List.mem_cons.1 hg with rfl | hg1 <;> rcases List.mem_cons.1 hg' with rfl | hg2
      · rfl
      · exact absurd (List.mem_map.2 ⟨g', hg2, rfl⟩) (he ▸ hn.1)
      · exact absurd (List.mem_map.2 ⟨g, hg1, rfl⟩) (he ▸ hn.1)
      · exact ih hn.2 g g' hg1 hg2 he
  rcases run_next_at (P := Try.prog) wr ty it R.mb R.clock R.clock _ _ R.clock h.iter hb hborn (Nat.le_refl _) with ⟨h0, hrun⟩ | ⟨e, he, w1, hw1, hrun⟩
  · left
    refine ⟨fun g hg => ?_, hrun⟩
    apply Classical.byContradiction
    intro hns
    have : (sent (g.key nm)) ∈ (leftOf ((R.gs.map (GF.key nm)).map sent).toArray (seen.map (·.born)).toArray).toList := by
      simp only [leftOf, Array.toList_filter, List.mem_filter]
      refine ⟨List.mem_map.2 ⟨_, List.mem_map.2 ⟨g, hg, rfl⟩, rfl⟩, ?_⟩
      simp only [Bool.not_eq_true', Array.contains_eq_mem, decide_eq_false_iff_not, List.mem_toArray]
      intro hm
      obtain ⟨g', hg', hbn⟩ := List.mem_map.1 hm
      exact hns (binj g' g (h.sub g' hg') hg hbn ▸ hg')
    rw [Array.eq_empty_of_size_eq_zero h0] at this
    simp at this
  · right
    simp only [leftOf, Array.toList_filter, List.mem_filter] at he
    obtain ⟨he1, he2⟩ := he
    obtain ⟨g, hg, rfl⟩ := ent_find he1
    have hns : g.born ∉ seen.map (·.born) := by simpa using he2
    have hw1h : w1.heap = wr.heap := by rcases hw1 with rfl | rfl <;> rfl
    have hi1 : w1.heap[it]? = some (.mapIter (some R.mb) R.clock (seen.map (·.born)).toArray R.clock) := by rw [hw1h]; exact h.iter
    have hsz : (setBlock w1 it (.mapIter (some R.mb) R.clock ((seen.map (·.born)).toArray.push g.born) R.clock)).heap.size = wr.heap.size := by simp [setBlock, hw1h]
    have hne : ∀ k, k ≠ it → (setBlock w1 it (.mapIter (some R.mb) R.clock ((seen.map (·.born)).toArray.push g.born) R.clock)).heap[k]? = wr.heap[k]? := fun k hk => by rw [setBlock_ne hk, hw1h]
    have hle := h.le
    refine ⟨g, _, hrun, ⟨?_, ⟨?_, ?_, h.disk.bd, h.disk.bm, fun x hx => ⟨?_, (h.disk.files x hx).2⟩, h.disk.idx, h.disk.blks, h.disk.borns⟩, ⟨?_, ?_, ?_, ?_, fun k hk => ?_⟩, h.le, ?_, ?_⟩, ?_, hsz, hne⟩
    · rw [setBlock_eq hi1]
      simp
    · rw [hne _ (by omega)]; exact h.disk.cells
    · rw [hne _ (by omega)]; exact h.disk.map
    · rw [hne _ (by have := hold x hx; omega)]; exact (h.disk.files x hx).1
    · rcases hw1 with rfl | rfl <;> exact h.below.os
    · rcases hw1 with rfl | rfl <;> exact h.below.tape
    · rcases hw1 with rfl | rfl <;> exact h.below.output
    · rw [hsz]; exact h.below.size
    · rw [hne _ (by omega)]; exact h.below.block k hk
    · intro x hx
      rcases List.mem_append.1 hx with hx | hx
      · exact h.sub x hx
      · simp only [List.mem_singleton] at hx
        subst hx
        exact hg
    · simp only [List.map_append, List.map_cons, List.map_nil, List.nodup_append]
      refine ⟨h.nodup, by simp, fun a ha b hb => ?_⟩
      simp only [List.mem_singleton] at hb
      subst hb
      obtain ⟨y, hy, rfl⟩ := List.mem_map.1 ha
      intro hye
      have h1 := getF_of h.disk.idx (h.sub y hy)
      have h2 := getF_of h.disk.idx hg
      rw [hye, h2] at h1
      have : g = y := Option.some.inj h1
      exact hns (this ▸ List.mem_map.2 ⟨y, hy, rfl⟩)
    · refine run_entry_at (P := Try.prog) _ it R.mb R.clock (seen.map (·.born)).toArray _ R.clock { key := .string (nameOf nm g.i), val := .pointer (some ⟨g.blk, 0, none⟩), born := g.born } (setBlock_eq hi1 _) (by rw [hne _ (by omega)]; exact hb) he1 ?_
      have : ((R.gs.map (GF.key nm)).map sent).map (·.born) = R.gs.map (·.born) := by
        rw [List.map_map, List.map_map]; rfl
      show (((R.gs.map (GF.key nm)).map sent).map (·.born)).Nodup
      rw [this]
      exact h.disk.borns
end Go.Proofs.Ytjilfabdbmfgjaa
