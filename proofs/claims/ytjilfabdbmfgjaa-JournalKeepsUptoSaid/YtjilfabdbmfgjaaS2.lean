/- The disk: the walk of names: the names of the files that are there, rising. -/
import Derived.Test.YtjilfabdbmfgjaaS0
namespace Go.Proofs.Ytjilfabdbmfgjaa
open Go.RowKit Go.Proofs.YtjilfabdbmfgjaaW.PrintWords Go.Proofs.Ytjilfabdbmfgjaa.PJournalOrder
open Go.ChangeMaps (setBlock)
set_option maxRecDepth 100000

def slen : Value → Nat | .slice _ n _ => n | _ => 0
theorem strInfo : (Try.prog.info? 9).map (fun i => (i.zero, i.size, i.bytes)) = some (some (.string ⟨#[]⟩), 1, 16) := by kernel_rfl

theorem toList_append (a b : ByteArray) : (a ++ b).toList = a.toList ++ b.toList := by
  rw [ByteArray.toList_eq, ByteArray.toList_eq, ByteArray.toList_eq, ByteArray.data_append, Array.toList_append]
theorem bytesLess_snoc (l : List UInt8) (c : UInt8) : Op.bytesLess l (l ++ [c]) = true ∧ Op.bytesLess (l ++ [c]) l = false := by
  induction l with
  | nil => exact ⟨rfl, rfl⟩
  | cons x l ih =>
    simp only [List.cons_append, Op.bytesLess, ih.1, ih.2]
    simp
theorem less_names (nm : ByteArray) : Op.bytesLess (nameOf nm false).toList (nameOf nm true).toList = true ∧ Op.bytesLess (nameOf nm true).toList (nameOf nm false).toList = false := by
  have : (nameOf nm true).toList = nm.toList ++ [120] := by
    show (nm ++ (⟨#[120]⟩ : ByteArray)).toList = _
    rw [toList_append, show (⟨#[120]⟩ : ByteArray).toList = [120] from ByteArray.toList_mk [120]]
  rw [this]
  exact bytesLess_snoc _ _
/-- the places of the files that are there, in the order of their names -/
def idxs (f : Bool → Bool) : List Bool := [false, true].filter f
theorem sorted_names (nm : ByteArray) (l : List Bool) (hn : l.Nodup) (f : Bool → Bool) (hf : ∀ i, i ∈ l ↔ f i = true) : sorted2 (l.map (nameOf nm)) = (idxs f).map (nameOf nm) := by
  have h1 := less_names nm
  have hl := bool_nodup_length l hn
  have f0 := hf false
  have f1 := hf true
  match l, hl, hn with
  | [], _, _ =>
    have e0 : f false = false := by simpa using f0
    have e1 : f true = false := by simpa using f1
    simp [idxs, sorted2, e0, e1]
  | [a], _, _ =>
    cases a
    · have e0 : f false = true := by simpa using f0
      have e1 : f true = false := by simpa using f1
      simp [idxs, sorted2, e0, e1]
    · have e0 : f false = false := by simpa using f0
      have e1 : f true = true := by simpa using f1
      simp [idxs, sorted2, e0, e1]
  | [a, b], _, hn =>
    cases a <;> cases b
    · simp at hn
    · have e0 : f false = true := by simpa using f0
      have e1 : f true = true := by simpa using f1
      simp [idxs, sorted2, e0, e1, h1.2]
    · have e0 : f false = true := by simpa using f0
      have e1 : f true = true := by simpa using f1
      simp [idxs, sorted2, e0, e1, h1.1]
    · simp at hn

section
variable {base d : Nat} {nm : ByteArray} {R : Raw} {w : World} {A : ADisk}
def fileIdx (A : ADisk) : List Bool := idxs fun i => (A.file i).isSome

theorem names_any (h : RawDisk base nm w d R) (ha : Abs R A) :
    Calls Try.prog 31 #[.pointer (some ⟨d, 0, none⟩)] w fun e w' => ∃ v, e = .returned v ∧ Kd.R Kd.string 9 w' w.heap.size (fun _ => True) v ((fileIdx A).map (nameOf nm)) ∧ Below w.heap.size w w' := by
  have c0 : w.cell? ⟨d, 0, none⟩ = some (.map (some R.mb)) := blk_cell h.cells 0
  have hrg := Lib.hid (run_range_map (P := Try.prog) w 53 9 56 R.mb _ R.clock Try.underlying53 h.map)
  have hd0 := blk_lt h.cells
  have hmb := blk_lt h.map
  have hblk : Hid (∀ g ∈ R.gs, g.blk < w.heap.size) := fun g hg => blk_lt (h.files g hg).1
  have hstart : Hid (NIter base nm w (w.alloc (.mapIter (some R.mb) R.clock #[] R.clock)) d w.heap.size R []) :=
    ⟨blk_new w _, h.alloc _, (Below.refl _ _).alloc (Nat.le_refl _) _, rfl, by simp, by simp⟩
  have hidx : Hid (∀ (seen : List GF), (∀ g ∈ seen, g ∈ R.gs) → (seen.map (·.i)).Nodup → (∀ g ∈ R.gs, g ∈ seen) → seen.length ≤ 2 ∧ sorted2 (seen.map fun g => nameOf nm g.i) = (fileIdx A).map (nameOf nm)) := by
    intro seen h1 h2 h3
    refine ⟨by have := bool_nodup_length _ h2; simpa using this, ?_⟩
    have := sorted_names nm (seen.map (·.i)) h2 (fun i => (A.file i).isSome) (fun i => by
      rw [ha.file i]
      constructor
      · intro hi
        obtain ⟨g, hg, rfl⟩ := List.mem_map.1 hi
        rw [getF_of h.idx (h1 g hg)]
        rfl
      · intro hi
        cases hg : getF R.gs i with
        | none => rw [hg] at hi; simp at hi
        | some g =>
          obtain ⟨hg1, rfl⟩ := getF_some hg
          exact List.mem_map.2 ⟨g, h3 g hg1, rfl⟩)
    rw [List.map_map] at this
    exact this
  have hblk2 := hblk
  have hlen : Hid (∀ (seen : List GF), (∀ g ∈ seen, g ∈ R.gs) → (seen.map (·.i)).Nodup → seen.length ≤ 2) := by
    intro seen h1 h2
    have := bool_nodup_length _ h2
    simpa using this
  clear ha h
  go_enter Try.func31, Try.ntmps31
  go_wp2_with (at_range; refine range_is rfl _ _ rfl _ rfl hrg.out ?_)
  go_frame
  go_loopw [3] (fun v wr => ∃ seen, NIter base nm w wr d w.heap.size R seen ∧ Kd.R Kd.string 9 wr (w.heap.size + 1) (fun _ => True) v (seen.map fun g => nameOf nm g.i)) (fun v _ => 3 - slen v)
  case atStart => exact ⟨[], hstart.out, Kd.R_nil _ _ _ _ _⟩
  case round =>
    obtain ⟨seen, hI, hO⟩ := hrel
    obtain ⟨Ao, co, rfl⟩ := Kd.R_slice hO
    have hsl := hlen.out seen hI.sub hI.nodup
    rcases hI.step hd0 0 hblk.out hmb with ⟨hall, hrun⟩ | ⟨g, w2, hrun, hI2, hent, hsz, hheap⟩
    · obtain ⟨h2, hsort⟩ := hidx.out seen hI.sub hI.nodup hall
      have hS := sort_small (.slice Ao (seen.map fun g => nameOf nm g.i).length co) (seen.map fun g => nameOf nm g.i) (by rw [List.length_map]; exact h2) w wr hI.below (Kd.R_lower hO (by omega))
      rw [hsort, List.length_map] at hS
      have hS := Lib.hid hS
      have hrun := Lib.hid hrun
      clear hO hI hsort hsl h2 hidx hlen hall hstart hblk hrg
      simp only [List.length_map]
      go_wp2_with (first | (at_next; refine next_is rfl _ rfl _ rfl hrun.out ?_) | (go_at_call 42; refine hS.out.mono ?_; rintro e w' ⟨rfl, s1, s2⟩))
      go_ret
      exact ⟨_, rfl, s1, s2⟩
    · have hO' : Hid (Kd.R Kd.string 9 w2 (w.heap.size + 1) (fun _ => True) (.slice Ao seen.length co) (seen.map fun g => nameOf nm g.i)) := by
        have hO1 := Kd.R_bound hO
        rw [List.length_map] at hO1
        exact Kd.R_mono (Kd.R_step hO1 (fun k hk _ => hheap k (by have := hk.2.1; omega))) (fun _ _ => trivial)
      have hrun := Lib.hid hrun
      have hI2 := Lib.hid hI2
      have hent := Lib.hid hent
      have hsz' : w.heap.size + 1 ≤ w2.heap.size := by
        have h1 := blk_lt hI2.out.iter
        omega
      clear hO hI hheap hsz hidx hlen hstart hblk hrg
      simp only [List.length_map]
      generalize hL : (seen.map fun g => nameOf nm g.i) = L at hO'
      have hlL : L.length = seen.length := by rw [← hL, List.length_map]
      have hL := Lib.hid hL
      have hlL := Lib.hid hlL
      generalize hnm : nameOf nm g.i = nam at *
      have hnm := Lib.hid hnm
      go_wp2_with (first | (at_next; refine next_is rfl _ rfl _ rfl hrun.out ?_) | (refine entry_is rfl _ rfl _ rfl hent.out ?_) |
        (at_builtin; refine Kd.R_append Kd.string (w0 := w2) (w.heap.size + 1) rfl (.tmp 14) (.tmp 16) 29 9 (.string ⟨#[]⟩) 16 rfl Try.underlying29 strInfo rfl (by decide) (by omega) (.slice Ao seen.length co) L nam [.string nam] (fun _ => True) (fun _ => False) rfl rfl ?aP (fun _ hk => hk.elim) ?aF ?aO ?aB ?aS ?aL ?_; (case aP => exact rfl); (case aF => exact fun _ _ => trivial); (case aO => exact hO'.out); (case aB => exact Below.refl _ _); (case aS => exact hsz'); (case aL => rw [hlL.out]; omega); intro v1 w3 ho hb hg hat))
      have hI3 : NIter base nm w w3 d w.heap.size R (seen ++ [g]) := by
        have h2 := hI2.out
        refine ⟨?_, ⟨?_, ?_, h2.disk.bd, h2.disk.bm, fun x hx => ⟨?_, (h2.disk.files x hx).2⟩, h2.disk.idx, h2.disk.blks, h2.disk.borns⟩, ?_, rfl, h2.sub, h2.nodup⟩
        · rw [hb.block _ (by omega)]; exact h2.iter
        · rw [hb.block _ (by omega)]; exact h2.disk.cells
        · rw [hb.block _ (by omega)]; exact h2.disk.map
        · rw [hb.block _ (by have := hblk2.out x hx; omega)]; exact (h2.disk.files x hx).1
        · exact h2.below.trans (hb.mono (by omega))
      have hO3 : Kd.R Kd.string 9 w3 (w.heap.size + 1) (fun _ => True) v1 ((seen ++ [g]).map fun g => nameOf nm g.i) := by
        rw [List.map_append, hL.out]
        show Kd.R _ _ _ _ _ _ (L ++ [nameOf nm g.i])
        rw [hnm.out]
        exact ho
      obtain ⟨A3, c3, hv3⟩ := Kd.R_slice hO3
      have hs3 : slen v1 = seen.length + 1 := by rw [hv3]; simp [slen]
      have hs3 := Lib.hid hs3
      have hO3 := Lib.hid hO3
      have hI3 := Lib.hid hI3
      clear hv3 ho hb hg hat hO' hL hlL hnm
      go_wp2
      go_roundw
      case rel => exact ⟨_, hI3.out, hO3.out⟩
      case measure => rw [hs3.out]; simp [slen]; omega
end
end Go.Proofs.Ytjilfabdbmfgjaa
