/- The disk: the walks of its operations, each answered as the document says. -/
import Derived.Test.YtjilfabdbmfgjaaD1
namespace Go.Proofs.Ytjilfabdbmfgjaa
open Go.RowKit Go.Proofs.YtjilfabdbmfgjaaW.PrintWords Go.Proofs.Ytjilfabdbmfgjaa.PJournalOrder
set_option maxRecDepth 100000

def ADisk.set (A : ADisk) (i : Bool) (f : Option FB) : ADisk := { A with file := fun j => if j = i then f else A.file j }
/-- a name is one, with and without the byte behind it -/
def WordOk (nm : ByteArray) : Prop := ∀ i, ∃ k, disk_word.f k (nameOf nm i) = some true

section
variable {base d : Nat} {nm : ByteArray} {R : Raw} {w : World} {A : ADisk}

theorem Abs.tick {R : Raw} {A : ADisk} (h : Abs R A) (hd : R.down = false) : Abs { R with left := wrap64 (R.left - 1) } A.tick := by
  have hdown := h.down
  have hl := h.lim
  refine ⟨?_, h.file⟩
  unfold ADisk.tick
  cases hA : A.lim with
  | none => rw [hA] at hl; exact hl
  | some n =>
    rw [hA] at hl
    obtain ⟨h1, h2, h3⟩ := hl
    have hn : n ≠ 0 := by
      rintro rfl
      rw [hd] at hdown
      unfold ADisk.down at hdown
      rw [hA] at hdown
      exact absurd hdown (by decide)
    refine ⟨h1, ?_, by show n - 1 < _; omega⟩
    show wrap64 (R.left - 1) = ((n - 1 : Nat) : Int)
    rw [h2]
    unfold wrap64
    omega

theorem done_raw (h : RawDisk base nm w d R) :
    Calls Try.prog 27 #[.pointer (some ⟨d, 0, none⟩)] w fun e w' => e = .returned (.int .i64 0) ∧ w.setCell ⟨d, 2, none⟩ (.int .i64 (wrap64 (R.left - 1))) = w' := by
  have c2 : w.cell? ⟨d, 2, none⟩ = some (.int .i64 R.left) := blk_cell h.cells 2
  have f2 : w.frozen? ⟨d, 2, none⟩ = false := blk_frozen h.cells 2
  clear h
  generalize R.left = l at *
  go_enter Try.func27, Try.ntmps27
  go_wp2
  go_ret
  exact ⟨rfl, rfl⟩

/-- behind 'done': the disk ticks -/
theorem done_any (h : RawDisk base nm w d R) (ha : Abs R A) (hd : R.down = false) :
    Calls Try.prog 27 #[.pointer (some ⟨d, 0, none⟩)] w fun e w' => e = .returned (.int .i64 0) ∧ IsDisk base nm w' d A.tick ∧ Chg dts base w w' := by
  refine (done_raw h).mono ?_
  rintro e w' ⟨rfl, rfl⟩
  obtain ⟨h1, h2⟩ := h.setLeft (wrap64 (R.left - 1))
  exact ⟨rfl, ⟨_, h1, ha.tick hd⟩, h2⟩

theorem Abs.file_none (ha : Abs R A) {i : Bool} (h : getF R.gs i = none) : A.file i = none := by rw [ha.file, h]; rfl
theorem Abs.file_some (ha : Abs R A) {i : Bool} {g : GF} (h : getF R.gs i = some g) : A.file i = some g.fb := by rw [ha.file, h]; rfl
theorem Abs.upd (ha : Abs R A) {i : Bool} {g : GF} (h : getF R.gs i = some g) (f : FB) : Abs { R with gs := upd R.gs i f } (A.set i (some f)) := by
  refine ⟨ha.lim, fun j => ?_⟩
  show (if j = i then some f else A.file j) = _
  rw [getF_upd, ha.file j]
  by_cases hj : j = i
  · subst hj
    have hi := (getF_some h).2
    rw [if_pos rfl, h]
    simp [hi]
  · rw [if_neg hj]
    cases hk : getF R.gs j with
    | none => rfl
    | some k =>
      have := (getF_some hk).2
      have hne : ¬ k.i = i := by rw [this]; exact hj
      simp [hne]

/-- the answer of an operation on a file that must be there -/
def opA (A : ADisk) (i : Bool) (k : FB → ADisk) : Int × ADisk :=
  if A.down then (8, A) else match A.file i with | none => (34, A) | some f => (0, (k f).tick)
def syncA (A : ADisk) (i : Bool) : Int × ADisk := opA A i fun f => A.set i (some ⟨f.b, f.b.size⟩)
def removeA (A : ADisk) (i : Bool) : Int × ADisk := opA A i fun _ => A.set i none
def renameA (A : ADisk) : Int × ADisk := opA A true fun f => (A.set true none).set false (some f)
def readA (A : ADisk) (i : Bool) : ByteArray × Int :=
  if A.down then (⟨#[]⟩, 8) else match A.file i with | none => (⟨#[]⟩, 34) | some f => (f.b, 0)
def appendA (A : ADisk) (i : Bool) (s : ByteArray) : Int × ADisk :=
  if A.down then (8, A) else
  match A.file i with
  | none => if s.size > 1048576 then (3, A) else (0, (A.set i (some ⟨s, 0⟩)).tick)
  | some f => if s.size > 1048576 - f.b.size then (3, A) else (0, (A.set i (some ⟨f.b ++ s, f.safe⟩)).tick)

theorem read_any (h : IsDisk base nm w d A) (i : Bool) :
    Calls Try.prog 12 #[.pointer (some ⟨d, 0, none⟩), .string (nameOf nm i)] w fun e w' =>
      e = .returned (.tuple #[.string (readA A i).1, .int .i64 (readA A i).2]) ∧ w = w' := by
  obtain ⟨R, h, ha⟩ := h
  have hf := find_raw h i
  unfold readA
  rw [ha.down]
  cases hD : R.down
  · rw [hD] at hf
    cases hg : getF R.gs i with
    | none =>
      rw [hg] at hf
      rw [ha.file_none hg]
      have H : Hid (Calls Try.prog 32 #[.pointer (some ⟨d, 0, none⟩), .string (nameOf nm i)] w fun e w' => e = .returned (.tuple #[.pointer none, .int .i64 34]) ∧ w = w') := hf
      clear hf h ha hg hD
      generalize nameOf nm i = name at *
      go_enter Try.func12, Try.ntmps12
      go_wp2_with (go_at_call 32; refine H.out.mono ?_; rintro e w' ⟨rfl, rfl⟩)
      go_ret2
      exact ⟨rfl, rfl⟩
    | some g =>
      rw [hg] at hf
      rw [ha.file_some hg]
      have c0 : w.cell? ⟨g.blk, 0, none⟩ = some (.string g.fb.b) := blk_cell (h.files g (getF_some hg).1).1 0
      have H : Hid (Calls Try.prog 32 #[.pointer (some ⟨d, 0, none⟩), .string (nameOf nm i)] w fun e w' => e = .returned (.tuple #[.pointer (some ⟨g.blk, 0, none⟩), .int .i64 0]) ∧ w = w') := hf
      clear hf h ha hg hD
      generalize nameOf nm i = name at *
      go_enter Try.func12, Try.ntmps12
      go_wp2_with (go_at_call 32; refine H.out.mono ?_; rintro e w' ⟨rfl, rfl⟩)
      go_ret2
      exact ⟨rfl, rfl⟩
  · rw [hD] at hf
    have H : Hid (Calls Try.prog 32 #[.pointer (some ⟨d, 0, none⟩), .string (nameOf nm i)] w fun e w' => e = .returned (.tuple #[.pointer none, .int .i64 8]) ∧ w = w') := hf
    clear hf h ha hD
    generalize nameOf nm i = name at *
    go_enter Try.func12, Try.ntmps12
    go_wp2_with (go_at_call 32; refine H.out.mono ?_; rintro e w' ⟨rfl, rfl⟩)
    go_ret2
    exact ⟨rfl, rfl⟩

theorem sync_any (h0 : IsDisk base nm w d A) (i : Bool) :
    Calls Try.prog 30 #[.pointer (some ⟨d, 0, none⟩), .string (nameOf nm i)] w fun e w' =>
      e = .returned (.int .i64 (syncA A i).1) ∧ IsDisk base nm w' d (syncA A i).2 ∧ Chg dts base w w' := by
  obtain ⟨R, h, ha⟩ := id h0
  have hf := find_raw h i
  unfold syncA opA
  rw [ha.down]
  cases hD : R.down
  · rw [hD] at hf
    cases hg : getF R.gs i with
    | none =>
      rw [hg] at hf
      rw [ha.file_none hg]
      have hfin := Lib.hid (show IsDisk base nm w d A ∧ Chg dts base w w from ⟨h0, .refl _ _ _⟩)
      have H : Hid (Calls Try.prog 32 #[.pointer (some ⟨d, 0, none⟩), .string (nameOf nm i)] w fun e w' => e = .returned (.tuple #[.pointer none, .int .i64 34]) ∧ w = w') := hf
      clear hf h ha hg hD h0
      generalize nameOf nm i = name at *
      go_enter Try.func30, Try.ntmps30
      go_wp2_with (go_at_call 32; refine H.out.mono ?_; rintro e w' ⟨rfl, rfl⟩)
      go_ret
      exact ⟨rfl, hfin.out⟩
    | some g =>
      rw [hg] at hf
      rw [ha.file_some hg]
      obtain ⟨hgm, hgi⟩ := getF_some hg
      obtain ⟨f1, f2, f3, f4, f5⟩ := h.files g hgm
      have c0 : w.cell? ⟨g.blk, 0, none⟩ = some (.string g.fb.b) := blk_cell f1 0
      have c1 : w.cell? ⟨g.blk, 1, none⟩ = some (.int .i64 g.fb.safe) := blk_cell f1 1
      have z1 : w.frozen? ⟨g.blk, 1, none⟩ = false := blk_frozen f1 1
      obtain ⟨r1, r2⟩ := h.setFile hgm ⟨g.fb.b, g.fb.b.size⟩ (Nat.le_refl _) f3 1 (.int .i64 (g.fb.b.size : Int)) rfl
      have hA := ha.upd (i := g.i) (by rw [hgi]; exact hg) ⟨g.fb.b, g.fb.b.size⟩
      have D := Lib.hid (done_any r1 hA hD)
      have H : Hid (Calls Try.prog 32 #[.pointer (some ⟨d, 0, none⟩), .string (nameOf nm i)] w fun e w' => e = .returned (.tuple #[.pointer (some ⟨g.blk, 0, none⟩), .int .i64 0]) ∧ w = w') := hf
      have r2 := Lib.hid r2
      rw [hgi] at D
      clear hf h ha hg hD h0 r1 hA hgm hgi f1 f2 f4 f5
      generalize nameOf nm i = name at *
      go_enter Try.func30, Try.ntmps30
      go_wp2_with (first | (go_at_call 32; refine H.out.mono ?_; rintro e w' ⟨rfl, rfl⟩) | (go_at_call 27; refine D.out.mono ?_; rintro e w' ⟨rfl, hd1, hd2⟩))
      go_ret
      exact ⟨rfl, hd1, r2.out.trans hd2⟩
  · rw [hD] at hf
    have H : Hid (Calls Try.prog 32 #[.pointer (some ⟨d, 0, none⟩), .string (nameOf nm i)] w fun e w' => e = .returned (.tuple #[.pointer none, .int .i64 8]) ∧ w = w') := hf
    have hfin := Lib.hid (show IsDisk base nm w d A ∧ Chg dts base w w from ⟨h0, .refl _ _ _⟩)
    clear hf h ha hD h0
    generalize nameOf nm i = name at *
    go_enter Try.func30, Try.ntmps30
    go_wp2_with (go_at_call 32; refine H.out.mono ?_; rintro e w' ⟨rfl, rfl⟩)
    go_ret
    exact ⟨rfl, hfin.out⟩

theorem RawDisk.alloc (h : RawDisk base nm w d R) (o : Obj) : RawDisk base nm (w.alloc o) d R :=
  ⟨heap_alloc_lt h.cells, heap_alloc_lt h.map, h.bd, h.bm, fun g hg => ⟨heap_alloc_lt (h.files g hg).1, (h.files g hg).2⟩, h.idx, h.blks, h.borns⟩
theorem RawDisk.mb_ne (_h : RawDisk base nm w d R) : True := trivial

theorem remove_any (h0 : IsDisk base nm w d A) (i : Bool) :
    Calls Try.prog 29 #[.pointer (some ⟨d, 0, none⟩), .string (nameOf nm i)] w fun e w' =>
      e = .returned (.int .i64 (removeA A i).1) ∧ IsDisk base nm w' d (removeA A i).2 ∧ Chg dts base w w' := by
  obtain ⟨R, h, ha⟩ := id h0
  have hf := find_raw h i
  unfold removeA opA
  rw [ha.down]
  cases hD : R.down
  · rw [hD] at hf
    cases hg : getF R.gs i with
    | none =>
      rw [hg] at hf
      rw [ha.file_none hg]
      have hfin := Lib.hid (show IsDisk base nm w d A ∧ Chg dts base w w from ⟨h0, .refl _ _ _⟩)
      have H : Hid (Calls Try.prog 32 #[.pointer (some ⟨d, 0, none⟩), .string (nameOf nm i)] w fun e w' => e = .returned (.tuple #[.pointer none, .int .i64 34]) ∧ w = w') := hf
      clear hf h ha hg hD h0
      generalize nameOf nm i = name at *
      go_enter Try.func29, Try.ntmps29
      go_wp2_with (go_at_call 32; refine H.out.mono ?_; rintro e w' ⟨rfl, rfl⟩)
      go_ret
      exact ⟨rfl, hfin.out⟩
    | some g =>
      rw [hg] at hf
      rw [ha.file_some hg]
      have c0 : w.cell? ⟨d, 0, none⟩ = some (.map (some R.mb)) := blk_cell h.cells 0
      obtain ⟨w1, hrun, r1, r2⟩ := delete_raw h hg 0
      have hA : Abs (R.del i) (A.set i none) := ⟨ha.lim, fun j => by
        show (if j = i then none else A.file j) = _
        rw [Raw.del, getF_del h.idx, ha.file j]
        split <;> rfl⟩
      have D := Lib.hid (done_any r1 hA hD)
      have H : Hid (Calls Try.prog 32 #[.pointer (some ⟨d, 0, none⟩), .string (nameOf nm i)] w fun e w' => e = .returned (.tuple #[.pointer (some ⟨g.blk, 0, none⟩), .int .i64 0]) ∧ w = w') := hf
      have r2 := Lib.hid r2
      have hrun := Lib.hid hrun
      clear hf h ha hg hD h0 r1 hA
      generalize nameOf nm i = name at *
      go_enter Try.func29, Try.ntmps29
      go_wp2_with (first | (go_at_call 32; refine H.out.mono ?_; rintro e w' ⟨rfl, rfl⟩) | (at_delete; refine delete_is rfl _ _ _ _ rfl _ _ rfl rfl hrun.out ?_) | (go_at_call 27; refine D.out.mono ?_; rintro e w' ⟨rfl, hd1, hd2⟩))
      go_ret
      exact ⟨rfl, hd1, r2.out.trans hd2⟩
  · rw [hD] at hf
    have H : Hid (Calls Try.prog 32 #[.pointer (some ⟨d, 0, none⟩), .string (nameOf nm i)] w fun e w' => e = .returned (.tuple #[.pointer none, .int .i64 8]) ∧ w = w') := hf
    have hfin := Lib.hid (show IsDisk base nm w d A ∧ Chg dts base w w from ⟨h0, .refl _ _ _⟩)
    clear hf h ha hD h0
    generalize nameOf nm i = name at *
    go_enter Try.func29, Try.ntmps29
    go_wp2_with (go_at_call 32; refine H.out.mono ?_; rintro e w' ⟨rfl, rfl⟩)
    go_ret
    exact ⟨rfl, hfin.out⟩
end
end Go.Proofs.Ytjilfabdbmfgjaa
