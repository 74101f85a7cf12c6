/- The disk: what blocks of the heap say of it, and the walks of package disk's small functions. -/
import Derived.Test.YtjilfabdbmfgjaaB0
namespace Go.Proofs.Ytjilfabdbmfgjaa
open Go.RowKit Go.Proofs.YtjilfabdbmfgjaaW.PrintWords
set_option maxRecDepth 100000

/-- a file: its bytes, how many are safe -/
structure FB where
  b : ByteArray
  safe : Nat

/-- a disk with at most two files (false: of the name itself; true: of the name and a byte x): how many operations are left (none: nobody counts), its files. -/
structure ADisk where
  lim : Option Nat
  file : Bool → Option FB

def nameOf (nm : ByteArray) (i : Bool) : ByteArray := if i then nm ++ ⟨#[120]⟩ else nm
theorem nameOf_inj {nm : ByteArray} {i j : Bool} (h : nameOf nm i = nameOf nm j) : i = j := by
  have hs : (nm ++ (⟨#[120]⟩ : ByteArray)).size = nm.size + 1 := by rw [ByteArray.size_append]; rfl
  have hn : nm ++ (⟨#[120]⟩ : ByteArray) ≠ nm := fun e => by rw [e] at hs; omega
  cases i <;> cases j
  · rfl
  · exact absurd (show nm = nm ++ (⟨#[120]⟩ : ByteArray) from h).symm hn
  · exact absurd (show nm ++ (⟨#[120]⟩ : ByteArray) = nm from h) hn
  · rfl

/-- a file as it lies -/
structure GF where
  i : Bool
  fb : FB
  blk : Nat
  born : Nat
def GF.key (nm : ByteArray) (g : GF) : ByteArray × Nat × Nat := (nameOf nm g.i, g.blk, g.born)

/-- a disk as it lies -/
structure Raw where
  mb : Nat
  ar : Bool
  left : Int
  gs : List GF
  clock : Nat

def getF (gs : List GF) (i : Bool) : Option GF := gs.find? (fun g => g.i == i)

structure RawDisk (base : Nat) (nm : ByteArray) (w : World) (d : Nat) (R : Raw) : Prop where
  cells : w.heap[d]? = some (.cells #[.map (some R.mb), .bool R.ar, .int .i64 R.left] 55 (0, 0))
  map : w.heap[R.mb]? = some (.map ((R.gs.map (GF.key nm)).map sent).toArray R.clock)
  bd : base ≤ d
  bm : base ≤ R.mb
  files : ∀ g ∈ R.gs, w.heap[g.blk]? = some (.cells #[.string g.fb.b, .int .i64 (g.fb.safe : Int)] 59 (0, 0)) ∧ g.fb.safe ≤ g.fb.b.size ∧ g.fb.b.size ≤ 1048576 ∧ base ≤ g.blk ∧ g.born < R.clock
  idx : (R.gs.map (·.i)).Nodup
  blks : (R.gs.map (·.blk)).Nodup
  borns : (R.gs.map (·.born)).Nodup

def LimOk : Option Nat → Bool → Int → Prop
  | none, ar, _ => ar = false
  | some n, ar, left => ar = true ∧ left = n ∧ n < 9223372036854775808

structure Abs (R : Raw) (A : ADisk) : Prop where
  lim : LimOk A.lim R.ar R.left
  file : ∀ i, A.file i = (getF R.gs i).map (·.fb)

/-- the disk at block d is A -/
def IsDisk (base : Nat) (nm : ByteArray) (w : World) (d : Nat) (A : ADisk) : Prop := ∃ R, RawDisk base nm w d R ∧ Abs R A

def Raw.down (R : Raw) : Bool := R.ar && decide (R.left ≤ 0)
def ADisk.down (A : ADisk) : Bool := A.lim == some 0
def ADisk.tick (A : ADisk) : ADisk := { A with lim := A.lim.map (· - 1) }
/-- the types that a disk's operations may change -/
def dts : List Nat := [0, 55, 59]

theorem Abs.down {R : Raw} {A : ADisk} (h : Abs R A) : A.down = R.down := by
  have hl := h.lim
  unfold ADisk.down Raw.down
  cases hA : A.lim with
  | none => rw [hA] at hl; simp only [LimOk] at hl; rw [hl]; rfl
  | some n =>
    rw [hA] at hl
    obtain ⟨h1, h2, hn⟩ := hl
    rw [h1, h2]
    cases n with
    | zero => rfl
    | succ n =>
      have : decide (((n + 1 : Nat) : Int) ≤ 0) = false := by simp
      rw [this]
      rfl

theorem down_raw (b : Nat) (m : Value) (ar : Bool) (l : Int) (w : World) (h : w.heap[b]? = some (.cells #[m, .bool ar, .int .i64 l] 55 (0, 0))) :
    Calls Try.prog 41 #[.pointer (some ⟨b, 0, none⟩)] w fun e w' => e = .returned (.bool (ar && decide (l ≤ 0))) ∧ w = w' := by
  have c0 : w.cell? ⟨b, 0, none⟩ = some m := blk_cell h 0
  have c1 : w.cell? ⟨b, 1, none⟩ = some (.bool ar) := blk_cell h 1
  have c2 : w.cell? ⟨b, 2, none⟩ = some (.int .i64 l) := blk_cell h 2
  clear h
  cases ar
  · go_enter Try.func41, Try.ntmps41
    go_wp2
    go_ret
    exact ⟨rfl, rfl⟩
  · go_enter Try.func41, Try.ntmps41
    go_wp2
    all_goals (go_ret; exact ⟨by simp_all, rfl⟩)

section
variable {base d : Nat} {nm : ByteArray} {R : Raw} {w : World}

theorem wrong_raw (h : RawDisk base nm w d R) :
    Calls Try.prog 25 #[.pointer (some ⟨d, 0, none⟩)] w fun e w' => e = .returned (.int .i64 (if R.down then 8 else 0)) ∧ w = w' := by
  have hc := down_raw d _ R.ar R.left w h.cells
  rw [show (R.ar && decide (R.left ≤ 0)) = R.down from rfl] at hc
  have H := Lib.hid hc
  generalize R.down = D at H
  clear hc h
  cases D
  · go_enter Try.func25, Try.ntmps25
    go_wp2_with (go_at_call 41; refine H.out.mono ?_; rintro e w' ⟨rfl, rfl⟩)
    go_ret
    exact ⟨rfl, rfl⟩
  · go_enter Try.func25, Try.ntmps25
    go_wp2_with (go_at_call 41; refine H.out.mono ?_; rintro e w' ⟨rfl, rfl⟩)
    go_ret
    exact ⟨rfl, rfl⟩

theorem lookup_raw (h : RawDisk base nm w d R) (i : Bool) :
    (Instr.lookup 53 (.map (some R.mb)) (.string (nameOf nm i)) false).run Try.prog w = .ok (.pointer ((getF R.gs i).map fun g => ⟨g.blk, 0, none⟩)) w := by
  have hz : (zeroValue 56).run Try.prog w = .ok (.pointer none) w := by kernel_rfl
  rw [run_lookup_str Try.underlying53 Try.underlying9 hz h.map]
  congr 1
  have key : ∀ (gs : List GF) (k : Nat), (match sfind (nameOf nm i) (gs.map (GF.key nm)) k with | some x => x.2 | none => Value.pointer none) = .pointer ((getF gs i).map fun g => ⟨g.blk, 0, none⟩) := by
    intro gs
    induction gs with
    | nil => intro k; rfl
    | cons g gs ih =>
      intro k
      by_cases hg : g.i = i
      · have h1 : (nameOf nm i == nameOf nm i) = true := (MapKept.bytes_beq _ _).2 rfl
        simp [sfind, GF.key, getF, hg]
        rw [if_pos h1]
      · have h1 : (nameOf nm i == nameOf nm g.i) = false := by
          cases hb : nameOf nm i == nameOf nm g.i
          · rfl
          · exact absurd (nameOf_inj ((MapKept.bytes_beq _ _).1 hb)).symm hg
        have := ih (k + 1)
        simpa [sfind, GF.key, h1, getF, hg] using this
  exact key R.gs 0

theorem find_raw (h : RawDisk base nm w d R) (i : Bool) :
    Calls Try.prog 32 #[.pointer (some ⟨d, 0, none⟩), .string (nameOf nm i)] w fun e w' =>
      e = .returned (if R.down then .tuple #[.pointer none, .int .i64 8] else match getF R.gs i with | none => .tuple #[.pointer none, .int .i64 34] | some g => .tuple #[.pointer (some ⟨g.blk, 0, none⟩), .int .i64 0]) ∧ w = w' := by
  have H := Lib.hid (wrong_raw h)
  have hrun := lookup_raw h i
  have c0 : w.cell? ⟨d, 0, none⟩ = some (.map (some R.mb)) := blk_cell h.cells 0
  clear h
  generalize nameOf nm i = name at hrun ⊢
  generalize R.mb = mb at hrun c0
  generalize R.down = D at H ⊢
  cases D
  · cases hg : getF R.gs i with
    | none =>
      rw [hg] at hrun
      have hrun' : Hid ((Instr.lookup 53 (.map (some mb)) (.string name) false).run Try.prog w = .ok (.pointer none) w) := hrun
      clear hg hrun
      go_enter Try.func32, Try.ntmps32
      go_wp2_with (first | (go_at_call 25; refine H.out.mono ?_; rintro e w' ⟨rfl, rfl⟩) | (at_lookup; refine lookup_is rfl _ _ _ rfl _ _ rfl rfl hrun'.out ?_))
      go_ret2
      exact ⟨rfl, rfl⟩
    | some g =>
      rw [hg] at hrun
      have hrun' : Hid ((Instr.lookup 53 (.map (some mb)) (.string name) false).run Try.prog w = .ok (.pointer (some ⟨g.blk, 0, none⟩)) w) := hrun
      clear hg hrun
      go_enter Try.func32, Try.ntmps32
      go_wp2_with (first | (go_at_call 25; refine H.out.mono ?_; rintro e w' ⟨rfl, rfl⟩) | (at_lookup; refine lookup_is rfl _ _ _ rfl _ _ rfl rfl hrun'.out ?_))
      go_ret2
      exact ⟨rfl, rfl⟩
  · clear hrun
    go_enter Try.func32, Try.ntmps32
    go_wp2_with (first | (go_at_call 25; refine H.out.mono ?_; rintro e w' ⟨rfl, rfl⟩) | (at_lookup; refine lookup_is rfl _ _ _ rfl _ _ rfl rfl hrun'.out ?_))
    go_ret2
    exact ⟨rfl, rfl⟩
end
end Go.Proofs.Ytjilfabdbmfgjaa
