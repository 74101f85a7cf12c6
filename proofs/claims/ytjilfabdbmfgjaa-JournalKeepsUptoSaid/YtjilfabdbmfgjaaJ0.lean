/- The journal: what its block says, and the walks of its small methods. -/
import Derived.Test.YtjilfabdbmfgjaaN3
namespace Go.Proofs.Ytjilfabdbmfgjaa
open Go.RowKit Go.Proofs.YtjilfabdbmfgjaaW.PrintWords Go.Proofs.Ytjilfabdbmfgjaa.PJournalOrder
set_option maxRecDepth 100000

/-- what a journal remembers -/
structure AJ where
  many : Nat
  synced : Nat
  broken : Bool

/-- the types that a journal's operations may change -/
def jts : List Nat := 61 :: dts

structure IsJ (base : Nat) (nm : ByteArray) (w : World) (b d : Nat) (J : AJ) : Prop where
  cells : w.heap[b]? = some (.cells #[.pointer (some ⟨d, 0, none⟩), .string nm, .int .i64 (J.many : Int), .int .i64 (J.synced : Int), .bool J.broken] 61 (0, 0))
  bb : base ≤ b

/-- a change of the disk, and of the journal at block b alone -/
structure Chgj (base b : Nat) (w w' : World) : Prop extends Chg jts base w w' where
  others : ∀ (k : Nat) (o : Obj), k ≠ b → w.heap[k]? = some o → (k < base ∨ touch dts o = false) → w'.heap[k]? = some o
theorem jts_sub {base b : Nat} {w w' : World} (h : Chg dts base w w') : Chgj base b w w' := ⟨h.mono (Nat.le_refl _) (fun _t ht => List.mem_cons_of_mem _ ht), fun k o _ h1 h2 => h.keep k o h1 h2⟩
theorem Chgj.refl (base b : Nat) (w : World) : Chgj base b w w := jts_sub (Chg.refl _ _ _)
theorem Chgj.of_below {base b : Nat} {w w' : World} (h : Below w.heap.size w w') : Chgj base b w w' := jts_sub (Chg.of_below h)
theorem Chgj.trans {base b : Nat} {x y z : World} (h : Chgj base b x y) (k : Chgj base b y z) : Chgj base b x z :=
  ⟨h.toChg.trans k.toChg, fun i o hi ho ht => k.others i o hi (h.others i o hi ho ht) ht⟩
theorem Chgj.drew {base b : Nat} {x y : World} (h : Chgj base b x y) : Chgj base b x y.drew := ⟨h.toChg.drew, h.others⟩
theorem Chgj.drewN {base b : Nat} {x y : World} (h : Chgj base b x y) (n : Nat) : Chgj base b x (y.drewN n) := ⟨h.toChg.drewN n, h.others⟩
/-- the journal's block has come since -/
theorem Chgj.fresh {base b : Nat} {w x y : World} (h : Chg dts base w x) (k : Chgj base b x y) (hb : w.heap.size ≤ b) : Chg dts base w y :=
  ⟨k.os.trans h.os, k.tape.trans h.tape, k.output.trans h.output, Nat.le_trans h.size k.size, fun i o hi ho => k.others i o (by have := blk_lt hi; omega) (h.keep i o hi ho) ho⟩

section
variable {base b d : Nat} {nm : ByteArray} {w w' : World} {A : ADisk} {J : AJ}
theorem IsJ.chg (h : IsJ base nm w b d J) {b2 : Nat} (hc : Chg dts b2 w w') : IsJ base nm w' b d J := ⟨hc.keep _ _ h.cells (.inr (show dts.contains 61 = false by decide)), h.bb⟩
theorem IsJ.below (h : IsJ base nm w b d J) {b2 : Nat} (hc : Below b2 w w') (hb : w.heap.size ≤ b2) : IsJ base nm w' b d J := ⟨by rw [hc.block _ (by have := blk_lt h.cells; omega)]; exact h.cells, h.bb⟩
theorem IsDisk.chg (h : IsDisk base nm w d A) {ts : List Nat} {b2 : Nat} (hc : Chg ts b2 w w') (h0 : ts.contains 0 = false) (h1 : ts.contains 55 = false) (h2 : ts.contains 59 = false) : IsDisk base nm w' d A := by
  obtain ⟨R, hr, ha⟩ := h
  exact ⟨R, hr.chg hc h0 h1 h2, ha⟩
theorem IsDisk.below (h : IsDisk base nm w d A) (hc : Below w.heap.size w w') : IsDisk base nm w' d A := h.chg (ts := []) (b2 := 0) (Chg.of_below hc) rfl rfl rfl
theorem IsDisk.heap_eq (h : IsDisk base nm w d A) (hw : w'.heap = w.heap) : IsDisk base nm w' d A := by
  obtain ⟨R, hr, ha⟩ := h
  exact ⟨R, hr.heap_eq hw, ha⟩
theorem IsJ.heap_eq (h : IsJ base nm w b d J) (hw : w'.heap = w.heap) : IsJ base nm w' b d J := ⟨by rw [hw]; exact h.cells, h.bb⟩

theorem jset (hd : IsDisk base nm w d A) (h : IsJ base nm w b d J) (j : Nat) (v : Value) (J' : AJ)
    (hv : (#[.pointer (some ⟨d, 0, none⟩), .string nm, .int .i64 (J.many : Int), .int .i64 (J.synced : Int), .bool J.broken] : Array Value).setIfInBounds j v = #[.pointer (some ⟨d, 0, none⟩), .string nm, .int .i64 (J'.many : Int), .int .i64 (J'.synced : Int), .bool J'.broken]) :
    IsDisk base nm (w.setCell ⟨b, j, none⟩ v) d A ∧ IsJ base nm (w.setCell ⟨b, j, none⟩ v) b d J' ∧ Chgj base b w (w.setCell ⟨b, j, none⟩ v) := by
  have hc1 : Chg [61] base w (w.setCell ⟨b, j, none⟩ v) := (Chg.refl _ _ _).setCell (e := 61) h.bb h.cells (by decide) _
  refine ⟨hd.chg hc1 (by decide) (by decide) (by decide), ⟨?_, h.bb⟩, hc1.mono (Nat.le_refl _) (fun t ht => by rw [List.mem_singleton.1 ht]; exact List.mem_cons_self), fun k o hk ho _ => by rw [Below.heap_setCell _ _ _ _ hk]; exact ho⟩
  have := heap_setCell_eq (p := ⟨b, j, none⟩) rfl h.cells v
  rw [this, ← hv]

theorem jcells (h : IsJ base nm w b d J) : w.cell? ⟨b, 0, none⟩ = some (.pointer (some ⟨d, 0, none⟩)) ∧ w.cell? ⟨b, 1, none⟩ = some (.string nm) ∧ w.cell? ⟨b, 2, none⟩ = some (.int .i64 (J.many : Int)) ∧ w.cell? ⟨b, 3, none⟩ = some (.int .i64 (J.synced : Int)) ∧ w.cell? ⟨b, 4, none⟩ = some (.bool J.broken) :=
  ⟨blk_cell h.cells 0, blk_cell h.cells 1, blk_cell h.cells 2, blk_cell h.cells 3, blk_cell h.cells 4⟩
theorem jfroz (h : IsJ base nm w b d J) (j : Nat) : w.frozen? ⟨b, j, none⟩ = false := blk_frozen h.cells j

theorem jwrong_nil (w : World) : Calls Try.prog 38 #[.pointer none] w fun e w' => e = .returned (.int .i64 1) ∧ w = w' := by
  go_enter Try.func38, Try.ntmps38
  go_wp2
  go_ret
  exact ⟨rfl, rfl⟩

theorem jwrong_any (h : IsJ base nm w b d J) :
    Calls Try.prog 38 #[.pointer (some ⟨b, 0, none⟩)] w fun e w' => e = .returned (.int .i64 (if J.broken then 8 else 0)) ∧ w = w' := by
  obtain ⟨-, -, -, -, c4⟩ := jcells h
  clear h
  generalize J.broken = B at *
  cases B
  all_goals
    go_enter Try.func38, Try.ntmps38
    go_wp2
    go_ret
    exact ⟨rfl, rfl⟩

theorem jfailed_any (hd : IsDisk base nm w d A) (h : IsJ base nm w b d J) (x : Int) (hx : 0 ≤ x ∧ x ≤ 50) :
    Calls Try.prog 39 #[.pointer (some ⟨b, 0, none⟩), .int .i64 x] w fun e w' => e = .returned (.int .i64 x) ∧ IsDisk base nm w' d A ∧ IsJ base nm w' b d { J with broken := J.broken || x != 0 } ∧ Chgj base b w w' := by
  obtain ⟨-, -, -, -, c4⟩ := jcells h
  have hf := jfroz h 4
  have hs := Lib.hid (fun B (hB : B = (J.broken || x != 0)) => jset hd h 4 (.bool B) { J with broken := J.broken || x != 0 } (by rw [hB]; rfl))
  have hx' := Lib.hid hx
  clear hd h hx
  cases hB : J.broken
  all_goals
    rw [hB] at hs c4
    go_enter Try.func39, Try.ntmps39
    go_wp2
    go_ret
    refine ⟨rfl, ?_⟩
    exact hs.out _ (by simp)

theorem jlen_nil (w : World) : Calls Try.prog 21 #[.pointer none] w fun e w' => e = .returned (.int .i64 0) ∧ w = w' := by
  go_enter Try.func21, Try.ntmps21
  go_wp2
  go_ret
  exact ⟨rfl, rfl⟩
theorem jsynced_nil (w : World) : Calls Try.prog 22 #[.pointer none] w fun e w' => e = .returned (.int .i64 0) ∧ w = w' := by
  go_enter Try.func22, Try.ntmps22
  go_wp2
  go_ret
  exact ⟨rfl, rfl⟩
theorem jlen_any (h : IsJ base nm w b d J) : Calls Try.prog 21 #[.pointer (some ⟨b, 0, none⟩)] w fun e w' => e = .returned (.int .i64 (J.many : Int)) ∧ w = w' := by
  obtain ⟨-, -, c2, -, -⟩ := jcells h
  clear h
  go_enter Try.func21, Try.ntmps21
  go_wp2
  go_ret
  exact ⟨rfl, rfl⟩
theorem jsynced_any (h : IsJ base nm w b d J) : Calls Try.prog 22 #[.pointer (some ⟨b, 0, none⟩)] w fun e w' => e = .returned (.int .i64 (J.synced : Int)) ∧ w = w' := by
  obtain ⟨-, -, -, c3, -⟩ := jcells h
  clear h
  go_enter Try.func22, Try.ntmps22
  go_wp2
  go_ret
  exact ⟨rfl, rfl⟩

theorem jadd_nil (s : ByteArray) (w : World) : Calls Try.prog 18 #[.pointer none, .string s] w fun e w' => e = .returned (.int .i64 1) ∧ w = w' := by
  have H := Lib.hid (jwrong_nil w)
  go_enter Try.func18, Try.ntmps18
  go_wp2_with (fail)
  refine H.out.mono ?_
  rintro e w' ⟨rfl, rfl⟩
  go_wp2_with (fail)
  go_ret
  exact ⟨rfl, rfl⟩
theorem jsync_nil (w : World) : Calls Try.prog 19 #[.pointer none] w fun e w' => e = .returned (.int .i64 1) ∧ w = w' := by
  have H := Lib.hid (jwrong_nil w)
  go_enter Try.func19, Try.ntmps19
  go_wp2_with (fail)
  refine H.out.mono ?_
  rintro e w' ⟨rfl, rfl⟩
  go_wp2_with (fail)
  go_ret
  exact ⟨rfl, rfl⟩
theorem jrenew_nil (v : Value) (w : World) : Calls Try.prog 20 #[.pointer none, v] w fun e w' => e = .returned (.int .i64 1) ∧ w = w' := by
  have H := Lib.hid (jwrong_nil w)
  go_enter Try.func20, Try.ntmps20
  go_wp2_with (fail)
  refine H.out.mono ?_
  rintro e w' ⟨rfl, rfl⟩
  go_wp2_with (fail)
  go_ret
  exact ⟨rfl, rfl⟩
end
end Go.Proofs.Ytjilfabdbmfgjaa
