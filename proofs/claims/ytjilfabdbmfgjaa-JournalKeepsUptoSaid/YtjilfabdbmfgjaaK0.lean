/- The walk of the laws' awake. -/
import Derived.Test.YtjilfabdbmfgjaaP3
namespace Go.Proofs.Ytjilfabdbmfgjaa
open Go.RowKit Go.Proofs.YtjilfabdbmfgjaaW.PrintWords Go.Proofs.Ytjilfabdbmfgjaa.PJournalOrder
set_option maxRecDepth 100000

def jn : ByteArray := ⟨#[106]⟩
theorem jn_word : WordOk jn := by
  intro i
  cases i
  · exact ⟨20, by decide +kernel⟩
  · exact ⟨20, by decide +kernel⟩
theorem jn_right : ∃ k, journal_right.f k jn = some true := ⟨20, by decide +kernel⟩

theorem openJ {base d : Nat} {w : World} {A : ADisk} (h : IsDisk base jn w d A) (hbase : base ≤ w.heap.size) : Calls Try.prog 10 #[.pointer (some ⟨d, 0, none⟩), .string jn] w (OpenPost base jn d (openA A) w) :=
  open_any jn_word (by decide) (by decide) jn_right h hbase

/-- a disk and a journal -/
structure Sys (base : Nat) (w : World) (d b : Nat) (A : ADisk) (J : AJ) : Prop where
  disk : IsDisk base jn w d A
  jour : IsJ base jn w b d J
  size : base ≤ w.heap.size

theorem sys_add {base d b : Nat} {w : World} {A : ADisk} {J : AJ} (h : Sys base w d b A J) (s : ByteArray) (hm : J.many < 9223372036854775807) (hs : s.size ≤ 140737488351232) {x : Int} {A' : ADisk} {J' : AJ} (e : addA A J s = (x, A', J')) :
    Calls Try.prog 18 #[.pointer (some ⟨b, 0, none⟩), .string s] w fun e w' => e = .returned (.int .i64 x) ∧ Hid (Sys base w' d b A' J') ∧ Hid (Chgj base b w w') := by
  have := jadd_any jn_word h.disk h.jour h.size s hm hs
  rw [e] at this
  exact this.mono fun e w' ⟨h1, h2, h3, h4⟩ => ⟨h1, ⟨h2, h3, Nat.le_trans h.size h4.size⟩, h4⟩
theorem sys_sync {base d b : Nat} {w : World} {A : ADisk} {J : AJ} (h : Sys base w d b A J) {x : Int} {A' : ADisk} {J' : AJ} (e : syncJ A J = (x, A', J')) :
    Calls Try.prog 19 #[.pointer (some ⟨b, 0, none⟩)] w fun e w' => e = .returned (.int .i64 x) ∧ Hid (Sys base w' d b A' J') ∧ Hid (Chgj base b w w') := by
  have := jsync_any h.disk h.jour
  rw [e] at this
  exact this.mono fun e w' ⟨h1, h2, h3, h4⟩ => ⟨h1, ⟨h2, h3, Nat.le_trans h.size h4.size⟩, h4⟩
theorem sys_open {base d : Nat} {w : World} {A : ADisk} (h : IsDisk base jn w d A) (hbase : base ≤ w.heap.size) {A' : ADisk} {J' : AJ} {l : List ByteArray} (e : openA A = (0, A', some (J', l))) :
    Calls Try.prog 10 #[.pointer (some ⟨d, 0, none⟩), .string jn] w fun e w' => ∃ b lv, e = .returned (.tuple #[.pointer (some ⟨b, 0, none⟩), lv, .int .i64 0]) ∧ Hid (Sys base w' d b A' J') ∧ Hid (StrsAt base w' lv l) ∧ Hid (Chg dts base w w') ∧ Hid (w.heap.size ≤ w'.heap.size) := by
  refine (openJ h hbase).mono ?_
  rintro e' w' ⟨jv, lv, h1, h2, h3, h4⟩
  rw [e] at h1 h2 h4
  rcases h4 with ⟨h4, -, -⟩ | ⟨J, l2, b, h4, rfl, h5, h6⟩
  · cases h4
  · injection h4 with h4
    injection h4 with e1 e2
    subst e1 e2
    exact ⟨b, lv, h1, ⟨h2, h5, Nat.le_trans hbase h3.size⟩, h6, h3, h3.size⟩

theorem ints_one (base : Nat) (w : World) (k : Int) (h0 : -9223372036854775808 ≤ k) (h1 : k ≤ 9223372036854775807) :
    IntsAt base (w.alloc (.cells #[.int .i64 k] 3)) (.slice (some ⟨w.heap.size, 0, none⟩) 1 1) [k] := by
  refine ⟨_, _, rfl, Nat.le_refl _, fun i hi => ?_⟩
  have h : (w.alloc (.cells #[.int .i64 k] 3)).heap[w.heap.size]? = some (.cells #[.int .i64 k] 3 (0, 0)) := (show (w.heap.push _)[w.heap.size]? = _ from Array.getElem?_push_size)
  obtain rfl : i = 0 := by simp only [List.length_singleton] at hi; omega
  exact ⟨_, rfl, blk_cell h 0, h0, h1, .inr ⟨_, _, _, h, by decide⟩⟩

theorem awake_any (w : World) : Calls Try.prog 8 #[] w fun e w' => e = .returned (.bool true) ∧ Below w.heap.size w w' := by
  obtain ⟨A1, A2, A3, A4, A5, A7, J7, e1, e2, e3, e4, e5, e7⟩ := awake_plain
  have e1 := Lib.hid e1
  have e2 := Lib.hid e2
  have e3 := Lib.hid e3
  have e4 := Lib.hid e4
  have e5 := Lib.hid e5
  have e7 := Lib.hid e7
  have hn := Lib.hid (new_any (nm := jn) w)
  go_enter Try.func8, Try.ntmps8
  go_wp2_with (fail)
  refine hn.out.mono ?_
  rintro e w1 ⟨d, rfl, h1, b1⟩
  have h1 := Lib.hid h1
  have b1 := Lib.hid b1
  go_wp2_with (fail)
  refine (sys_open (A := emptyA) h1.out b1.out.size e1.out).mono ?_
  rintro e w2 ⟨b, lv, rfl, h2, -, c2, -⟩
  go_wp2_with (fail)
  refine (sys_add h2.out bA (by decide) (by decide) e2.out).mono ?_
  rintro e w3 ⟨rfl, h3, c3⟩
  go_wp2_with (fail)
  refine (sys_add h3.out bB (by decide) (by decide) e3.out).mono ?_
  rintro e w4 ⟨rfl, h4, c4⟩
  go_wp2_with (fail)
  refine (sys_sync h4.out e4.out).mono ?_
  rintro e w5 ⟨rfl, h5, c5⟩
  go_wp2_with (fail)
  refine (sys_add h5.out bC (by decide) (by decide) e5.out).mono ?_
  rintro e w6 ⟨rfl, h6, c6⟩
  go_wp2_with (fail)
  have hal : Below w6.heap.size w6 (w6.alloc (.cells #[.int .i64 3] 3)) := (Below.refl _ _).alloc (Nat.le_refl _) _
  have i6 := Lib.hid (ints_one w.heap.size w6 3 (by decide) (by decide))
  have s6 := Lib.hid (Nat.le_trans h6.out.size hal.size)
  have d6 := Lib.hid (h6.out.disk.below hal)
  have j6 := Lib.hid (h6.out.jour.below hal (Nat.le_refl _))
  have c6 := Lib.hid (c6.out.trans (Chgj.of_below hal))
  clear hal
  refine (crash_any d6.out s6.out _ [3] i6.out).mono ?_
  rintro e w7 ⟨rfl, d7, c7⟩
  have s7 := Lib.hid (Nat.le_trans s6.out c7.size)
  have d7 := Lib.hid d7
  have j7 := Lib.hid (j6.out.chg c7)
  have c7 := Lib.hid c7
  go_wp2_with (fail)
  refine (sys_open d7.out s7.out e7.out).mono ?_
  rintro e w8 ⟨b2, lv2, rfl, h8, l8, c8, z8⟩
  have j8 := Lib.hid (j7.out.chg c8.out)
  obtain ⟨Al, cl, hlv, -⟩ := id l8.out
  have hlv : lv2 = .slice Al 2 cl := hlv
  subst hlv
  obtain ⟨ad, rfl, hcell⟩ := StrsAt.get (l := [bA, bB]) l8.out 1 (by decide)
  have hcell : w8.cell? (ad.add 1) = some (.string ⟨#[98]⟩) := hcell
  obtain ⟨ab, ao, asp⟩ := ad
  have hcell : w8.cell? ⟨ab, ao + 1, none⟩ = some (.string ⟨#[98]⟩) := hcell
  have hL := Lib.hid (jlen_any j8.out)
  have hS := Lib.hid (jsynced_any j8.out)
  have hfin : Hid (Below w.heap.size w w8) := b1.out.trans ((c2.out.below b1.out.size).trans
    ((c3.out.toChg.trans (c4.out.toChg.trans (c5.out.toChg.trans (c6.out.toChg.trans ((jts_sub (b := b) (c7.out.trans c8.out)).toChg))))).below h2.out.size))
  go_wp2_with (fail)
  refine hL.out.mono ?_
  rintro e w' ⟨rfl, rfl⟩
  go_wp2_with (fail)
  refine hS.out.mono ?_
  rintro e w' ⟨rfl, rfl⟩
  go_wp2_with (fail)
  go_ret
  exact ⟨rfl, hfin.out⟩
end Go.Proofs.Ytjilfabdbmfgjaa
