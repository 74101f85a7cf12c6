/- The journal: the walks of Add and Sync. -/
import Derived.Test.YtjilfabdbmfgjaaJ0
namespace Go.Proofs.Ytjilfabdbmfgjaa
open Go.RowKit Go.Proofs.YtjilfabdbmfgjaaW.PrintWords Go.Proofs.Ytjilfabdbmfgjaa.PJournalOrder
set_option maxRecDepth 100000

def addA (A : ADisk) (J : AJ) (s : ByteArray) : Int × ADisk × AJ :=
  if J.broken then (8, A, J) else if 4096 < s.size then (3, A, J) else
  let r := appendA A false (mk (layB J.many s.toList))
  (r.1, r.2, { J with many := if r.1 = 0 then J.many + 1 else J.many, broken := r.1 != 0 })
def syncJ (A : ADisk) (J : AJ) : Int × ADisk × AJ :=
  if J.broken then (8, A, J) else if J.many = 0 then (0, A, J) else
  let r := syncA A false
  (r.1, r.2, { J with synced := if r.1 = 0 then J.many else J.synced, broken := r.1 != 0 })

theorem layB_length (i : Nat) (_hi : i < 9223372036854775808) (l : List UInt8) (hl : l.length < 9223372036854775808) : (layB i l).length ≤ 13 + l.length := by
  have hn2 : (numB l.length).length ≤ 9 := by
    have := beD_length 8 l.length (by omega)
    simp [numB, u8s]
    omega
  simp [layB, be4]
  omega
theorem appendA_code (A : ADisk) (i : Bool) (s : ByteArray) : 0 ≤ (appendA A i s).1 ∧ (appendA A i s).1 ≤ 50 := by
  unfold appendA
  repeat' split
  all_goals exact ⟨by simp, by simp⟩
theorem opA_code (A : ADisk) (i : Bool) (k : FB → ADisk) : 0 ≤ (opA A i k).1 ∧ (opA A i k).1 ≤ 50 := by
  unfold opA
  repeat' split
  all_goals exact ⟨by simp, by simp⟩

section
variable {base b d : Nat} {nm : ByteArray} {w w' : World} {A : ADisk} {J : AJ}

theorem jsync_any (hd : IsDisk base nm w d A) (h : IsJ base nm w b d J) :
    Calls Try.prog 19 #[.pointer (some ⟨b, 0, none⟩)] w fun e w' => e = .returned (.int .i64 (syncJ A J).1) ∧ IsDisk base nm w' d (syncJ A J).2.1 ∧ IsJ base nm w' b d (syncJ A J).2.2 ∧ Chgj base b w w' := by
  obtain ⟨c0, c1, c2, -, -⟩ := jcells h
  have hd1 := Lib.hid hd
  have h1 := Lib.hid h
  have hw := Lib.hid (jwrong_any h)
  have hS := Lib.hid (fun W (hW : IsDisk base nm W d A) => sync_any hW false)
  unfold syncJ
  have hx := opA_code A false fun f => A.set false (some ⟨f.b, f.b.size⟩)
  cases hB : J.broken
  · rw [hB] at hw
    by_cases hm : J.many = 0
    · rw [hm] at c2
      simp only [Bool.false_eq_true, if_false, if_pos hm]
      have hm := Lib.hid hm
      have hB := Lib.hid hB
      clear hd h
      go_enter Try.func19, Try.ntmps19
      go_wp2_with (fail)
      refine hw.out.mono ?_
      rintro e w' ⟨rfl, rfl⟩
      go_wp2_with (fail)
      go_ret
      exact ⟨rfl, hd1.out, h1.out, Chgj.refl _ _ _⟩
    · simp only [Bool.false_eq_true, if_false, if_neg hm]
      have hm' : ((J.many : Int) == 0) = false := by rw [beq_eq_false_iff_ne]; omega
      have hB := Lib.hid hB
      clear hd h
      generalize hr : syncA A false = r at *
      rw [show (opA A false fun f => A.set false (some ⟨f.b, f.b.size⟩)) = r from hr] at hx
      obtain ⟨x, A'⟩ := r
      have hr := Lib.hid hr
      have hF : Hid (∀ W, IsDisk base nm W d A' → IsJ base nm W b d J → Calls Try.prog 39 #[.pointer (some ⟨b, 0, none⟩), .int .i64 x] W fun e w' => e = .returned (.int .i64 x) ∧ IsDisk base nm w' d A' ∧ IsJ base nm w' b d { J with broken := J.broken || x != 0 } ∧ Chgj base b W w') :=
        fun W g1 g2 => jfailed_any g1 g2 x hx
      have hx := Lib.hid hx
      have hm := Lib.hid hm
      go_enter Try.func19, Try.ntmps19
      go_wp2_with (fail)
      refine hw.out.mono ?_
      rintro e w' ⟨rfl, rfl⟩
      go_wp2_with (fail)
      go_region_with (first | (go_at_call 30; refine (hS.out w.drew (hd1.out.heap_eq rfl)).mono ?_; rintro e w2 ⟨rfl, s1, s2⟩) | (go_at_call 39; refine (hF.out w2 s1 ((h1.out.heap_eq (w' := w.drew) rfl).chg s2)).mono ?_; rintro e w3 ⟨rfl, t1, t2, t3⟩))
      all_goals (
        have hchg := Lib.hid (((Chgj.refl base b w).drew.trans (jts_sub s2)).trans t3)
        obtain ⟨-, -, k2, k3, -⟩ := jcells t2
        have z3 := jfroz t2 3
        rw [hB.out] at t2
        have hset := Lib.hid (fun J' hJ => jset t1 t2 3 (.int .i64 (J.many : Int)) J' hJ)
        have t1 := Lib.hid t1
        have t2 := Lib.hid t2
        clear s1 s2 t3
        by_cases hx0 : x = 0
        · subst hx0
          go_wp2_with (fail)
          go_ret
          obtain ⟨y1, y2, y3⟩ := hset.out ⟨J.many, J.many, false⟩ rfl
          exact ⟨rfl, y1, y2, hchg.out.trans y3⟩
        · have hx0' : (x == 0) = false := beq_eq_false_iff_ne.2 hx0
          have hx0 := Lib.hid hx0
          go_wp2_with (fail)
          go_ret
          exact ⟨rfl, t1.out, t2.out, hchg.out⟩)
  · rw [hB] at hw
    simp only [if_true]
    have hB := Lib.hid hB
    clear hd h hx
    go_enter Try.func19, Try.ntmps19
    go_wp2_with (fail)
    refine hw.out.mono ?_
    rintro e w' ⟨rfl, rfl⟩
    go_wp2_with (fail)
    go_ret
    exact ⟨rfl, hd1.out, h1.out, Chgj.refl _ _ _⟩

set_option maxHeartbeats 4000000 in
theorem jadd_any (hw : WordOk nm) (hd : IsDisk base nm w d A) (h : IsJ base nm w b d J) (hbase : base ≤ w.heap.size) (s : ByteArray) (hm : J.many < 9223372036854775807) (hs : s.size ≤ 140737488351232) :
    Calls Try.prog 18 #[.pointer (some ⟨b, 0, none⟩), .string s] w fun e w' => e = .returned (.int .i64 (addA A J s).1) ∧ IsDisk base nm w' d (addA A J s).2.1 ∧ IsJ base nm w' b d (addA A J s).2.2 ∧ Chgj base b w w' := by
  obtain ⟨c0, c1, c2, -, -⟩ := jcells h
  have hd1 := Lib.hid hd
  have h1 := Lib.hid h
  have hwr := Lib.hid (jwrong_any h)
  unfold addA
  cases hB : J.broken
  · rw [hB] at hwr
    by_cases hsz : 4096 < s.size
    · simp only [Bool.false_eq_true, if_false, if_pos hsz]
      have hsz' : (4096 : Int) < (s.size : Int) := by omega
      have hsz := Lib.hid hsz
      have hB := Lib.hid hB
      clear hd h
      go_enter Try.func18, Try.ntmps18
      go_wp2_with (fail)
      refine hwr.out.mono ?_
      rintro e w' ⟨rfl, rfl⟩
      go_wp2_with (fail)
      go_ret
      exact ⟨rfl, hd1.out, h1.out, Chgj.refl _ _ _⟩
    · simp only [Bool.false_eq_true, if_false, if_neg hsz]
      have hsz' : ¬ (4096 : Int) < (s.size : Int) := by omega
      have hB := Lib.hid hB
      have hx := appendA_code A false (mk (layB J.many s.toList))
      have hlz : (mk (layB J.many s.toList)).size ≤ 140737488351232 := by
        have := layB_length J.many (by omega) s.toList (by rw [toList_length]; omega)
        rw [toList_length] at this
        show ByteArray.size ⟨_⟩ ≤ _
        rw [ba_size]
        omega
      have hS := Lib.hid (fun W (hW : IsDisk base nm W d A) (hb : base ≤ W.heap.size) => append_any hw hW hb false (mk (layB J.many s.toList)) hlz)
      have hL : Hid (∀ W, Calls Try.prog 34 #[.int .i64 (J.many : Int), .string s] W fun e w' => e = .returned (.string (mk (layB J.many s.toList))) ∧ Below W.heap.size W w') := fun W => lay_any J.many (by omega) s hs W
      clear hlz hs hd h
      generalize hr : appendA A false (mk (layB J.many s.toList)) = r at *
      obtain ⟨x, A'⟩ := r
      have hr := Lib.hid hr
      have hF : Hid (∀ W, IsDisk base nm W d A' → IsJ base nm W b d J → Calls Try.prog 39 #[.pointer (some ⟨b, 0, none⟩), .int .i64 x] W fun e w' => e = .returned (.int .i64 x) ∧ IsDisk base nm w' d A' ∧ IsJ base nm w' b d { J with broken := J.broken || x != 0 } ∧ Chgj base b W w') :=
        fun W g1 g2 => jfailed_any g1 g2 x hx
      have hx := Lib.hid hx
      have hbase := Lib.hid hbase
      generalize mk (layB J.many s.toList) = T at *
      have hw := Lib.hid hw
      go_enter Try.func18, Try.ntmps18
      go_wp2_with (fail)
      refine hwr.out.mono ?_
      rintro e w' ⟨rfl, rfl⟩
      go_wp2_with (fail)
      go_region_with (first |
        (go_at_call 34; refine (hL.out _).mono ?_; rintro e w1 ⟨rfl, q1⟩; obtain ⟨p0, p1, p2, -, -⟩ := jcells ((h1.out.heap_eq (w' := w.drew) rfl).below q1 (Nat.le_refl _))) |
        (go_at_call 9; refine (hS.out w1 ((hd1.out.heap_eq (w' := w.drew) rfl).below q1) (Nat.le_trans hbase.out q1.size)).mono ?_; rintro e w2 ⟨rfl, s1, s2⟩) |
        (go_at_call 39; refine (hF.out w2 s1 (((h1.out.heap_eq (w' := w.drew) rfl).below q1 (Nat.le_refl _)).chg s2)).mono ?_; rintro e w3 ⟨rfl, t1, t2, t3⟩))
      all_goals (
        have hchg := Lib.hid ((((Chgj.refl base b w).drew.trans (Chgj.of_below q1)).trans (jts_sub s2)).trans t3)
        obtain ⟨-, -, k2, -, -⟩ := jcells t2
        have z2 := jfroz t2 2
        rw [hB.out] at t2
        have hset := Lib.hid (fun v J' hJ => jset t1 t2 2 v J' hJ)
        have t1 := Lib.hid t1
        have t2 := Lib.hid t2
        clear s1 s2 t3 q1
        have hmw : IntKind.i64.wrap ((J.many : Int) + 1) = ((J.many + 1 : Nat) : Int) := by rw [IntWalk.i64_in _ (by omega)]; omega
        by_cases hx0 : x = 0
        · subst hx0
          go_wp2_with (fail)
          go_ret
          obtain ⟨y1, y2, y3⟩ := hset.out (.int .i64 ((J.many + 1 : Nat) : Int)) ⟨J.many + 1, J.synced, false⟩ rfl
          exact ⟨rfl, y1, y2, hchg.out.trans y3⟩
        · have hx0' : (x == 0) = false := beq_eq_false_iff_ne.2 hx0
          have hx0 := Lib.hid hx0
          go_wp2_with (fail)
          go_ret
          exact ⟨rfl, t1.out, t2.out, hchg.out⟩)
  · rw [hB] at hwr
    simp only [if_true]
    have hB := Lib.hid hB
    clear hd h
    go_enter Try.func18, Try.ntmps18
    go_wp2_with (fail)
    refine hwr.out.mono ?_
    rintro e w' ⟨rfl, rfl⟩
    go_wp2_with (fail)
    go_ret
    exact ⟨rfl, hd1.out, h1.out, Chgj.refl _ _ _⟩
end
end Go.Proofs.Ytjilfabdbmfgjaa
