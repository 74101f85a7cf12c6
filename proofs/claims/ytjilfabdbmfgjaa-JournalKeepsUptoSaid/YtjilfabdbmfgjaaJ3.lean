/- The journal: plain facts on the records that bytes have, and the walk of Open. -/
import Derived.Test.YtjilfabdbmfgjaaJ2
import Derived.Test.YtjilfabdbmfgjaaP0
namespace Go.Proofs.Ytjilfabdbmfgjaa
open Go.RowKit Go.Proofs.YtjilfabdbmfgjaaW.PrintWords Go.Proofs.Ytjilfabdbmfgjaa.PJournalOrder
set_option maxRecDepth 100000

def openA (A : ADisk) : Int × ADisk × Option (AJ × List ByteArray) :=
  let r1 := removeA A true
  if r1.1 != 0 && r1.1 != 34 then (r1.1, r1.2, none) else
  let r := readA r1.2 false
  if r.2 == 34 then (0, r1.2, some (⟨0, 0, false⟩, [])) else
  if r.2 != 0 then (r.2, r1.2, none) else
  let l := (parseL 0 r.1.toList).1
  if (parseL 0 r.1.toList).2 < r.1.size then
    let q := renewA r1.2 ⟨l.length, l.length, false⟩ (l.map mk)
    if q.1 != 0 then (q.1, q.2.1, none) else (0, q.2.1, some (q.2.2, l.map mk))
  else
    let q := syncA r1.2 false
    if q.1 != 0 then (q.1, q.2, none) else (0, q.2, some (⟨l.length, l.length, false⟩, l.map mk))

section
variable {base d : Nat} {nm : ByteArray} {w w' : World} {A : ADisk}

theorem IsDisk.size (h : IsDisk base nm w d A) {i : Bool} {f : FB} (hf : A.file i = some f) : f.safe ≤ f.b.size ∧ f.b.size ≤ 1048576 := by
  obtain ⟨R, hr, ha⟩ := h
  have := ha.file i
  rw [hf] at this
  obtain ⟨g, hg, rfl⟩ := Option.map_eq_some_iff.1 this.symm
  have := (hr.files g (getF_some hg).1).2
  exact ⟨this.1, this.2.1⟩
theorem read_size (h : IsDisk base nm w d A) (i : Bool) : (readA A i).1.size ≤ 1048576 := by
  unfold readA
  split
  · exact Nat.zero_le _
  · cases hf : A.file i with
    | none => exact Nat.zero_le _
    | some f => exact (h.size hf).2
theorem read_code (A : ADisk) (i : Bool) : (readA A i).2 = 0 ∨ (readA A i).2 = 8 ∨ (readA A i).2 = 34 := by
  unfold readA
  repeat' split
  all_goals simp
theorem StrsAt.any {v : Value} {l : List ByteArray} (h : StrsAt 0 w v l) : StrsAt base w v l := by
  obtain ⟨A, c, hv, hl, hC, hb⟩ := h.out
  exact ⟨A, c, hv, hl, hC, fun ad ha => (hb ad ha).elim (fun h => by omega) .inr⟩

theorem open_nil (name : ByteArray) (w : World) : Calls Try.prog 10 #[.pointer none, .string name] w fun e w' => e = .returned (.tuple #[.pointer none, .slice none 0 0, .int .i64 1]) ∧ w = w' := by
  go_enter Try.func10, Try.ntmps10
  go_wp2
  go_ret3
  exact ⟨rfl, rfl⟩

def OpenPost (base : Nat) (nm : ByteArray) (d : Nat) (O : Int × ADisk × Option (AJ × List ByteArray)) (w : World) (e : Ending) (w' : World) : Prop :=
  ∃ jv lv, e = .returned (.tuple #[jv, lv, .int .i64 O.1]) ∧ IsDisk base nm w' d O.2.1 ∧ Chg dts base w w' ∧
    ((O.2.2 = none ∧ jv = .pointer none ∧ lv = .slice none 0 0) ∨ ∃ J l b, O.2.2 = some (J, l) ∧ jv = .pointer (some ⟨b, 0, none⟩) ∧ IsJ base nm w' b d J ∧ StrsAt base w' lv l)

theorem open_none {O : Int × ADisk × Option (AJ × List ByteArray)} {x : Int} {A' : ADisk} (hO : O = (x, A', none)) (hd : IsDisk base nm w' d A') (hc : Chg dts base w w') :
    OpenPost base nm d O w (.returned (.tuple #[.pointer none, .slice none 0 0, .int .i64 x])) w' := by
  subst hO
  exact ⟨_, _, rfl, hd, hc, .inl ⟨rfl, rfl, rfl⟩⟩
theorem open_some {O : Int × ADisk × Option (AJ × List ByteArray)} {A' : ADisk} {J : AJ} {l : List ByteArray} {b : Nat} {lv : Value} (hO : O = (0, A', some (J, l))) (hd : IsDisk base nm w' d A') (hc : Chg dts base w w')
    (hj : IsJ base nm w' b d J) (hl : StrsAt base w' lv l) : OpenPost base nm d O w (.returned (.tuple #[.pointer (some ⟨b, 0, none⟩), lv, .int .i64 0])) w' := by
  subst hO
  exact ⟨_, _, rfl, hd, hc, .inr ⟨J, l, b, rfl, rfl, hj, hl⟩⟩

theorem jnew (h : IsDisk base nm w d A) (hb : base ≤ w.heap.size) :
    IsDisk base nm (w.alloc (.cells #[.pointer (some ⟨d, 0, none⟩), .string nm, .int .i64 0, .int .i64 0, .bool false] 61)) d A ∧
    IsJ base nm (w.alloc (.cells #[.pointer (some ⟨d, 0, none⟩), .string nm, .int .i64 0, .int .i64 0, .bool false] 61)) w.heap.size d ⟨0, 0, false⟩ :=
  ⟨h.below ((Below.refl _ _).alloc (Nat.le_refl _) _), ⟨(show (w.heap.push _)[w.heap.size]? = _ from Array.getElem?_push_size), hb⟩⟩
theorem strs_nil (base : Nat) (w : World) : StrsAt base w (.slice none 0 0) [] := strs_of_R (Kd.R_nil Kd.string 9 w 0 (fun _ => True))
theorem remove_code (A : ADisk) : (removeA A true).1 = 8 ∨ (removeA A true).1 = 0 ∨ (removeA A true).1 = 34 := by
  unfold removeA opA
  repeat' split
  all_goals simp
set_option maxHeartbeats 4000000 in
theorem open_any (hw : WordOk nm) (hn1 : 1 ≤ nm.size) (hn2 : nm.size ≤ 15) (hr : ∃ k, journal_right.f k nm = some true) (h : IsDisk base nm w d A) (hbase : base ≤ w.heap.size) :
    Calls Try.prog 10 #[.pointer (some ⟨d, 0, none⟩), .string nm] w (OpenPost base nm d (openA A) w) := by
  obtain ⟨k, hr⟩ := hr
  have hr := Lib.hid hr
  have hO : Hid (openA A = openA A) := rfl
  generalize hO' : openA A = O at hO ⊢
  clear hO
  have hO := Lib.hid hO'
  have i1 : ¬ (nm.size : Int) < 1 := by omega
  have i2 : ¬ (15 : Int) < (nm.size : Int) := by omega
  have i3 : nm.size + 1 ≤ 140737488355328 := by omega
  cases hr1 : removeA A true with
  | mk x1 A1 =>
  have hS : Hid (∀ W, IsDisk base nm W d A → Calls Try.prog 29 #[.pointer (some ⟨d, 0, none⟩), .string (nm ++ ⟨#[120]⟩)] W fun e w' => e = .returned (.int .i64 x1) ∧ IsDisk base nm w' d A1 ∧ Chg dts base W w') := by
    intro W hW
    have := remove_any hW true
    rw [hr1] at this
    exact this
  have hr1 := Lib.hid hr1
  have h1 := Lib.hid h
  have hw := Lib.hid hw
  clear hO' h
  go_enter Try.func10, Try.ntmps10
  go_wp2_with (go_at_call 28; refine (journal_right.calls k nm true _ hr.out).mono ?_; rintro e w' ⟨rfl, ⟨n, rfl⟩⟩)
  refine (hS.out (w.drewN n) (h1.out.heap_eq (w' := w.drewN n) rfl)).mono ?_
  rintro e w1 ⟨rfl, s1, s2⟩
  have hx := remove_code A
  rw [hr1.out] at hx
  have s2 := Lib.hid ((((Chg.refl dts base w).drewN n)).trans s2)
  have s1 := Lib.hid s1
  rcases hx with hx | hx
  · obtain rfl : x1 = 8 := hx
    have hRb : Hid (O = (8, A1, none)) := by
      show O = _
      rw [← hO.out]
      unfold openA
      rw [hr1.out]
      rfl
    clear hS
    go_wp2_with (fail)
    go_ret3
    exact open_none hRb.out s1.out s2.out
  · have hx' : Hid ((x1 != 0 && x1 != 34) = false) := by rcases hx with rfl | rfl <;> rfl
    rcases hx with hx | hx
    all_goals (
      subst hx
      clear hS
      go_wp2_with (fail)
      have hw1 : base ≤ w1.heap.size := Nat.le_trans hbase s2.out.size
      have hfr : w.heap.size ≤ w1.heap.size := s2.out.size
      obtain ⟨d2, j2⟩ := jnew s1.out hw1
      have c2 := Lib.hid (s2.out.alloc (.cells #[.pointer (some ⟨d, 0, none⟩), .string nm, .int .i64 0, .int .i64 0, .bool false] 61))
      generalize hb1 : w1.heap.size = b1 at *
      generalize hW2 : w1.alloc (.cells #[.pointer (some ⟨d, 0, none⟩), .string nm, .int .i64 0, .int .i64 0, .bool false] 61) = w2 at *
      have hRd := read_any d2 false
      have hsz := read_size d2 false
      have hcode := read_code A1 false
      cases hr2 : readA A1 false with
      | mk s x2 =>
      rw [hr2] at hRd hsz hcode
      have hRd : Hid (Calls Try.prog 12 #[.pointer (some ⟨d, 0, none⟩), .string nm] w2 fun e w' => e = .returned (.tuple #[.string s, .int .i64 x2]) ∧ w2 = w') := hRd
      have hr2 := Lib.hid hr2
      have d2 := Lib.hid d2
      have j2 := Lib.hid j2
      clear hW2 hb1 hw1 s1 s2
      refine hRd.out.mono ?_
      rintro e w' ⟨rfl, rfl⟩
      rcases hcode with hx2 | hx2 | hx2
      · obtain rfl : x2 = 0 := hx2
        have hsz : s.size ≤ 1048576 := hsz
        have hP := Lib.hid (parse_any s hsz)
        clear hRd
        go_wp2_with (fail)
        refine (hP.out w2).mono ?_
        rintro e w3 ⟨lv, rfl, hl, hb3⟩
        have hpc := parse_cat s.toList.length 0 s.toList (Nat.le_refl _)
        rw [toList_length] at hpc
        cases hpl : parseL 0 s.toList with
        | mk ls m =>
        rw [hpl] at hl hpc
        obtain ⟨hc1, hc2, hc3, hc4⟩ := hpc
        dsimp only at hc1 hc2 hc3 hc4 hl
        have hll : ls.length ≤ 1048576 := by omega
        have d3 := Lib.hid (d2.out.below hb3)
        have j3 := j2.out.below hb3 (Nat.le_refl _)
        have c3 := Lib.hid (c2.out.trans (Chg.of_below hb3))
        obtain ⟨A4, cap, rfl, -⟩ := id hl.out
        rw [List.length_map] at hl ⊢
        obtain ⟨-, -, k2, k3, -⟩ := jcells j3
        have z2 := jfroz j3 2
        have z3 := jfroz j3 3
        have hset := jset d3.out j3 2 (.int .i64 (ls.length : Int)) ⟨ls.length, 0, false⟩ rfl
        have z4 := jfroz hset.2.1 3
        obtain ⟨-, -, n4, n5, -⟩ := jcells hset.2.1
        have hset2 := jset hset.1 hset.2.1 3 (.int .i64 (ls.length : Int)) ⟨ls.length, ls.length, false⟩ rfl
        have d4 := Lib.hid hset2.1
        have j4 := Lib.hid hset2.2.1
        have c4 := Lib.hid (Chgj.fresh (Chgj.fresh c3.out hset.2.2 hfr) hset2.2.2 hfr)
        have l4 := Lib.hid (((hl.any (base := base)).chg hset.2.2.toChg).chg hset2.2.2.toChg)
        have hfr := Lib.hid hfr
        have hbs : Hid (base ≤ w3.heap.size) := Nat.le_trans hbase c3.out.size
        have hpl := Lib.hid hpl
        have hc1 := Lib.hid hc1
        have hc3 := Lib.hid hc3
        have hc4 := Lib.hid hc4
        clear hset hset2 hP hRd hl hb3
        generalize hw4 : (w3.setCell ⟨b1, 2, none⟩ (.int .i64 (ls.length : Int))).setCell ⟨b1, 3, none⟩ (.int .i64 (ls.length : Int)) = w4 at d4 j4 c4 l4
        have hw4 := Lib.hid hw4
        by_cases hlt : m < s.size
        · have hlt' : (m : Int) < (s.size : Int) := by omega
          have hlt := Lib.hid hlt
          cases hq : renewA A1 ⟨ls.length, ls.length, false⟩ (ls.map mk) with
          | mk x5 q =>
          obtain ⟨A5, J5⟩ := q
          have hN := jrenew_any hw.out d4.out j4.out (Nat.le_trans hbase c4.out.size) _ (ls.map mk) l4.out
            (fun x hx => by obtain ⟨r, hr, rfl⟩ := List.mem_map.1 hx; show ByteArray.size ⟨_⟩ ≤ _; rw [ba_size]; exact hc3.out r hr) (by omega)
            (by rw [hc1.out, List.length_take, toList_length]; omega) (by rw [List.length_map]; omega)
          rw [hq] at hN
          have hN := Lib.hid hN
          have hq := Lib.hid hq
          go_wp2_with (fail)
          refine hN.out.mono ?_
          rintro e w5 ⟨rfl, d5, j5, c5⟩
          have l5 := Lib.hid (l4.out.chg c5.toChg)
          have c5 := Lib.hid (Chgj.fresh c4.out c5 hfr.out)
          have d5 := Lib.hid d5
          have j5 := Lib.hid j5
          dsimp only
          by_cases h5 : x5 = 0
          · subst h5
            have hRb : Hid (O = (0, A5, some (J5, ls.map mk))) := by
              show O = _
              rw [← hO.out]
              unfold openA
              rw [hr1.out]
              dsimp only
              rw [hr2.out]
              dsimp only
              rw [hpl.out]
              dsimp only
              rw [if_pos hlt.out, hq.out]
              rfl
            clear hN
            go_wp2_with (fail)
            go_ret3
            exact open_some hRb.out d5.out c5.out j5.out l5.out
          · have h5' : (x5 == 0) = false := beq_eq_false_iff_ne.2 h5
            have hRb : Hid (O = (x5, A5, none)) := by
              show O = _
              rw [← hO.out]
              unfold openA
              rw [hr1.out]
              dsimp only
              rw [hr2.out]
              dsimp only
              rw [hpl.out]
              dsimp only
              rw [if_pos hlt.out, hq.out]
              simp [h5]
            have h5 := Lib.hid h5
            clear hN
            go_wp2_with (fail)
            go_ret3
            exact open_none hRb.out d5.out c5.out
        · have hlt' : ¬ (m : Int) < (s.size : Int) := by omega
          have hlt := Lib.hid hlt
          cases hq : syncA A1 false with
          | mk x5 A5 =>
          have hN := sync_any d4.out false
          rw [hq] at hN
          have hN : Hid (Calls Try.prog 30 #[.pointer (some ⟨d, 0, none⟩), .string nm] w4 fun e w' => e = .returned (.int .i64 x5) ∧ IsDisk base nm w' d A5 ∧ Chg dts base w4 w') := hN
          have hq := Lib.hid hq
          go_wp2_with (fail)
          refine hN.out.mono ?_
          rintro e w5 ⟨rfl, d5, c5⟩
          have l5 := Lib.hid (l4.out.chg (jts_sub (b := b1) c5).toChg)
          have j5 := Lib.hid (j4.out.chg c5)
          have c5 := Lib.hid (c4.out.trans c5)
          have d5 := Lib.hid d5
          dsimp only
          by_cases h5 : x5 = 0
          · subst h5
            have hRb : Hid (O = (0, A5, some (⟨ls.length, ls.length, false⟩, ls.map mk))) := by
              show O = _
              rw [← hO.out]
              unfold openA
              rw [hr1.out]
              dsimp only
              rw [hr2.out]
              dsimp only
              rw [hpl.out]
              dsimp only
              rw [if_neg hlt.out, hq.out]
              rfl
            clear hN
            go_wp2_with (fail)
            go_ret3
            exact open_some hRb.out d5.out c5.out j5.out l5.out
          · have h5' : (x5 == 0) = false := beq_eq_false_iff_ne.2 h5
            have hRb : Hid (O = (x5, A5, none)) := by
              show O = _
              rw [← hO.out]
              unfold openA
              rw [hr1.out]
              dsimp only
              rw [hr2.out]
              dsimp only
              rw [hpl.out]
              dsimp only
              rw [if_neg hlt.out, hq.out]
              simp [h5]
            have h5 := Lib.hid h5
            clear hN
            go_wp2_with (fail)
            go_ret3
            exact open_none hRb.out d5.out c5.out
      · obtain rfl : x2 = 8 := hx2
        have hRb : Hid (O = (8, A1, none)) := by
          show O = _
          rw [← hO.out]
          unfold openA
          rw [hr1.out]
          dsimp only
          rw [hr2.out]
          rfl
        clear hRd hsz
        go_wp2_with (fail)
        go_ret3
        exact open_none hRb.out d2.out c2.out
      · obtain rfl : x2 = 34 := hx2
        have hRb : Hid (O = (0, A1, some (⟨0, 0, false⟩, []))) := by
          show O = _
          rw [← hO.out]
          unfold openA
          rw [hr1.out]
          dsimp only
          rw [hr2.out]
          rfl
        clear hRd hsz
        go_wp2_with (fail)
        go_ret3
        exact open_some hRb.out d2.out c2.out j2.out (strs_nil _ _))
end
end Go.Proofs.Ytjilfabdbmfgjaa
