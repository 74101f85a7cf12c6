/- The journal: the walk of Renew. -/
import Derived.Test.YtjilfabdbmfgjaaJ1
import Derived.Test.YtjilfabdbmfgjaaP0
namespace Go.Proofs.Ytjilfabdbmfgjaa
open Go.RowKit Go.Proofs.YtjilfabdbmfgjaaW.PrintWords Go.Proofs.Ytjilfabdbmfgjaa.PJournalOrder
set_option maxRecDepth 100000

def renewA (A : ADisk) (J : AJ) (l : List ByteArray) : Int × ADisk × AJ :=
  if J.broken then (8, A, J) else
  let r1 := appendA A true (mk (catB 0 l))
  if r1.1 != 0 then (r1.1, r1.2, { J with broken := true }) else
  let r2 := syncA r1.2 true
  if r2.1 != 0 then (r2.1, r2.2, { J with broken := true }) else
  let r3 := renameA r2.2
  if r3.1 != 0 then (r3.1, r3.2, { J with broken := true }) else (0, r3.2, ⟨l.length, l.length, false⟩)

def nm8 (l : List UInt8) : List Int := l.map fun b => (b.toNat : Int)
theorem nm8_append (a b : List UInt8) : nm8 (a ++ b) = nm8 a ++ nm8 b := by simp [nm8]
theorem nm8_length (a : List UInt8) : (nm8 a).length = a.length := by simp [nm8]
theorem bytesOf_mk (a : List UInt8) : bytesOf (mk a) = nm8 a := rfl
theorem strOfNums_nm8 (a : List UInt8) : strOfNums (nm8 a) = mk a := by
  unfold strOfNums nm8 mk
  rw [List.map_map]
  have : (fun n : Int => UInt8.ofNat n.toNat) ∘ (fun b : UInt8 => (b.toNat : Int)) = id := by
    funext b
    simp
  rw [this, List.map_id]

theorem u8Info : (Try.prog.info? 5).map (fun i => (i.zero, i.size, i.bytes)) = some (some (.int .u8 0), 1, 1) := by kernel_rfl
section
variable {base b d : Nat} {nm : ByteArray} {w w' : World} {A : ADisk} {J : AJ}
theorem StrsAt.chg {base : Nat} {w w' : World} {v : Value} {l : List ByteArray} (h : StrsAt base w v l) (hc : Chg jts base w w') : StrsAt base w' v l := by
  obtain ⟨A, c, hv, hl, hC, hb⟩ := h.out
  refine ⟨A, c, hv, hl, ⟨hC.1, hC.2.1, fun hn => ?_⟩, fun ad ha => (hb ad ha).imp id fun ⟨cs, fz, hx⟩ => ⟨cs, fz, hc.keep _ _ hx (.inr (show jts.contains 9 = false by decide))⟩⟩
  obtain ⟨ad, ha, hx⟩ := hC.2.2 hn
  refine ⟨ad, ha, fun j x hj => ?_⟩
  obtain ⟨cc, c1, c2, c3⟩ := hx j x hj
  refine ⟨cc, c1, c2, fun i u hu => ?_⟩
  refine cell_chg hc (c3 i u hu) ?_
  rw [add_block]
  exact (hb ad ha).imp id fun ⟨cs, fz, hx⟩ => ⟨cs, _, fz, hx, by decide⟩
theorem StrsAt.below {base : Nat} {w w' : World} {v : Value} {l : List ByteArray} (h : StrsAt base w v l) (hc : Below w.heap.size w w') : StrsAt base w' v l := h.chg (Chg.of_below hc)
/-- the entry -/
theorem StrsAt.get {base : Nat} {w : World} {Al : Option Addr} {cl : Nat} {l : List ByteArray} (h : StrsAt base w (.slice Al l.length cl) l) (p : Nat) (hp : p < l.length) : ∃ ad, Al = some ad ∧ w.cell? (ad.add p) = some (.string l[p]) := by
  obtain ⟨A, c, hv, hl, hC, hb⟩ := h.out
  injection hv with e1 e2 e3
  subst e1
  have hro := Kd.reads_of_C (d := (⟨#[]⟩ : ByteArray)) hC
  obtain ⟨ad, had, hcell⟩ := hro.2.2 (by omega)
  refine ⟨ad, had, ?_⟩
  rw [hcell p hp]
  simp [List.getD_eq_getElem?_getD, List.getElem?_eq_getElem hp]
end
section
variable {base b d : Nat} {nm : ByteArray} {w w' : World} {A : ADisk} {J : AJ}
set_option maxHeartbeats 4000000 in
theorem jrenew_any (hw : WordOk nm) (hd : IsDisk base nm w d A) (h : IsJ base nm w b d J) (hbase : base ≤ w.heap.size) (lv : Value) (l : List ByteArray) (hl : StrsAt base w lv l) (hsm : ∀ s ∈ l, s.size ≤ 4096)
    (hnm : nm.size ≤ 1000) (hcat : (catB 0 l).length ≤ 140737488351232) (hlen : l.length ≤ 4611686018427387904) :
    Calls Try.prog 20 #[.pointer (some ⟨b, 0, none⟩), lv] w fun e w' => e = .returned (.int .i64 (renewA A J l).1) ∧ IsDisk base nm w' d (renewA A J l).2.1 ∧ IsJ base nm w' b d (renewA A J l).2.2 ∧ Chgj base b w w' := by
  obtain ⟨c0, c1, c2, -, -⟩ := jcells h
  have hd1 := Lib.hid hd
  have h1 := Lib.hid h
  have hwr := Lib.hid (jwrong_any h)
  have hRn : Hid (renewA A J l = renewA A J l) := rfl
  generalize hr : renewA A J l = Rn at hRn ⊢
  have hr := Lib.hid hr
  clear hRn
  cases hB : J.broken
  · rw [hB] at hwr
    have hB := Lib.hid hB
    clear hd h
    obtain ⟨Al, cl, rfl, hcl, hC, hbl⟩ := hl.out
    go_enter Try.func20, Try.ntmps20
    go_wp2_with (fail)
    refine hwr.out.mono ?_
    rintro e w' ⟨rfl, rfl⟩
    go_wp2_with (fail)
    have hL : Hid (∀ (i : Nat), i < 9223372036854775808 → ∀ (s : ByteArray), s.size ≤ 140737488351232 → ∀ W, Calls Try.prog 34 #[.int .i64 (i : Int), .string s] W fun e w' => e = .returned (.string (mk (layB i s.toList))) ∧ Below W.heap.size W w') := fun i hi s hs W => lay_any i hi s hs W
    have hl1 := Lib.hid hl
    have hsm := Lib.hid hsm
    have hcat := Lib.hid hcat
    have hwr' := hwr
    clear hC hbl hwr hl
    go_loopw [6, 18] (fun bv i wr => ∃ p : Nat, p ≤ l.length ∧ i = .int .i64 p ∧ Hid (wr.ownsRow w.heap.size 5 1 bv (nm8 (catB 0 (l.take p))).length (nums .u8 (nm8 (catB 0 (l.take p))))) ∧ Hid (Below w.heap.size w wr)) (fun _ i _ => l.length - (intOf i).toNat)
    case atStart =>
      refine ⟨0, Nat.zero_le _, rfl, ?_, Below.refl _ _⟩
      rw [List.take_zero]
      exact ⟨rfl, .inl ⟨rfl, rfl⟩⟩
    case round =>
      obtain ⟨p, hp, rfl, hO, hBl⟩ := hrel
      by_cases hlt : p < l.length
      · obtain ⟨ad, rfl, hcell⟩ := (hl1.out.below hBl.out).get p hlt
        have hsz := hsm.out _ (List.getElem_mem hlt)
        have hcn : Hid (catB 0 (l.take (p + 1)) = catB 0 (l.take p) ++ layB p l[p].toList) := catB_snoc l p hlt
        have hle : Hid ((catB 0 (l.take p)).length + (layB p l[p].toList).length ≤ 140737488351232) := by
          have h1 : catB 0 l = catB 0 (l.take (p + 1)) ++ catB (0 + (l.take (p + 1)).length) (l.drop (p + 1)) := by rw [← catB_append, List.take_append_drop]
          have h2 := hcat.out
          rw [h1, hcn.out, List.length_append, List.length_append] at h2
          show _ ≤ _
          omega
        generalize l[p] = s at *
        have hLp := Lib.hid (hL.out p (by omega) s (by omega))
        have hsz' : ¬ (4096 : Int) < (s.size : Int) := by omega
        clear hsz hsm hcat hL hl1 hr
        go_wp2_with (fail)
        refine (hLp.out _).mono ?_
        rintro e w1 ⟨rfl, hb1⟩
        have hb1 := Lib.hid hb1
        have hO1 := Lib.hid (own_chg (Chg.of_below (ts := []) (base := 0) hb1.out) hO.out rfl)
        have hB1 := Lib.hid (hBl.out.trans (hb1.out.mono hBl.out.size))
        generalize hT : layB p s.toList = T at *
        have hT := Lib.hid hT
        have hsT : (nm8 (catB 0 (l.take p))).length + (mk T).size ≤ 140737488355328 := by
          rw [nm8_length]
          have := hle.out
          show _ + ByteArray.size ⟨_⟩ ≤ _
          rw [ba_size]
          omega
        have hsT := Lib.hid hsT
        clear hO hBl hb1 hLp hle
        generalize hX : nm8 (catB 0 (l.take p)) = X at *
        go_wp2_with (at_builtin; go_loud (refine print_append_str (w0 := w) w.heap.size rfl (.tmp 26) (.tmp 29) 70 9 5 rfl Try.underlying70 Try.underlying9 u8Info _ X (mk T) rfl rfl hO1.out hB1.out hB1.out.size hsT.out ?_); intro v1 w2 ho hbb hg)
        refine ⟨⟨p + 1, by omega, by go_num, ?_, hbb⟩, by simp [intOf]; omega⟩
        show w2.ownsRow _ _ _ _ _ _
        rw [hcn.out, nm8_append, hX]
        exact ho
      · obtain rfl : p = l.length := by omega
        rw [List.take_length] at hO
        obtain ⟨k0, k1, -, -, -⟩ := jcells (h1.out.below hBl.out (Nat.le_refl _))
        clear hsm hcat hL hl1 hcl
        generalize hX : catB 0 l = X at *
        have hX := Lib.hid hX
        have hXs : (mk X).size ≤ 140737488351232 := by
          show ByteArray.size ⟨_⟩ ≤ _
          rw [ba_size]
          exact hcat
        have hcv := Lib.hid (own_string (P := Try.prog) (src := 70) (dst := 9) Try.underlying70 Try.underlying5 Try.underlying9 (own_chg ((Chg.refl [] 0 wr).drew) hO.out rfl))
        rw [strOfNums_nm8] at hcv
        clear hcat hO
        cases hr1 : appendA A true (mk X) with
        | mk x1 A1 =>
        have hx1 := appendA_code A true (mk X)
        rw [hr1] at hx1
        have hS : Hid (∀ W, IsDisk base nm W d A → base ≤ W.heap.size → Calls Try.prog 9 #[.pointer (some ⟨d, 0, none⟩), .string (nm ++ ⟨#[120]⟩), .string (mk X)] W fun e w' => e = .returned (.int .i64 x1) ∧ IsDisk base nm w' d A1 ∧ Chg dts base W w') := by
          intro W hW hb
          have := append_any hw hW hb true (mk X) hXs
          rw [hr1] at this
          exact this
        have hF : Hid (∀ W, IsDisk base nm W d A1 → IsJ base nm W b d J → Calls Try.prog 39 #[.pointer (some ⟨b, 0, none⟩), .int .i64 x1] W fun e w' => e = .returned (.int .i64 x1) ∧ IsDisk base nm w' d A1 ∧ IsJ base nm w' b d { J with broken := J.broken || x1 != 0 } ∧ Chgj base b W w') :=
          fun W g1 g2 => jfailed_any g1 g2 x1 hx1
        have hr1 := Lib.hid hr1
        have hx1 := Lib.hid hx1
        have hXs := Lib.hid hXs
        have hnm' : nm.size + 1 ≤ 140737488355328 := by omega
        have hbr : base ≤ wr.heap.size := Nat.le_trans hbase hBl.out.size
        have hbr := Lib.hid hbr
        have hw := Lib.hid hw
        go_wp2_with (fail)
        go_cut [10] (fun s wx => s = .int .i64 x1 ∧ Hid (IsDisk base nm wx d A1) ∧ Hid (IsJ base nm wx b d { J with broken := x1 != 0 }) ∧ Hid (Chgj base b w wx) ∧ Hid (w.heap.size ≤ wx.heap.size))
        case first =>
          have hcv2 := hcv.out
          go_region_with (first |
            (go_at_call 9; refine (hS.out wr.drew (((hd1.out).below hBl.out).heap_eq (w' := wr.drew) rfl) hbr.out).mono ?_; rintro e w2 ⟨rfl, s1, s2⟩) |
            (go_at_call 39; refine (hF.out w2 s1 ((((h1.out).below hBl.out (Nat.le_refl _)).heap_eq (w' := wr.drew) rfl).chg s2)).mono ?_; rintro e w3 ⟨rfl, t1, t2, t3⟩))
          all_goals (
            rw [hB.out] at t2
            have hfin := Lib.hid ((((Chgj.of_below hBl.out).drew).trans (jts_sub s2)).trans t3)
            have t1 := Lib.hid t1
            have t2 := Lib.hid t2
            go_wp2_with (fail)
            go_meet
            exact ⟨rfl, t1.out, t2.out, hfin.out, hfin.out.size⟩)
        case rest =>
          obtain ⟨rfl, t1, t2, t3, t4⟩ := hcut
          by_cases hz1 : x1 = 0
          · subst hz1
            obtain ⟨k0, k1, -, -, -⟩ := jcells t2.out
            cases hr2 : syncA A1 true with
            | mk x2 A2 =>
            have hx2 := opA_code A1 true fun f => A1.set true (some ⟨f.b, f.b.size⟩)
            rw [show (opA A1 true fun f => A1.set true (some ⟨f.b, f.b.size⟩)) = (x2, A2) from hr2] at hx2
            have hS2 : Hid (∀ W, IsDisk base nm W d A1 → Calls Try.prog 30 #[.pointer (some ⟨d, 0, none⟩), .string (nm ++ ⟨#[120]⟩)] W fun e w' => e = .returned (.int .i64 x2) ∧ IsDisk base nm w' d A2 ∧ Chg dts base W w') := by
              intro W hW
              have := sync_any hW true
              rw [hr2] at this
              exact this
            have hF2 : Hid (∀ W, IsDisk base nm W d A2 → IsJ base nm W b d { J with broken := false } → Calls Try.prog 39 #[.pointer (some ⟨b, 0, none⟩), .int .i64 x2] W fun e w' => e = .returned (.int .i64 x2) ∧ IsDisk base nm w' d A2 ∧ IsJ base nm w' b d { J with broken := false || x2 != 0 } ∧ Chgj base b W w') :=
              fun W g1 g2 => jfailed_any g1 g2 x2 hx2
            have hr2 := Lib.hid hr2
            have hx2 := Lib.hid hx2
            clear hcv hS hF
            go_wp2_with (fail)
            refine (hS2.out _ t1.out).mono ?_
            rintro e w4 ⟨rfl, s1, s2⟩
            have s1 := Lib.hid s1
            have s2 := Lib.hid s2
            go_wp2_with (fail)
            refine (hF2.out _ s1.out (t2.out.chg s2.out)).mono ?_
            rintro e w5 ⟨rfl, y1, y2, y3⟩
            have t5 := Lib.hid ((t3.out.trans (jts_sub s2.out)).trans y3)
            have y1 := Lib.hid y1
            have y2 := Lib.hid y2
            clear y3 s1 s2 t1 t2 t3 t4
            by_cases hz2 : x2 = 0
            · subst hz2
              obtain ⟨m0, m1, m2, m3, -⟩ := jcells y2.out
              have hx3 := opA_code A2 true fun f => (A2.set true none).set false (some f)
              cases hr3 : renameA A2 with
              | mk x3 A3 =>
              rw [show (opA A2 true fun f => (A2.set true none).set false (some f)) = (x3, A3) from hr3] at hx3
              have hS3 : Hid (∀ W, IsDisk base nm W d A2 → Calls Try.prog 40 #[.pointer (some ⟨d, 0, none⟩), .string (nm ++ ⟨#[120]⟩), .string nm] W fun e w' => e = .returned (.int .i64 x3) ∧ IsDisk base nm w' d A3 ∧ Chg dts base W w') := by
                intro W hW
                have := rename_any hw.out hW
                rw [hr3] at this
                exact this
              have hF3 : Hid (∀ W, IsDisk base nm W d A3 → IsJ base nm W b d { J with broken := false } → Calls Try.prog 39 #[.pointer (some ⟨b, 0, none⟩), .int .i64 x3] W fun e w' => e = .returned (.int .i64 x3) ∧ IsDisk base nm w' d A3 ∧ IsJ base nm w' b d { J with broken := false || x3 != 0 } ∧ Chgj base b W w') :=
                fun W g1 g2 => jfailed_any g1 g2 x3 hx3
              have hr3 := Lib.hid hr3
              have hx3 := Lib.hid hx3
              clear hS2 hF2
              generalize hwx : w5 = wx at *
              go_wp2_with (fail)
              go_cut [10] (fun s wy => s = .int .i64 x3 ∧ Hid (IsDisk base nm wy d A3) ∧ Hid (IsJ base nm wy b d { J with broken := x3 != 0 }) ∧ Hid (Chgj base b w wy))
              case first =>
                go_region_with (first |
                  (go_at_call 40; refine (hS3.out wx.drew (y1.out.heap_eq (w' := wx.drew) rfl)).mono ?_; rintro e w6 ⟨rfl, s1, s2⟩) |
                  (go_at_call 39; refine (hF3.out w6 s1 ((y2.out.heap_eq (w' := wx.drew) rfl).chg s2)).mono ?_; rintro e w7 ⟨rfl, t1, t2, t3⟩))
                all_goals (
                  have hfin := Lib.hid (((t5.out.drew).trans (jts_sub s2)).trans t3)
                  have t1 := Lib.hid t1
                  have t2 := Lib.hid t2
                  go_wp2_with (fail)
                  go_meet
                  exact ⟨rfl, t1.out, t2.out, hfin.out⟩)
              case rest =>
                obtain ⟨rfl, t1, t2, t3⟩ := hcut
                by_cases hz3 : x3 = 0
                · subst hz3
                  obtain ⟨-, -, n2, n3, -⟩ := jcells t2.out
                  have z2 := jfroz t2.out 2
                  have z3 := jfroz t2.out 3
                  have hset := jset t1.out t2.out 2 (.int .i64 (l.length : Int)) ⟨l.length, J.synced, false⟩ rfl
                  have z4 := jfroz hset.2.1 3
                  obtain ⟨-, -, n4, n5, -⟩ := jcells hset.2.1
                  have hset2 := Lib.hid (jset hset.1 hset.2.1 3 (.int .i64 (l.length : Int)) ⟨l.length, l.length, false⟩ rfl)
                  have hset := Lib.hid hset
                  have hRb : Hid (Rn = (0, A3, ⟨l.length, l.length, false⟩)) := by
                    show Rn = _
                    rw [← hr.out]
                    unfold renewA
                    rw [hB.out, hX.out, hr1.out]
                    dsimp only
                    rw [hr2.out]
                    dsimp only
                    rw [hr3.out]
                    simp
                  clear hS3 hF3
                  go_wp2_with (fail)
                  go_ret
                  rw [hRb.out]
                  exact ⟨rfl, hset2.out.1, hset2.out.2.1, (t3.out.trans hset.out.2.2).trans hset2.out.2.2⟩
                · have hz3' : (x3 == 0) = false := beq_eq_false_iff_ne.2 hz3
                  have hRb : Hid (Rn = (x3, A3, { J with broken := x3 != 0 })) := by
                    have hz4 : (x3 != 0) = true := by simp [hz3]
                    show Rn = _
                    rw [← hr.out]
                    unfold renewA
                    rw [hB.out, hX.out, hr1.out]
                    dsimp only
                    rw [hr2.out]
                    dsimp only
                    rw [hr3.out]
                    simp [hz3]
                  have hz3 := Lib.hid hz3
                  clear hS3 hF3
                  go_wp2_with (fail)
                  go_ret
                  rw [hRb.out]
                  exact ⟨rfl, t1.out, t2.out, t3.out⟩
            · have hz2' : (x2 == 0) = false := beq_eq_false_iff_ne.2 hz2
              have hRb : Hid (Rn = (x2, A2, { J with broken := x2 != 0 })) := by
                have hz3 : (x2 != 0) = true := by simp [hz2]
                show Rn = _
                rw [← hr.out]
                unfold renewA
                rw [hB.out, hX.out, hr1.out]
                dsimp only
                rw [hr2.out]
                simp [hz2]
              have hz2 := Lib.hid hz2
              clear hS2 hF2
              go_wp2_with (fail)
              go_ret
              rw [hRb.out]
              exact ⟨rfl, y1.out, y2.out, t5.out⟩
          · have hz1' : (x1 == 0) = false := beq_eq_false_iff_ne.2 hz1
            have hRb : Hid (Rn = (x1, A1, { J with broken := x1 != 0 })) := by
              have hz2 : (x1 != 0) = true := by simp [hz1]
              show Rn = _
              rw [← hr.out]
              unfold renewA
              rw [hB.out, hX.out, hr1.out]
              simp [hz1]
            have hz1 := Lib.hid hz1
            clear hcv hS hF
            go_wp2_with (fail)
            go_ret
            rw [hRb.out]
            exact ⟨rfl, t1.out, t2.out, t3.out⟩
  · rw [hB] at hwr
    have hRb : Hid (Rn = (8, A, J)) := by
      show Rn = _
      rw [← hr.out]
      unfold renewA
      rw [hB]
      rfl
    have hB := Lib.hid hB
    clear hd h hr
    go_enter Try.func20, Try.ntmps20
    go_wp2_with (fail)
    refine hwr.out.mono ?_
    rintro e w' ⟨rfl, rfl⟩
    go_wp2_with (fail)
    go_ret
    rw [hRb.out]
    exact ⟨rfl, hd1.out, h1.out, Chgj.refl _ _ _⟩
end
end Go.Proofs.Ytjilfabdbmfgjaa
