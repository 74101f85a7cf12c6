/- Same, and the plain law of JournalAgain. -/
import Derived.Test.YtjilfabdbmfgjaaK0
import Derived.Test.YtjilfabdbmfgjaaPJournalOrderx9
namespace Go.Proofs.Ytjilfabdbmfgjaa
open Go.RowKit Go.Proofs.YtjilfabdbmfgjaaW.PrintWords Go.Proofs.Ytjilfabdbmfgjaa.PJournalOrder
set_option maxRecDepth 100000

theorem same_go (l : List ByteArray) (hl : l.length ≤ 4611686018427387904) : ∀ (m i : Nat), i + m = l.length → cavalcaderef01_Same.l0 (m + 1) l l (i : Int) = some true
  | 0, i, h => by
    unfold cavalcaderef01_Same.l0
    rw [if_neg (by omega)]
  | m + 1, i, h => by
    unfold cavalcaderef01_Same.l0
    rw [if_pos (by omega), if_pos (by omega), if_pos (by omega), if_pos rfl, show wrap64 ((i : Int) + 1) = ((i + 1 : Nat) : Int) from by rw [w64 (by omega) (by omega)]; omega]
    exact same_go l hl m (i + 1) (by omega)
theorem same_refl (l : List ByteArray) (hl : l.length ≤ 4611686018427387904) : cavalcaderef01_Same.f (l.length + 1) l l = some true := by
  unfold cavalcaderef01_Same.f
  rw [if_pos rfl]
  exact same_go l hl l.length 0 (by omega)

theorem same_any {base : Nat} {w : World} {v1 v2 : Value} {l : List ByteArray} (h1 : StrsAt base w v1 l) (h2 : StrsAt base w v2 l) (hl : l.length ≤ 4611686018427387904) :
    Calls Try.prog 14 #[v1, v2] w fun e w' => e = .returned (.bool true) ∧ Drawn0 w w' := by
  obtain ⟨A1, c1, rfl, k1, C1, -⟩ := h1.out
  obtain ⟨A2, c2, rfl, k2, C2, -⟩ := h2.out
  exact cavalcaderef01_Same.calls _ A1 c1 l A2 c2 l true w C1 k1 C2 k2 (same_refl l hl)

theorem again_plain (s : ByteArray) (hs : s.size ≤ 1048576) (keep : List Int) : ∃ A1 A2 J2 A4 J4 recs, appendA emptyA false s = (0, A1) ∧ openA A1 = (0, A2, some (J2, recs)) ∧ openA (crashA A2 keep) = (0, A4, some (J4, recs)) ∧
    readA A4 false = (mk (catB 0 recs), 0) ∧ parseL 0 (catB 0 recs) = (recs.map ByteArray.toList, (catB 0 recs).length) ∧ (catB 0 recs).length ≤ 1048576 ∧ recs.length ≤ 1048576 := by
  have e1 : appendA emptyA false s = (0, (emptyA.set false (some ⟨s, 0⟩)).tick) := by
    unfold appendA
    rw [live_down rfl, show emptyA.file false = none from rfl, if_neg (by decide), if_neg (by omega)]
  have l1 : ((emptyA.set false (some ⟨s, 0⟩)).tick).lim = none := rfl
  have f1 : ((emptyA.set false (some ⟨s, 0⟩)).tick).file false = some ⟨s, 0⟩ := rfl
  obtain ⟨h1, h2, h3, h4⟩ := parse_cat s.toList.length 0 s.toList (Nat.le_refl _)
  rw [toList_length] at h2
  obtain ⟨A2, e2, l2, t2, f2⟩ := open_live l1 f1 hs
  dsimp only at e2 f2
  generalize hr : (parseL 0 s.toList).1.map mk = recs at *
  have hsm : ∀ r ∈ recs, r.size ≤ 4096 := by
    intro r hr'
    rw [← hr] at hr'
    obtain ⟨x, hx, rfl⟩ := List.mem_map.1 hr'
    rw [mk_size]
    exact h3 x hx
  have hc : (catB 0 recs).length ≤ 1048576 := by rw [h1, List.length_take]; omega
  have hlen : recs.length ≤ 1048576 := by rw [← hr, List.length_map]; omega
  have f3 := crash_safe f2 (mk_size _).symm keep
  obtain ⟨A4, e4, l4, t4, f4⟩ := open_live (A := crashA A2 keep) rfl f3 (by rw [mk_size]; exact hc)
  dsimp only at e4 f4
  rw [mk_toList, parse_whole recs hsm] at e4 f4
  dsimp only at e4 f4
  rw [map_mk_toList] at e4 f4
  refine ⟨_, A2, _, A4, _, recs, e1, e2, e4, ?_, parse_whole recs hsm, hc, hlen⟩
  rw [read_live l4, f4]

theorem ints_below {w w' : World} {v : Value} {ks : List Int} (h : IntsAt w.heap.size w v ks) (hc : Below w.heap.size w w') : IntsAt w.heap.size w' v ks := by
  obtain ⟨A, c, h1, h2, h3⟩ := h.out
  refine ⟨A, c, h1, h2, fun i hi => ?_⟩
  obtain ⟨ad, a1, a2, a3, a4, -⟩ := h3 i hi
  have hlt := World.block_lt_of_cell? w _ a2
  refine ⟨ad, a1, ?_, a3, a4, .inl (by rw [← add_block ad i]; exact hlt)⟩
  rw [← a2]
  unfold World.cell?
  rw [hc.block _ hlt]
set_option maxHeartbeats 600000 in
theorem again_any (base0 : Nat) (s : ByteArray) (hs : s.size ≤ 140737488351232) (kv : Value) (keep : List Int) (w : World) (_hb0 : base0 = w.heap.size) (hk : IntsAt w.heap.size w kv keep) :
    Calls Try.prog 3 #[.string s, kv] w fun e w' => e = .returned (.bool true) ∧ Below w.heap.size w w' := by
  have hn := Lib.hid (new_any (nm := jn) w)
  have hA := Lib.hid (fun W => awake_any W)
  have hk := Lib.hid hk
  have hs0 := Lib.hid hs
  obtain ⟨Ak, ck, rfl, -⟩ := id hk.out
  go_enter Try.func3, Try.ntmps3
  go_wp2_with (fail)
  refine hn.out.mono ?_
  rintro e w1 ⟨d, rfl, d1, b1⟩
  have d1 := Lib.hid d1
  have b1 := Lib.hid b1
  go_wp2_with (fail)
  refine (hA.out w1).mono ?_
  rintro e w2 ⟨rfl, b2⟩
  have d2 := Lib.hid (d1.out.below b2)
  have s2 := Lib.hid (Nat.le_trans b1.out.size b2.size)
  have b2 := Lib.hid (b1.out.trans (b2.mono b1.out.size))
  by_cases hbig : s.size ≤ 1048576
  · obtain ⟨A1, A2, J2, A4, J4, recs, e1, e2, e4, e5, e6, e7, e8⟩ := again_plain s hbig keep
    have hap := append_any jn_word d2.out s2.out false s hs
    have e1' : appendA { lim := none, file := fun _ => none } false s = (0, A1) := e1
    rw [e1'] at hap
    have hap : Hid (Calls Try.prog 9 #[.pointer (some ⟨d, 0, none⟩), .string ⟨#[106]⟩, .string s] w2 fun e w' => e = .returned (.int .i64 0) ∧ IsDisk w.heap.size jn w' d A1 ∧ Chg dts w.heap.size w2 w') := hap
    have e2 := Lib.hid e2
    have e4 := Lib.hid e4
    have e5 := Lib.hid e5
    have e6 := Lib.hid e6
    have e7 := Lib.hid e7
    have e8 := Lib.hid e8
    clear e1 e1'
    go_wp2_with (fail)
    refine hap.out.mono ?_
    rintro e w3 ⟨rfl, d3, c3⟩
    have s3 := Lib.hid (Nat.le_trans s2.out c3.size)
    have d3 := Lib.hid d3
    have c3 := Lib.hid c3
    go_wp2_with (fail)
    refine (sys_open d3.out s3.out e2.out).mono ?_
    rintro e w4 ⟨bj, lv, rfl, h4, l4, c4, -⟩
    go_wp2_with (fail)
    refine (crash_any h4.out.disk h4.out.size _ keep ?_).mono ?_
    · exact ints_below hk.out (b2.out.trans ((c3.out.trans c4.out).below s2.out))
    rintro e w5 ⟨rfl, d5, c5⟩
    have s5 := Lib.hid (Nat.le_trans h4.out.size c5.size)
    have l5 := Lib.hid (l4.out.chg (jts_sub (b := bj) c5).toChg)
    have d5 := Lib.hid d5
    have c5 := Lib.hid c5
    go_wp2_with (fail)
    refine (sys_open d5.out s5.out e4.out).mono ?_
    rintro e w6 ⟨bj2, lv2, rfl, h6, l6, c6, -⟩
    have l6' := Lib.hid (l5.out.chg (jts_sub (b := bj) c6.out).toChg)
    go_wp2_with (fail)
    have hrd := read_any h6.out.disk false
    rw [e5.out] at hrd
    have hrd : Hid (Calls Try.prog 12 #[.pointer (some ⟨d, 0, none⟩), .string ⟨#[106]⟩] w6 fun e w' => e = .returned (.tuple #[.string (mk (catB 0 recs)), .int .i64 0]) ∧ w6 = w') := hrd
    refine hrd.out.mono ?_
    rintro e w' ⟨rfl, rfl⟩
    have hmz : (mk (catB 0 recs)).size = (catB 0 recs).length := mk_size _
    have hpz : (mk (catB 0 recs)).size ≤ 1048576 := by rw [hmz]; exact e7.out
    have hP := parse_any (mk (catB 0 recs)) hpz w6
    have hmz := Lib.hid hmz
    have hPp : Hid (Calls Try.prog 13 #[.string (mk (catB 0 recs))] w6 fun e w' => ∃ v', e = .returned (.tuple #[v', .int .i64 ((mk (catB 0 recs)).size : Int)]) ∧ StrsAt 0 w' v' recs ∧ Below w6.heap.size w6 w') := by
      refine hP.mono ?_
      rintro e w' ⟨v', h1, h2, h3⟩
      rw [mk_toList, e6.out] at h1 h2
      dsimp only at h1 h2
      rw [map_mk_toList] at h2
      exact ⟨v', by rw [h1, hmz.out], h2, h3⟩
    clear hP hrd
    generalize mk (catB 0 recs) = T at *
    go_wp2_with (fail)
    refine hPp.out.mono ?_
    rintro e w7 ⟨lv3, rfl, l7, b7⟩
    have l7a := Lib.hid (l6'.out.below b7)
    have l7b := Lib.hid (l6.out.below b7)
    have l7 := Lib.hid (l7.any (base := w.heap.size))
    have hfin : Hid (Below w.heap.size w w7) := b2.out.trans (((((c3.out.trans c4.out).trans c5.out).trans c6.out).trans (Chg.of_below b7)).below s2.out)
    have hrl := Lib.hid (Nat.le_trans e8.out (show 1048576 ≤ 4611686018427387904 by decide))
    have hS1 := Lib.hid (same_any l7a.out l7b.out hrl.out)
    have hS2 := Lib.hid (fun n => same_any (strs_heap (w' := w7.drewN n) l7a.out rfl) (strs_heap (w' := w7.drewN n) l7.out rfl) hrl.out)
    clear hrl l7a l7b l7 hPp e6 e7 e8 e2 e4 e5 hk hA hn hap
    go_wp2_with (fail)
    refine hS1.out.mono ?_
    rintro e w8 ⟨rfl, ⟨n8, rfl⟩⟩
    go_wp2_with (fail)
    refine (hS2.out n8).mono ?_
    rintro e w9 ⟨rfl, ⟨n9, rfl⟩⟩
    go_wp2_with (fail)
    go_ret
    exact ⟨by first | rfl | simp [hmz.out], pw_below_drewN hfin.out (n8 + n9)⟩
  · have hap := append_any jn_word d2.out s2.out false s hs
    have e1 : appendA { lim := none, file := fun _ => none } false s = (3, emptyA) := by
      unfold appendA
      rw [live_down rfl, if_neg (by decide)]
      dsimp only
      rw [if_pos (by omega)]
      rfl
    rw [e1] at hap
    have hap : Hid (Calls Try.prog 9 #[.pointer (some ⟨d, 0, none⟩), .string ⟨#[106]⟩, .string s] w2 fun e w' => e = .returned (.int .i64 3) ∧ IsDisk w.heap.size jn w' d emptyA ∧ Chg dts w.heap.size w2 w') := hap
    have hbig' : (1048576 : Int) < (s.size : Int) := by omega
    clear e1 hbig
    go_wp2_with (fail)
    refine hap.out.mono ?_
    rintro e w3 ⟨rfl, d3, c3⟩
    have b3 := Lib.hid (b2.out.trans (c3.below s2.out))
    clear d3 c3
    go_wp2_with (fail)
    refine (hA.out w3).mono ?_
    rintro e w4 ⟨rfl, b4⟩
    have b4 := Lib.hid (b3.out.trans (b4.mono b3.out.size))
    go_wp2_with (fail)
    go_ret
    exact ⟨rfl, b4.out⟩
end Go.Proofs.Ytjilfabdbmfgjaa
