/- The walk of the law JournalOrder. -/
import Derived.Test.YtjilfabdbmfgjaaK1
import Derived.Test.YtjilfabdbmfgjaaQ2
namespace Go.Proofs.Ytjilfabdbmfgjaa
open Go.RowKit Go.Proofs.YtjilfabdbmfgjaaW.PrintWords Go.Proofs.Ytjilfabdbmfgjaa.PJournalOrder
set_option maxRecDepth 100000

theorem strs_take {base : Nat} {w : World} {A : Option Addr} {n c : Nat} {l : List ByteArray} (h : StrsAt base w (.slice A n c) l) (j : Nat) (hj : j ≤ n) : StrsAt base w (.slice A j c) (l.take j) := by
  obtain ⟨A', c', hv, hc, hC, hb⟩ := h.out
  injection hv with e1 e2 e3
  subst e1 e2 e3
  have hl : (l.take j).length = j := by rw [List.length_take]; omega
  exact ⟨A, c, by rw [hl], by omega, Kd.C_take hC (by omega), hb⟩
theorem order_any (A : Option Addr) (c : Nat) (l : List ByteArray) (w : World) (hC : Kd.C Kd.string w A l.length l) (hc : l.length ≤ c) (hl : l.length ≤ 8796093022208) (skip : Nat) (hs : skip < 256) :
    Calls Try.prog 4 #[.slice A l.length c, .int .u8 (skip : Int)] w fun e w' => e = .returned (.bool true) ∧ Below w.heap.size w w' := by
  have hF := Lib.hid (cavalcadelaw10_few.calls _ A c l _ w hC hc (few_is l hl))
  have hA := Lib.hid (fun W => awake_any W)
  clear hC
  generalize hm : l.filter small = m at hF
  go_enter Try.func4, Try.ntmps4
  go_wp2_with (fail)
  refine hF.out.mono ?_
  rintro e w1 ⟨v, rfl, hv, hb⟩
  obtain ⟨A1, c1, hvs, hc1, -⟩ := Kd.R_reads hv
  have hst := Lib.hid (strs_of_R (base := 0) hv)
  subst hvs
  have hb := Lib.hid hb
  clear hv
  go_upto_if 16 with (fail)
  go_cut [0] (fun v wx => ∃ c2, v = .slice A1 (m.take 60).length c2 ∧ wx = w1 ∧ Hid (StrsAt 0 w1 v (m.take 60)))
  case first =>
    by_cases h60 : 60 < m.length
    · have i1 : (60 : Int) < (m.length : Int) := by omega
      have i2 : (60 : Int) ≤ (c1 : Int) := by omega
      have i3 : (m.take 60).length = 60 := by rw [List.length_take]; omega
      have hst3 := Lib.hid (strs_take hst.out 60 (by omega))
      have i3 := Lib.hid i3
      clear hst
      go_wp2_with (fail)
      go_meet
      exact ⟨c1, by rw [i3.out], rfl, hst3.out⟩
    · have i1 : ¬ (60 : Int) < (m.length : Int) := by omega
      have i3 : m.take 60 = m := List.take_of_length_le (by omega)
      have i3 := Lib.hid i3
      go_wp2_with (fail)
      go_meet
      exact ⟨c1, by rw [i3.out], rfl, by rw [i3.out]; exact hst.out⟩
  case rest =>
    obtain ⟨c2, rfl, rfl, hst2⟩ := hcut
    have hm2 : ∀ s ∈ m.take 60, s.size ≤ 4096 := fun s hs => by
      have := List.mem_of_mem_take hs
      rw [← hm] at this
      exact of_decide_eq_true (List.mem_filter.1 this).2
    have hm3 : (m.take 60).length ≤ 60 := by rw [List.length_take]; omega
    generalize m.take 60 = q at *
    have hm2 := Lib.hid hm2
    clear hst hF hc1 hm
    by_cases hq : q.length = 0
    · rw [hq] at *
      go_wp2_with (fail)
      refine (hA.out _).mono ?_
      rintro e w3 ⟨rfl, hb3⟩
      go_wp2_with (fail)
      go_ret
      exact ⟨rfl, hb.out.trans (hb3.mono hb.out.size)⟩
    have hq' : ((q.length : Int) == 0) = false := by rw [beq_eq_false_iff_ne]; omega
    go_wp2_with (fail)
    refine (hA.out _).mono ?_
    rintro e w3 ⟨rfl, hb3⟩
    have hst3 := Lib.hid (hst2.out.below hb3)
    have hb3 := Lib.hid (hb.out.trans (hb3.mono hb.out.size))
    have hk : skip % q.length < q.length := Nat.mod_lt _ (by omega)
    go_wp2_with (fail)
    have hk0 : (skip : Int) % (q.length : Int) = ((skip % q.length : Nat) : Int) := (Int.natCast_emod _ _).symm
    rw [hk0]
    clear hk0
    generalize skip % q.length = k at *
    go_loopw [6, 7] (fun sv i wr => ∃ p : Nat, p ≤ q.length ∧ i = .int .i64 p ∧ sv = .string (mk (skB k 0 (q.take p))) ∧ Hid (Below w3.heap.size w3 wr)) (fun _ i _ => q.length - (intOf i).toNat)
    case atStart => exact ⟨0, Nat.zero_le _, rfl, rfl, Below.refl _ _⟩
    case round =>
      obtain ⟨p, hp, rfl, rfl, hB⟩ := hrel
      by_cases hlt : p < q.length
      · by_cases hpk : p = k
        · subst hpk
          have hsn : Hid (skB p 0 (q.take (p + 1)) = skB p 0 (q.take p)) := by
            have := skB_snoc p q p hlt
            rw [if_pos rfl, List.append_nil] at this
            exact this
          go_wp2_with (fail)
          exact ⟨⟨p + 1, by omega, by go_num, by rw [hsn.out], hB⟩, by simp [intOf]; omega⟩
        · have hne : ((p : Int) != (k : Int)) = true := by rw [bne_iff_ne]; omega
          have hsn : Hid (skB k 0 (q.take (p + 1)) = skB k 0 (q.take p) ++ layB p q[p].toList) := by
            have := skB_snoc k q p hlt
            rw [if_neg hpk] at this
            exact this
          have hz : (skB k 0 (q.take (p + 1))).length ≤ 4109 * (q.take (p + 1)).length := skB_length k _ 0 (fun s hs => hm2.out s (List.mem_of_mem_take hs)) (by rw [List.length_take]; omega)
          rw [hsn.out, List.length_append, List.length_take] at hz
          have hz2 : (mk (skB k 0 (q.take p))).size + (mk (layB p q[p].toList)).size ≤ 140737488355328 := by rw [mk_size, mk_size]; omega
          obtain ⟨ad, rfl, hcell⟩ := (hst3.out.below hB.out).get p hlt
          have h40 := hm2.out _ (List.getElem_mem hlt)
          have hR : Hid (∀ W, Calls Try.prog 16 #[.int .i64 (p : Int), .string q[p]] W fun e w' => e = .returned (.string (mk (layB p q[p].toList))) ∧ Below W.heap.size W w') :=
            fun W => cavalcaderef10_Record.calls (10 * q[p].size + 101) p q[p] _ W (record_ref p (by omega) q[p] (by omega) _ (Nat.le_refl _))
          clear hz h40
          have hst3 := hst3
          generalize q[p] = t at *
          generalize hL : layB p t.toList = L at *
          generalize hX : skB k 0 (q.take p) = X at *
          go_wp2_with (go_at_call 16; refine (hR.out _).mono ?_; rintro e w4 ⟨rfl, hb4⟩)
          refine ⟨⟨p + 1, by omega, by go_num, ?_, hB.out.trans (hb4.mono hB.out.size)⟩, by simp [intOf]; omega⟩
          rw [hsn.out, mk_append]
      · obtain rfl : p = q.length := by omega
        rw [List.take_length]
        have hqs : (mk (skB k 0 q)).size ≤ 1048576 := by
          rw [mk_size]
          have := skB_length k q 0 (fun s hs => hm2.out s hs) (by omega)
          omega
        have hP := Lib.hid (fun W => parse_any (mk (skB k 0 q)) hqs W)
        have hRp := parse_ref (mk (skB k 0 q)) hqs
        have hR : Hid (∀ W, Calls Try.prog 17 #[.string (mk (skB k 0 q))] W fun e w' => ∃ v', e = .returned (.tuple #[v', .int .i64 ((parseL 0 (mk (skB k 0 q)).toList).2 : Int)]) ∧ StrsAt 0 w' v' ((parseL 0 (mk (skB k 0 q)).toList).1.map mk) ∧ Below W.heap.size W w') := by
          intro W
          refine (cavalcaderef10_Parse.calls _ _ _ _ W hRp).mono ?_
          rintro e w' ⟨v', h1, h2, h3⟩
          exact ⟨v', h1, strs_of_R h2, h3⟩
        obtain ⟨more, hmore0⟩ := order_plain q (fun s hs => hm2.out s hs) k hk
        have hpc := (parse_cat _ 0 (skB k 0 q) (Nat.le_refl _))
        rw [mk_toList] at hR
        have hrl : Hid (((parseL 0 (skB k 0 q)).1.map mk).length ≤ 1048576) := by
          obtain ⟨-, p2, -, p4⟩ := hpc
          have := skB_length k q 0 (fun s hs => hm2.out s hs) (by omega)
          show _ ≤ _
          rw [List.length_map]
          omega
        have hmore := Lib.hid hmore0
        clear hRp hpc hmore0
        go_wp2_with (fail)
        refine (hP.out _).mono ?_
        rintro e w4 ⟨va, rfl, sa, b4⟩
        rw [mk_toList] at sa ⊢
        have sa := Lib.hid sa
        have b4 := Lib.hid b4
        go_wp2_with (fail)
        refine (hR.out _).mono ?_
        rintro e w5 ⟨vb, rfl, sb, b5⟩
        have sa5 := sa.out.below b5
        have hst5 := ((hst3.out.below hB.out).below b4.out).below b5
        have hfin := Lib.hid (hb3.out.trans ((hB.out.trans ((b4.out.trans (b5.mono b4.out.size)).mono hB.out.size)).mono hb3.out.size))
        clear sa b4 b5 hP hR hst3 hB hb3 hb hA hst2
        generalize (parseL 0 (skB k 0 q)).1.map mk = recs at *
        generalize (parseL 0 (skB k 0 q)).2 = N at *
        obtain ⟨Aa, ca, rfl, hca, -⟩ := id sa5
        obtain ⟨A2, c3, hv2, hc2, -⟩ := id hst5
        injection hv2 with e1 e2 e3
        subst e1 e3
        have hkr : k ≤ recs.length := by rw [hmore.out, List.length_append, List.length_take]; omega
        have hkq : k ≤ q.length := by omega
        have hkr2 := Nat.le_trans hkr hca
        have hkq2 := Nat.le_trans hkq hc2
        have htk : recs.take k = q.take k := by rw [hmore.out, List.take_append_of_le_length (by rw [List.length_take]; omega), List.take_take, Nat.min_self]
        have hS1 : Hid (∀ n, Calls Try.prog 14 #[.slice Aa recs.length ca, vb] (w5.drewN n) fun e w' => e = .returned (.bool true) ∧ ∃ m, w' = (w5.drewN n).drewN m) :=
          fun n => (same_any (strs_heap (w' := w5.drewN n) sa5 rfl) (strs_heap (w' := w5.drewN n) sb rfl) (Nat.le_trans hrl.out (by decide))).mono fun e w' h => ⟨h.1, h.2.out⟩
        have hS2 : Hid (∀ n, Calls Try.prog 14 #[.slice Aa k ca, .slice A1 k c2] (w5.drewN n) fun e w' => e = .returned (.bool true) ∧ ∃ m, w' = (w5.drewN n).drewN m) := by
          intro n
          have t1 := strs_heap (w' := w5.drewN n) (strs_take sa5 k hkr) rfl
          have t2 := strs_heap (w' := w5.drewN n) (strs_take hst5 k hkq) rfl
          rw [htk] at t1
          exact (same_any t1 t2 (by rw [List.length_take]; omega)).mono fun e w' h => ⟨h.1, h.2.out⟩
        clear sa5 hst5 sb hmore htk hrl e2
        go_wp2_with (fail)
        go_quiet ((go_at_call 14; (first | (with_reducible exact Calls.quiet_of (hS2.out _)) | (with_reducible exact Calls.quiet_of (hS1.out _)))))
        go_wp2_with (fail)
        go_ret
        exact ⟨rfl, pw_below_drewN hfin.out nq⟩
end Go.Proofs.Ytjilfabdbmfgjaa
