/- The walk of the law JournalKeeps. -/
import Derived.Test.YtjilfabdbmfgjaaK3
import Derived.Test.YtjilfabdbmfgjaaP4
import Derived.Deep.RegionHeld3
import Derived.Deep.DrawnRows
namespace Go.Proofs.Ytjilfabdbmfgjaa
open Go.RowKit Go.Proofs.YtjilfabdbmfgjaaW.PrintWords Go.Proofs.Ytjilfabdbmfgjaa.PJournalOrder
set_option maxRecDepth 100000

/-- a beginning of a list, with so many at least -/
theorem begins_any {base : Nat} {w : World} {va vb : Value} {all : List ByteArray} {k safe : Nat} (ha : StrsAt base w va (all.take k)) (hb : StrsAt base w vb all) (hk : k ≤ all.length) (hs : safe ≤ k) (hl : all.length ≤ 4611686018427387904) :
    Calls Try.prog 24 #[va, vb, .int .i64 (safe : Int)] w fun e w' => e = .returned (.bool true) ∧ Drawn0 w w' := by
  obtain ⟨Aa, ca, rfl, hca, -⟩ := id ha.out
  obtain ⟨Ab, cb, rfl, hcb, -⟩ := id hb.out
  have hlk : (all.take k).length = k := by rw [List.length_take]; omega
  rw [hlk] at ha hca ⊢
  have hS2 : Hid (Calls Try.prog 14 #[.slice Aa k ca, .slice Ab k cb] w fun e w' => e = .returned (.bool true) ∧ Drawn0 w w') := by
    have t2 := strs_take hb k hk
    have hle : (all.take k).length ≤ 4611686018427387904 := by rw [hlk]; omega
    exact same_any ha t2 hle
  clear ha hb
  have hkc := Nat.le_trans hk hcb
  clear hlk
  go_enter Try.func24, Try.ntmps24
  go_wp2_with (fail)
  refine hS2.out.mono ?_
  rintro e w' ⟨rfl, hd⟩
  have hd := Lib.hid hd
  go_wp2_with (fail)
  go_ret
  exact ⟨rfl, hd.out⟩

theorem empty_row {W : World} {base h : Nat} (hh : W.heap[h]? = some (.cells #[] 9 (0, 0))) (hb : base ≤ h) : Kd.string.R 9 W base (fun _ => True) (.slice (some ⟨h, 0, none⟩) 0 0) [] :=
  Kd.R_of_own ⟨rfl, .inr ⟨h, 0, #[], rfl, hb, hh, Nat.le_refl _, by decide, rfl, rfl⟩⟩ (fun _ _ => trivial)
theorem one_row {W : World} {h : Nat} {s : ByteArray} (hh : W.heap[h]? = some (.cells #[.string s] 9 (0, 0))) : Kd.C Kd.string W (some ⟨h, 0, none⟩) 1 [s] := by
  refine ⟨rfl, by decide, fun _ => ⟨_, rfl, fun j x hj => ⟨[.string x], rfl, rfl, fun i u hu => ?_⟩⟩⟩
  cases j with
  | succ j => simp at hj
  | zero =>
    cases i with
    | succ i => simp at hu
    | zero =>
      simp only [List.getElem?_cons_zero, Option.some.injEq] at hj hu
      subst hj hu
      exact blk_cell hh 0
theorem new0 (w : World) (o1 o2 : Obj) : ((w.alloc o1).alloc o2).heap[w.heap.size]? = some o1 := heap_alloc_lt (heap_alloc_new _ _)
theorem new1 (w : World) (o1 o2 : Obj) : ((w.alloc o1).alloc o2).heap[w.heap.size + 1]? = some o2 := by
  have := heap_alloc_new (w.alloc o1) o2
  simpa using this
theorem bel1 (w : World) (o1 : Obj) : Below w.heap.size w (w.alloc o1) := (Below.refl _ _).alloc (Nat.le_refl _) _
theorem bel2 (w : World) (o1 o2 : Obj) : Below w.heap.size w ((w.alloc o1).alloc o2) := (bel1 w o1).trans ((bel1 (w.alloc o1) o2).mono (by simp))
theorem c_of {base : Nat} {w W : World} {A : Option Addr} {c : Nat} {l : List ByteArray} (st : StrsAt base w (.slice A l.length c) l) (hb : Below w.heap.size w W) : Kd.C Kd.string W A l.length l := by
  obtain ⟨A', c', hv, -, hC, -⟩ := (st.below hb).out
  injection hv with e1
  subst e1
  exact hC
/-- a call of the law -/
structure KAct where
  kind : Int
  s : ByteArray
  l : List ByteArray
/-- calls that came in -/
structure ActsAt (base : Nat) (w : World) (v : Value) (xs : List KAct) : Prop where
  out : ∃ A c, v = .slice A xs.length c ∧ xs.length ≤ c ∧ c ≤ 4611686018427387904 ∧ ∀ i x, xs[i]? = some x → ∃ ad lv, A = some ad ∧ ad.block < base ∧ w.cell? (ad.add (i * 5)) = some (.int .i64 x.kind) ∧ w.cell? (ad.add (i * 5 + 1)) = some (.string x.s) ∧
    w.cell? (ad.add (i * 5 + 2)) = some lv ∧ ∃ Al cl, lv = .slice Al x.l.length cl ∧ x.l.length ≤ cl ∧ Kd.C Kd.string w Al x.l.length x.l

theorem add_form (ad : Addr) (i j : Nat) (hj : j ≠ 0) : ad.add (i + j) = ⟨(ad.add i).block, (ad.add i).off + j, none⟩ := by
  unfold Addr.add
  by_cases h1 : i = 0
  · subst h1
    simp [hj]
  · rw [if_neg (by omega), if_neg h1]
    simp [Nat.add_assoc]
structure KRel (w wr : World) (d b : Nat) (A : ADisk) (J : AJ) (all : List ByteArray) (safe : Nat) (v : Value) (p n : Nat) : Prop where
  disk : IsDisk w.heap.size jn wr d A
  jour : IsJ w.heap.size jn wr b d J
  strs : StrsAt w.heap.size wr v all
  fin : Fin A all safe
  below : Below w.heap.size w wr
  len : all.length ≤ 1048576 + p
  len2 : all.length ≤ 1048626
  run : p < n → Run A J all

theorem krel_cell {w wr : World} {ad : Addr} {u : Value} {i : Nat} (hb : Below w.heap.size w wr) (had : ad.block < w.heap.size) (h : w.cell? (ad.add i) = some u) : wr.cell? (ad.add i) = some u := by
  rw [hb.cell (by rw [add_block]; exact had)]
  exact h

set_option maxHeartbeats 1000000 in
theorem keeps_any (av : Value) (xs : List KAct) (arm : Nat) (harm : arm < 256) (kv : Value) (keep : List Int) (w : World) (hx : ActsAt w.heap.size w av xs) (hk : IntsAt w.heap.size w kv keep)
    (hbd : ∀ x ∈ xs, x.s.size ≤ 1048576 ∧ x.l.length ≤ 1048576 ∧ (catB 0 (x.l.filter small)).length ≤ 140737488351232) :
    Calls Try.prog 6 #[av, .int .u8 (arm : Int), kv] w fun e w' => e = .returned (.bool true) ∧ Below w.heap.size w w' := by
  have hn := Lib.hid (new_any (nm := jn) w)
  have hA := Lib.hid (fun W => awake_any W)
  have hk' := Lib.hid hk
  have hbd' := Lib.hid hbd
  have hx' := Lib.hid hx
  obtain ⟨Ak, ck, rfl, -⟩ := id hk.out
  obtain ⟨Ax, cx, rfl, hcx, hcx2, -⟩ := id hx.out
  obtain ⟨A1, e1, l1, t1, f1⟩ := open_live0 (A := { lim := none, file := fun _ => none }) rfl rfl
  have hd1 : A1.down = false := live_down l1
  have e1' := Lib.hid e1
  have l1' := Lib.hid l1
  have t1' := Lib.hid t1
  have f1' := Lib.hid f1
  have hd1' := Lib.hid hd1
  clear e1 l1 t1 f1 hd1 hk hbd hx
  go_enter Try.func6, Try.ntmps6
  go_wp2_with (fail)
  refine hn.out.mono ?_
  rintro e w1 ⟨d, rfl, d1, b1⟩
  have d1 := Lib.hid d1
  have b1 := Lib.hid b1
  go_wp2_with (fail)
  refine (sys_open d1.out b1.out.size e1'.out).mono ?_
  rintro e w2 ⟨b, lv, rfl, h2, l2, c2, -⟩
  have b2 := Lib.hid (b1.out.trans (c2.out.below b1.out.size))
  go_wp2_with (fail)
  refine (hA.out w2).mono ?_
  rintro e w3 ⟨rfl, b3⟩
  have d3 := Lib.hid (h2.out.disk.below b3)
  have j3 := Lib.hid (h2.out.jour.below b3 (Nat.le_refl _))
  have b3' := Lib.hid (b2.out.trans (b3.mono b2.out.size))
  clear b3
  go_wp2_with (fail)
  refine (arm_any d3.out arm (by omega)).mono ?_
  rintro e w4 ⟨rfl, d4, c4⟩
  have d4' := Lib.hid d4
  have j4 := Lib.hid (j3.out.chg c4)
  have b4 := Lib.hid (b3'.out.trans (c4.below b3'.out.size))
  clear d4 c4
  rw [hd1'.out] at d4' ⊢
  have d4 : Hid (IsDisk w.heap.size jn w4 d { A1 with lim := some arm }) := d4'.out
  clear d4'
  go_wp2_with (fail)
  go_loopw [11, 12, 14] (fun va vs vi wr => ∃ (p : Nat) (A : ADisk) (J : AJ) (all : List ByteArray) (safe : Nat), vi = .int .i64 p ∧ p ≤ xs.length + 1 ∧ vs = .int .i64 (safe : Int) ∧ Hid (KRel w wr d b A J all safe va p xs.length)) (fun _ _ i _ => xs.length - (intOf i).toNat)
  case atStart =>
    refine ⟨0, _, _, [], 0, rfl, Nat.zero_le _, rfl, ⟨d4.out, j4.out, strs_nil _ _, ⟨Nat.le_refl _, fun s hs => absurd hs List.not_mem_nil, .inl ⟨f1'.out, rfl⟩⟩, b4.out, Nat.zero_le _, Nat.zero_le _, fun _ => ⟨rfl, rfl, t1'.out, .inl ⟨f1'.out, rfl⟩⟩⟩⟩
  case round =>
    obtain ⟨p, A, J, all, safe, rfl, hp, rfl, hR⟩ := hrel
    have hsa : safe ≤ 9223372036854775807 := by have := hR.out.fin.le; have := hR.out.len2; omega
    obtain ⟨Aa, ca, rfl, hca, -⟩ := id hR.out.strs.out
    by_cases hgo : p < xs.length ∧ p < 50
    · obtain ⟨hlt, h50⟩ := hgo
      obtain ⟨Ax', cx', hv', -, -, hcell⟩ := hx'.out.out
      injection hv' with e1 e2 e3
      subst e1 e3
      obtain ⟨ad, lv', rfl, hblk, k0, k1, k2, hst⟩ := hcell p _ (List.getElem?_eq_getElem hlt)
      have k0 := krel_cell hR.out.below hblk k0
      have k1 := krel_cell hR.out.below hblk k1
      have k2 := krel_cell hR.out.below hblk k2
      rw [add_form ad (p * 5) 1 (by decide)] at k1
      rw [add_form ad (p * 5) 2 (by decide)] at k2
      have h50' : (p : Int) < 50 := by omega
      have hbX := Lib.hid (hbd'.out _ (List.getElem_mem hlt))
      generalize xs[p] = X at *
      have hrun := Lib.hid (hR.out.run hlt)
      by_cases hadd : X.kind = 0 ∨ X.kind = 1 ∨ X.kind = 2
      · rcases hadd with hkd | hkd | hkd
        all_goals (
          rw [hkd] at k0
          have hkd := Lib.hid hkd
          by_cases hs : X.s.size ≤ 4096
          · have hs' : (X.s.size : Int) ≤ 4096 := by omega
            cases ea : addA A J X.s with
            | mk x1 q =>
            obtain ⟨A', J'⟩ := q
            have hJ0 := jadd_any jn_word hR.out.disk hR.out.jour hR.out.below.size X.s (by rw [hrun.out.many]; have := hR.out.len2; omega) (by omega)
            rw [ea] at hJ0
            have hK := Lib.hid (keeps_add hR.out.fin hrun.out hs ea)
            have hJ := Lib.hid hJ0
            clear ea hJ0
            go_wp2_with (fail)
            refine hJ.out.mono ?_
            rintro e w5 ⟨rfl, d5, j5, c5⟩
            have d5' := Lib.hid d5
            have j5' := Lib.hid j5
            have b5 := Lib.hid (hR.out.below.trans (c5.toChg.below hR.out.below.size))
            have st5 := Lib.hid (hR.out.strs.chg c5.toChg)
            have k5 : w5.cell? ⟨(ad.add (p * 5)).block, (ad.add (p * 5)).off + 1, none⟩ = some (.string X.s) := by
              rw [b5.out.cell (by show (ad.add _).block < _; rw [add_block]; exact hblk), ← hR.out.below.cell (by show (ad.add _).block < _; rw [add_block]; exact hblk)]
              exact k1
            clear d5 j5 c5 hJ k0 k1 k2
            go_wp2_with (fail)
            go_cut [11] from 78 to 87 (fun v wx => Hid (StrsAt w.heap.size wx v (all ++ [X.s])) ∧ Hid (Below w5.heap.size w5 wx))
            case first =>
              have hsz5 : w.heap.size ≤ w5.heap.size := b5.out.size
              have hal : (([] : List ByteArray).length + all.length) * 16 ≤ 140737488355328 := by
                have := hR.out.len2
                rw [List.length_nil]
                omega
              have hal2 : (([] ++ all : List ByteArray).length + 1) * 16 ≤ 140737488355328 := by
                have := hR.out.len2
                rw [List.nil_append]
                omega
              have hkeep : Hid (∀ W, Below w5.heap.size w5 W → W.cell? ⟨(ad.add (p * 5)).block, (ad.add (p * 5)).off + 1, none⟩ = some (.string X.s)) := by
                intro W hW
                rw [hW.cell (by show (ad.add _).block < _; rw [add_block]; omega)]
                exact k5
              go_region_held3 (fun w' => w'.cell? ⟨(ad.add (p * 5)).block, (ad.add (p * 5)).off + 1, none⟩ = some (.string X.s)) (first | go_keep | (exact hkeep.out _ (by assumption))) ((first
                | (refine Kd.R_append_rows_step Kd.string (w0 := w5) w5.heap.size (by rfl) (.tmp 78) (.tmp 79) 29 9 (.string ⟨#[]⟩) 16 (by rfl) Try.underlying29 strInfo (by rfl) (by decide) (by decide) _ [] all Aa all.length ca (fun _ => True) (fun _ => False) (by rfl) (by rfl)
                    (empty_row (by first | exact heap_alloc_new _ _ | exact new0 _ _ _ | exact new1 _ _ _) (by omega)) (c_of st5.out (by first | exact (bel1 _ _).drew | exact (bel2 _ _ _).drew)) (fun x cs h => h) (fun _ h => h.elim) (fun _ _ => trivial)
                    (by first | exact (bel1 _ _).drew | exact (bel2 _ _ _).drew) (by first | exact (bel1 _ _).drew.size | exact (bel2 _ _ _).drew.size) hal ?_
                   intro v6 w6 r6 b6 g6 a6)
                | (refine Kd.R_append_rows_step Kd.string (w0 := w5) w5.heap.size (by rfl) (.tmp 80) (.tmp 86) 29 9 (.string ⟨#[]⟩) 16 (by rfl) Try.underlying29 strInfo (by rfl) (by decide) (by decide) v6 ([] ++ all) [X.s] (some ⟨_, 0, none⟩) 1 1 (fun _ => True) (fun _ => False) (by rfl) (by rfl)
                    (by first | exact r6 | exact Kd.R_below r6 (bel1 _ _)) (one_row (by first | exact heap_alloc_new _ _ | ((refine (g6.block _ ?_ ?_).trans (new1 _ _ _)) <;> (first | (simp [Value.ownBlock]; done) | (simp; omega))) | ((refine (g6.block _ ?_ ?_).trans (new0 _ _ _)) <;> (first | (simp [Value.ownBlock]; done) | (simp; omega))))) (fun x cs h => h) (fun _ h => h.elim) (fun _ _ => trivial)
                    (by first | exact b6 | exact b6.trans ((bel1 _ _).mono b6.size)) (by first | exact b6.size | exact Nat.le_trans b6.size (bel1 _ _).size) hal2 ?_
                   intro v7 w7 r7 b7 g7 a7)))
              all_goals (
                go_wp2_with (fail)
                go_meet
                exact ⟨strs_of_R r7, b7⟩)
            case rest =>
              obtain ⟨st6, b6⟩ := hcut
              have hd6 := Lib.hid (d5'.out.below b6.out)
              have hj6 := Lib.hid (j5'.out.below b6.out (Nat.le_refl _))
              have hb6 := Lib.hid (b5.out.trans (b6.out.mono b5.out.size))
              by_cases hx0 : x1 = 0
              · subst hx0
                go_wp2_with (fail)
                go_roundw
                case rel => exact ⟨p + 1, A', J', _, safe, by go_num, by omega, rfl, ⟨hd6.out, hj6.out, st6.out, hK.out.1, hb6.out, by have := hR.out.len; rw [List.length_append, List.length_singleton]; omega, by have := hR.out.len; rw [List.length_append, List.length_singleton]; omega, fun _ => hK.out.2 (by trivial)⟩⟩
                case measure => simp [intOf]; omega
              · have hx0' : (x1 != 0) = true := bne_iff_ne.2 hx0
                have hx0 := Lib.hid hx0
                go_wp2_with (fail)
                go_roundw
                case rel => exact ⟨xs.length + 1, A', J', _, safe, by go_num, by omega, rfl, ⟨hd6.out, hj6.out, st6.out, hK.out.1, hb6.out, by have := hR.out.len; rw [List.length_append, List.length_singleton]; omega, by have := hR.out.len; rw [List.length_append, List.length_singleton]; omega, fun h => absurd h (by omega)⟩⟩
                case measure => simp [intOf]; omega
          · have hs' : ¬ (X.s.size : Int) ≤ 4096 := by omega
            go_wp2_with (fail)
            refine ⟨⟨p + 1, A, J, all, safe, by go_num, by omega, rfl, ⟨hR.out.disk, hR.out.jour, hR.out.strs, hR.out.fin, hR.out.below, by have := hR.out.len; omega, hR.out.len2, fun _ => hrun.out⟩⟩, by simp [intOf]; omega⟩)
      · by_cases hk3 : X.kind = 3
        · rw [hk3] at k0
          have hk3 := Lib.hid hk3
          cases ea : syncJ A J with
          | mk x1 q =>
          obtain ⟨A', J'⟩ := q
          have hJ0 := jsync_any hR.out.disk hR.out.jour
          rw [ea] at hJ0
          have hK := Lib.hid (keeps_sync hR.out.fin hrun.out ea)
          have hJ := Lib.hid hJ0
          have hadd := Lib.hid hadd
          clear ea hJ0
          go_wp2_with (fail)
          refine hJ.out.mono ?_
          rintro e w5 ⟨rfl, d5, j5, c5⟩
          have d5' := Lib.hid d5
          have j5' := Lib.hid j5
          have b5 := Lib.hid (hR.out.below.trans (c5.toChg.below hR.out.below.size))
          have st5 := Lib.hid (hR.out.strs.chg c5.toChg)
          clear d5 j5 c5 hJ
          by_cases hx0 : x1 = 0
          · subst hx0
            go_wp2_with (fail)
            go_roundw
            case rel => exact ⟨p + 1, A', J', all, all.length, by go_num, by omega, rfl, ⟨d5'.out, j5'.out, st5.out, (hK.out.2 (by trivial)).1, b5.out, by have := hR.out.len; omega, hR.out.len2, fun _ => (hK.out.2 (by trivial)).2⟩⟩
            case measure => simp [intOf]; omega
          · have hx0' : (x1 != 0) = true := bne_iff_ne.2 hx0
            have hx0 := Lib.hid hx0
            go_wp2_with (fail)
            go_roundw
            case rel => exact ⟨xs.length + 1, A', J', all, safe, by go_num, by omega, rfl, ⟨d5'.out, j5'.out, st5.out, hK.out.1, b5.out, by have := hR.out.len; omega, hR.out.len2, fun h => absurd h (by omega)⟩⟩
            case measure => simp [intOf]; omega
        · by_cases hk4 : X.kind = 4
          · rw [hk4] at k0
            have hk4 := Lib.hid hk4
            have hk3 := Lib.hid hk3
            have hadd := Lib.hid hadd
            obtain ⟨Al, cl, rfl, hcl, hCl0⟩ := hst
            have hCl := Kd.C_below hCl0 hR.out.below
            clear hCl0
            have hF := Lib.hid (cavalcadelaw10_few.calls _ Al cl X.l _ wr hCl hcl (few_is X.l (by have := hbX.out.2.1; omega)))
            have hbX2 := hbX.out.2.2
            have hml : (X.l.filter small).length ≤ 1048576 := Nat.le_trans (List.length_filter_le _ _) hbX.out.2.1
            have hms : ∀ s ∈ X.l.filter small, s.size ≤ 4096 := fun s hs => of_decide_eq_true (List.mem_filter.1 hs).2
            generalize X.l.filter small = m at hF hbX2 hml hms
            cases ea : renewA A J m with
            | mk x1 q =>
            obtain ⟨A', J'⟩ := q
            have hK := Lib.hid (keeps_renew hR.out.fin hrun.out hms ea)
            have ea := Lib.hid ea
            have hms := Lib.hid hms
            clear hCl
            go_wp2_with (fail)
            refine hF.out.mono ?_
            rintro e w5 ⟨v5, rfl, hv5, hb5⟩
            obtain ⟨A5, c5, rfl, -, -⟩ := Kd.R_reads hv5
            have s5 := Lib.hid (strs_of_R (base := w.heap.size) hv5)
            have hN0 := jrenew_any jn_word (hR.out.disk.below hb5) (hR.out.jour.below hb5 (Nat.le_refl _)) (Nat.le_trans hR.out.below.size hb5.size) _ m s5.out hms.out (by decide) hbX2 (by omega)
            rw [ea.out] at hN0
            have hN := Lib.hid hN0
            have b5 := Lib.hid (hR.out.below.trans (hb5.mono hR.out.below.size))
            have st5 := Lib.hid (hR.out.strs.below hb5)
            clear hN0 hF hv5 hb5
            go_wp2_with (fail)
            refine hN.out.mono ?_
            rintro e w6 ⟨rfl, d6, j6, c6⟩
            have d6' := Lib.hid d6
            have j6' := Lib.hid j6
            have b6 := Lib.hid (b5.out.trans (c6.toChg.below b5.out.size))
            have st6 := Lib.hid (st5.out.chg c6.toChg)
            have s6 := Lib.hid (s5.out.chg c6.toChg)
            clear d6 j6 c6 hN
            by_cases hx0 : x1 = 0
            · subst hx0
              go_wp2_with (fail)
              go_roundw
              case rel => exact ⟨p + 1, A', J', m, m.length, by go_num, by omega, rfl, ⟨d6'.out, j6'.out, s6.out, (hK.out.2 (by trivial)).1, b6.out, by omega, by omega, fun _ => (hK.out.2 (by trivial)).2⟩⟩
              case measure => simp [intOf]; omega
            · have hx0' : (x1 != 0) = true := bne_iff_ne.2 hx0
              have hK1 := Lib.hid (hK.out.1 hx0)
              have hx0 := Lib.hid hx0
              go_wp2_with (fail)
              go_roundw
              case rel => exact ⟨xs.length + 1, A', J', all, safe, by go_num, by omega, rfl, ⟨d6'.out, j6'.out, st6.out, hK1.out, b6.out, by have := hR.out.len; omega, hR.out.len2, fun h => absurd h (by omega)⟩⟩
              case measure => simp [intOf]; omega
          · have q0 : (X.kind == 0) = false := beq_eq_false_iff_ne.2 fun h => hadd (.inl h)
            have q1 : (X.kind == 1) = false := beq_eq_false_iff_ne.2 fun h => hadd (.inr (.inl h))
            have q2 : (X.kind == 2) = false := beq_eq_false_iff_ne.2 fun h => hadd (.inr (.inr h))
            have q3 : (X.kind == 3) = false := beq_eq_false_iff_ne.2 hk3
            have q4 : (X.kind == 4) = false := beq_eq_false_iff_ne.2 hk4
            clear hadd hk3 hk4
            go_wp2_with (fail)
            refine ⟨⟨p + 1, A, J, all, safe, by go_num, by omega, rfl, ⟨hR.out.disk, hR.out.jour, hR.out.strs, hR.out.fin, hR.out.below, by have := hR.out.len; omega, hR.out.len2, fun _ => hrun.out⟩⟩, by simp [intOf]; omega⟩
    · obtain ⟨A5, J5, k, e5, hk1, hk2⟩ := keeps_end hR.out.fin (fun f hf => hR.out.disk.size hf) keep
      have hCr := Lib.hid (crash_any hR.out.disk hR.out.below.size _ keep (ints_below hk'.out hR.out.below))
      have e5 := Lib.hid e5
      have hlen2 := hR.out.len2
      by_cases hlt : p < xs.length
      all_goals (
        go_wp2_with (fail)
        refine hCr.out.mono ?_
        rintro e w5 ⟨rfl, d5, c5⟩
        have b5 := Lib.hid (hR.out.below.trans (c5.below hR.out.below.size))
        have st5 := Lib.hid (hR.out.strs.chg (jts_sub (b := b) c5).toChg)
        have d5' := Lib.hid d5
        clear d5 c5
        go_wp2_with (fail)
        refine (sys_open d5'.out b5.out.size e5.out).mono ?_
        rintro e w6 ⟨b2', lv6, rfl, h6, l6, c6, -⟩
        have st6 := Lib.hid (st5.out.chg (jts_sub (b := b) c6.out).toChg)
        have b6 := Lib.hid (b5.out.trans (c6.out.below b5.out.size))
        have hBg := Lib.hid (begins_any l6.out st6.out hk2 hk1 (by omega))
        go_wp2_with (fail)
        refine hBg.out.mono ?_
        rintro e w7 ⟨rfl, ⟨n7, rfl⟩⟩
        go_wp2_with (fail)
        go_ret
        exact ⟨rfl, pw_below_drewN b6.out n7⟩)
end Go.Proofs.Ytjilfabdbmfgjaa
