/- The disk: Rename, Append, Arm, New. -/
import Derived.Test.YtjilfabdbmfgjaaD2
namespace Go.Proofs.Ytjilfabdbmfgjaa
open Go.RowKit Go.Proofs.YtjilfabdbmfgjaaW.PrintWords Go.Proofs.Ytjilfabdbmfgjaa.PJournalOrder
set_option maxRecDepth 100000

section
variable {base d : Nat} {nm : ByteArray} {R : Raw} {w : World} {A : ADisk}

theorem rename_any (hw : WordOk nm) (h0 : IsDisk base nm w d A) :
    Calls Try.prog 40 #[.pointer (some ⟨d, 0, none⟩), .string (nameOf nm true), .string (nameOf nm false)] w fun e w' =>
      e = .returned (.int .i64 (renameA A).1) ∧ IsDisk base nm w' d (renameA A).2 ∧ Chg dts base w w' := by
  obtain ⟨R, h, ha⟩ := id h0
  have hf := find_raw h true
  unfold renameA opA
  rw [ha.down]
  cases hD : R.down
  · rw [hD] at hf
    cases hg : getF R.gs true with
    | none =>
      rw [hg] at hf
      rw [ha.file_none hg]
      have hfin := Lib.hid (show IsDisk base nm w d A ∧ Chg dts base w w from ⟨h0, .refl _ _ _⟩)
      have H : Hid (Calls Try.prog 32 #[.pointer (some ⟨d, 0, none⟩), .string (nameOf nm true)] w fun e w' => e = .returned (.tuple #[.pointer none, .int .i64 34]) ∧ w = w') := hf
      clear hf h ha hg hD h0
      generalize nameOf nm true = name at *
      generalize nameOf nm false = name2 at *
      go_enter Try.func40, Try.ntmps40
      go_wp2_with (go_at_call 32; refine H.out.mono ?_; rintro e w' ⟨rfl, rfl⟩)
      go_ret
      exact ⟨rfl, hfin.out⟩
    | some g =>
      rw [hg] at hf
      rw [ha.file_some hg]
      obtain ⟨k, hk⟩ := hw false
      obtain ⟨hgm, hgi⟩ := getF_some hg
      have c0 : w.cell? ⟨d, 0, none⟩ = some (.map (some R.mb)) := blk_cell h.cells 0
      have key : ∀ n, ∃ w1 w2, (Builtin.delete_ #[53, 9] 0 #[.map (some R.mb), .string (nameOf nm true)]).run Try.prog (w.drewN n) = .ok (.tuple #[]) w1 ∧
          (Instr.mapUpdate 53 (.map (some R.mb)) (.string (nameOf nm false)) (.pointer (some ⟨g.blk, 0, none⟩))).run Try.prog w1 = .ok () w2 ∧ w1.cell? ⟨d, 0, none⟩ = some (.map (some R.mb)) ∧
          Calls Try.prog 27 #[.pointer (some ⟨d, 0, none⟩)] w2 fun e w' => e = .returned (.int .i64 0) ∧ IsDisk base nm w' d ((A.set true none).set false (some g.fb)).tick ∧ Chg dts base w w' := by
        intro n
        obtain ⟨w1, hrun, r1, r2⟩ := delete_raw (h.heap_eq (w' := w.drewN n) rfl) hg 0
        have hgf := h.files g hgm
        have hblk1 : w1.heap[g.blk]? = some (.cells #[.string g.fb.b, .int .i64 (g.fb.safe : Int)] 59 (0, 0)) := by
          rw [delete_raw_file h hg hrun hgf.1]
        obtain ⟨w2, hrun2, s1, s2⟩ := put_raw r1 false g.fb g.blk hgf.2.2.2.1 hblk1 hgf.2.1 hgf.2.2.1 (fun x hx he => by
          have hx' := (mem_del h.idx).1 hx
          have := h.blk_inj hx'.1 hgm he
          rw [this, hgi] at hx'
          exact hx'.2 rfl)
        refine ⟨w1, w2, hrun, hrun2, blk_cell r1.cells 0, ?_⟩
        have hA : Abs ((R.del true).put false g.fb g.blk) ((A.set true none).set false (some g.fb)) := by
          refine ⟨?_, fun j => ?_⟩
          · rw [put_ar, put_left]
            exact ha.lim
          · rw [getF_put]
            show (if j = false then some g.fb else (if j = true then none else A.file j)) = _
            cases j
            · rfl
            · simp only [Bool.true_eq_false, if_false, if_true, Raw.del]
              rw [getF_del h.idx]
              rfl
        have hd2 : ((R.del true).put false g.fb g.blk).down = false := by
          have : ((R.del true).put false g.fb g.blk).down = R.down := by
            unfold Raw.down
            rw [put_ar, put_left]
            rfl
          rw [this, hD]
        refine (done_any s1 hA hd2).mono ?_
        rintro e w' ⟨rfl, t1, t2⟩
        exact ⟨rfl, t1, ((Chg.refl _ _ _).drewN n).trans (r2.trans (s2.trans t2))⟩
      have H : Hid (Calls Try.prog 32 #[.pointer (some ⟨d, 0, none⟩), .string (nameOf nm true)] w fun e w' => e = .returned (.tuple #[.pointer (some ⟨g.blk, 0, none⟩), .int .i64 0]) ∧ w = w') := hf
      have key := Lib.hid key
      have hk := Lib.hid hk
      clear hf h ha hg hD h0 hgm hgi
      generalize nameOf nm true = name at *
      generalize nameOf nm false = name2 at *
      go_enter Try.func40, Try.ntmps40
      go_wp2_with (fail)
      refine H.out.mono ?_
      rintro e w' ⟨rfl, rfl⟩
      go_wp2_with (fail)
      refine (disk_word.calls k _ true _ hk.out).mono ?_
      rintro e w' ⟨rfl, ⟨⟨n, rfl⟩⟩⟩
      obtain ⟨w1, w2, k1, k2, k3, k4⟩ := key.out n
      have k1 := Lib.hid k1
      have k2 := Lib.hid k2
      have k4 := Lib.hid k4
      clear key
      go_wp2_with (first | (at_delete; refine delete_is rfl _ _ _ _ rfl _ _ rfl rfl k1.out ?_) | (at_mapUpdate; refine update_is rfl _ _ _ _ rfl _ _ _ rfl rfl rfl k2.out ?_) | (go_at_call 27; refine k4.out.mono ?_; rintro e w' ⟨rfl, hd1, hd2⟩))
      go_ret
      exact ⟨rfl, hd1, hd2⟩
  · rw [hD] at hf
    have H : Hid (Calls Try.prog 32 #[.pointer (some ⟨d, 0, none⟩), .string (nameOf nm true)] w fun e w' => e = .returned (.tuple #[.pointer none, .int .i64 8]) ∧ w = w') := hf
    have hfin := Lib.hid (show IsDisk base nm w d A ∧ Chg dts base w w from ⟨h0, .refl _ _ _⟩)
    clear hf h ha hD h0
    generalize nameOf nm true = name at *
    generalize nameOf nm false = name2 at *
    go_enter Try.func40, Try.ntmps40
    go_wp2_with (go_at_call 32; refine H.out.mono ?_; rintro e w' ⟨rfl, rfl⟩)
    go_ret
    exact ⟨rfl, hfin.out⟩

theorem new_any (w : World) : Calls Try.prog 7 #[] w fun e w' => ∃ d, e = .returned (.pointer (some ⟨d, 0, none⟩)) ∧ IsDisk w.heap.size nm w' d { lim := none, file := fun _ => none } ∧ Below w.heap.size w w' := by
  have hmm := @run_makeMap Try.prog
  go_enter Try.func7, Try.ntmps7
  go_wp2
  go_ret
  refine ⟨_, rfl, ⟨⟨w.heap.size, false, 0, [], 0⟩, ⟨?_, ?_, ?_, ?_, ?_, ?_, ?_, ?_⟩, ⟨rfl, fun i => rfl⟩⟩, ((Below.refl _ _).alloc (Nat.le_refl _) _).alloc (by simp) _⟩
  · have := blk_new (w.alloc (.map #[] 0)) (.cells #[.map (some w.heap.size), .bool false, .int .i64 0] 55 (0, 0))
    rw [show (w.alloc (.map #[] 0)).heap.size = w.heap.size + 1 from by simp] at this
    exact this
  · exact heap_alloc_lt (blk_new w (.map #[] 0))
  · simp
  · simp
  · simp
  · simp
  · simp
  · simp

theorem arm_any (h0 : IsDisk base nm w d A) (n : Nat) (hn : n < 9223372036854775808) :
    Calls Try.prog 23 #[.pointer (some ⟨d, 0, none⟩), .int .i64 (n : Int)] w fun e w' =>
      e = .returned (.int .i64 (if A.down then 8 else 0)) ∧ IsDisk base nm w' d (if A.down then A else { A with lim := some n }) ∧ Chg dts base w w' := by
  obtain ⟨R, h, ha⟩ := id h0
  have hc := wrong_raw h
  rw [ha.down]
  cases hD : R.down
  · rw [hD] at hc
    have H : Hid (Calls Try.prog 25 #[.pointer (some ⟨d, 0, none⟩)] w fun e w' => e = .returned (.int .i64 0) ∧ w = w') := hc
    obtain ⟨r1, r2⟩ := h.setArm true
    obtain ⟨s1, s2⟩ := r1.setLeft n
    have c1 : w.cell? ⟨d, 1, none⟩ = some (.bool R.ar) := blk_cell h.cells 1
    have z1 : w.frozen? ⟨d, 1, none⟩ = false := blk_frozen h.cells 1
    have c2 : w.cell? ⟨d, 2, none⟩ = some (.int .i64 R.left) := blk_cell h.cells 2
    have z2 : w.frozen? ⟨d, 2, none⟩ = false := blk_frozen h.cells 2
    have hfin : Hid (IsDisk base nm ((w.setCell ⟨d, 1, none⟩ (.bool true)).setCell ⟨d, 2, none⟩ (.int .i64 (n : Int))) d { A with lim := some n } ∧ Chg dts base w ((w.setCell ⟨d, 1, none⟩ (.bool true)).setCell ⟨d, 2, none⟩ (.int .i64 (n : Int)))) :=
      ⟨⟨_, s1, ⟨⟨rfl, rfl, hn⟩, ha.file⟩⟩, r2.trans s2⟩
    clear hc h ha h0 hD r1 r2 s1 s2
    have hn0 : (0 : Int) ≤ (n : Int) := by omega
    generalize R.ar = ar at *
    generalize R.left = left at *
    go_enter Try.func23, Try.ntmps23
    go_wp2_with (go_at_call 25; refine H.out.mono ?_; rintro e w' ⟨rfl, rfl⟩)
    go_ret
    exact ⟨rfl, hfin.out⟩
  · rw [hD] at hc
    have H : Hid (Calls Try.prog 25 #[.pointer (some ⟨d, 0, none⟩)] w fun e w' => e = .returned (.int .i64 8) ∧ w = w') := hc
    have hfin := Lib.hid (show IsDisk base nm w d A ∧ Chg dts base w w from ⟨h0, .refl _ _ _⟩)
    clear hc h ha h0 hD
    go_enter Try.func23, Try.ntmps23
    go_wp2_with (go_at_call 25; refine H.out.mono ?_; rintro e w' ⟨rfl, rfl⟩)
    go_ret
    exact ⟨rfl, hfin.out⟩

theorem empty_append (s : ByteArray) : (⟨#[]⟩ : ByteArray) ++ s = s := by
  apply ByteArray.ext
  simp

theorem append_any (hw : WordOk nm) (h0 : IsDisk base nm w d A) (hbase : base ≤ w.heap.size) (i : Bool) (s : ByteArray) (hs : s.size ≤ 140737488351232) :
    Calls Try.prog 9 #[.pointer (some ⟨d, 0, none⟩), .string (nameOf nm i), .string s] w fun e w' =>
      e = .returned (.int .i64 (appendA A i s).1) ∧ IsDisk base nm w' d (appendA A i s).2 ∧ Chg dts base w w' := by
  obtain ⟨R, h, ha⟩ := id h0
  have hc := wrong_raw h
  unfold appendA
  rw [ha.down]
  cases hD : R.down
  · rw [hD] at hc
    have H : Hid (Calls Try.prog 25 #[.pointer (some ⟨d, 0, none⟩)] w fun e w' => e = .returned (.int .i64 0) ∧ w = w') := hc
    have hlk := lookup_raw h i
    obtain ⟨kw, hk⟩ := hw i
    have c0 : w.cell? ⟨d, 0, none⟩ = some (.map (some R.mb)) := blk_cell h.cells 0
    cases hg : getF R.gs i with
    | none =>
      rw [ha.file_none hg]
      rw [hg] at hlk
      have hlk : Hid ((Instr.lookup 53 (.map (some R.mb)) (.string (nameOf nm i)) false).run Try.prog w = .ok (.pointer none) w) := hlk
      by_cases hbig : s.size > 1048576
      · simp only [Bool.false_eq_true, if_false, if_pos hbig]
        have hfin : Hid (∀ n, IsDisk base nm (w.drewN n) d A ∧ Chg dts base w (w.drewN n)) := fun n => ⟨⟨R, h.heap_eq rfl, ha⟩, (Chg.refl _ _ _).drewN n⟩
        have hbig' : 1048576 < s.size := hbig
        have hk := Lib.hid hk
        generalize R.mb = mb at *
        clear hc h ha hg hD h0 hbig
        generalize nameOf nm i = name at *
        go_enter Try.func9, Try.ntmps9
        go_wp2_with (fail)
        refine H.out.mono ?_
        rintro e w' ⟨rfl, rfl⟩
        go_wp2_with (first | (at_lookup; refine lookup_is rfl _ _ _ rfl _ _ rfl rfl hlk.out ?_) | (go_at_call 26; refine (disk_word.calls kw _ true _ hk.out).mono ?_; rintro e w' ⟨rfl, ⟨⟨n, rfl⟩⟩⟩))
        go_ret
        exact ⟨rfl, hfin.out n⟩
      · simp only [Bool.false_eq_true, if_false, if_neg hbig]
        have hlen : Hid (∀ n, (Builtin.len_ #[53] 3 #[.map (some R.mb)]).run Try.prog (w.drewN n) = .ok (.int .i64 (R.gs.length : Int)) (w.drewN n)) := fun n => by
          have := run_len_map (P := Try.prog) (w := w.drewN n) (ty := 3) Try.underlying53 (h.heap_eq (w' := w.drewN n) rfl).map
          simpa using this
        have hle : ¬ (8 : Int) ≤ (R.gs.length : Int) := by
          have := bool_nodup_length _ h.idx
          simp at this
          omega
        have hbig' : ¬ 1048576 < (s.size : Int) := by omega
        have hR : ∀ n, RawDisk base nm ((w.drewN n).alloc (.cells #[.string ⟨#[]⟩, .int .i64 0] 59)) d R := fun n => (h.heap_eq (w' := w.drewN n) rfl).alloc _
        have hcell : ∀ n, ((w.drewN n).alloc (.cells #[.string ⟨#[]⟩, .int .i64 0] 59)).cell? ⟨d, 0, none⟩ = some (.map (some R.mb)) := fun n => blk_cell (hR n).cells 0
        have key : Hid (∀ n, ∃ w2, (Instr.mapUpdate 53 (.map (some R.mb)) (.string (nameOf nm i)) (.pointer (some ⟨w.heap.size, 0, none⟩))).run Try.prog ((w.drewN n).alloc (.cells #[.string ⟨#[]⟩, .int .i64 0] 59)) = .ok () w2 ∧
            w2.cell? ⟨w.heap.size, 0, none⟩ = some (.string ⟨#[]⟩) ∧ w2.frozen? ⟨w.heap.size, 0, none⟩ = false ∧
            ∀ t, t = s → Calls Try.prog 27 #[.pointer (some ⟨d, 0, none⟩)] (w2.setCell ⟨w.heap.size, 0, none⟩ (.string t)) fun e w' => e = .returned (.int .i64 0) ∧ IsDisk base nm w' d (A.set i (some ⟨s, 0⟩)).tick ∧ Chg dts base w w') := by
          intro n
          have hnb : ((w.drewN n).alloc (.cells #[.string ⟨#[]⟩, .int .i64 0] 59)).heap[w.heap.size]? = some (.cells #[.string ⟨#[]⟩, .int .i64 0] 59 (0, 0)) := blk_new (w.drewN n) _
          have hfresh : ∀ g ∈ R.gs, g.blk ≠ w.heap.size := fun g hg' he => by
            have := blk_lt (h.files g hg').1
            omega
          obtain ⟨w2, hrun, r1, r2⟩ := put_raw (hR n) i ⟨⟨#[]⟩, 0⟩ w.heap.size hbase hnb (Nat.zero_le _) (by decide) hfresh
          have hput : R.put i ⟨⟨#[]⟩, 0⟩ w.heap.size = { R with gs := R.gs ++ [{ i, fb := ⟨⟨#[]⟩, 0⟩, blk := w.heap.size, born := R.clock }], clock := R.clock + 1 } := by
            unfold Raw.put
            rw [hg]
          have hmem : ({ i, fb := ⟨⟨#[]⟩, 0⟩, blk := w.heap.size, born := R.clock } : GF) ∈ (R.put i ⟨⟨#[]⟩, 0⟩ w.heap.size).gs := by rw [hput]; simp
          have hfile := (r1.files _ hmem).1
          refine ⟨w2, hrun, blk_cell hfile 0, blk_frozen hfile 0, ?_⟩
          rintro t rfl
          obtain ⟨s1, s2⟩ := r1.setFile hmem ⟨t, 0⟩ (Nat.zero_le _) (by show t.size ≤ _; omega) 0 (.string t) rfl
          have hA : Abs { R.put i ⟨⟨#[]⟩, 0⟩ w.heap.size with gs := upd (R.put i ⟨⟨#[]⟩, 0⟩ w.heap.size).gs i ⟨t, 0⟩ } (A.set i (some ⟨t, 0⟩)) := by
            refine ⟨?_, fun j => ?_⟩
            · show LimOk A.lim (R.put i ⟨⟨#[]⟩, 0⟩ w.heap.size).ar (R.put i ⟨⟨#[]⟩, 0⟩ w.heap.size).left
              rw [put_ar, put_left]
              exact ha.lim
            · show (if j = i then some _ else A.file j) = _
              rw [getF_upd, ha.file j]
              have hp := getF_put R i j ⟨⟨#[]⟩, 0⟩ w.heap.size
              by_cases hj : j = i
              · subst hj
                rw [if_pos rfl] at hp ⊢
                cases hq : getF (R.put j ⟨⟨#[]⟩, 0⟩ w.heap.size).gs j with
                | none => rw [hq] at hp; cases hp
                | some q =>
                  have := (getF_some hq).2
                  simp [this]
              · rw [if_neg hj] at hp ⊢
                rw [← hp]
                cases hq : getF (R.put i ⟨⟨#[]⟩, 0⟩ w.heap.size).gs j with
                | none => rfl
                | some q =>
                  have := (getF_some hq).2
                  have hne : ¬ q.i = i := by rw [this]; exact hj
                  simp [hne]
          have hd2 : ({ R.put i ⟨⟨#[]⟩, 0⟩ w.heap.size with gs := upd (R.put i ⟨⟨#[]⟩, 0⟩ w.heap.size).gs i ⟨t, 0⟩ } : Raw).down = false := by
            show ((R.put i ⟨⟨#[]⟩, 0⟩ w.heap.size).ar && decide ((R.put i ⟨⟨#[]⟩, 0⟩ w.heap.size).left ≤ 0)) = false
            rw [put_ar, put_left]
            exact hD
          refine (done_any s1 hA hd2).mono ?_
          rintro e w' ⟨rfl, t1, t2⟩
          exact ⟨rfl, t1, (((Chg.refl _ _ _).drewN n).alloc _).trans (r2.trans (s2.trans t2))⟩
        have hse : Hid ((⟨#[]⟩ : ByteArray) ++ s = s) := empty_append s
        generalize R.gs.length = gl at *
        have hk := Lib.hid hk
        clear hc h ha hg hD h0 hbig hR
        generalize R.mb = mb at *
        generalize nameOf nm i = name at *
        have hs9 : (0 : Nat) + s.size ≤ 9223372036854775807 := by omega
        go_enter Try.func9, Try.ntmps9
        go_wp2_with (fail)
        refine H.out.mono ?_
        rintro e w' ⟨rfl, rfl⟩
        go_wp2_with (first | (at_lookup; refine lookup_is rfl _ _ _ rfl _ _ rfl rfl hlk.out ?_) | (go_at_call 26; refine (disk_word.calls kw _ true _ hk.out).mono ?_; rintro e w' ⟨rfl, ⟨⟨n, rfl⟩⟩⟩) | (at_len; (try (refine gate_guard (by rfl) ?_; dsimp only)); refine len_is rfl _ _ rfl _ rfl (hlen.out _) ?_) | (at_mapUpdate; obtain ⟨w2, k1, k2, k3, k4⟩ := key.out n; have k1 := Lib.hid k1; have k4 := Lib.hid k4; clear key; refine update_is rfl _ _ _ _ rfl _ _ _ rfl rfl rfl k1.out ?_) | (go_at_call 27; refine (k4.out _ (by first | rfl | exact hse.out | simp)).mono ?_; rintro e w' ⟨rfl, hd1, hd2⟩))
        go_ret
        exact ⟨rfl, hd1, hd2⟩
    | some g =>
      rw [ha.file_some hg]
      rw [hg] at hlk
      have hlk : Hid ((Instr.lookup 53 (.map (some R.mb)) (.string (nameOf nm i)) false).run Try.prog w = .ok (.pointer (some ⟨g.blk, 0, none⟩)) w) := hlk
      obtain ⟨hgm, hgi⟩ := getF_some hg
      obtain ⟨f1, f2, f3, f4, f5⟩ := h.files g hgm
      have d0 : w.cell? ⟨g.blk, 0, none⟩ = some (.string g.fb.b) := blk_cell f1 0
      have z0 : w.frozen? ⟨g.blk, 0, none⟩ = false := blk_frozen f1 0
      by_cases hbig : s.size > 1048576 - g.fb.b.size
      · simp only [Bool.false_eq_true, if_false, if_pos hbig]
        have hfin : Hid (∀ n, IsDisk base nm (w.drewN n) d A ∧ Chg dts base w (w.drewN n)) := fun n => ⟨⟨R, h.heap_eq rfl, ha⟩, (Chg.refl _ _ _).drewN n⟩
        have hbig' : (1048576 : Int) - (g.fb.b.size : Int) < (s.size : Int) := by omega
        have hb0 : (g.fb.b.size : Int) ≤ 1048576 := by omega
        have hk := Lib.hid hk
        clear hc h ha hg hD h0 hbig hgm hgi f1 f2 f3 f4 f5 z0
        generalize R.mb = mb at *
        generalize nameOf nm i = name at *
        generalize g.fb.b = fb at *
        go_enter Try.func9, Try.ntmps9
        go_wp2_with (fail)
        refine H.out.mono ?_
        rintro e w' ⟨rfl, rfl⟩
        go_wp2_with (first | (at_lookup; refine lookup_is rfl _ _ _ rfl _ _ rfl rfl hlk.out ?_) | (go_at_call 26; refine (disk_word.calls kw _ true _ hk.out).mono ?_; rintro e w' ⟨rfl, ⟨⟨n, rfl⟩⟩⟩))
        go_ret
        exact ⟨rfl, hfin.out n⟩
      · simp only [Bool.false_eq_true, if_false, if_neg hbig]
        have hbig' : ¬ (1048576 : Int) - (g.fb.b.size : Int) < (s.size : Int) := by omega
        have hbig2 : ¬ (1048576 : Int) < (s.size : Int) := by omega
        have hb0 : (g.fb.b.size : Int) ≤ 1048576 := by omega
        have key : Hid (∀ n, Calls Try.prog 27 #[.pointer (some ⟨d, 0, none⟩)] ((w.setCell ⟨g.blk, 0, none⟩ (.string (g.fb.b ++ s))).drewN n) fun e w' => e = .returned (.int .i64 0) ∧ IsDisk base nm w' d (A.set i (some ⟨g.fb.b ++ s, g.fb.safe⟩)).tick ∧ Chg dts base w w') := by
          intro n
          have hz : (g.fb.b ++ s).size = g.fb.b.size + s.size := ByteArray.size_append
          obtain ⟨s1, s2⟩ := h.setFile hgm ⟨g.fb.b ++ s, g.fb.safe⟩ (by show g.fb.safe ≤ (g.fb.b ++ s).size; omega) (by show (g.fb.b ++ s).size ≤ 1048576; omega) 0 (.string (g.fb.b ++ s)) rfl
          have hA := ha.upd (i := g.i) (by rw [hgi]; exact hg) ⟨g.fb.b ++ s, g.fb.safe⟩
          rw [hgi] at s1 hA
          refine (done_any (s1.heap_eq (w' := (w.setCell ⟨g.blk, 0, none⟩ (.string (g.fb.b ++ s))).drewN n) rfl) hA hD).mono ?_
          rintro e w' ⟨rfl, t1, t2⟩
          exact ⟨rfl, t1, s2.trans (((Chg.refl _ _ _).drewN n).trans t2)⟩
        have hsum : g.fb.b.size + s.size ≤ 9223372036854775807 := by omega
        have hk := Lib.hid hk
        clear hc h ha hg hD h0 hbig hgm hgi f1 f2 f3 f4 f5
        generalize R.mb = mb at *
        generalize nameOf nm i = name at *
        generalize g.fb.b = fb at *
        go_enter Try.func9, Try.ntmps9
        go_wp2_with (fail)
        refine H.out.mono ?_
        rintro e w' ⟨rfl, rfl⟩
        go_wp2_with (first | (at_lookup; refine lookup_is rfl _ _ _ rfl _ _ rfl rfl hlk.out ?_) | (go_at_call 26; refine (disk_word.calls kw _ true _ hk.out).mono ?_; rintro e w' ⟨rfl, ⟨⟨n, rfl⟩⟩⟩) | (go_at_call 27; refine (key.out n).mono ?_; rintro e w' ⟨rfl, hd1, hd2⟩))
        go_ret
        exact ⟨rfl, hd1, hd2⟩
  · rw [hD] at hc
    have H : Hid (Calls Try.prog 25 #[.pointer (some ⟨d, 0, none⟩)] w fun e w' => e = .returned (.int .i64 8) ∧ w = w') := hc
    have hfin := Lib.hid (show IsDisk base nm w d A ∧ Chg dts base w w from ⟨h0, .refl _ _ _⟩)
    clear hc h ha h0 hD
    generalize nameOf nm i = name at *
    go_enter Try.func9, Try.ntmps9
    go_wp2_with (go_at_call 25; refine H.out.mono ?_; rintro e w' ⟨rfl, rfl⟩)
    go_ret
    exact ⟨rfl, hfin.out⟩
end
end Go.Proofs.Ytjilfabdbmfgjaa
