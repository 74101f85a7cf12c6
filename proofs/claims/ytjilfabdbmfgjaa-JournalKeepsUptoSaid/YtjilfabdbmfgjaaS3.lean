/- The disk: the walk of Crash. -/
import Derived.Test.YtjilfabdbmfgjaaS2
namespace Go.Proofs.Ytjilfabdbmfgjaa
open Go.RowKit Go.Proofs.YtjilfabdbmfgjaaW.PrintWords Go.Proofs.YtjilfabdbmfgjaaW.PrintMore Go.Proofs.YtjilfabdbmfgjaaW.PrintLast Go.Proofs.Ytjilfabdbmfgjaa.PJournalOrder
set_option maxRecDepth 100000
attribute [local go_sem] max2_int min2_int max_two min_two

def clamp (k : Int) (room : Nat) : Nat := if k ≤ 0 then 0 else if k ≤ room then k.toNat else room
def crashFile (f : FB) (k : Int) : FB := ⟨f.b.extract 0 (f.safe + clamp k (f.b.size - f.safe)), f.safe + clamp k (f.b.size - f.safe)⟩
def keepAt (ks : List Int) (p : Nat) : Int := ks.getD p 0
def crashA (A : ADisk) (ks : List Int) : ADisk :=
  { lim := none, file := fun j => (A.file j).map fun f => crashFile f (keepAt ks (if j && (A.file false).isSome then 1 else 0)) }
/-- so many files have been cut -/
def crashTo (A : ADisk) (ks : List Int) (n : Nat) : ADisk :=
  { A with file := fun j => (A.file j).map fun f => if j ∈ (fileIdx A).take n then crashFile f (keepAt ks ((fileIdx A).idxOf j)) else f }

theorem crashTo_zero (A : ADisk) (ks : List Int) : crashTo A ks 0 = A := by
  unfold crashTo
  simp
theorem fileIdx_nodup (A : ADisk) : (fileIdx A).Nodup := by
  unfold fileIdx idxs
  exact List.filter_sublist.nodup (by decide)
theorem mem_fileIdx (A : ADisk) (i : Bool) : i ∈ fileIdx A ↔ (A.file i).isSome = true := by
  unfold fileIdx idxs
  rw [List.mem_filter]
  constructor
  · exact fun h => h.2
  · exact fun h => ⟨by cases i <;> simp, h⟩
theorem crashTo_all (A : ADisk) (ks : List Int) : crashTo A ks (fileIdx A).length = { crashA A ks with lim := A.lim } := by
  unfold crashTo crashA
  simp only [List.take_length, ADisk.mk.injEq, true_and]
  funext j
  cases hj : A.file j with
  | none => rfl
  | some f =>
    have hm : j ∈ fileIdx A := (mem_fileIdx A j).2 (by rw [hj]; rfl)
    simp only [Option.map_some, hm, if_true]
    congr 3
    unfold fileIdx idxs
    cases h0 : A.file false <;> cases h1 : A.file true <;> cases j <;> simp_all <;> rfl
theorem crashTo_succ (A : ADisk) (ks : List Int) (n : Nat) {i : Bool} (hi : (fileIdx A)[n]? = some i) {f : FB} (hf : A.file i = some f) :
    (crashTo A ks n).file i = some f ∧ crashTo A ks (n + 1) = (crashTo A ks n).set i (some (crashFile f (keepAt ks n))) := by
  have hlt : n < (fileIdx A).length := (List.getElem?_eq_some_iff.1 hi).1
  have hget : (fileIdx A)[n] = i := (List.getElem?_eq_some_iff.1 hi).2
  have hn := fileIdx_nodup A
  have hnot : i ∉ (fileIdx A).take n := by
    intro hm
    obtain ⟨k, hk, he⟩ := List.getElem_of_mem hm
    rw [List.length_take] at hk
    rw [List.getElem_take] at he
    have h1 := List.Nodup.idxOf_getElem hn k (by omega)
    have h2 := List.Nodup.idxOf_getElem hn n hlt
    rw [he] at h1
    rw [hget] at h2
    omega
  have hidx : (fileIdx A).idxOf i = n := by
    rw [← hget]
    exact List.Nodup.idxOf_getElem hn n hlt
  constructor
  · show (A.file i).map _ = _
    rw [hf]
    simp [hnot]
  · unfold crashTo ADisk.set
    simp only [ADisk.mk.injEq, true_and]
    funext j
    rw [List.take_succ_eq_append_getElem hlt, hget]
    by_cases hj : j = i
    · subst hj
      simp [hf, hidx]
    · simp [hj]

/-- a row of ints that reads, out of the disk's reach -/
structure IntsAt (base : Nat) (w : World) (v : Value) (ks : List Int) : Prop where
  out : ∃ A c, v = .slice A ks.length c ∧ ks.length ≤ c ∧ ∀ i : Nat, i < ks.length → ∃ ad, A = some ad ∧ w.cell? (ad.add i) = some (.int .i64 (ks.getD i 0)) ∧ -9223372036854775808 ≤ ks.getD i 0 ∧ ks.getD i 0 ≤ 9223372036854775807 ∧
    (ad.block < base ∨ ∃ cs e fz, w.heap[ad.block]? = some (.cells cs e fz) ∧ dts.contains e = false)
theorem add_block (ad : Addr) (i : Nat) : (ad.add i).block = ad.block := by unfold Addr.add; split <;> rfl
theorem cell_chg {ts : List Nat} {base : Nat} {w w' : World} (h : Chg ts base w w') {ad : Addr} {v : Value} (hc : w.cell? ad = some v) (hs : ad.block < base ∨ ∃ cs e fz, w.heap[ad.block]? = some (.cells cs e fz) ∧ ts.contains e = false) : w'.cell? ad = some v := by
  have hlt := World.block_lt_of_cell? w ad hc
  have ho := Array.getElem?_eq_getElem hlt
  have : w'.heap[ad.block]? = w.heap[ad.block]? := by
    rw [h.keep _ _ ho (hs.imp id ?_), ho]
    rintro ⟨cs, e, fz, h1, h2⟩
    rw [ho] at h1
    injection h1 with h1
    rw [h1]
    exact h2
  rw [World.cell?_of_block (w := w) this, hc]
theorem IntsAt.chg {base : Nat} {w w' : World} {v : Value} {ks : List Int} (h : IntsAt base w v ks) (hc : Chg dts base w w') : IntsAt base w' v ks := by
  obtain ⟨A, c, h1, h2, h3⟩ := h.out
  refine ⟨A, c, h1, h2, fun i hi => ?_⟩
  obtain ⟨ad, a1, a2, a3, a4, a5⟩ := h3 i hi
  refine ⟨ad, a1, cell_chg hc a2 (by rw [add_block]; exact a5), a3, a4, a5.imp id ?_⟩
  rintro ⟨cs, e, fz, b1, b2⟩
  exact ⟨cs, e, fz, hc.keep _ _ b1 (.inr b2), b2⟩

theorem R_chg {ts : List Nat} {b b0 : Nat} {w w' : World} (h : Chg ts b w w') {v : Value} {xs : List ByteArray} {ok : Nat → Prop} (hr : Kd.R Kd.string 9 w b0 ok v xs) (ht : ts.contains 9 = false) : Kd.R Kd.string 9 w' b0 (fun _ => True) v xs := by
  have hb := Kd.R_bound hr
  refine Kd.R_mono (Kd.R_step hb fun k hk _ => ?_) (fun _ _ => trivial)
  obtain ⟨-, -, -, q, hq, cells, hc⟩ := hk
  have hq' : q = 9 := by
    simp only [Kd.string, Kd.scalar, List.mem_cons, List.not_mem_nil, or_false] at hq
    exact hq
  subst hq'
  rw [h.keep _ _ hc (.inr ht), hc]

theorem set_set (A : ADisk) (i : Bool) (f g : Option FB) : (A.set i f).set i g = A.set i g := by
  unfold ADisk.set
  simp only [ADisk.mk.injEq, true_and]
  funext j
  split <;> rfl

section
variable {base d : Nat} {nm : ByteArray} {R : Raw} {w : World} {A : ADisk}

/-- two stores into a file's block -/
theorem setTwo (h : RawDisk base nm w d R) (ha : Abs R A) {i : Bool} {g : GF} (hg : getF R.gs i = some g) (s : Nat) (b : ByteArray) (hs : s ≤ g.fb.b.size) (hb : b.size = s) :
    ∃ R2, RawDisk base nm ((w.setCell ⟨g.blk, 1, none⟩ (.int .i64 (s : Int))).setCell ⟨g.blk, 0, none⟩ (.string b)) d R2 ∧ Abs R2 (A.set i (some ⟨b, s⟩)) ∧
      Chg dts base w ((w.setCell ⟨g.blk, 1, none⟩ (.int .i64 (s : Int))).setCell ⟨g.blk, 0, none⟩ (.string b)) := by
  obtain ⟨hgm, rfl⟩ := getF_some hg
  have hf := h.files g hgm
  obtain ⟨s1, s2⟩ := h.setFile hgm ⟨g.fb.b, s⟩ hs hf.2.2.1 1 (.int .i64 (s : Int)) rfl
  have a1 := ha.upd hg ⟨g.fb.b, s⟩
  have hg1 : getF (upd R.gs g.i ⟨g.fb.b, s⟩) g.i = some { g with fb := ⟨g.fb.b, s⟩ } := by
    rw [getF_upd, hg]
    simp
  obtain ⟨t1, t2⟩ := s1.setFile (g := { g with fb := ⟨g.fb.b, s⟩ }) (getF_some hg1).1 ⟨b, s⟩ (by show s ≤ b.size; omega) (by show b.size ≤ 1048576; have := hf.2.2.1; omega) 0 (.string b) rfl
  have a2 := a1.upd hg1 ⟨b, s⟩
  rw [set_set] at a2
  exact ⟨_, t1, a2, s2.trans t2⟩

theorem crash_any (h0 : IsDisk base nm w d A) (_hbase : base ≤ w.heap.size) (kv : Value) (ks : List Int) (hk : IntsAt base w kv ks) :
    Calls Try.prog 11 #[.pointer (some ⟨d, 0, none⟩), kv] w fun e w' => e = .returned (.int .i64 0) ∧ IsDisk base nm w' d (crashA A ks) ∧ Chg dts base w w' := by
  obtain ⟨R, h, ha⟩ := id h0
  have hN := Lib.hid (names_any h ha)
  obtain ⟨Ak, ck, rfl, hck, hks⟩ := hk.out
  have hk := Lib.hid hk
  clear hks
  go_enter Try.func11, Try.ntmps11
  go_wp2_with (fail)
  refine hN.out.mono ?_
  rintro e w1 ⟨v, rfl, hv, hb⟩
  obtain ⟨An, cn, rfl⟩ := Kd.R_slice hv
  have hlenle : (fileIdx A).length ≤ 2 := bool_nodup_length _ (fileIdx_nodup A)
  have hR1 : RawDisk base nm w1 d R := ⟨by rw [hb.block _ (blk_lt h.cells)]; exact h.cells, by rw [hb.block _ (blk_lt h.map)]; exact h.map, h.bd, h.bm, fun g hg => ⟨by rw [hb.block _ (blk_lt (h.files g hg).1)]; exact (h.files g hg).1, (h.files g hg).2⟩, h.idx, h.blks, h.borns⟩
  have hstart : Hid (∃ R', RawDisk base nm w1 d R' ∧ Abs R' (crashTo A ks 0) ∧ Kd.R Kd.string 9 w1 w.heap.size (fun _ => True) (.slice An ((fileIdx A).map (nameOf nm)).length cn) ((fileIdx A).map (nameOf nm)) ∧ Chg dts base w w1) :=
    ⟨R, hR1, by rw [crashTo_zero]; exact ha, hv, .of_below hb⟩
  clear hv hb hR1 ha h h0 hN
  simp only [List.length_map] at hstart
  go_wp2_with (fail)
  go_loopw [14] (fun i wr => ∃ p : Nat, p ≤ (fileIdx A).length ∧ i = .int .i64 p ∧ Hid (∃ R', RawDisk base nm wr d R' ∧ Abs R' (crashTo A ks p) ∧ Kd.R Kd.string 9 wr w.heap.size (fun _ => True) (.slice An (fileIdx A).length cn) ((fileIdx A).map (nameOf nm)) ∧ Chg dts base w wr)) (fun i _ => (fileIdx A).length - (intOf i).toNat)
  case atStart => exact ⟨0, Nat.zero_le _, rfl, hstart⟩
  case round =>
    obtain ⟨p, hp, rfl, hI⟩ := hrel
    obtain ⟨R', h, ha, hv, hc⟩ := hI.out
    clear hstart hI
    by_cases hlt : p < (fileIdx A).length
    · obtain ⟨An', cn', hvs, hcn, hC⟩ := Kd.R_reads hv
      rw [List.length_map] at hvs
      injection hvs with e1 e2 e3
      subst e1
      have hro := Kd.reads_of_C (d := (⟨#[]⟩ : ByteArray)) hC
      obtain ⟨ad, had, hcell⟩ := hro.2.2 (by rw [List.length_map]; omega)
      subst had
      have hn0 := hcell p (by rw [List.length_map]; exact hlt)
      have hget : (fileIdx A)[p]? = some (fileIdx A)[p] := List.getElem?_eq_getElem hlt
      generalize hi : (fileIdx A)[p] = i at hget
      have hn : wr.cell? (ad.add p) = some (.string (nameOf nm i)) := by
        rw [hn0]
        simp [List.getD_eq_getElem?_getD, hget]
      clear hn0
      clear e2 e3 hcn cn'
      have hsome : (A.file i).isSome = true := (mem_fileIdx A i).1 (hi ▸ List.getElem_mem hlt)
      obtain ⟨f, hf⟩ := Option.isSome_iff_exists.1 hsome
      obtain ⟨hcf, hcs⟩ := crashTo_succ A ks p hget hf
      have hgf : (getF R'.gs i).map (·.fb) = some f := by rw [← ha.file i]; exact hcf
      obtain ⟨g, hg, rfl⟩ := Option.map_eq_some_iff.1 hgf
      have hlk := lookup_raw h i
      rw [hg] at hlk
      have hlk : Hid ((Instr.lookup 53 (.map (some R'.mb)) (.string (nameOf nm i)) false).run Try.prog wr = .ok (.pointer (some ⟨g.blk, 0, none⟩)) wr) := hlk
      obtain ⟨hgm, hgi⟩ := getF_some hg
      obtain ⟨f1, f2, f3, f4, f5⟩ := h.files g hgm
      have c0 : wr.cell? ⟨d, 0, none⟩ = some (.map (some R'.mb)) := blk_cell h.cells 0
      have d0 : wr.cell? ⟨g.blk, 0, none⟩ = some (.string g.fb.b) := blk_cell f1 0
      have d1 : wr.cell? ⟨g.blk, 1, none⟩ = some (.int .i64 g.fb.safe) := blk_cell f1 1
      have z0 : wr.frozen? ⟨g.blk, 0, none⟩ = false := blk_frozen f1 0
      have z1 : wr.frozen? ⟨g.blk, 1, none⟩ = false := blk_frozen f1 1
      have hroom : ∃ room : Nat, (g.fb.b.size : Int) - (g.fb.safe : Int) = room ∧ g.fb.b.size - g.fb.safe = room := ⟨g.fb.b.size - g.fb.safe, by omega, rfl⟩
      obtain ⟨room, hroom1, hroom2⟩ := hroom
      generalize hkk : clamp (keepAt ks p) room = kk
      have hkeep : Hid (∀ Ak', Ak = Ak' → p < ks.length → ∃ ad, Ak' = some ad ∧ wr.cell? (ad.add p) = some (.int .i64 (keepAt ks p)) ∧ -9223372036854775808 ≤ keepAt ks p ∧ keepAt ks p ≤ 9223372036854775807) := by
        rintro Ak' rfl hpk
        obtain ⟨A0, c0', hA0, -, hks⟩ := (hk.out.chg hc).out
        injection hA0 with e1' e2' e3'
        subst e1'
        obtain ⟨kad, h1, hkc, hk1, hk2, -⟩ := hks p hpk
        exact ⟨kad, h1, hkc, hk1, hk2⟩
      have hkk0 : Hid (p ≥ ks.length → kk = 0) := by
        intro hge
        rw [← hkk]
        unfold keepAt clamp
        rw [List.getD_eq_getElem?_getD, List.getElem?_eq_none hge]
        simp
      have hkk1 : Hid (keepAt ks p < 0 → kk = 0) := by
        intro h
        rw [← hkk]
        unfold clamp
        rw [if_pos (by omega)]
      have hkk2 : Hid (∀ n : Nat, keepAt ks p = n → n ≤ room → kk = n) := by
        intro n h1 h2
        rw [← hkk, h1]
        unfold clamp
        split
        · omega
        · rw [if_pos (by omega)]; simp
      have hkk3 : Hid (∀ n : Nat, keepAt ks p = n → room < n → kk = room) := by
        intro n h1 h2
        rw [← hkk, h1]
        unfold clamp
        rw [if_neg (by omega), if_neg (by omega)]
      have hkkle : kk ≤ room := by
        rw [← hkk]
        unfold clamp
        split
        · omega
        · split
          · omega
          · omega
      have hcs := Lib.hid hcs
      have hroomle : room ≤ 1048576 := by omega
      have h := Lib.hid h
      have hroom1 := Lib.hid hroom1
      have hroom2 := Lib.hid hroom2
      have hkk := Lib.hid hkk
      have ha := Lib.hid ha
      have hc := Lib.hid hc
      have hv := Lib.hid hv
      have hg := Lib.hid hg
      have hgm := Lib.hid hgm
      have hgi := Lib.hid hgi
      have f1 := Lib.hid f1
      have f3' := Lib.hid f3
      clear hC hro hcell hgf hcf hget hsome hf hi f4 f5
      generalize hname : nameOf nm i = name at *
      have hname := Lib.hid hname
      go_upto_if 28 with (at_lookup; refine lookup_is rfl _ _ _ rfl _ _ rfl rfl hlk.out ?_)
      go_cut [8] (fun s8 wx => ∃ n, s8 = .int .i64 (kk : Int) ∧ wx = wr.drewN n)
      case first =>
        by_cases hpk : p < ks.length
        · obtain ⟨kad, rfl, hkc, hk1, hk2⟩ := hkeep.out _ rfl hpk
          clear hkeep hkk0
          have hr1 : (g.fb.b.size : Int) - (g.fb.safe : Int) = room := hroom1.out
          generalize keepAt ks p = x at hkc hk1 hk2 hkk1 hkk2 hkk3
          by_cases hneg : x < 0
          · have e := Lib.hid (hkk1.out hneg)
            have hr0 : ¬ (room : Int) < 0 := by omega
            clear hkk1 hkk2 hkk3
            go_wp2_with (fail)
            go_quiet (fail)
            go_wp2_with (fail)
            go_meet
            exact ⟨_, by rw [e.out]; rfl, rfl⟩
          · obtain ⟨n, rfl⟩ : ∃ n : Nat, x = n := ⟨x.toNat, by omega⟩
            by_cases hbig : room < n
            · have e := Lib.hid (hkk3.out n rfl hbig)
              have hbig' : (room : Int) < (n : Int) := by omega
              clear hkk1 hkk2 hkk3 hbig
              go_wp2_with (fail)
              go_quiet (fail)
              go_wp2_with (fail)
              go_meet
              exact ⟨_, by rw [e.out], rfl⟩
            · have e := Lib.hid (hkk2.out n rfl (by omega))
              have hbig' : ¬ (room : Int) < (n : Int) := by omega
              clear hkk1 hkk2 hkk3 hbig
              go_wp2_with (fail)
              go_quiet (fail)
              go_wp2_with (fail)
              go_meet
              exact ⟨_, by rw [e.out], rfl⟩
        · have e := Lib.hid (hkk0.out (by omega))
          clear hkeep hkk1 hkk2 hkk3
          go_wp2_with (fail)
          go_meet
          exact ⟨0, by rw [e.out]; rfl, rfl⟩
      case rest =>
        obtain ⟨n, rfl, rfl⟩ := hcut
        clear hkeep hkk0 hkk1 hkk2 hkk3
        have hsum : g.fb.safe + kk ≤ 1048576 := by have := hroom2.out; omega
        have hext : g.fb.safe + kk ≤ g.fb.b.size := by have := hroom2.out; omega
        have hss : (0 : Int) ≤ (g.fb.safe : Int) + (kk : Int) := by omega
        go_wp2_with (fail)
        go_region
        have hfin : ∃ R2, RawDisk base nm ((((wr.drewN n).setCell ⟨g.blk, 1, none⟩ (.int .i64 ((g.fb.safe : Int) + (kk : Int)))).setCell ⟨g.blk, 0, none⟩ (.string (g.fb.b.extract 0 (g.fb.safe + kk)))).drew) d R2 ∧ Abs R2 (crashTo A ks (p + 1)) ∧
            Chg dts base w ((((wr.drewN n).setCell ⟨g.blk, 1, none⟩ (.int .i64 ((g.fb.safe : Int) + (kk : Int)))).setCell ⟨g.blk, 0, none⟩ (.string (g.fb.b.extract 0 (g.fb.safe + kk)))).drew) ∧
            Chg dts base wr ((((wr.drewN n).setCell ⟨g.blk, 1, none⟩ (.int .i64 ((g.fb.safe : Int) + (kk : Int)))).setCell ⟨g.blk, 0, none⟩ (.string (g.fb.b.extract 0 (g.fb.safe + kk)))).drew) := by
          obtain ⟨R2, r1, r2, r3⟩ := setTwo (h.out.heap_eq (w' := wr.drewN n) rfl) ha.out hg.out (g.fb.safe + kk) (g.fb.b.extract 0 (g.fb.safe + kk)) hext (by rw [ByteArray.size_extract]; omega)
          have r4 : Chg dts base wr ((((wr.drewN n).setCell ⟨g.blk, 1, none⟩ (.int .i64 ((g.fb.safe : Int) + (kk : Int)))).setCell ⟨g.blk, 0, none⟩ (.string (g.fb.b.extract 0 (g.fb.safe + kk)))).drew) := (((Chg.refl _ _ _).drewN n).trans r3).drew
          refine ⟨R2, r1.heap_eq rfl, ?_, hc.out.trans r4, r4⟩
          have hcf : crashFile g.fb (keepAt ks p) = ⟨g.fb.b.extract 0 (g.fb.safe + kk), g.fb.safe + kk⟩ := by
            unfold crashFile
            rw [hroom2.out, hkk.out]
          rw [hcs.out, hcf]
          exact r2
        have hfin := Lib.hid hfin
        clear hsum hext hss
        go_wp2_with (fail)
        go_roundw
        case rel =>
          obtain ⟨R2, r1, r2, r3, r4⟩ := hfin.out
          exact ⟨p + 1, by omega, by go_num, ⟨R2, r1, r2, R_chg r4 hv.out (by decide), r3⟩⟩
        case measure => simp [intOf]; omega
    · have hpe : p = (fileIdx A).length := by omega
      have hfin : Hid (IsDisk base nm (wr.setCell ⟨d, 1, none⟩ (.bool false)) d (crashA A ks) ∧ Chg dts base w (wr.setCell ⟨d, 1, none⟩ (.bool false))) := by
        obtain ⟨r1, r2⟩ := h.setArm false
        refine ⟨⟨_, r1, ⟨rfl, fun i => ?_⟩⟩, hc.trans r2⟩
        have := ha.file i
        rw [hpe, crashTo_all] at this
        exact this
      have z1 : wr.frozen? ⟨d, 1, none⟩ = false := blk_frozen h.cells 1
      have c1 : wr.cell? ⟨d, 1, none⟩ = some (.bool R'.ar) := blk_cell h.cells 1
      clear hv ha hc h hpe
      generalize R'.ar = ar at *
      go_wp2_with (fail)
      go_ret
      exact ⟨rfl, hfin.out⟩
end
end Go.Proofs.Ytjilfabdbmfgjaa
