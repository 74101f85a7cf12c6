/- The law JournalKeeps: whatever the calls, behind a crash there is a beginning of what was added, at least what was synced; where all that it reads is of bulk at most 1048576. -/
import Derived.Test.YtjilfabdbmfgjaaK4
import Derived.Test.YtjilfabdbmfgjaaRows
import Derived.ProofKit
import Derived.Carry
import Derived.SliceStrings
import Derived.JoinedCond
import Derived.Deep.Slices
import Derived.Deep.Fields
import Derived.ChangeSame
import Derived.OpenShut
namespace Go.Proofs.Ytjilfabdbmfgjaa
open Go.RowKit Go.ChangeShapes Go.WideShapes Go.ChangeAt Go.ChangeMaps Go.Deep Go.Proofs.YtjilfabdbmfgjaaW.PrintWords
set_option maxRecDepth 100000

theorem tryOwn4 : ownKnob Try.prog.godebug = none := by kernel_rfl
theorem tryLaid4 : laidOutB Try.prog = true := by kernel_rfl
theorem tryCellsStr4 : Try.prog.cellsOf 9 = 1 := by kernel_rfl
theorem tryCellsInt4 : Try.prog.cellsOf 3 = 1 := by kernel_rfl
theorem tryCellsAct : Try.prog.cellsOf 50 = 5 := by kernel_rfl

section
variable {H : Type} {enc : TypeId × Value → H} {P : Program} {w : World} {base : Nat} {spare : Nat → Bool} {held : Bool}
theorem open_slice_fields {t e : TypeId} {fs : Array Field} {fuel : Nat} {cs : List Value} {x : DataW H × List MemPlace} (ht : P.underlying t = some (.slice e)) (he : P.underlying e = some (.struct fs))
    (hone : oneCellFields P fs = true) (hC : P.cellsOf e = fs.size) (h : DataW.trod enc P w base spare held fuel t cs = some x) :
    (cs = [.slice none 0 0] ∧ x = (.nil, [])) ∨
    ∃ (a : Addr) (len cap m : Nat) (D : Nat → DataW H) (Pl : Nat → List MemPlace), cs = [.slice (some a) len cap] ∧ base ≤ a.block ∧ len ≤ cap ∧ cap ≤ maxLen ∧ m = (if spare a.block then cap else len) ∧
      x = (.slice ((List.range len).map D) ((List.range (m - len)).map fun j => D (len + j)), MemPlace.row a (m * fs.size) ++ (List.range m).flatMap Pl) ∧
      ∀ i, i < m → ∃ (ys : List (DataW H × List MemPlace)) (n : Nat), D i = .agg (ys.map (·.1)) ∧ Pl i = ys.flatMap (·.2) ∧ ys.length = fs.size ∧
        ∀ (j : Nat) (f : Field), fs[j]? = some f → ∃ (v : Value) (y : DataW H × List MemPlace), w.cell? (a.add (i * fs.size + j)) = some v ∧ ys[j]? = some y ∧ DataW.trod enc P w base spare held n f.type [v] = some y := by
  rcases open_slice ht h with h0 | ⟨a, len, cap, m, n, D, Pl, hcs, hb, hl, hm, hmm, hx, hi⟩
  · exact .inl h0
  · refine .inr ⟨a, len, cap, m, D, Pl, hcs, hb, hl, hm, hmm, by rw [hC] at hx; exact hx, fun i him => ?_⟩
    obtain ⟨cs', hc, ht'⟩ := hi i him
    rw [hC] at hc
    obtain ⟨ys, n', hn', hy, hlen, hyl, hf⟩ := DataW.trod_struct he ht'
    obtain ⟨_, hcl, hat⟩ := World.cells?_some hc
    simp only [Prod.mk.injEq] at hy
    refine ⟨ys, n', hy.1, hy.2, hyl, fun j f hj => ?_⟩
    obtain ⟨ho, hk⟩ := hone_of hone j f hj
    have hjl : j < fs.size := (Array.getElem?_eq_some_iff.1 hj).1
    have hcell := hat j hjl
    have hv : cs'[j]? = some (cs'[j]'(by omega)) := List.getElem?_eq_getElem (by omega)
    have h1 := hf j f hj
    rw [ho, hk] at h1
    have hone' : (cs'.drop j).take 1 = [cs'[j]'(by omega)] := by
      rw [List.drop_eq_getElem_cons (by omega)]
      rfl
    rw [hone'] at h1
    have hys : ys[j]? = some (ys[j]'(by omega)) := List.getElem?_eq_getElem (by omega)
    refine ⟨_, _, ?_, hys, h1.trans hys⟩
    rw [← Go.Deep.add_add, hcell, hv]
end

/-! the bulk -/
theorem bulk_one {H : Type} (d : DataW H) : 1 ≤ Rows.uptoBulk d := by
  cases d with
  | lit l => cases l <;> simp [Rows.uptoBulk]
  | nil => simp [Rows.uptoBulk]
  | ptr d => simp [Rows.uptoBulk]
  | slice elems spare => simp [Rows.uptoBulk]
  | agg parts => simp [Rows.uptoBulk]
  | iface t d => simp [Rows.uptoBulk]
  | map entries => simp [Rows.uptoBulk]
  | held h => simp [Rows.uptoBulk]
theorem bulk_part {H : Type} {d : DataW H} {l : List (DataW H)} (h : d ∈ l) : Rows.uptoBulk d ≤ Rows.uptoBulkAll l := by
  induction l with
  | nil => cases h
  | cons x r ih =>
    simp only [Rows.uptoBulkAll]
    cases List.mem_cons.1 h with
    | inl e => subst e; omega
    | inr e => have := ih e; omega
theorem bulk_length {H : Type} (l : List (DataW H)) : l.length ≤ Rows.uptoBulkAll l := by
  induction l with
  | nil => simp [Rows.uptoBulkAll]
  | cons x r ih => have := bulk_one x; simp only [Rows.uptoBulkAll, List.length_cons]; omega
theorem bulk_string {H : Type} (bytes : List UInt8) : Rows.uptoBulk (DataW.lit (H := H) (.string bytes)) = bytes.length + 1 := by
  simp [Rows.uptoBulk]
theorem bulk_slice {H : Type} (elems spare : List (DataW H)) : Rows.uptoBulkAll elems + Rows.uptoBulkAll spare + 1 = Rows.uptoBulk (.slice elems spare) := by
  simp only [Rows.uptoBulk]

/-- the bytes of records -/
theorem cat_bulk {H : Type} : ∀ (l : List ByteArray) (i : Nat), i + l.length ≤ 4611686018427387904 → (catB i (l.filter small)).length ≤ 14 * Rows.uptoBulkAll (strs (H := H) l) ∧ True := by
  intro l
  induction l with
  | nil => intro i _; exact ⟨by simp [catB], trivial⟩
  | cons s l ih =>
    intro i hi
    simp only [List.length_cons] at hi
    have hb : Rows.uptoBulkAll (strs (H := H) (s :: l)) = (s.size + 1) + Rows.uptoBulkAll (strs (H := H) l) := by
      show Rows.uptoBulk (DataW.lit (H := H) (.string s.data.toList)) + Rows.uptoBulkAll (strs (H := H) l) = _
      rw [bulk_string]
      rfl
    rw [hb]
    by_cases hs : small s = true
    · rw [List.filter_cons_of_pos hs, catB, List.length_append]
      have h1 := (ih (i + 1) (by omega)).1
      have h2 := layB_length i (by omega) s.toList (by rw [toList_length]; have : s.size ≤ 4096 := of_decide_eq_true hs; omega)
      rw [toList_length] at h2
      exact ⟨by omega, trivial⟩
    · rw [List.filter_cons_of_neg hs]
      have h1 := (ih i (by omega)).1
      exact ⟨by omega, trivial⟩

/-- a slice of strings in a cell -/
theorem strs_cell {H : Type} {enc : TypeId × Value → H} {W : World} {v : Value} {n : Nat} {y : DataW H × List MemPlace} (h : DataW.trod enc Try.prog W 0 (fun _ => true) true n 29 [v] = some y) :
    ∃ l : List ByteArray, (∃ Al cl, v = .slice Al l.length cl ∧ l.length ≤ cl ∧ Kd.C Kd.string W Al l.length l) ∧ Rows.uptoBulkAll (strs (H := H) l) ≤ Rows.uptoBulk y.1 := by
  rcases open_strings Try.underlying29 Try.underlying9 tryCellsStr4 h with ⟨hcs, hx⟩ | ⟨a, len, cap, zs, hcs, -, hl, hm, hz, hx, hcell, hwz⟩
  · obtain rfl : v = .slice none 0 0 := by simpa using hcs
    subst hx
    exact ⟨[], ⟨none, 0, rfl, Nat.le_refl _, ⟨rfl, by decide, fun h => absurd h (by decide)⟩⟩, by simp [strs, Rows.uptoBulkAll]⟩
  · obtain rfl : v = .slice (some a) len cap := by simpa using hcs
    subst hx
    simp only [if_true] at hz
    have hlen : (zs.take len).length = len := by rw [List.length_take, hz]; omega
    unfold maxLen at hm
    refine ⟨zs.take len, ⟨some a, cap, by rw [hlen], by rw [hlen]; exact hl, ?_⟩, by rw [← bulk_slice]; omega⟩
    rw [hlen]
    refine ⟨hlen, by omega, fun _ => ⟨a, rfl, fun i s hi => ⟨[.string s], rfl, rfl, fun k u hk => ?_⟩⟩⟩
    cases k with
    | succ k => simp at hk
    | zero =>
      simp only [List.getElem?_cons_zero, Option.some.injEq] at hk
      subst hk
      have hi1 : i < zs.length ∧ zs[i]? = some s := by
        have h2 := (List.getElem?_eq_some_iff.1 hi).1
        rw [hlen] at h2
        rw [List.getElem?_take, if_pos h2] at hi
        exact ⟨by omega, hi⟩
      have hc := hcell i hi1.1
      rw [List.getD_eq_getElem?_getD, hi1.2] at hc
      show W.cell? (a.add (i * 1 + 0)) = some (.string s)
      rw [Nat.mul_one, Nat.add_zero]
      exact hc

theorem mem_of_map {H : Type} {ys : List (DataW H × List MemPlace)} {j : Nat} {y : DataW H × List MemPlace} (h : ys[j]? = some y) : y.1 ∈ ys.map (·.1) := List.mem_map.2 ⟨y, List.mem_of_getElem? h, rfl⟩

theorem acts_arg {H : Type} {enc : TypeId × Value → H} {W : World} {v : Value} {d : DataW H} {p : List MemPlace} {b0 : Nat} (hval : Value.okWide Try.prog W .any b0 47 v)
    (hd : DataW.Trod enc Try.prog W 0 (fun _ => true) true 47 v d p) (hb : Rows.uptoBulk d ≤ 1048576) :
    ∃ xs, ActsAt W.heap.size W v xs ∧ ∀ x ∈ xs, x.s.size ≤ 1048576 ∧ x.l.length ≤ 1048576 ∧ (catB 0 (x.l.filter small)).length ≤ 140737488351232 := by
  obtain ⟨a0, len, cap, rfl⟩ := okWide_slice Try.underlying47 hval
  obtain ⟨fuel, hf⟩ := hd
  rcases open_slice_fields Try.underlying47 Try.underlying50 (by kernel_rfl) (by kernel_rfl) hf with ⟨hcs, hx⟩ | ⟨a, len', cap', m, D, Pl, hcs, -, hl, hm, hmm, hx, hi⟩
  · simp [Value.cells] at hcs
    obtain ⟨rfl, rfl, rfl⟩ := hcs
    exact ⟨[], ⟨none, 0, rfl, Nat.le_refl _, by decide, fun i x hx => by simp at hx⟩, fun x hx => absurd hx List.not_mem_nil⟩
  · simp [Value.cells] at hcs
    obtain ⟨rfl, rfl, rfl⟩ := hcs
    simp only [if_true] at hmm
    obtain rfl := hmm.symm
    obtain ⟨hx, -⟩ := Prod.mk.inj hx
    subst hx
    rw [← bulk_slice] at hb
    have hb1 := bulk_length ((List.range len).map D)
    have hb2 := bulk_length ((List.range (cap - len)).map fun j => D (len + j))
    rw [List.length_map, List.length_range] at hb1 hb2
    have hel : ∀ i, i < len → ∃ x : KAct, (x.s.size ≤ 1048576 ∧ x.l.length ≤ 1048576 ∧ (catB 0 (x.l.filter small)).length ≤ 140737488351232) ∧ ∃ lv, a.block < W.heap.size ∧ W.cell? (a.add (i * 5)) = some (.int .i64 x.kind) ∧
        W.cell? (a.add (i * 5 + 1)) = some (.string x.s) ∧ W.cell? (a.add (i * 5 + 2)) = some lv ∧ ∃ Al cl, lv = .slice Al x.l.length cl ∧ x.l.length ≤ cl ∧ Kd.C Kd.string W Al x.l.length x.l := by
      intro i hil
      obtain ⟨ys, n, hD, -, -, hfs⟩ := hi i (by omega)
      have hbi : Rows.uptoBulk (D i) ≤ 1048576 := by
        have := bulk_part (l := (List.range len).map D) (List.mem_map.2 ⟨i, List.mem_range.2 hil, rfl⟩)
        omega
      rw [hD] at hbi
      have hbi2 : Rows.uptoBulkAll (ys.map (·.1)) ≤ 1048575 := by
        have : Rows.uptoBulk (DataW.agg (ys.map (·.1))) = Rows.uptoBulkAll (ys.map (·.1)) + 1 := by simp only [Rows.uptoBulk]
        omega
      obtain ⟨v0, y0, c0, e0, t0⟩ := hfs 0 _ rfl
      obtain ⟨v1, y1, c1, e1, t1⟩ := hfs 1 _ rfl
      obtain ⟨v2, y2, c2, e2, t2⟩ := hfs 2 _ rfl
      obtain ⟨k, hv0, -, -⟩ := DataW.trod_int Try.underlying3 t0
      obtain ⟨s, hv1, hy1, -⟩ := DataW.trod_string Try.underlying9 t1
      obtain ⟨l, hl2, hbl⟩ := strs_cell t2
      obtain rfl : v0 = .int .i64 k := by simpa using hv0
      obtain rfl : v1 = .string s := by simpa using hv1
      have b1 := bulk_part (mem_of_map e1)
      have b2 := bulk_part (mem_of_map e2)
      rw [hy1, bulk_string] at b1
      have b1 : s.size + 1 ≤ Rows.uptoBulkAll (ys.map (·.1)) := b1
      have b3 := bulk_length (strs (H := H) l)
      have hsl : (strs (H := H) l).length = l.length := by simp [strs]
      rw [hsl] at b3
      have b4 := (cat_bulk (H := H) l 0 (by omega)).1
      have hblk := World.block_lt_of_cell? W _ c0
      rw [add_block] at hblk
      have q : s.size ≤ 1048576 ∧ l.length ≤ 1048576 ∧ (catB 0 (l.filter small)).length ≤ 140737488351232 := ⟨by omega, by omega, by omega⟩
      exact ⟨⟨k, s, l⟩, q, v2, hblk, c0, c1, c2, hl2⟩
    have hch := fun i : _root_.Fin len => Classical.choose_spec (hel i.1 i.2)
    refine ⟨List.ofFn fun i : _root_.Fin len => Classical.choose (hel i.1 i.2), ⟨some a, cap, by rw [List.length_ofFn], by rw [List.length_ofFn]; exact hl, by omega, ?_⟩, ?_⟩
    · intro i x hx
      rw [List.getElem?_ofFn] at hx
      split at hx
      · rename_i hil
        injection hx with hx
        subst hx
        obtain ⟨-, lv, h1, h2⟩ := hch ⟨i, hil⟩
        exact ⟨a, lv, rfl, h1, h2⟩
      · cases hx
    · intro x hx
      obtain ⟨i, rfl⟩ := List.mem_ofFn.1 hx
      exact (hch i).1

/-- a slice of ints that came in -/
theorem ints_arg4 {H : Type} {enc : TypeId × Value → H} {W : World} {v : Value} {d : DataW H} {p : List MemPlace} {b0 : Nat} (hval : Value.okWide Try.prog W .any b0 22 v)
    (hd : DataW.Trod enc Try.prog W 0 (fun _ => true) true 22 v d p) : ∃ ks, IntsAt W.heap.size W v ks := by
  obtain ⟨a0, len, cap, rfl⟩ := okWide_slice Try.underlying22 hval
  obtain ⟨fuel, hf⟩ := hd
  rcases open_ints Try.underlying22 Try.underlying3 tryCellsInt4 hf with ⟨hcs, hx⟩ | ⟨a, len', cap', zs, hcs, -, hl, hm, hz, hx, hcell, hwz⟩
  · simp [Value.cells] at hcs
    obtain ⟨rfl, rfl, rfl⟩ := hcs
    exact ⟨[], ⟨none, 0, rfl, Nat.le_refl _, fun i hi => absurd hi (by simp)⟩⟩
  · simp [Value.cells] at hcs
    obtain ⟨rfl, rfl, rfl⟩ := hcs
    simp only [if_true] at hz
    have hlen : (zs.take len).length = len := by rw [List.length_take, hz]; omega
    refine ⟨zs.take len, ⟨some a, cap, by rw [hlen], by rw [hlen]; exact hl, fun i hi => ?_⟩⟩
    rw [hlen] at hi
    have hget : (zs.take len).getD i 0 = zs.getD i 0 := by simp [List.getD_eq_getElem?_getD, hi]
    have hc := hcell i (by omega)
    have hb := World.block_lt_of_cell? W _ hc
    rw [add_block] at hb
    have hmem : zs.getD i 0 ∈ zs := by
      rw [List.getD_eq_getElem?_getD, List.getElem?_eq_getElem (by omega)]
      exact List.getElem_mem _
    have hw := hwz _ hmem
    simp only [Lit.wf, Bool.and_eq_true, decide_eq_true_eq] at hw
    have h1 : IntKind.i64.min = -9223372036854775808 := rfl
    have h2 : IntKind.i64.max = 9223372036854775807 := rfl
    rw [hget]
    exact ⟨a, rfl, hc, by omega, by omega, .inl hb⟩

theorem journalKeeps_lifted (os : Os) (started : os.Started) (H : Type) (enc : TypeId × Value → H) (F : Stop.Interp) :
    ReturnsInHanded {} Try.checked os 6 .any ((Rows.OpenSpec.upto Rows.journalKeepsSpec).pre6 enc Try.prog Try.f6 Rows.journalKeepsUptoRow.domain false) (((Rows.OpenSpec.upto Rows.journalKeepsSpec).at F).post enc Try.prog Try.f6 false true false false) := by
  refine returnsInHanded_of_cond (C := Try.checked) (s := Rows.OpenSpec.upto Rows.journalKeepsSpec) (k := Rows.uptoSmall) rfl tryOwn4 started (by kernel_rfl) Try.func6
    (OpenSpec.witness (enc := enc) (C := Try.checked) (s := Rows.OpenSpec.upto Rows.journalKeepsSpec) (k := Rows.uptoSmall) rfl false ⟨#[], #[.slice none 0 0, .int .u8 0, .slice none 0 0], []⟩ 8 (by kernel_rfl) (by kernel_rfl) (by kernel_rfl)
      (x := ([.nil, .lit (.int .u8 0), .nil], [], [])) (by kernel_rfl) rfl (by kernel_rfl)) ?_
  intro W base args ds gs before hval0 hW _ hk _
  have hval : ∀ (j : Nat) t v, Try.f6.params[j]? = some t → args[j]? = some v → Value.okWide Try.prog W .any base t v := hval0
  have hW' := hW
  obtain ⟨p, q, hA0, hV, rfl, hfz, hnd⟩ := hW
  have hA : DataW.TrodAll enc Try.prog W 0 (fun _ => true) true Try.f6.params.toList args.toList ds p := hA0
  rw [Try.params6] at hA hval
  obtain ⟨v0, vs0, d0, ds0, p0, q0, hargs, rfl, rfl, h0, r0⟩ := trodAll_cons hA
  obtain ⟨v1, vs1, d1, ds1, p1, q1, rfl, rfl, rfl, h1, r1⟩ := trodAll_cons r0
  obtain ⟨v2, vs2, d2, ds2, p2, q2, rfl, rfl, rfl, h2, r2⟩ := trodAll_cons r1
  obtain ⟨rfl, rfl, rfl⟩ := trodAll_nil r2
  obtain rfl : args = #[v0, v1, v2] := by cases args; simp_all
  obtain ⟨rfl, rfl⟩ := trodVars_none hV
  have hb0 : Rows.uptoBulk d0 ≤ 1048576 := by
    have h := of_decide_eq_true hk
    simp only [Rows.uptoBulkAll, List.append_nil] at h
    omega
  obtain ⟨xs, hx, hbd⟩ := acts_arg (hval 0 47 v0 rfl rfl) h0 hb0
  obtain ⟨n, rfl, rfl, rfl, z1⟩ := open_int Try.underlying5 (hval 1 5 v1 rfl rfl) h1
  obtain ⟨ks, hks⟩ := ints_arg4 (hval 2 22 v2 rfl rfl) h2
  clear hA0 hval0
  simp only [List.append_nil, List.nil_append] at hW'
  have hlt0 : ∀ x ∈ p0, x.block < W.heap.size := by obtain ⟨m, hm⟩ := id h0; exact DataW.trod_lt m _ _ _ hm
  have hlt2 : ∀ x ∈ p2, x.block < W.heap.size := by obtain ⟨m, hm⟩ := id h2; exact DataW.trod_lt m _ _ _ hm
  have z2 : 0 ≤ n ∧ n < 256 := by
    simp only [Lit.wf, Bool.and_eq_true, decide_eq_true_eq] at z1
    have h1 : IntKind.u8.min = 0 := rfl
    have h2 : IntKind.u8.max = 255 := rfl
    omega
  obtain ⟨k, rfl⟩ : ∃ k : Nat, n = (k : Int) := ⟨n.toNat, by omega⟩
  refine (keeps_any v0 xs k (by omega) v2 ks W hx hks hbd).mono fun e W' ⟨he, hB⟩ => ?_
  subst he
  exact ⟨_, rfl, _, _, _, [], _, [], hW', trodAll_mk1 (shut_bool Try.underlying4 _),
    (trodAll_cons_mk (Below.trod tryLaid4 (by kernel_rfl) (of_decide_eq_true (by kernel_rfl)) h0 hB hlt0) (trodAll_cons_mk (shut_int Try.underlying5 z1) (trodAll_cons_mk (Below.trod tryLaid4 (by kernel_rfl) (of_decide_eq_true (by kernel_rfl)) h2 hB hlt2) trodAll_mk0))), rfl, hB.frame _, fun h => by cases h⟩

theorem journalKeepsUpto_holds : Rows.JournalKeepsUptoSaid :=
  OpenClaim.holds_of_cond 6 Try.f6 rfl rfl rfl rfl rfl rfl rfl ⟨rfl, rfl, rfl, rfl, rfl⟩ rfl rfl rfl rfl rfl (by kernel_rfl) Try.func6 (by kernel_rfl)
    (of_decide_eq_true (by kernel_rfl)) (by unfold Func.isWrapper; first | (rw [if_pos (by decide +kernel)]; kernel_rfl) | (rw [if_neg (by decide +kernel)]; exact ⟨rfl, rfl⟩))
    (fun os started H enc _ F => journalKeeps_lifted os started H enc F)
#print axioms journalKeepsUpto_holds
end Go.Proofs.Ytjilfabdbmfgjaa
