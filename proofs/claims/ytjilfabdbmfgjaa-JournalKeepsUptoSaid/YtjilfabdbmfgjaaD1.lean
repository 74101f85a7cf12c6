/- The disk: what each of its steps on memory does to what blocks say of it. -/
import Derived.Test.YtjilfabdbmfgjaaD0
import Derived.Test.YtjilfabdbmfgjaaPJournalOrderx1
import Derived.Test.YtjilfabdbmfgjaaWGuard
namespace Go.Proofs.Ytjilfabdbmfgjaa
open Go.RowKit Go.Proofs.YtjilfabdbmfgjaaW.PrintWords
set_option maxRecDepth 100000

theorem getF_some {gs : List GF} {i : Bool} {g : GF} (h : getF gs i = some g) : g ∈ gs ∧ g.i = i := by
  refine ⟨List.mem_of_find?_eq_some h, ?_⟩
  have := List.find?_some h
  simpa using this
theorem getF_none {gs : List GF} {i : Bool} (h : getF gs i = none) : ∀ g ∈ gs, g.i ≠ i := by
  intro g hg he
  have := List.find?_eq_none.1 h g hg
  simp [he] at this
theorem getF_of {gs : List GF} (hn : (gs.map (·.i)).Nodup) {g : GF} (hg : g ∈ gs) : getF gs g.i = some g := by
  induction gs with
  | nil => cases hg
  | cons x gs ih =>
    simp only [List.map_cons, List.nodup_cons] at hn
    rcases List.mem_cons.1 hg with rfl | hg
    · simp [getF]
    · have hne : (x.i == g.i) = false := by
        rw [beq_eq_false_iff_ne]
        intro he
        exact hn.1 (he ▸ List.mem_map.2 ⟨g, hg, rfl⟩)
      have := ih hn.2 hg
      simpa [getF, hne] using this
theorem getF_eq_none {gs : List GF} {i : Bool} (h : ∀ g ∈ gs, g.i ≠ i) : getF gs i = none := by
  unfold getF
  rw [List.find?_eq_none]
  intro g hg
  simpa using h g hg

/-- a file's bytes turned -/
def upd (gs : List GF) (i : Bool) (f : FB) : List GF := gs.map fun x => if x.i = i then { x with fb := f } else x
theorem upd_i (gs : List GF) (i : Bool) (f : FB) : (upd gs i f).map (·.i) = gs.map (·.i) := by
  unfold upd; rw [List.map_map]; apply List.map_congr_left; intro x _; simp only [Function.comp]; split <;> rfl
theorem upd_blk (gs : List GF) (i : Bool) (f : FB) : (upd gs i f).map (·.blk) = gs.map (·.blk) := by
  unfold upd; rw [List.map_map]; apply List.map_congr_left; intro x _; simp only [Function.comp]; split <;> rfl
theorem upd_born (gs : List GF) (i : Bool) (f : FB) : (upd gs i f).map (·.born) = gs.map (·.born) := by
  unfold upd; rw [List.map_map]; apply List.map_congr_left; intro x _; simp only [Function.comp]; split <;> rfl
theorem upd_key (nm : ByteArray) (gs : List GF) (i : Bool) (f : FB) : (upd gs i f).map (GF.key nm) = gs.map (GF.key nm) := by
  unfold upd; rw [List.map_map]; apply List.map_congr_left; intro x _; simp only [Function.comp]; split <;> rfl
theorem getF_upd (gs : List GF) (i j : Bool) (f : FB) : getF (upd gs i f) j = (getF gs j).map fun g => if g.i = i then { g with fb := f } else g := by
  unfold getF upd
  rw [List.find?_map]
  congr 1
  congr 1
  funext x
  simp only [Function.comp]
  split <;> rfl

theorem bool_nodup_length : ∀ (l : List Bool), l.Nodup → l.length ≤ 2
  | [], _ => by simp
  | [_], _ => by simp
  | [_, _], _ => by simp
  | a :: b :: c :: l, h => by
    simp only [List.nodup_cons, List.mem_cons, not_or] at h
    obtain ⟨⟨h1, h2, -⟩, ⟨h3, -⟩, -⟩ := h
    cases a <;> cases b <;> cases c <;> simp_all

section
variable {base d : Nat} {nm : ByteArray} {R : Raw} {w : World}

theorem RawDisk.heap_eq (h : RawDisk base nm w d R) {w' : World} (hw : w'.heap = w.heap) : RawDisk base nm w' d R :=
  ⟨by rw [hw]; exact h.cells, by rw [hw]; exact h.map, h.bd, h.bm, by rw [hw]; exact h.files, h.idx, h.blks, h.borns⟩

theorem RawDisk.ne_file (h : RawDisk base nm w d R) {g : GF} (hg : g ∈ R.gs) : d ≠ g.blk := by
  rintro rfl
  have h1 := h.cells
  rw [(h.files g hg).1] at h1
  simp at h1

theorem RawDisk.blk_inj (h : RawDisk base nm w d R) {g g' : GF} (hg : g ∈ R.gs) (hg' : g' ∈ R.gs) (he : g.blk = g'.blk) : g = g' := by
  have hn := h.blks
  clear h
  generalize R.gs = gs at *
  induction gs with
  | nil => cases hg
  | cons x gs ih =>
    simp only [List.map_cons, List.nodup_cons] at hn
    rcases List.mem_cons.1 hg with rfl | hg1 <;> rcases List.mem_cons.1 hg' with rfl | hg2
    · rfl
    · exact absurd (List.mem_map.2 ⟨g', hg2, rfl⟩) (he ▸ hn.1)
    · exact absurd (List.mem_map.2 ⟨g, hg1, rfl⟩) (he ▸ hn.1)
    · exact ih hg1 hg2 hn.2

/-- what is outside the types that a disk's operations change leaves it as it was -/
theorem RawDisk.chg (h : RawDisk base nm w d R) {ts : List Nat} {b2 : Nat} {w' : World} (hc : Chg ts b2 w w') (h0 : ts.contains 0 = false) (h1 : ts.contains 55 = false) (h2 : ts.contains 59 = false) : RawDisk base nm w' d R :=
  ⟨hc.keep _ _ h.cells (.inr h1), hc.keep _ _ h.map (.inr h0), h.bd, h.bm, fun g hg => ⟨hc.keep _ _ (h.files g hg).1 (.inr h2), (h.files g hg).2⟩, h.idx, h.blks, h.borns⟩

theorem RawDisk.setLeft (h : RawDisk base nm w d R) (x : Int) : RawDisk base nm (w.setCell ⟨d, 2, none⟩ (.int .i64 x)) d { R with left := x } ∧ Chg dts base w (w.setCell ⟨d, 2, none⟩ (.int .i64 x)) := by
  refine ⟨⟨blk_set h.cells 2 _, ?_, h.bd, h.bm, fun g hg => ⟨?_, (h.files g hg).2⟩, h.idx, h.blks, h.borns⟩, ?_⟩
  · rw [Below.heap_setCell _ _ _ _ ?_]
    · exact h.map
    · rintro he
      have h1 := h.cells
      have h2 := h.map
      rw [show R.mb = d from he] at h2
      rw [h1] at h2
      cases h2
  · exact blk_far (h.files g hg).1 (Ne.symm (h.ne_file hg)) _
  · exact (Chg.refl _ _ _).setCell h.bd h.cells (by decide) _

theorem RawDisk.setArm (h : RawDisk base nm w d R) (x : Bool) : RawDisk base nm (w.setCell ⟨d, 1, none⟩ (.bool x)) d { R with ar := x } ∧ Chg dts base w (w.setCell ⟨d, 1, none⟩ (.bool x)) := by
  refine ⟨⟨blk_set h.cells 1 _, ?_, h.bd, h.bm, fun g hg => ⟨?_, (h.files g hg).2⟩, h.idx, h.blks, h.borns⟩, ?_⟩
  · rw [Below.heap_setCell _ _ _ _ ?_]
    · exact h.map
    · rintro he
      have h1 := h.cells
      have h2 := h.map
      rw [show R.mb = d from he] at h2
      rw [h1] at h2
      cases h2
  · exact blk_far (h.files g hg).1 (Ne.symm (h.ne_file hg)) _
  · exact (Chg.refl _ _ _).setCell h.bd h.cells (by decide) _

/-- a store into a file's block -/
theorem RawDisk.setFile (h : RawDisk base nm w d R) {g : GF} (hg : g ∈ R.gs) (f : FB) (hs : f.safe ≤ f.b.size) (hb : f.b.size ≤ 1048576) (j : Nat) (v : Value)
    (hv : (#[Value.string g.fb.b, .int .i64 (g.fb.safe : Int)] : Array Value).setIfInBounds j v = #[.string f.b, .int .i64 (f.safe : Int)]) :
    RawDisk base nm (w.setCell ⟨g.blk, j, none⟩ v) d { R with gs := upd R.gs g.i f } ∧ Chg dts base w (w.setCell ⟨g.blk, j, none⟩ v) := by
  have hne := h.ne_file hg
  refine ⟨⟨blk_far h.cells hne _, ?_, h.bd, h.bm, fun x hx => ?_, by rw [upd_i]; exact h.idx, by rw [upd_blk]; exact h.blks, by rw [upd_born]; exact h.borns⟩, ?_⟩
  · rw [Below.heap_setCell _ _ _ _ ?_, upd_key]
    · exact h.map
    · rintro he
      have h1 := (h.files g hg).1
      have h2 := h.map
      rw [show R.mb = g.blk from he] at h2
      rw [h1] at h2
      cases h2
  · obtain ⟨y, hy, rfl⟩ := List.mem_map.1 hx
    have hyf := h.files y hy
    by_cases hi : y.i = g.i
    · have hyg : y = g := by
        have h1 := getF_of h.idx hy
        have h2 := getF_of h.idx hg
        rw [hi, h2] at h1
        exact (Option.some.inj h1).symm
      subst hyg
      simp only [if_true]
      refine ⟨?_, hs, hb, hyf.2.2.2⟩
      rw [show (w.setCell ⟨y.blk, j, none⟩ v).heap[y.blk]? = _ from heap_setCell_eq (p := ⟨y.blk, j, none⟩) rfl hyf.1 v]
      rw [hv]
    · rw [if_neg hi]
      refine ⟨blk_far hyf.1 ?_ _, hyf.2⟩
      intro he
      exact hi (by rw [h.blk_inj hy hg he])
  · exact (Chg.refl _ _ _).setCell (h.files g hg).2.2.2.1 (h.files g hg).1 (by decide) _

theorem key_inj_nodup (h : RawDisk base nm w d R) : ((R.gs.map (GF.key nm)).map (·.1)).Nodup := by
  have hn := h.idx
  rw [List.map_map]
  clear h
  generalize R.gs = gs at *
  induction gs with
  | nil => simp
  | cons x gs ih =>
    simp only [List.map_cons, List.nodup_cons] at hn ⊢
    refine ⟨fun hm => hn.1 ?_, ih hn.2⟩
    obtain ⟨y, hy, he⟩ := List.mem_map.1 hm
    exact List.mem_map.2 ⟨y, hy, nameOf_inj he⟩

/-- a file is taken away -/
def Raw.del (R : Raw) (i : Bool) : Raw := { R with gs := R.gs.eraseP (fun g => g.i == i) }
theorem eraseP_at {gs : List GF} {i : Bool} {g : GF} (h : getF gs i = some g) : ∃ j, gs[j]? = some g ∧ gs.eraseP (fun g => g.i == i) = gs.eraseIdx j := by
  induction gs with
  | nil => cases h
  | cons x gs ih =>
    by_cases hx : x.i == i
    · refine ⟨0, ?_, ?_⟩
      · simpa [getF, hx] using h
      · simp [hx]
    · have h' : getF gs i = some g := by simpa [getF, hx] using h
      obtain ⟨j, h1, h2⟩ := ih h'
      exact ⟨j + 1, by simpa using h1, by simp [hx, h2]⟩
theorem mem_del {gs : List GF} {i : Bool} (hn : (gs.map (·.i)).Nodup) {x : GF} : x ∈ gs.eraseP (fun g => g.i == i) ↔ x ∈ gs ∧ x.i ≠ i := by
  induction gs with
  | nil => simp
  | cons y gs ih =>
    simp only [List.map_cons, List.nodup_cons] at hn
    by_cases hy : y.i = i
    · have hyb : (y.i == i) = true := by simpa using hy
      rw [List.eraseP_cons, hyb]
      simp only [cond_true, List.mem_cons]
      constructor
      · intro hx
        refine ⟨.inr hx, fun he => hn.1 ?_⟩
        rw [hy, ← he]
        exact List.mem_map.2 ⟨x, hx, rfl⟩
      · rintro ⟨rfl | hx, hne⟩
        · exact absurd hy hne
        · exact hx
    · have hyb : (y.i == i) = false := by simpa using hy
      rw [List.eraseP_cons, hyb]
      simp only [cond_false, List.mem_cons, ih hn.2]
      constructor
      · rintro (rfl | ⟨hx, hne⟩)
        · exact ⟨.inl rfl, hy⟩
        · exact ⟨.inr hx, hne⟩
      · rintro ⟨rfl | hx, hne⟩
        · exact .inl rfl
        · exact .inr ⟨hx, hne⟩
theorem getF_del {gs : List GF} {i j : Bool} (hn : (gs.map (·.i)).Nodup) : getF (gs.eraseP (fun g => g.i == i)) j = if j = i then none else getF gs j := by
  have hn' : ((gs.eraseP (fun g => g.i == i)).map (·.i)).Nodup := ((List.eraseP_sublist).map _).nodup hn
  by_cases hj : j = i
  · rw [if_pos hj]
    exact getF_eq_none fun g hg => by rw [hj]; exact ((mem_del hn).1 hg).2
  · rw [if_neg hj]
    cases hg : getF gs j with
    | none => exact getF_eq_none fun g h => getF_none hg g ((mem_del hn).1 h).1
    | some g =>
      obtain ⟨h1, h2⟩ := getF_some hg
      have := getF_of hn' ((mem_del hn).2 ⟨h1, by rw [h2]; exact hj⟩)
      rwa [h2] at this

theorem delete_raw (h : RawDisk base nm w d R) {i : Bool} {g : GF} (hg : getF R.gs i = some g) (ty : TypeId) :
    ∃ w', (Builtin.delete_ #[53, 9] ty #[.map (some R.mb), .string (nameOf nm i)]).run Try.prog w = .ok (.tuple #[]) w' ∧ RawDisk base nm w' d (R.del i) ∧ Chg dts base w w' := by
  obtain ⟨j, hj, he⟩ := eraseP_at hg
  have hi := (getF_some hg).2
  have hrun := run_delete_str (P := Try.prog) (w := w) (ty := ty) Try.underlying53 Try.underlying9 h.map (nameOf nm i) (key_inj_nodup h) (j := j) (x := g.key nm) (by simp [hj]) (by simp [GF.key, hi])
  refine ⟨_, hrun, ?_, (Chg.refl _ _ _).setMap h.bm h.map (by decide) _ _⟩
  have hsub : List.Sublist (R.gs.eraseP (fun g => g.i == i)) R.gs := List.eraseP_sublist
  refine ⟨?_, ?_, h.bd, h.bm, fun x hx => ?_, (hsub.map _).nodup h.idx, (hsub.map _).nodup h.blks, (hsub.map _).nodup h.borns⟩
  · rw [heap_setMap_ne]
    · exact h.cells
    · intro hd
      have h1 := h.map
      rw [← hd, h.cells] at h1
      cases h1
  · show (World.setMap w R.mb _ _).heap[R.mb]? = _
    rw [heap_setMap_eq h.map]
    simp only [Raw.del, he, map_eraseIdx']
  · have hx' := h.files x (hsub.subset hx)
    refine ⟨?_, hx'.2⟩
    rw [heap_setMap_ne]
    · exact hx'.1
    · intro hd
      have h1 := h.map
      rw [← hd, hx'.1] at h1
      cases h1

theorem delete_raw_file (h : RawDisk base nm w d R) {i : Bool} {g : GF} (hg : getF R.gs i = some g) {ty : TypeId} {n : Nat} {w1 : World}
    (hrun : (Builtin.delete_ #[53, 9] ty #[.map (some R.mb), .string (nameOf nm i)]).run Try.prog (w.drewN n) = .ok (.tuple #[]) w1) {k : Nat} {cs : Array Value} (hk : w.heap[k]? = some (.cells cs 59 (0, 0))) :
    w1.heap[k]? = some (.cells cs 59 (0, 0)) := by
  obtain ⟨j, hj, he⟩ := eraseP_at hg
  have hi := (getF_some hg).2
  have hrun' := run_delete_str (P := Try.prog) (w := w.drewN n) (ty := ty) Try.underlying53 Try.underlying9 (h.heap_eq (w' := w.drewN n) rfl).map (nameOf nm i) (key_inj_nodup h) (j := j) (x := g.key nm) (by simp [hj]) (by simp [GF.key, hi])
  rw [hrun] at hrun'
  cases hrun'
  rw [heap_setMap_ne]
  · exact hk
  · intro hd
    have h1 := h.map
    rw [← hd, hk] at h1
    cases h1

/-- a file comes, or takes the place of one of its name -/
def Raw.put (R : Raw) (i : Bool) (f : FB) (blk : Nat) : Raw :=
  match getF R.gs i with
  | none => { R with gs := R.gs ++ [{ i, fb := f, blk, born := R.clock }], clock := R.clock + 1 }
  | some _ => { R with gs := R.gs.map fun x => if x.i = i then { x with fb := f, blk := blk } else x }
theorem put_ar (R : Raw) (i : Bool) (f : FB) (blk : Nat) : (R.put i f blk).ar = R.ar := by unfold Raw.put; split <;> rfl
theorem put_left (R : Raw) (i : Bool) (f : FB) (blk : Nat) : (R.put i f blk).left = R.left := by unfold Raw.put; split <;> rfl
theorem getF_put (R : Raw) (i j : Bool) (f : FB) (blk : Nat) : (getF (R.put i f blk).gs j).map (·.fb) = if j = i then some f else (getF R.gs j).map (·.fb) := by
  unfold Raw.put
  cases hg : getF R.gs i with
  | none =>
    simp only [getF, List.find?_append]
    by_cases hj : j = i
    · subst hj
      have : List.find? (fun g => g.i == j) R.gs = none := hg
      simp [this]
    · have hji : (i == j) = false := by rw [beq_eq_false_iff_ne]; exact Ne.symm hj
      rw [if_neg hj]
      simp only [List.find?_cons, hji, List.find?_nil, Option.or_none]
  | some g =>
    simp only [getF]
    rw [List.find?_map]
    have hf : ((fun g : GF => g.i == j) ∘ fun x => if x.i = i then { x with fb := f, blk := blk } else x) = fun g => g.i == j := by
      funext x
      simp only [Function.comp]
      split <;> rfl
    rw [hf, Option.map_map]
    by_cases hj : j = i
    · subst hj
      have : List.find? (fun g => g.i == j) R.gs = some g := hg
      have hi := (getF_some hg).2
      simp [this, hi]
    · rw [if_neg hj]
      cases hk : List.find? (fun g => g.i == j) R.gs with
      | none => rfl
      | some k =>
        have : k.i = j := (getF_some (show getF R.gs j = some k from hk)).2
        have hne : ¬ k.i = i := by rw [this]; exact hj
        simp [hne]
theorem put_raw (h : RawDisk base nm w d R) (i : Bool) (f : FB) (blk : Nat) (hb : base ≤ blk) (hblk : w.heap[blk]? = some (.cells #[.string f.b, .int .i64 (f.safe : Int)] 59 (0, 0)))
    (hs : f.safe ≤ f.b.size) (hz : f.b.size ≤ 1048576) (hnew : ∀ g ∈ R.gs, g.blk ≠ blk) :
    ∃ w', (Instr.mapUpdate 53 (.map (some R.mb)) (.string (nameOf nm i)) (.pointer (some ⟨blk, 0, none⟩))).run Try.prog w = .ok () w' ∧ RawDisk base nm w' d (R.put i f blk) ∧ Chg dts base w w' := by
  have hcells : ∀ es c, (World.setMap w R.mb es c).heap[d]? = some (.cells #[.map (some R.mb), .bool R.ar, .int .i64 R.left] 55 (0, 0)) := fun es c => by
    rw [heap_setMap_ne]
    · exact h.cells
    · intro hd
      have h1 := h.map
      rw [← hd, h.cells] at h1
      cases h1
  have hfile : ∀ es c (k : Nat) (cs : Array Value), w.heap[k]? = some (.cells cs 59 (0, 0)) → (World.setMap w R.mb es c).heap[k]? = some (.cells cs 59 (0, 0)) := fun es c k cs hk => by
    rw [heap_setMap_ne]
    · exact hk
    · intro hd
      have h1 := h.map
      rw [← hd, hk] at h1
      cases h1
  cases hg : getF R.gs i with
  | none =>
    have hno := getF_none hg
    have hrun := run_update_push (P := Try.prog) (w := w) Try.underlying53 Try.underlying9 h.map (nameOf nm i) (fun x hx => by
      obtain ⟨y, hy, rfl⟩ := List.mem_map.1 hx
      intro he
      exact hno y hy (nameOf_inj he)) blk
    refine ⟨_, hrun, ?_, (Chg.refl _ _ _).setMap h.bm h.map (by decide) _ _⟩
    simp only [Raw.put, hg]
    refine ⟨hcells _ _, ?_, h.bd, h.bm, fun x hx => ?_, ?_, ?_, ?_⟩
    · show (World.setMap w R.mb _ _).heap[R.mb]? = _
      rw [heap_setMap_eq h.map]
      simp [GF.key]
    · rcases List.mem_append.1 hx with hx | hx
      · have := h.files x hx
        exact ⟨hfile _ _ _ _ this.1, this.2.1, this.2.2.1, this.2.2.2.1, by have := this.2.2.2.2; show x.born < R.clock + 1; omega⟩
      · simp only [List.mem_singleton] at hx
        subst hx
        exact ⟨hfile _ _ _ _ hblk, hs, hz, hb, by show R.clock < R.clock + 1; omega⟩
    · simp only [List.map_append, List.map_cons, List.map_nil, List.nodup_append]
      refine ⟨h.idx, by simp, fun a ha b hb => ?_⟩
      simp only [List.mem_singleton] at hb
      subst hb
      obtain ⟨y, hy, rfl⟩ := List.mem_map.1 ha
      exact hno y hy
    · simp only [List.map_append, List.map_cons, List.map_nil, List.nodup_append]
      refine ⟨h.blks, by simp, fun a ha b hb => ?_⟩
      simp only [List.mem_singleton] at hb
      subst hb
      obtain ⟨y, hy, rfl⟩ := List.mem_map.1 ha
      exact hnew y hy
    · simp only [List.map_append, List.map_cons, List.map_nil, List.nodup_append]
      refine ⟨h.borns, by simp, fun a ha b hb => ?_⟩
      simp only [List.mem_singleton] at hb
      subst hb
      obtain ⟨y, hy, rfl⟩ := List.mem_map.1 ha
      have := (h.files y hy).2.2.2.2
      omega
  | some g =>
    obtain ⟨hgm, hgi⟩ := getF_some hg
    obtain ⟨j, hj, -⟩ := eraseP_at hg
    have hrun := run_update_set (P := Try.prog) (w := w) Try.underlying53 Try.underlying9 h.map (nameOf nm i) (key_inj_nodup h) (j := j) (x := g.key nm) (by simp [hj]) (by simp [GF.key, hgi]) blk
    refine ⟨_, hrun, ?_, (Chg.refl _ _ _).setMap h.bm h.map (by decide) _ _⟩
    simp only [Raw.put, hg]
    have hi2 : (R.gs.map fun x => if x.i = i then { x with fb := f, blk := blk } else x).map (·.i) = R.gs.map (·.i) := by
      rw [List.map_map]; apply List.map_congr_left; intro x _; simp only [Function.comp]; split <;> rfl
    have hb2 : (R.gs.map fun x => if x.i = i then { x with fb := f, blk := blk } else x).map (·.born) = R.gs.map (·.born) := by
      rw [List.map_map]; apply List.map_congr_left; intro x _; simp only [Function.comp]; split <;> rfl
    have hset : ∀ (gs : List GF) (j : Nat), (gs.map (·.i)).Nodup → gs[j]? = some g → (gs.map fun x => if x.i = i then { x with fb := f, blk := blk } else x) = gs.set j { g with fb := f, blk := blk } := by
      intro gs
      induction gs with
      | nil => intro j _ hj; simp at hj
      | cons y gs ih =>
        intro j hn hj
        simp only [List.map_cons, List.nodup_cons] at hn
        cases j with
        | zero =>
          simp only [List.getElem?_cons_zero, Option.some.injEq] at hj
          subst hj
          simp only [List.map_cons, hgi, if_true, List.set_cons_zero, List.cons.injEq, true_and]
          rw [List.map_congr_left (g := id)]
          · simp
          · intro z hz
            have : ¬ z.i = i := fun he => hn.1 (by rw [hgi, ← he]; exact List.mem_map.2 ⟨z, hz, rfl⟩)
            simp [this]
        | succ j =>
          simp only [List.getElem?_cons_succ] at hj
          have hyi : ¬ y.i = i := fun he => hn.1 (by rw [he, ← hgi]; exact List.mem_map.2 ⟨g, List.mem_of_getElem? hj, rfl⟩)
          simp only [List.map_cons, hyi, if_false, List.set_cons_succ]
          rw [ih j hn.2 hj]
    refine ⟨hcells _ _, ?_, h.bd, h.bm, fun x hx => ?_, by rw [hi2]; exact h.idx, ?_, by rw [hb2]; exact h.borns⟩
    · show (World.setMap w R.mb _ _).heap[R.mb]? = _
      rw [heap_setMap_eq h.map, hset R.gs j h.idx hj]
      simp [List.map_set, GF.key, hgi]
    · obtain ⟨y, hy, rfl⟩ := List.mem_map.1 hx
      have := h.files y hy
      by_cases hi : y.i = i
      · rw [if_pos hi]
        exact ⟨hfile _ _ _ _ hblk, hs, hz, hb, this.2.2.2.2⟩
      · rw [if_neg hi]
        exact ⟨hfile _ _ _ _ this.1, this.2⟩
    · have hbs := h.blks
      have hix := h.idx
      clear hi2 hb2 hset hrun hj h hcells hfile hg hgm
      generalize R.gs = gs at *
      induction gs with
      | nil => simp
      | cons y gs ih =>
        simp only [List.map_cons, List.nodup_cons] at hbs hix ⊢
        have ih' := ih (fun x hx => hnew x (by simp [hx])) hbs.2 hix.2
        refine ⟨?_, ih'⟩
        by_cases hi : y.i = i
        · rw [if_pos hi]
          intro hm
          obtain ⟨z, hz, he⟩ := List.mem_map.1 hm
          obtain ⟨z', hz', rfl⟩ := List.mem_map.1 hz
          have hzi : ¬ z'.i = i := fun hh => hix.1 (by rw [hi, ← hh]; exact List.mem_map.2 ⟨z', hz', rfl⟩)
          rw [if_neg hzi] at he
          exact hnew z' (by simp [hz']) he
        · rw [if_neg hi]
          intro hm
          obtain ⟨z, hz, he⟩ := List.mem_map.1 hm
          obtain ⟨z', hz', rfl⟩ := List.mem_map.1 hz
          by_cases hzi : z'.i = i
          · rw [if_pos hzi] at he
            exact hnew y (by simp) he.symm
          · rw [if_neg hzi] at he
            exact hbs.1 (List.mem_map.2 ⟨z', hz', he⟩)
end
end Go.Proofs.Ytjilfabdbmfgjaa
