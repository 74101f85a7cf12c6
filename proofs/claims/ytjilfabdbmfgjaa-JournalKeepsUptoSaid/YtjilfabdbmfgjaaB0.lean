/- Words on memory for the walks: which blocks a call may change, told by their element types; rows of cells; maps from strings to pointers. -/
import Derived.Test.YtjilfabdbmfgjaaChecked
import Derived.WalkKit
import Derived.WalkSpells
import Derived.MapKept
import Derived.Laws.IdiomRangeMap
import Derived.Deep.QuietTactic
import Derived.BigQuiet
import Derived.Lib.Hide
import Derived.Maps.OwnOps
import Derived.Maps.OwnSet
import Derived.Test.YtjilfabdbmfgjaaWKept
namespace Go.Proofs.Ytjilfabdbmfgjaa
open Go.RowKit Go.Proofs.YtjilfabdbmfgjaaW.PrintWords

/-- may an object of this kind be changed? -/
def touch (ts : List Nat) : Obj → Bool
  | .cells _ e _ => ts.contains e
  | .map .. => ts.contains 0
  | _ => false

/-- from w to w' only blocks from 'base' on, of the element types ts (0: maps), have changed, and new blocks have come. -/
structure Chg (ts : List Nat) (base : Nat) (w w' : World) : Prop where
  os : w'.os = w.os
  tape : w'.tape = w.tape
  output : w'.output = w.output
  size : w.heap.size ≤ w'.heap.size
  keep : ∀ (k : Nat) (o : Obj), w.heap[k]? = some o → (k < base ∨ touch ts o = false) → w'.heap[k]? = some o

theorem Chg.refl (ts : List Nat) (base : Nat) (w : World) : Chg ts base w w := ⟨rfl, rfl, rfl, Nat.le_refl _, fun _ _ h _ => h⟩
theorem Chg.trans {ts : List Nat} {base : Nat} {a b c : World} (h : Chg ts base a b) (k : Chg ts base b c) : Chg ts base a c :=
  ⟨k.os.trans h.os, k.tape.trans h.tape, k.output.trans h.output, Nat.le_trans h.size k.size, fun i o hi ho => k.keep i o (h.keep i o hi ho) ho⟩
theorem touch_mono {ts us : List Nat} (h : ∀ t, t ∈ ts → t ∈ us) {o : Obj} (ho : touch us o = false) : touch ts o = false := by
  cases o <;> simp_all [touch]
  all_goals exact fun hh => ho (h _ hh)
theorem Chg.mono {ts us : List Nat} {base base' : Nat} {a b : World} (h : Chg ts base a b) (hb : base' ≤ base) (hs : ∀ t, t ∈ ts → t ∈ us) : Chg us base' a b :=
  ⟨h.os, h.tape, h.output, h.size, fun i o hi ho => h.keep i o hi (ho.imp (fun h => by omega) (touch_mono hs))⟩
theorem Chg.of_below {ts : List Nat} {base : Nat} {a b : World} (h : Below a.heap.size a b) : Chg ts base a b :=
  ⟨h.os, h.tape, h.output, h.size, fun i _o hi _ => (h.block i (blk_lt hi)).trans hi⟩
theorem Chg.below {ts : List Nat} {base : Nat} {a b : World} (h : Chg ts base a b) (hb : base ≤ a.heap.size) : Below base a b :=
  ⟨h.os, h.tape, h.output, h.size, fun i hi => by
    have hl : i < a.heap.size := by omega
    have e := Array.getElem?_eq_getElem hl
    rw [h.keep i _ e (.inl hi), e]⟩
theorem Chg.alloc {ts : List Nat} {base : Nat} {a b : World} (h : Chg ts base a b) (o : Obj) : Chg ts base a (b.alloc o) :=
  h.trans (.of_below ((Below.refl _ _).alloc (Nat.le_refl _) o))
theorem Chg.drew {ts : List Nat} {base : Nat} {a b : World} (h : Chg ts base a b) : Chg ts base a b.drew := ⟨h.os, h.tape, h.output, h.size, h.keep⟩
theorem Chg.drewN {ts : List Nat} {base : Nat} {a b : World} (h : Chg ts base a b) (n : Nat) : Chg ts base a (b.drewN n) := ⟨h.os, h.tape, h.output, h.size, h.keep⟩
theorem heap_setCell_eq {w : World} {p : Addr} {cs : Array Value} {e : TypeId} {fz : Nat × Nat} (hp : p.spot = none) (h : w.heap[p.block]? = some (.cells cs e fz)) (v : Value) :
    (w.setCell p v).heap[p.block]? = some (.cells (cs.setIfInBounds p.off v) e fz) := by
  simp [World.setCell, Array.getElem?_modify, h, hp]
theorem Chg.setCell {ts : List Nat} {base : Nat} {a b : World} (h : Chg ts base a b) {p : Addr} {cs : Array Value} {e : TypeId} {fz : Nat × Nat}
    (hb : base ≤ p.block) (hc : b.heap[p.block]? = some (.cells cs e fz)) (ht : ts.contains e = true) (v : Value) : Chg ts base a (b.setCell p v) :=
  h.trans ⟨rfl, rfl, rfl, by simp [World.setCell], fun i o hi ho => by
    by_cases hip : i = p.block
    · subst hip
      rw [hc] at hi
      cases hi
      rcases ho with ho | ho
      · omega
      · have : ts.contains e = false := ho
        rw [this] at ht
        cases ht
    · rw [Below.heap_setCell _ _ _ _ hip]; exact hi⟩
/-- another map in a map's block -/
def World.setMap (w : World) (r : Nat) (es : Array MapEntry) (clock : Nat) : World := { w with heap := w.heap.setIfInBounds r (.map es clock) }
theorem heap_setMap_eq {w : World} {r : Nat} {o : Obj} (h : w.heap[r]? = some o) (es : Array MapEntry) (c : Nat) : (World.setMap w r es c).heap[r]? = some (.map es c) := by
  have := (Array.getElem?_eq_some_iff.1 h).1
  simp [World.setMap, this]
theorem heap_setMap_ne {w : World} {r k : Nat} (h : k ≠ r) (es : Array MapEntry) (c : Nat) : (World.setMap w r es c).heap[k]? = w.heap[k]? := by
  simp only [World.setMap]
  rw [Array.getElem?_setIfInBounds_ne (Ne.symm h)]
theorem size_setMap (w : World) (r : Nat) (es : Array MapEntry) (c : Nat) : (World.setMap w r es c).heap.size = w.heap.size := by simp [World.setMap]
theorem Chg.setMap {ts : List Nat} {base : Nat} {a b : World} (h : Chg ts base a b) {r : Nat} {es0 : Array MapEntry} {c0 : Nat}
    (hb : base ≤ r) (hc : b.heap[r]? = some (.map es0 c0)) (ht : ts.contains 0 = true) (es : Array MapEntry) (c : Nat) : Chg ts base a (World.setMap b r es c) :=
  h.trans ⟨rfl, rfl, rfl, by simp [World.setMap], fun i o hi ho => by
    by_cases hip : i = r
    · subst hip
      rw [hc] at hi
      cases hi
      rcases ho with ho | ho
      · omega
      · have : ts.contains 0 = false := ho
        rw [this] at ht
        cases ht
    · rw [heap_setMap_ne hip]; exact hi⟩
theorem heap_alloc_lt {w : World} {o : Obj} {k : Nat} {x : Obj} (h : w.heap[k]? = some x) : (w.alloc o).heap[k]? = some x :=
  (Below.heap_alloc w o k (blk_lt h)).trans h
theorem own_chg {ts : List Nat} {base : Nat} {a b : World} (h : Chg ts base a b) {bs : Nat} {e : TypeId} {sz n : Nat} {v : Value} {xs : List Value} (ho : a.ownsRow bs e sz v n xs) (he : ts.contains e = false) : b.ownsRow bs e sz v n xs :=
  own_move ho (fun k hk => by
    obtain ⟨cs, hc⟩ := own_typed ho k hk
    rw [h.keep k _ hc (.inr he), hc])

section maps
variable {P : Program} {w : World}
/-- an entry: a string and where its file lies -/
def sent (x : ByteArray × Nat × Nat) : MapEntry := { key := .string x.1, val := .pointer (some ⟨x.2.1, 0, none⟩), born := x.2.2 }
def sfind (nm : ByteArray) : List (ByteArray × Nat × Nat) → Nat → Option (Nat × Value)
  | [], _ => none
  | x :: l, i => if nm == x.1 then some (i, .pointer (some ⟨x.2.1, 0, none⟩)) else sfind nm l (i + 1)
theorem findNow_str (nm : ByteArray) : ∀ (l : List (ByteArray × Nat × Nat)) (i : Nat), Instr.findNow .string (.string nm) (l.map sent) i = some (sfind nm l i)
  | [], _ => rfl
  | x :: l, i => by
    simp only [List.map_cons, Instr.findNow, sent, Instr.sameNow, sfind]
    cases h : nm == x.1
    · exact findNow_str nm l (i + 1)
    · rfl
theorem findKey_str {k : TypeId} (hk : P.underlying k = some .string) (nm : ByteArray) (l : List (ByteArray × Nat × Nat)) : (Instr.findKey k (.string nm) (l.map sent)).run P w = .ok (sfind nm l 0) w := by
  simp only [Instr.findKey, Sem.run_bind, run_underlying hk, Result.andThen, findNow_str]
  simp
theorem chk (b : Bool) {k : TypeId} (hk : P.underlying k = some .string) (nm : ByteArray) : (Instr.checkKey b 10000 k (.string nm)).run P w = .ok () w :=
  MapKept.run_checkKey hk (d := .string) (k := .string nm) trivial b 9999
theorem run_lookup_str {t k e : TypeId} (ht : P.underlying t = some (.map k e)) (hk : P.underlying k = some .string) {z : Value} (hz : (zeroValue e).run P w = .ok z w)
    {mb clock : Nat} {l : List (ByteArray × Nat × Nat)} (hm : w.heap[mb]? = some (.map (l.map sent).toArray clock)) (nm : ByteArray) :
    (Instr.lookup t (.map (some mb)) (.string nm) false).run P w = .ok (match sfind nm l 0 with | some x => x.2 | none => z) w := by
  have hf := findKey_str (P := P) (w := w) hk nm l
  have hc := fun b => chk (P := P) (w := w) b hk nm
  cases h : sfind nm l 0 with
  | none => rw [h] at hf; simp [Instr.lookup, run_underlying ht, MapKept.run_getObj_map hm, hc, hf, hz, Result.andThen]
  | some x => rw [h] at hf; simp [Instr.lookup, run_underlying ht, MapKept.run_getObj_map hm, hc, hf, Result.andThen]
theorem sfind_none {nm : ByteArray} : ∀ {l : List (ByteArray × Nat × Nat)} {i : Nat}, (∀ x ∈ l, x.1 ≠ nm) → sfind nm l i = none
  | [], _, _ => rfl
  | x :: l, i, h => by
    have h1 : (nm == x.1) = false := by
      cases hb : nm == x.1
      · rfl
      · exact absurd ((MapKept.bytes_beq _ _).1 hb).symm (h x (by simp))
    simp only [sfind, h1]
    exact sfind_none (fun y hy => h y (by simp [hy]))
theorem sfind_at {nm : ByteArray} : ∀ {l : List (ByteArray × Nat × Nat)} {i j : Nat} {x : ByteArray × Nat × Nat}, l[j]? = some x → x.1 = nm → (l.map (·.1)).Nodup → sfind nm l i = some (i + j, .pointer (some ⟨x.2.1, 0, none⟩))
  | [], _, _, _, h, _, _ => by simp at h
  | y :: l, i, 0, x, h, hx, _ => by
    simp only [List.getElem?_cons_zero, Option.some.injEq] at h
    subst h
    have h1 : (nm == y.1) = true := (MapKept.bytes_beq _ _).2 hx.symm
    simp [sfind, h1]
  | y :: l, i, j + 1, x, h, hx, hn => by
    simp only [List.getElem?_cons_succ] at h
    simp only [List.map_cons, List.nodup_cons] at hn
    have hm : x.1 ∈ l.map (·.1) := List.mem_map.2 ⟨x, List.mem_of_getElem? h, rfl⟩
    have h1 : (nm == y.1) = false := by
      cases hb : nm == y.1
      · rfl
      · have := (MapKept.bytes_beq _ _).1 hb
        rw [← this, ← hx] at hn
        exact absurd hm hn.1
    simp only [sfind, h1, Bool.false_eq_true, if_false]
    rw [sfind_at h hx hn.2]
    congr 2
    omega
theorem run_update_push {t k e : TypeId} (ht : P.underlying t = some (.map k e)) (hk : P.underlying k = some .string)
    {mb clock : Nat} {l : List (ByteArray × Nat × Nat)} (hm : w.heap[mb]? = some (.map (l.map sent).toArray clock)) (nm : ByteArray) (hn : ∀ x ∈ l, x.1 ≠ nm) (blk : Nat) :
    (Instr.mapUpdate t (.map (some mb)) (.string nm) (.pointer (some ⟨blk, 0, none⟩))).run P w = .ok () (World.setMap w mb ((l ++ [(nm, blk, clock)]).map sent).toArray (clock + 1)) := by
  have hf := findKey_str (P := P) (w := w) hk nm l
  have hc := fun b => chk (P := P) (w := w) b hk nm
  rw [sfind_none hn] at hf
  simp [Instr.mapUpdate, run_underlying ht, MapKept.run_getObj_map hm, hc, hf, Result.andThen, MapKept.run_setObj_map _ hm, World.setMap, sent]
theorem run_update_set {t k e : TypeId} (ht : P.underlying t = some (.map k e)) (hk : P.underlying k = some .string)
    {mb clock : Nat} {l : List (ByteArray × Nat × Nat)} (hm : w.heap[mb]? = some (.map (l.map sent).toArray clock)) (nm : ByteArray) (hn : (l.map (·.1)).Nodup) {j : Nat} {x : ByteArray × Nat × Nat} (hj : l[j]? = some x) (hx : x.1 = nm) (blk : Nat) :
    (Instr.mapUpdate t (.map (some mb)) (.string nm) (.pointer (some ⟨blk, 0, none⟩))).run P w = .ok () (World.setMap w mb ((l.set j (nm, blk, x.2.2)).map sent).toArray clock) := by
  have hf := findKey_str (P := P) (w := w) hk nm l
  have hc := fun b => chk (P := P) (w := w) b hk nm
  rw [sfind_at (i := 0) hj hx hn] at hf
  have hks := fun (s : ByteArray) => MapKept.run_keyThatStays (P := P) (w := w) (d := .string) (k := .string s) trivial
  subst hx
  have hl : j < l.length := (List.getElem?_eq_some_iff.1 hj).1
  have hmod : ((l.map sent).modify j fun e => { e with key := .string x.1, val := .pointer (some ⟨blk, 0, none⟩) }) = (l.set j (x.1, blk, x.2.2)).map sent := by
    apply List.ext_getElem?
    intro i
    rw [List.getElem?_modify, List.getElem?_map, List.getElem?_map, List.getElem?_set]
    by_cases hij : j = i
    · subst hij
      have hg : l[j] = x := by rw [List.getElem?_eq_getElem hl] at hj; exact Option.some.inj hj
      simp [hl, sent, hg]
    · simp [hij]
  simp [Instr.mapUpdate, run_underlying ht, MapKept.run_getObj_map hm, hc, hf, hj, Result.andThen, MapKept.run_setObj_map _ hm, World.setMap, hks, sent]
  rw [show ((l.map sent).modify j fun e => { key := .string x.1, val := .pointer (some ⟨blk, 0, none⟩), born := e.born }) = (l.set j (x.1, blk, x.2.2)).map sent from hmod]
  simp [List.map_set, sent]
theorem map_eraseIdx' {α β : Type} (f : α → β) : ∀ (l : List α) (j : Nat), (l.map f).eraseIdx j = (l.eraseIdx j).map f
  | [], _ => rfl
  | _ :: _, 0 => rfl
  | x :: l, j + 1 => by simp [map_eraseIdx' f l j]
theorem run_delete_str {t k e ty : TypeId} (ht : P.underlying t = some (.map k e)) (hk : P.underlying k = some .string)
    {mb clock : Nat} {l : List (ByteArray × Nat × Nat)} (hm : w.heap[mb]? = some (.map (l.map sent).toArray clock)) (nm : ByteArray) (hn : (l.map (·.1)).Nodup) {j : Nat} {x : ByteArray × Nat × Nat} (hj : l[j]? = some x) (hx : x.1 = nm) :
    (Builtin.delete_ #[t, k] ty #[.map (some mb), .string nm]).run P w = .ok (.tuple #[]) (World.setMap w mb ((l.eraseIdx j).map sent).toArray clock) := by
  have hf := findKey_str (P := P) (w := w) hk nm l
  have hc := fun b => chk (P := P) (w := w) b hk nm
  rw [sfind_at (i := 0) hj hx hn] at hf
  have hl : j < l.length := (List.getElem?_eq_some_iff.1 hj).1
  simp [Builtin.delete_, run_underlying ht, MapKept.run_getObj_map hm, hc, hf, Result.andThen, MapKept.run_setObj_map _ hm, World.setMap, Array.eraseIdxIfInBounds, hl, map_eraseIdx']
theorem run_len_map {t k e ty : TypeId} (ht : P.underlying t = some (.map k e)) {mb clock : Nat} {l : List (ByteArray × Nat × Nat)} (hm : w.heap[mb]? = some (.map (l.map sent).toArray clock)) :
    (Builtin.len_ #[t] ty #[.map (some mb)]).run P w = .ok (.int .i64 (l.length : Int)) w := by
  simp [Builtin.len_, run_underlying ht, MapKept.run_getObj_map hm, goInt]
section ops
variable {ops : Array Oper} {rest : List Oper} {o : Oper} {a : Act} {Q : Exit → Act → World → Prop}
theorem lookup_is (hg : o.guard = none) (m x : Operand) (t : TypeId) (hop : o.op = Op.lookup t m x false) (mv xv : Value) (hm : a.eval m = mv) (hx : a.eval x = xv) {v : Value}
    (hrun : (Instr.lookup t mv xv false).run P w = .ok v w) (hK : wpList P ops Q rest (a.put o.dst v) w) : wpList P ops Q (o :: rest) a w := by
  refine wpList_plain hg fun K' hK' => ?_
  unfold Oper.wp
  simp [execOp, hop, hm, hx, hrun, Result.andThen]
  exact hK' _ _ hK
theorem update_is (hg : o.guard = none) (m x y : Operand) (t : TypeId) (hop : o.op = Op.mapUpdate t m x y) (mv xv yv : Value) (hm : a.eval m = mv) (hx : a.eval x = xv) (hy : a.eval y = yv) {w' : World}
    (hrun : (Instr.mapUpdate t mv xv yv).run P w = .ok () w') (hK : wpList P ops Q rest (a.put o.dst undef) w') : wpList P ops Q (o :: rest) a w := by
  refine wpList_plain hg fun K' hK' => ?_
  unfold Oper.wp
  simp [execOp, hop, hm, hx, hy, hrun, Result.andThen]
  exact hK' _ _ hK
theorem delete_is (hg : o.guard = none) (m x : Operand) (t k : TypeId) (hop : o.op = Op.call { callee := Callee.builtin Builtin.delete, args := #[m, x], argTypes := #[t, k] })
    (mv xv : Value) (hm : a.eval m = mv) (hx : a.eval x = xv) {w' : World} (hrun : (Builtin.delete_ #[t, k] o.type #[mv, xv]).run P w = .ok (.tuple #[]) w') (hK : wpList P ops Q rest (a.put o.dst (.tuple #[])) w') :
    wpList P ops Q (o :: rest) a w := by
  refine wpList_plain hg fun K' hK' => ?_
  unfold Oper.wp
  simp [execOp, hop, resolve, invoke, builtin, hm, hx, hrun, Result.andThen]
  exact hK' _ _ hK
theorem len_is (hg : o.guard = none) (m : Operand) (t : TypeId) (hop : o.op = Op.call { callee := Callee.builtin Builtin.len, args := #[m], argTypes := #[t] }) (mv : Value) (hm : a.eval m = mv) {v : Value}
    (hrun : (Builtin.len_ #[t] o.type #[mv]).run P w = .ok v w) (hK : wpList P ops Q rest (a.put o.dst v) w) : wpList P ops Q (o :: rest) a w := by
  refine wpList_plain hg fun K' hK' => ?_
  unfold Oper.wp
  simp [execOp, hop, resolve, invoke, builtin, hm, hrun, Result.andThen]
  exact hK' _ _ hK
theorem conv_is (hg : o.guard = none) (s t : TypeId) (x : Operand) (hop : o.op = Op.convert s t x) (xv : Value) (hx : a.eval x = xv) {v : Value}
    (hrun : (convert s t xv).run P w = .ok v w) (hK : wpList P ops Q rest (a.put o.dst v) w) : wpList P ops Q (o :: rest) a w := by
  refine wpList_plain hg fun K' hK' => ?_
  unfold Oper.wp
  simp [execOp, hop, hx, hrun, Result.andThen]
  exact hK' _ _ hK
end ops
end maps
end Go.Proofs.Ytjilfabdbmfgjaa
