/- Plain facts: what Open answers on a disk that counts no operations. -/
import Derived.Test.YtjilfabdbmfgjaaJ3
import Derived.Test.YtjilfabdbmfgjaaP0
namespace Go.Proofs.Ytjilfabdbmfgjaa
open Go.RowKit Go.Proofs.YtjilfabdbmfgjaaW.PrintWords
set_option maxRecDepth 100000

theorem live_down {A : ADisk} (hl : A.lim = none) : A.down = false := by unfold ADisk.down; rw [hl]; rfl
theorem live_tick {A : ADisk} (hl : A.lim = none) : A.tick.lim = none := by unfold ADisk.tick; rw [hl]; rfl
theorem tick_file (A : ADisk) : A.tick.file = A.file := rfl
theorem set_lim (A : ADisk) (i : Bool) (f : Option FB) : (A.set i f).lim = A.lim := rfl
theorem set_same (A : ADisk) (i : Bool) (f : Option FB) : (A.set i f).file i = f := by simp [ADisk.set]
theorem set_other (A : ADisk) {i j : Bool} (h : j ≠ i) (f : Option FB) : (A.set i f).file j = A.file j := by simp [ADisk.set, h]

theorem remove_live {A : ADisk} (hl : A.lim = none) : ∃ x A1, removeA A true = (x, A1) ∧ (x = 0 ∨ x = 34) ∧ A1.lim = none ∧ A1.file true = none ∧ A1.file false = A.file false := by
  unfold removeA opA
  rw [live_down hl]
  cases h : A.file true with
  | none => exact ⟨34, A, rfl, .inr rfl, hl, h, rfl⟩
  | some f =>
    refine ⟨0, _, rfl, .inl rfl, live_tick (by rw [set_lim, hl]), ?_, ?_⟩
    · rw [tick_file, set_same]
    · rw [tick_file, set_other _ (by decide)]

theorem renew_live {A : ADisk} (hl : A.lim = none) (ht : A.file true = none) {J : AJ} (hJ : J.broken = false) (l : List ByteArray) (hs : (catB 0 l).length ≤ 1048576) :
    ∃ A2, renewA A J l = (0, A2, ⟨l.length, l.length, false⟩) ∧ A2.lim = none ∧ A2.file true = none ∧ A2.file false = some ⟨mk (catB 0 l), (catB 0 l).length⟩ := by
  have hsz : (mk (catB 0 l)).size = (catB 0 l).length := ba_size _
  have e1 : appendA A true (mk (catB 0 l)) = (0, (A.set true (some ⟨mk (catB 0 l), 0⟩)).tick) := by
    unfold appendA
    rw [live_down hl, ht, if_neg (by decide), if_neg (by omega)]
  have l1 : (A.set true (some ⟨mk (catB 0 l), 0⟩)).tick.lim = none := live_tick (by rw [set_lim, hl])
  generalize hA1 : (A.set true (some ⟨mk (catB 0 l), 0⟩)).tick = A1 at *
  have f1 : A1.file true = some ⟨mk (catB 0 l), 0⟩ := by rw [← hA1, tick_file, set_same]
  have e2 : syncA A1 true = (0, (A1.set true (some ⟨mk (catB 0 l), (mk (catB 0 l)).size⟩)).tick) := by
    unfold syncA opA
    rw [live_down l1, f1]
    rfl
  have l2 : (A1.set true (some ⟨mk (catB 0 l), (mk (catB 0 l)).size⟩)).tick.lim = none := live_tick (by rw [set_lim, l1])
  generalize hA2 : (A1.set true (some ⟨mk (catB 0 l), (mk (catB 0 l)).size⟩)).tick = A2 at *
  have f2 : A2.file true = some ⟨mk (catB 0 l), (mk (catB 0 l)).size⟩ := by rw [← hA2, tick_file, set_same]
  have e3 : renameA A2 = (0, ((A2.set true none).set false (some ⟨mk (catB 0 l), (mk (catB 0 l)).size⟩)).tick) := by
    unfold renameA opA
    rw [live_down l2, f2]
    rfl
  refine ⟨((A2.set true none).set false (some ⟨mk (catB 0 l), (mk (catB 0 l)).size⟩)).tick, ?_, live_tick (by rw [set_lim, set_lim, l2]), ?_, ?_⟩
  · unfold renewA
    rw [hJ, e1]
    dsimp only
    rw [e2]
    dsimp only
    rw [e3]
    rfl
  · rw [tick_file, set_other _ (by decide), set_same]
  · rw [tick_file, set_same, hsz]

theorem read_live {A : ADisk} (hl : A.lim = none) : readA A false = match A.file false with | none => (⟨#[]⟩, 34) | some f => (f.b, 0) := by
  unfold readA
  rw [live_down hl]
  rfl

theorem open_live {A : ADisk} (hl : A.lim = none) {f : FB} (hf : A.file false = some f) (hs : f.b.size ≤ 1048576) :
    ∃ A2, openA A = (0, A2, some (⟨(parseL 0 f.b.toList).1.length, (parseL 0 f.b.toList).1.length, false⟩, (parseL 0 f.b.toList).1.map mk)) ∧ A2.lim = none ∧ A2.file true = none ∧
      A2.file false = some ⟨mk (catB 0 ((parseL 0 f.b.toList).1.map mk)), (catB 0 ((parseL 0 f.b.toList).1.map mk)).length⟩ := by
  obtain ⟨x, A1, e1, hx, l1, t1, f1⟩ := remove_live hl
  have hr := read_live l1
  rw [f1, hf] at hr
  dsimp only at hr
  obtain ⟨h1, h2, h3, h4⟩ := parse_cat f.b.toList.length 0 f.b.toList (Nat.le_refl _)
  rw [toList_length] at h2
  have hx' : (x != 0 && x != 34) = false := by rcases hx with rfl | rfl <;> rfl
  unfold openA
  rw [e1]
  dsimp only
  rw [hx', hr]
  dsimp only
  by_cases hn : (parseL 0 f.b.toList).2 < f.b.size
  · have hc : (catB 0 ((parseL 0 f.b.toList).1.map mk)).length ≤ 1048576 := by rw [h1, List.length_take]; omega
    obtain ⟨A2, q1, q2, q3, q4⟩ := renew_live l1 t1 (J := ⟨(parseL 0 f.b.toList).1.length, (parseL 0 f.b.toList).1.length, false⟩) rfl _ hc
    refine ⟨A2, ?_, q2, q3, q4⟩
    rw [if_pos hn, q1, List.length_map]
    rfl
  · have hcat : catB 0 ((parseL 0 f.b.toList).1.map mk) = f.b.toList := by rw [h1, List.take_of_length_le (by rw [toList_length]; omega)]
    have hmk : mk f.b.toList = f.b := (ba_mk f.b).symm
    have es : syncA A1 false = (0, (A1.set false (some ⟨f.b, f.b.size⟩)).tick) := by
      unfold syncA opA
      rw [live_down l1, f1, hf]
      rfl
    refine ⟨(A1.set false (some ⟨f.b, f.b.size⟩)).tick, ?_, live_tick (by rw [set_lim, l1]), ?_, ?_⟩
    · rw [if_neg hn, es]
      rfl
    · rw [tick_file, set_other _ (by decide), t1]
    · rw [tick_file, set_same, hcat, hmk, toList_length]

theorem open_live0 {A : ADisk} (hl : A.lim = none) (hf : A.file false = none) :
    ∃ A2, openA A = (0, A2, some (⟨0, 0, false⟩, [])) ∧ A2.lim = none ∧ A2.file true = none ∧ A2.file false = none := by
  obtain ⟨x, A1, e1, hx, l1, t1, f1⟩ := remove_live hl
  have hr := read_live l1
  rw [f1, hf] at hr
  dsimp only at hr
  have hx' : (x != 0 && x != 34) = false := by rcases hx with rfl | rfl <;> rfl
  refine ⟨A1, ?_, l1, t1, by rw [f1, hf]⟩
  unfold openA
  rw [e1]
  dsimp only
  rw [hx', hr]
  rfl

/-- a crash leaves a whole safe file as it is -/
theorem crash_safe {A : ADisk} {f : FB} (hf : A.file false = some f) (hs : f.safe = f.b.size) (ks : List Int) : (crashA A ks).file false = some f := by
  unfold crashA
  dsimp only
  rw [hf]
  show some (crashFile f _) = some f
  unfold crashFile
  have : f.b.size - f.safe = 0 := by omega
  rw [this]
  have hc : ∀ k, clamp k 0 = 0 := by intro k; unfold clamp; split; rfl; split; omega; rfl
  rw [hc, hs]
  congr 1
  have : f.b.extract 0 (f.b.size + 0) = f.b := by simp
  rw [this, Nat.add_zero, ← hs]
end Go.Proofs.Ytjilfabdbmfgjaa
