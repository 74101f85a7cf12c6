/- Plain facts of JournalKeeps: what holds while a journal runs, and behind it. -/
import Derived.Test.YtjilfabdbmfgjaaP3
namespace Go.Proofs.Ytjilfabdbmfgjaa
open Go.RowKit Go.Proofs.YtjilfabdbmfgjaaW.PrintWords
set_option maxRecDepth 100000

/-- behind the calls: the file has a beginning of the records' bytes; the safe ones are safe. -/
structure Fin (A : ADisk) (all : List ByteArray) (safe : Nat) : Prop where
  le : safe ≤ all.length
  small : ∀ s ∈ all, s.size ≤ 4096
  file : (A.file false = none ∧ safe = 0) ∨ ∃ f, A.file false = some f ∧ f.b.toList <+: catB 0 all ∧ (catB 0 (all.take safe)).length ≤ f.safe
/-- while the journal runs -/
structure Run (A : ADisk) (J : AJ) (all : List ByteArray) : Prop where
  ok : J.broken = false
  many : J.many = all.length
  other : A.file true = none
  file : (A.file false = none ∧ all = []) ∨ ∃ f, A.file false = some f ∧ f.b = mk (catB 0 all)

theorem Fin.same {A A' : ADisk} {all : List ByteArray} {safe : Nat} (h : Fin A all safe) (e : A'.file false = A.file false) : Fin A' all safe := ⟨h.le, h.small, by rw [e]; exact h.file⟩
theorem Fin.more {A : ADisk} {all : List ByteArray} {safe : Nat} (h : Fin A all safe) (s : ByteArray) (hs : s.size ≤ 4096) : Fin A (all ++ [s]) safe := by
  have hle := h.le
  refine ⟨by rw [List.length_append]; omega, fun x hx => ?_, h.file.imp id ?_⟩
  · rcases List.mem_append.1 hx with hx | hx
    · exact h.small x hx
    · rw [List.mem_singleton.1 hx]; exact hs
  · rintro ⟨f, h1, h2, h3⟩
    refine ⟨f, h1, h2.trans ?_, ?_⟩
    · rw [catB_append]; exact List.prefix_append _ _
    · rw [List.take_append_of_le_length hle]; exact h3

theorem catB_one (n : Nat) (s : ByteArray) : catB n [s] = layB n s.toList := by simp [catB]

theorem keeps_add {A : ADisk} {J : AJ} {all : List ByteArray} {safe : Nat} (hf : Fin A all safe) (hr : Run A J all) {s : ByteArray} (hs : s.size ≤ 4096) {x : Int} {A' : ADisk} {J' : AJ} (e : addA A J s = (x, A', J')) :
    Fin A' (all ++ [s]) safe ∧ (x = 0 → Run A' J' (all ++ [s])) := by
  have hle := hf.le
  unfold addA at e
  rw [hr.ok, if_neg (by decide), if_neg (by omega)] at e
  unfold appendA at e
  by_cases hd : A.down = true
  · rw [hd, if_pos rfl] at e
    simp only [Prod.mk.injEq] at e
    obtain ⟨rfl, rfl, rfl⟩ := e
    exact ⟨hf.more s hs, fun h => by cases h⟩
  · rw [if_neg hd] at e
    have hcat : catB 0 (all ++ [s]) = catB 0 all ++ layB J.many s.toList := by rw [catB_append, Nat.zero_add, catB_one, hr.many]
    rcases hr.file with ⟨hn, rfl⟩ | ⟨f, hf1, hf2⟩
    · rw [hn] at e
      dsimp only at e
      by_cases hb : (mk (layB J.many s.toList)).size > 1048576
      · rw [if_pos hb] at e
        simp only [Prod.mk.injEq] at e
        obtain ⟨rfl, rfl, rfl⟩ := e
        exact ⟨hf.more s hs, fun h => by cases h⟩
      · rw [if_neg hb] at e
        simp only [Prod.mk.injEq] at e
        obtain ⟨rfl, rfl, rfl⟩ := e
        have hsafe : safe = 0 := by simpa using hle
        subst hsafe
        have fl : ((A.set false (some ⟨mk (layB J.many s.toList), 0⟩)).tick).file false = some ⟨mk (layB J.many s.toList), 0⟩ := by rw [tick_file, set_same]
        refine ⟨⟨Nat.zero_le _, (hf.more s hs).small, .inr ⟨_, fl, ?_, ?_⟩⟩, fun _ => ⟨rfl, ?_, ?_, .inr ⟨_, fl, ?_⟩⟩⟩
        · rw [hcat]; dsimp only; rw [mk_toList]; simp [catB]
        · simp [catB]
        · simp [hr.many]
        · rw [tick_file, set_other _ (by decide), hr.other]
        · rw [hcat]; simp [catB]
    · rw [hf1] at e
      dsimp only at e
      by_cases hb : (mk (layB J.many s.toList)).size > 1048576 - f.b.size
      · rw [if_pos hb] at e
        simp only [Prod.mk.injEq] at e
        obtain ⟨rfl, rfl, rfl⟩ := e
        exact ⟨hf.more s hs, fun h => by cases h⟩
      · rw [if_neg hb] at e
        simp only [Prod.mk.injEq] at e
        obtain ⟨rfl, rfl, rfl⟩ := e
        have fl : ((A.set false (some ⟨f.b ++ mk (layB J.many s.toList), f.safe⟩)).tick).file false = some ⟨f.b ++ mk (layB J.many s.toList), f.safe⟩ := by rw [tick_file, set_same]
        have hb' : f.b ++ mk (layB J.many s.toList) = mk (catB 0 (all ++ [s])) := by rw [hf2, mk_append, hcat]
        have hm := (hf.more s hs)
        refine ⟨⟨hm.le, hm.small, .inr ⟨_, fl, ?_, ?_⟩⟩, fun _ => ⟨rfl, ?_, ?_, .inr ⟨_, fl, hb'⟩⟩⟩
        · dsimp only; rw [hb', mk_toList]; exact List.prefix_refl _
        · dsimp only
          rcases hm.file with ⟨h1, -⟩ | ⟨g, h1, h2, h3⟩
          · rw [hf1] at h1; cases h1
          · rw [hf1] at h1
            cases h1
            exact h3
        · simp [hr.many]
        · rw [tick_file, set_other _ (by decide), hr.other]

theorem keeps_sync {A : ADisk} {J : AJ} {all : List ByteArray} {safe : Nat} (hf : Fin A all safe) (hr : Run A J all) {x : Int} {A' : ADisk} {J' : AJ} (e : syncJ A J = (x, A', J')) :
    Fin A' all safe ∧ (x = 0 → Fin A' all all.length ∧ Run A' J' all) := by
  unfold syncJ at e
  rw [hr.ok, if_neg (by decide)] at e
  by_cases hm : J.many = 0
  · rw [if_pos hm] at e
    simp only [Prod.mk.injEq] at e
    obtain ⟨rfl, rfl, rfl⟩ := e
    have h0 : all.length = 0 := by rw [← hr.many, hm]
    have hs0 : safe = all.length := by have := hf.le; omega
    exact ⟨hf, fun _ => ⟨hs0 ▸ hf, hr⟩⟩
  · rw [if_neg hm] at e
    unfold syncA opA at e
    by_cases hd : A.down = true
    · rw [hd, if_pos rfl] at e
      simp only [Prod.mk.injEq] at e
      obtain ⟨rfl, rfl, rfl⟩ := e
      exact ⟨hf, fun h => by cases h⟩
    · rw [if_neg hd] at e
      rcases hr.file with ⟨hn, rfl⟩ | ⟨f, hf1, hf2⟩
      · exact absurd hr.many hm
      · rw [hf1] at e
        simp only [Prod.mk.injEq] at e
        obtain ⟨rfl, rfl, rfl⟩ := e
        have fl : ((A.set false (some ⟨f.b, f.b.size⟩)).tick).file false = some ⟨f.b, f.b.size⟩ := by rw [tick_file, set_same]
        have hl : (catB 0 all).length = f.b.size := by rw [hf2, mk_size]
        have hp : f.b.toList <+: catB 0 all := by rw [hf2, mk_toList]; exact List.prefix_refl _
        refine ⟨⟨hf.le, hf.small, .inr ⟨_, fl, hp, ?_⟩⟩, fun _ => ⟨⟨Nat.le_refl _, hf.small, .inr ⟨_, fl, hp, ?_⟩⟩, ⟨rfl, ?_, ?_, .inr ⟨_, fl, hf2⟩⟩⟩⟩
        · dsimp only
          rw [← hl]
          conv => rhs; rw [← List.take_append_drop safe all, catB_append, List.length_append]
          omega
        · dsimp only; rw [List.take_length, hl]; exact Nat.le_refl _
        · exact hr.many
        · rw [tick_file, set_other _ (by decide), hr.other]

theorem keeps_renew {A : ADisk} {J : AJ} {all : List ByteArray} {safe : Nat} (hf : Fin A all safe) (hr : Run A J all) {m : List ByteArray} (hm : ∀ s ∈ m, s.size ≤ 4096) {x : Int} {A' : ADisk} {J' : AJ} (e : renewA A J m = (x, A', J')) :
    (x ≠ 0 → Fin A' all safe) ∧ (x = 0 → Fin A' m m.length ∧ Run A' J' m) := by
  unfold renewA at e
  rw [hr.ok, if_neg (by decide)] at e
  cases e1 : appendA A true (mk (catB 0 m)) with
  | mk x1 A1 =>
  rw [e1] at e
  dsimp only at e
  have h1 : (x1 ≠ 0 → A1.file false = A.file false) ∧ (x1 = 0 → A1.file false = A.file false ∧ A1.file true = some ⟨mk (catB 0 m), 0⟩) := by
    unfold appendA at e1
    by_cases hd : A.down = true
    · rw [hd, if_pos rfl] at e1
      simp only [Prod.mk.injEq] at e1
      obtain ⟨rfl, rfl⟩ := e1
      exact ⟨fun _ => rfl, fun h => by cases h⟩
    · rw [if_neg hd, hr.other] at e1
      dsimp only at e1
      by_cases hb : (mk (catB 0 m)).size > 1048576
      · rw [if_pos hb] at e1
        simp only [Prod.mk.injEq] at e1
        obtain ⟨rfl, rfl⟩ := e1
        exact ⟨fun _ => rfl, fun h => by cases h⟩
      · rw [if_neg hb] at e1
        simp only [Prod.mk.injEq] at e1
        obtain ⟨rfl, rfl⟩ := e1
        exact ⟨fun h => absurd rfl h, fun _ => ⟨by rw [tick_file, set_other _ (by decide)], by rw [tick_file, set_same]⟩⟩
  by_cases z1 : x1 = 0
  · subst z1
    obtain ⟨h1a, h1b⟩ := h1.2 rfl
    cases e2 : syncA A1 true with
    | mk x2 A2 =>
    rw [e2] at e
    dsimp only at e
    rw [if_neg (by decide)] at e
    have h2 : (x2 ≠ 0 → A2.file false = A.file false) ∧ (x2 = 0 → A2.file false = A.file false ∧ A2.file true = some ⟨mk (catB 0 m), (mk (catB 0 m)).size⟩) := by
      unfold syncA opA at e2
      by_cases hd : A1.down = true
      · rw [hd, if_pos rfl] at e2
        simp only [Prod.mk.injEq] at e2
        obtain ⟨rfl, rfl⟩ := e2
        exact ⟨fun _ => h1a, fun h => by cases h⟩
      · rw [if_neg hd, h1b] at e2
        simp only [Prod.mk.injEq] at e2
        obtain ⟨rfl, rfl⟩ := e2
        exact ⟨fun h => absurd rfl h, fun _ => ⟨by rw [tick_file, set_other _ (by decide), h1a], by rw [tick_file, set_same]⟩⟩
    by_cases z2 : x2 = 0
    · subst z2
      obtain ⟨h2a, h2b⟩ := h2.2 rfl
      cases e3 : renameA A2 with
      | mk x3 A3 =>
      rw [e3] at e
      dsimp only at e
      rw [if_neg (by decide)] at e
      unfold renameA opA at e3
      by_cases hd : A2.down = true
      · rw [hd, if_pos rfl] at e3
        simp only [Prod.mk.injEq] at e3
        obtain ⟨rfl, rfl⟩ := e3
        rw [if_pos (by decide)] at e
        simp only [Prod.mk.injEq] at e
        obtain ⟨rfl, rfl, rfl⟩ := e
        exact ⟨fun _ => hf.same h2a, fun h => by cases h⟩
      · rw [if_neg hd, h2b] at e3
        simp only [Prod.mk.injEq] at e3
        obtain ⟨rfl, rfl⟩ := e3
        rw [if_neg (by decide)] at e
        simp only [Prod.mk.injEq] at e
        obtain ⟨rfl, rfl, rfl⟩ := e
        refine ⟨fun h => absurd rfl h, fun _ => ?_⟩
        have fl : (((A2.set true none).set false (some ⟨mk (catB 0 m), (mk (catB 0 m)).size⟩)).tick).file false = some ⟨mk (catB 0 m), (mk (catB 0 m)).size⟩ := by rw [tick_file, set_same]
        refine ⟨⟨Nat.le_refl _, hm, .inr ⟨_, fl, ?_, ?_⟩⟩, ⟨rfl, rfl, ?_, .inr ⟨_, fl, rfl⟩⟩⟩
        · dsimp only; rw [mk_toList]; exact List.prefix_refl _
        · dsimp only; rw [List.take_length, mk_size]; exact Nat.le_refl _
        · rw [tick_file, set_other _ (by decide), set_same]
    · rw [if_pos (by simp [z2])] at e
      simp only [Prod.mk.injEq] at e
      obtain ⟨rfl, rfl, rfl⟩ := e
      exact ⟨fun _ => hf.same (h2.1 z2), fun h => absurd h z2⟩
  · rw [if_pos (by simp [z1])] at e
    simp only [Prod.mk.injEq] at e
    obtain ⟨rfl, rfl, rfl⟩ := e
    exact ⟨fun _ => hf.same (h1.1 z1), fun h => absurd h z1⟩

theorem clamp_le (k : Int) (r : Nat) : clamp k r ≤ r := by
  unfold clamp
  split
  · omega
  · split
    · omega
    · omega

/-- behind a crash, opened again -/
theorem keeps_end {A : ADisk} {all : List ByteArray} {safe : Nat} (hf : Fin A all safe) (hs : ∀ f, A.file false = some f → f.safe ≤ f.b.size ∧ f.b.size ≤ 1048576) (ks : List Int) :
    ∃ A' J' k, openA (crashA A ks) = (0, A', some (J', all.take k)) ∧ safe ≤ k ∧ k ≤ all.length := by
  rcases hf.file with ⟨hn, hs0⟩ | ⟨f, h1, h2, h3⟩
  · have fn : (crashA A ks).file false = none := by unfold crashA; dsimp only; rw [hn]; rfl
    obtain ⟨A', e, -⟩ := open_live0 (A := crashA A ks) rfl fn
    exact ⟨A', _, 0, e, by omega, Nat.zero_le _⟩
  · obtain ⟨hs1, hs2⟩ := hs f h1
    have fn : ∃ c, (crashA A ks).file false = some ⟨f.b.extract 0 (f.safe + c), f.safe + c⟩ ∧ f.safe + c ≤ f.b.size := by
      refine ⟨clamp (keepAt ks (if (false && (A.file false).isSome) = true then 1 else 0)) (f.b.size - f.safe), ?_, ?_⟩
      · unfold crashA
        dsimp only
        rw [h1]
        rfl
      · have := clamp_le (keepAt ks (if (false && (A.file false).isSome) = true then 1 else 0)) (f.b.size - f.safe)
        omega
    obtain ⟨c, fc, hc⟩ := fn
    have ht : (f.b.extract 0 (f.safe + c)).toList = f.b.toList.take (f.safe + c) := by rw [toList_extract, List.drop_zero, Nat.sub_zero]
    have hp : (f.b.extract 0 (f.safe + c)).toList <+: catB 0 all := by rw [ht]; exact (List.take_prefix _ _).trans h2
    obtain ⟨k, k1, k2, k3⟩ := parse_prefix all 0 _ hf.small hp
    obtain ⟨A', e, -⟩ := open_live (A := crashA A ks) rfl fc (by dsimp only; rw [ByteArray.size_extract]; omega)
    dsimp only at e
    rw [k2] at e
    refine ⟨A', _, k, e, k3 safe hf.le ?_, k1⟩
    rw [ht, List.length_take, toList_length]
    omega
end Go.Proofs.Ytjilfabdbmfgjaa
