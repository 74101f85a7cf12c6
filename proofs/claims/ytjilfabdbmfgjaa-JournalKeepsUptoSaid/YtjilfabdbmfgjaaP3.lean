/- Plain facts: Add and Sync on a disk that counts no operations; what awake does. -/
import Derived.Test.YtjilfabdbmfgjaaP2
namespace Go.Proofs.Ytjilfabdbmfgjaa
open Go.RowKit Go.Proofs.YtjilfabdbmfgjaaW.PrintWords Go.Proofs.Ytjilfabdbmfgjaa.PJournalOrder
set_option maxRecDepth 100000

/-- a disk that counts no operations, with these bytes in its one file -/
structure St (A : ADisk) (b : List UInt8) (sf : Nat) : Prop where
  lim : A.lim = none
  other : A.file true = none
  this : (A.file false = none ∧ b = [] ∧ sf = 0) ∨ A.file false = some ⟨mk b, sf⟩

theorem mk_append (a b : List UInt8) : mk a ++ mk b = mk (a ++ b) := ba_append a b
theorem mk_size (a : List UInt8) : (mk a).size = a.length := ba_size a

theorem add_st {A : ADisk} {b : List UInt8} {sf : Nat} (h : St A b sf) {J : AJ} (hJ : J.broken = false) {s : ByteArray} (hs : s.size ≤ 4096) (hl : b.length + (layB J.many s.toList).length ≤ 1048576) :
    ∃ A', addA A J s = (0, A', ⟨J.many + 1, J.synced, false⟩) ∧ St A' (b ++ layB J.many s.toList) sf := by
  have hz := mk_size (layB J.many s.toList)
  rcases h.this with ⟨hn, rfl, rfl⟩ | hf
  · refine ⟨(A.set false (some ⟨mk (layB J.many s.toList), 0⟩)).tick, ?_, live_tick (by rw [set_lim, h.lim]), ?_, .inr ?_⟩
    · unfold addA appendA
      rw [hJ, live_down h.lim, hn, if_neg (by decide), if_neg (by omega), if_neg (by decide)]
      dsimp only
      rw [if_neg (by omega)]
      rfl
    · rw [tick_file, set_other _ (by decide), h.other]
    · rw [tick_file, set_same]; rfl
  · refine ⟨(A.set false (some ⟨mk b ++ mk (layB J.many s.toList), sf⟩)).tick, ?_, live_tick (by rw [set_lim, h.lim]), ?_, .inr ?_⟩
    · unfold addA appendA
      rw [hJ, live_down h.lim, hf, if_neg (by decide), if_neg (by omega), if_neg (by decide)]
      dsimp only
      rw [if_neg (by rw [mk_size, mk_size]; omega)]
      rfl
    · rw [tick_file, set_other _ (by decide), h.other]
    · rw [tick_file, set_same, mk_append]

theorem sync_st {A : ADisk} {b : List UInt8} {sf : Nat} (h : St A b sf) {J : AJ} (hJ : J.broken = false) (hm : J.many ≠ 0) (hb : b ≠ []) :
    ∃ A', syncJ A J = (0, A', ⟨J.many, J.many, false⟩) ∧ St A' b b.length := by
  rcases h.this with ⟨hn, rfl, rfl⟩ | hf
  · exact absurd rfl hb
  · refine ⟨(A.set false (some ⟨mk b, (mk b).size⟩)).tick, ?_, live_tick (by rw [set_lim, h.lim]), ?_, .inr ?_⟩
    · unfold syncJ syncA opA
      rw [hJ, live_down h.lim, hf, if_neg (by decide), if_neg hm]
      rfl
    · rw [tick_file, set_other _ (by decide), h.other]
    · rw [tick_file, set_same, mk_size]

theorem crash_st {A : ADisk} {b : List UInt8} {sf : Nat} (h : A.file false = some ⟨mk b, sf⟩) (ks : List Int) :
    (crashA A ks).lim = none ∧ (crashA A ks).file false = some ⟨mk (b.take (sf + clamp (keepAt ks 0) (b.length - sf))), sf + clamp (keepAt ks 0) (b.length - sf)⟩ := by
  refine ⟨rfl, ?_⟩
  unfold crashA
  dsimp only
  rw [h]
  show some (crashFile ⟨mk b, sf⟩ (keepAt ks 0)) = _
  unfold crashFile
  dsimp only
  rw [mk_size]
  congr 2
  rw [ba_mk ((mk b).extract 0 _), toList_extract, mk_toList]
  rfl

def emptyA : ADisk := { lim := none, file := fun _ => none }
theorem st_empty {A : ADisk} (hl : A.lim = none) (ht : A.file true = none) (hf : A.file false = none) : St A [] 0 := ⟨hl, ht, .inl ⟨hf, rfl, rfl⟩⟩

def bA : ByteArray := ⟨#[97]⟩
def bB : ByteArray := ⟨#[98]⟩
def bC : ByteArray := ⟨#[99]⟩

theorem lay1_length (i : Nat) (hi : i < 9223372036854775808) (s : ByteArray) (hs : s.size = 1) : (layB i s.toList).length ≤ 14 ∧ 5 ≤ (layB i s.toList).length := by
  have hl : s.toList.length = 1 := by rw [toList_length, hs]
  have := layB_length i hi s.toList (by omega)
  refine ⟨by omega, ?_⟩
  simp [layB, be4, hl]

theorem awake_plain : ∃ A1 A2 A3 A4 A5 A7 J7, openA emptyA = (0, A1, some (⟨0, 0, false⟩, [])) ∧ addA A1 ⟨0, 0, false⟩ bA = (0, A2, ⟨1, 0, false⟩) ∧ addA A2 ⟨1, 0, false⟩ bB = (0, A3, ⟨2, 0, false⟩) ∧
    syncJ A3 ⟨2, 0, false⟩ = (0, A4, ⟨2, 2, false⟩) ∧ addA A4 ⟨2, 2, false⟩ bC = (0, A5, ⟨3, 2, false⟩) ∧ openA (crashA A5 [3]) = (0, A7, some (J7, [bA, bB])) := by
  obtain ⟨A1, e1, q1, q2, q3⟩ := open_live0 (A := emptyA) rfl rfl
  have a1 := lay1_length 0 (by omega) bA rfl
  have a2 := lay1_length 1 (by omega) bB rfl
  have a3 := lay1_length 2 (by omega) bC rfl
  obtain ⟨A2, e2, s2⟩ := add_st (st_empty q1 q2 q3) (J := ⟨0, 0, false⟩) rfl (s := bA) (by decide) (by simp only [List.length_nil]; omega)
  obtain ⟨A3, e3, s3⟩ := add_st s2 (J := ⟨1, 0, false⟩) rfl (s := bB) (by decide) (by simp only [List.length_nil, List.length_append]; omega)
  obtain ⟨A4, e4, s4⟩ := sync_st s3 (J := ⟨2, 0, false⟩) rfl (by decide) (by
    intro h
    have := congrArg List.length h
    simp only [List.length_nil, List.length_append] at this
    omega)
  obtain ⟨A5, e5, s5⟩ := add_st s4 (J := ⟨2, 2, false⟩) rfl (s := bC) (by decide) (by simp only [List.length_nil, List.length_append]; omega)
  have hcat : [] ++ layB 0 bA.toList ++ layB 1 bB.toList = catB 0 [bA, bB] := by simp [catB]
  rw [hcat] at s5
  have f5 : A5.file false = some ⟨mk (catB 0 [bA, bB] ++ layB 2 bC.toList), (catB 0 [bA, bB]).length⟩ := by
    rcases s5.this with ⟨-, h, -⟩ | h
    · have := congrArg List.length h
      simp only [List.length_nil, List.length_append] at this
      omega
    · exact h
  obtain ⟨c1, c2⟩ := crash_st f5 [3]
  have hk : clamp (keepAt [3] 0) ((catB 0 [bA, bB] ++ layB 2 bC.toList).length - (catB 0 [bA, bB]).length) = 3 := by
    rw [List.length_append, Nat.add_sub_cancel_left]
    show clamp 3 _ = 3
    unfold clamp
    rw [if_neg (by omega), if_pos (by omega)]
    rfl
  rw [hk, List.take_append, List.take_of_length_le (by omega), Nat.add_sub_cancel_left] at c2
  have hp := parse_catB [bA, bB] 0 ((layB 2 bC.toList).take 3) (by intro s hs; simp only [List.mem_cons, List.not_mem_nil, or_false] at hs; rcases hs with rfl | rfl <;> decide)
  have hpart : parseL (0 + [bA, bB].length) ((layB 2 bC.toList).take 3) = ([], 0) := parse_part 2 bC.toList _ (by rw [toList_length]; decide) (List.take_prefix _ _) (by rw [List.length_take]; omega)
  rw [hpart] at hp
  obtain ⟨A7, e7, -, -, -⟩ := open_live c1 c2 (by rw [mk_size, List.length_append, List.length_take]; simp only [catB, List.length_append, List.length_nil, Nat.zero_add]; omega)
  dsimp only at e7
  rw [mk_toList, hp] at e7
  have hm : ([bA, bB].map ByteArray.toList ++ []).map mk = [bA, bB] := by rw [List.append_nil, map_mk_toList]
  rw [hm] at e7
  exact ⟨A1, A2, A3, A4, A5, A7, _, e1, e2, e3, e4, e5, e7⟩
end Go.Proofs.Ytjilfabdbmfgjaa
