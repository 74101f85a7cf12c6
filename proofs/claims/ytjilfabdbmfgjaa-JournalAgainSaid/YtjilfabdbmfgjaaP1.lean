/- Plain facts: a beginning of records' bytes. -/
import Derived.Test.YtjilfabdbmfgjaaP0
namespace Go.Proofs.Ytjilfabdbmfgjaa
open Go.RowKit Go.Proofs.YtjilfabdbmfgjaaW.PrintWords
set_option maxRecDepth 100000

/-- a proper beginning of a record is none -/
theorem parse_part (i : Nat) (s t : List UInt8) (hs : s.length ≤ 4096) (hp : t <+: layB i s) (hl : t.length < (layB i s).length) : parseL i t = ([], 0) := by
  obtain ⟨r, hr⟩ := hp
  have h4 : (be4 (crcI (numB i ++ s))).length = 4 := rfl
  have hll : (layB i s).length = (numB s.length).length + 4 + s.length := by simp [layB, h4]; omega
  have hlay : layB i s = numB s.length ++ (be4 (crcI (numB i ++ s)) ++ s) := by simp [layB]
  by_cases hc : (numB s.length).length ≤ t.length
  · have ht : t = numB s.length ++ t.drop (numB s.length).length := by
      have h1 : t.take (numB s.length).length = numB s.length := by
        have := congrArg (List.take (numB s.length).length) hr
        rw [List.take_append_of_le_length hc, hlay, List.take_left] at this
        exact this
      conv => lhs; rw [← List.take_append_drop (numB s.length).length t, h1]
    have hrd : rdNum t = some (s.length, (numB s.length).length) := by rw [ht, rdNum_numB s.length (by omega)]
    exact parseL_big hrd (.inr (by omega))
  · refine parseL_none ?_
    have hlen : (beD s.length).length ≤ 8 := beD_length 8 s.length (by omega)
    have hul : (u8s (beD s.length)).length = (beD s.length).length := by simp [u8s]
    have hnl : (numB s.length).length = (beD s.length).length + 1 := by simp [numB, u8s]
    cases t with
    | nil => rfl
    | cons a t =>
      have ha : a = UInt8.ofNat (beD s.length).length := by
        have := congrArg (fun l => l.head?) hr
        rw [hlay] at this
        simpa [numB] using this
      have hk : a.toNat = (beD s.length).length := by rw [ha]; simp; omega
      simp only [rdNum, hk]
      rw [if_neg (by omega), if_pos (by simp only [List.length_cons] at hc; omega)]

/-- a beginning of records' bytes has a beginning of the records -/
theorem parse_prefix : ∀ (all : List ByteArray) (i : Nat) (t : List UInt8), (∀ s ∈ all, s.size ≤ 4096) → t <+: catB i all →
    ∃ k, k ≤ all.length ∧ (parseL i t).1.map mk = all.take k ∧ ∀ j, j ≤ all.length → (catB i (all.take j)).length ≤ t.length → j ≤ k := by
  intro all
  induction all with
  | nil =>
    intro i t _ ht
    obtain rfl : t = [] := by simpa [catB] using ht
    exact ⟨0, Nat.le_refl _, by rw [parse_nil]; rfl, fun j hj _ => hj⟩
  | cons s all ih =>
    intro i t hsm ht
    have hs : s.toList.length ≤ 4096 := by rw [toList_length]; exact hsm s List.mem_cons_self
    obtain ⟨r, hr⟩ := ht
    rw [catB] at hr
    by_cases hc : (layB i s.toList).length ≤ t.length
    · have h1 : t.take (layB i s.toList).length = layB i s.toList := by
        have := congrArg (List.take (layB i s.toList).length) hr
        rw [List.take_append_of_le_length hc, List.take_left] at this
        exact this
      have h2 : t.drop (layB i s.toList).length ++ r = catB (i + 1) all := by
        have := congrArg (List.drop (layB i s.toList).length) hr
        rw [List.drop_append_of_le_length hc, List.drop_left] at this
        exact this
      have ht : t = layB i s.toList ++ t.drop (layB i s.toList).length := by
        conv => lhs; rw [← List.take_append_drop (layB i s.toList).length t, h1]
      obtain ⟨k, hk, hp, hj⟩ := ih (i + 1) _ (fun x hx => hsm x (List.mem_cons_of_mem _ hx)) ⟨r, h2⟩
      refine ⟨k + 1, by simp only [List.length_cons]; omega, ?_, ?_⟩
      · rw [ht, parse_lay i s.toList _ hs]
        show mk s.toList :: _ = _
        rw [hp, List.take_succ_cons]
        exact congrArg (· :: _) (ba_mk s).symm
      · intro j hjl hle
        cases j with
        | zero => omega
        | succ j =>
          rw [List.take_succ_cons, catB, List.length_append] at hle
          have := hj j (by simp only [List.length_cons] at hjl; omega) (by rw [List.length_drop]; omega)
          omega
    · have hp : t <+: layB i s.toList := by
        refine List.prefix_of_prefix_length_le ⟨r, hr⟩ ⟨_, rfl⟩ (by omega)
      refine ⟨0, Nat.zero_le _, ?_, ?_⟩
      · rw [parse_part i s.toList t hs hp (by omega)]; rfl
      · intro j hjl hle
        cases j with
        | zero => omega
        | succ j =>
          rw [List.take_succ_cons, catB, List.length_append] at hle
          omega
end Go.Proofs.Ytjilfabdbmfgjaa
