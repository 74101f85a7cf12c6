/- Plain facts on the records that bytes have. -/
import Derived.Test.YtjilfabdbmfgjaaN3
namespace Go.Proofs.Ytjilfabdbmfgjaa
open Go.RowKit Go.Proofs.YtjilfabdbmfgjaaW.PrintWords
set_option maxRecDepth 100000

/-- the bytes of records from number i on -/
def catB : Nat → List ByteArray → List UInt8
  | _, [] => []
  | i, s :: l => layB i s.toList ++ catB (i + 1) l
theorem catB_append (l m : List ByteArray) : ∀ i, catB i (l ++ m) = catB i l ++ catB (i + l.length) m := by
  induction l with
  | nil => intro i; simp [catB]
  | cons s l ih =>
    intro i
    simp only [List.cons_append, catB, List.length_cons]
    rw [ih (i + 1), List.append_assoc, show i + 1 + l.length = i + (l.length + 1) by omega]
theorem catB_snoc (l : List ByteArray) (p : Nat) (hp : p < l.length) : catB 0 (l.take (p + 1)) = catB 0 (l.take p) ++ layB p l[p].toList := by
  rw [List.take_succ_eq_append_getElem hp, catB_append, Nat.zero_add, List.length_take, Nat.min_eq_left (by omega)]
  simp [catB]

theorem mk_toList (l : List UInt8) : (mk l).toList = l := by
  unfold mk
  exact ByteArray.toList_mk ..

theorem parse_cat : ∀ (m i : Nat) (l : List UInt8), l.length ≤ m →
    catB i ((parseL i l).1.map mk) = l.take (parseL i l).2 ∧ (parseL i l).2 ≤ l.length ∧ (∀ r ∈ (parseL i l).1, r.length ≤ 4096) ∧ (parseL i l).1.length ≤ (parseL i l).2 := by
  intro m
  induction m with
  | zero =>
    intro i l hl
    obtain rfl : l = [] := List.eq_nil_of_length_eq_zero (by omega)
    rw [parseL_none rfl]
    exact ⟨rfl, Nat.le_refl _, fun r hr => absurd hr List.not_mem_nil, Nat.le_refl _⟩
  | succ m ih =>
    intro i l hl
    have hz : catB i (([] : List (List UInt8)).map mk) = l.take 0 ∧ 0 ≤ l.length ∧ (∀ r ∈ ([] : List (List UInt8)), r.length ≤ 4096) ∧ ([] : List (List UInt8)).length ≤ 0 :=
      ⟨rfl, Nat.zero_le _, fun r hr => absurd hr List.not_mem_nil, Nat.le_refl _⟩
    cases hrd : rdNum l with
    | none => rw [parseL_none hrd]; exact hz
    | some nu =>
      obtain ⟨n, u⟩ := nu
      by_cases hb : 4096 < n ∨ l.length < u + 4 + n
      · rw [parseL_big hrd hb]; exact hz
      · by_cases hl2 : layB i ((l.drop (u + 4)).take n) = l.take (u + 4 + n)
        · rw [parseL_more hrd hb hl2]
          obtain ⟨h1, h2, h3, h4⟩ := ih (i + 1) (l.drop (u + 4 + n)) (by rw [List.length_drop]; omega)
          rw [List.length_drop] at h2
          refine ⟨?_, ?_, ?_, ?_⟩
          · show layB i (mk _).toList ++ catB (i + 1) _ = _
            rw [mk_toList, hl2, h1, List.take_add (i := u + 4 + n)]
          · show u + 4 + n + _ ≤ _
            omega
          · intro r hr
            rcases List.mem_cons.1 hr with rfl | hr
            · rw [List.length_take]; omega
            · exact h3 r hr
          · show _ + 1 ≤ u + 4 + n + _
            omega
        · rw [parseL_other hrd hb hl2]; exact hz


theorem numB_length (n : Nat) (hn : n < 9223372036854775808) : (numB n).length ≤ 9 := by
  have := beD_length 8 n (by omega)
  simp [numB, u8s]
  omega
theorem val_u8s : ∀ (n : Nat), val (u8s (beD n)) = n := by
  intro n
  induction n using Nat.strongRecOn with
  | _ n ih =>
    by_cases hn : n = 0
    · subst hn; rw [beD_zero]; rfl
    · rw [beD_pos hn]
      unfold u8s
      rw [List.map_append]
      show val (u8s (beD (n / 256)) ++ [UInt8.ofNat (n % 256)]) = n
      rw [val_snoc, ih (n / 256) (by omega)]
      have : (UInt8.ofNat (n % 256)).toNat = n % 256 := by simp
      rw [this]
      omega
theorem beD_head : ∀ (n : Nat), n ≠ 0 → ∃ h t, beD n = h :: t ∧ 0 < h ∧ h < 256 := by
  intro n
  induction n using Nat.strongRecOn with
  | _ n ih =>
    intro hn
    rw [beD_pos hn]
    by_cases h2 : n / 256 = 0
    · rw [h2, beD_zero]
      exact ⟨n % 256, [], rfl, by omega, by omega⟩
    · obtain ⟨h, t, e, h0, h1⟩ := ih (n / 256) (by omega) h2
      rw [e]
      exact ⟨h, t ++ [n % 256], rfl, h0, h1⟩
theorem beD_head8 (n : Nat) (hn : n < 9223372036854775808) (h t) (he : beD n = h :: t) (h8 : (beD n).length = 8) : h ≤ 127 := by
  have hv := val_u8s n
  rw [he] at hv h8
  have h1 : h < 256 := beD_lt n h (by rw [he]; exact List.mem_cons_self)
  unfold u8s at hv
  rw [List.map_cons, val_cons, List.length_map] at hv
  have : t.length = 7 := by simpa using h8
  rw [this] at hv
  have e : (UInt8.ofNat h).toNat = h := by simp; omega
  rw [e] at hv
  omega
/-- a number's bytes, and anything behind them -/
theorem rdNum_numB (n : Nat) (hn : n < 9223372036854775808) (r : List UInt8) : rdNum (numB n ++ r) = some (n, (numB n).length) := by
  have hlen : (beD n).length ≤ 8 := beD_length 8 n (by omega)
  have hk : (UInt8.ofNat (beD n).length).toNat = (beD n).length := by simp; omega
  have hul : (u8s (beD n)).length = (beD n).length := by simp [u8s]
  show rdNum (UInt8.ofNat (beD n).length :: (u8s (beD n) ++ r)) = _
  simp only [rdNum, hk]
  rw [if_neg (by omega), if_neg (by rw [List.length_append, hul]; omega), if_neg ?_]
  · have ht : (u8s (beD n) ++ r).take (beD n).length = u8s (beD n) := by rw [← hul, List.take_left]
    rw [ht, val_u8s]
    simp [numB, hul, Nat.add_comm]
  · rintro ⟨h0, h⟩
    have hn0 : n ≠ 0 := by
      rintro rfl
      rw [beD_zero] at h0
      simp at h0
    obtain ⟨a, t, e, ha0, ha1⟩ := beD_head n hn0
    have hh : ((u8s (beD n) ++ r).headD 0).toNat = a := by
      rw [e]
      show (UInt8.ofNat a).toNat = a
      simp
      omega
    rw [hh] at h
    rcases h with h | ⟨h8, h127⟩
    · omega
    · have := beD_head8 n hn a t e h8
      omega

/-- a record, and anything behind it -/
theorem parse_lay (i : Nat) (s rest : List UInt8) (hs : s.length ≤ 4096) : parseL i (layB i s ++ rest) = (s :: (parseL (i + 1) rest).1, (layB i s).length + (parseL (i + 1) rest).2) := by
  have hl : layB i s ++ rest = numB s.length ++ (be4 (crcI (numB i ++ s)) ++ (s ++ rest)) := by simp [layB]
  have h4 : (be4 (crcI (numB i ++ s))).length = 4 := rfl
  have hll : (layB i s).length = (numB s.length).length + 4 + s.length := by simp [layB, h4]; omega
  have hrd : rdNum (layB i s ++ rest) = some (s.length, (numB s.length).length) := by rw [hl, rdNum_numB s.length (by omega)]
  have hd : ((layB i s ++ rest).drop ((numB s.length).length + 4)).take s.length = s := by
    rw [hl, ← List.append_assoc, List.drop_left' (by rw [List.length_append, h4]), List.take_left]
  have ht : (layB i s ++ rest).take ((numB s.length).length + 4 + s.length) = layB i s := by rw [← hll, List.take_left]
  have hdd : (layB i s ++ rest).drop ((numB s.length).length + 4 + s.length) = rest := by rw [← hll, List.drop_left]
  rw [parseL_more hrd (by rw [List.length_append, hll]; omega) (by rw [hd, ht]), hd, hdd, hll]

theorem parse_catB : ∀ (l : List ByteArray) (i : Nat) (rest : List UInt8), (∀ s ∈ l, s.size ≤ 4096) →
    parseL i (catB i l ++ rest) = (l.map ByteArray.toList ++ (parseL (i + l.length) rest).1, (catB i l).length + (parseL (i + l.length) rest).2) := by
  intro l
  induction l with
  | nil => intro i rest _; simp [catB]
  | cons s l ih =>
    intro i rest h
    rw [catB, List.append_assoc, parse_lay i s.toList _ (by rw [toList_length]; exact h s List.mem_cons_self), ih (i + 1) rest fun x hx => h x (List.mem_cons_of_mem _ hx)]
    rw [List.length_append, List.length_cons, List.map_cons, show i + 1 + l.length = i + (l.length + 1) by omega]
    simp only [List.cons_append, Nat.add_assoc]
theorem map_mk_toList (l : List ByteArray) : (l.map ByteArray.toList).map mk = l := by
  rw [List.map_map]
  conv => rhs; rw [← List.map_id l]
  refine List.map_congr_left fun s _ => ?_
  exact (ba_mk s).symm
theorem parse_nil (i : Nat) : parseL i [] = ([], 0) := parseL_none rfl
theorem parse_whole (l : List ByteArray) (h : ∀ s ∈ l, s.size ≤ 4096) : parseL 0 (catB 0 l) = (l.map ByteArray.toList, (catB 0 l).length) := by
  have := parse_catB l 0 [] h
  rw [List.append_nil, parse_nil, List.append_nil] at this
  exact this
end Go.Proofs.Ytjilfabdbmfgjaa
namespace Go.Proofs.Ytjilfabdbmfgjaa
open Go.RowKit Go.Proofs.YtjilfabdbmfgjaaW.PrintWords
set_option maxRecDepth 100000

/-- a proper beginning of a record is none -/
theorem parse_part (i : Nat) (s t : List UInt8) (hs : s.length ≤ 4096) (hp : t <+: layB i s) (hl : t.length < (layB i s).length) : parseL i t = ([], 0) := by
  obtain ⟨r, hr⟩ := hp
  have h4 : (be4 (crcI (numB i ++ s))).length = 4 := rfl
  have hll : (layB i s).length = (numB s.length).length + 4 + s.length := by simp [layB, h4]; omega
  have hlay : layB i s = numB s.length ++ (be4 (crcI (numB i ++ s)) ++ s) := by simp [layB]
  by_cases hc : (numB s.length).length ≤ t.length
  · have ht : t = numB s.length ++ t.drop (numB s.length).length := by
      have h1 : t.take (numB s.length).length = numB s.length := by
        have := congrArg (List.take (numB s.length).length) hr
        rw [List.take_append_of_le_length hc, hlay, List.take_left] at this
        exact this
      conv => lhs; rw [← List.take_append_drop (numB s.length).length t, h1]
    have hrd : rdNum t = some (s.length, (numB s.length).length) := by rw [ht, rdNum_numB s.length (by omega)]
    exact parseL_big hrd (.inr (by omega))
  · refine parseL_none ?_
    have hlen : (beD s.length).length ≤ 8 := beD_length 8 s.length (by omega)
    have hul : (u8s (beD s.length)).length = (beD s.length).length := by simp [u8s]
    have hnl : (numB s.length).length = (beD s.length).length + 1 := by simp [numB, u8s]
    cases t with
    | nil => rfl
    | cons a t =>
      have ha : a = UInt8.ofNat (beD s.length).length := by
        have := congrArg (fun l => l.head?) hr
        rw [hlay] at this
        simpa [numB] using this
      have hk : a.toNat = (beD s.length).length := by rw [ha]; simp; omega
      simp only [rdNum, hk]
      rw [if_neg (by omega), if_pos (by simp only [List.length_cons] at hc; omega)]

/-- a beginning of records' bytes has a beginning of the records -/
theorem parse_prefix : ∀ (all : List ByteArray) (i : Nat) (t : List UInt8), (∀ s ∈ all, s.size ≤ 4096) → t <+: catB i all →
    ∃ k, k ≤ all.length ∧ (parseL i t).1.map mk = all.take k ∧ ∀ j, j ≤ all.length → (catB i (all.take j)).length ≤ t.length → j ≤ k := by
  intro all
  induction all with
  | nil =>
    intro i t _ ht
    obtain rfl : t = [] := by simpa [catB] using ht
    exact ⟨0, Nat.le_refl _, by rw [parse_nil]; rfl, fun j hj _ => hj⟩
  | cons s all ih =>
    intro i t hsm ht
    have hs : s.toList.length ≤ 4096 := by rw [toList_length]; exact hsm s List.mem_cons_self
    obtain ⟨r, hr⟩ := ht
    rw [catB] at hr
    by_cases hc : (layB i s.toList).length ≤ t.length
    · have h1 : t.take (layB i s.toList).length = layB i s.toList := by
        have := congrArg (List.take (layB i s.toList).length) hr
        rw [List.take_append_of_le_length hc, List.take_left] at this
        exact this
      have h2 : t.drop (layB i s.toList).length ++ r = catB (i + 1) all := by
        have := congrArg (List.drop (layB i s.toList).length) hr
        rw [List.drop_append_of_le_length hc, List.drop_left] at this
        exact this
      have ht : t = layB i s.toList ++ t.drop (layB i s.toList).length := by
        conv => lhs; rw [← List.take_append_drop (layB i s.toList).length t, h1]
      obtain ⟨k, hk, hp, hj⟩ := ih (i + 1) _ (fun x hx => hsm x (List.mem_cons_of_mem _ hx)) ⟨r, h2⟩
      refine ⟨k + 1, by simp only [List.length_cons]; omega, ?_, ?_⟩
      · rw [ht, parse_lay i s.toList _ hs]
        show mk s.toList :: _ = _
        rw [hp, List.take_succ_cons]
        exact congrArg (· :: _) (ba_mk s).symm
      · intro j hjl hle
        cases j with
        | zero => omega
        | succ j =>
          rw [List.take_succ_cons, catB, List.length_append] at hle
          have := hj j (by simp only [List.length_cons] at hjl; omega) (by rw [List.length_drop]; omega)
          omega
    · have hp : t <+: layB i s.toList := by
        refine List.prefix_of_prefix_length_le ⟨r, hr⟩ ⟨_, rfl⟩ (by omega)
      refine ⟨0, Nat.zero_le _, ?_, ?_⟩
      · rw [parse_part i s.toList t hs hp (by omega)]; rfl
      · intro j hjl hle
        cases j with
        | zero => omega
        | succ j =>
          rw [List.take_succ_cons, catB, List.length_append] at hle
          omega
end Go.Proofs.Ytjilfabdbmfgjaa
