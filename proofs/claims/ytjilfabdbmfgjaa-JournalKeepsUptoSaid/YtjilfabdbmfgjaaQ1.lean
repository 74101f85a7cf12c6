/- Plain facts: the document's ReadNumber is the journal's. -/
import Derived.Test.YtjilfabdbmfgjaaQ0
import Derived.Test.YtjilfabdbmfgjaaPJournalOrderx10
namespace Go.Proofs.Ytjilfabdbmfgjaa
open Go.RowKit Go.Proofs.YtjilfabdbmfgjaaW.PrintWords Go.Proofs.YtjilfabdbmfgjaaW.PrintMore Go.Proofs.Ytjilfabdbmfgjaa.PJournalOrder
set_option maxRecDepth 100000

theorem u64w {n : Int} (h0 : 0 ≤ n) (h1 : n < 18446744073709551616) : IntKind.u64.wrap n = n := by
  rw [IntKind.wrap_u64]
  omega
theorem rr1 {p j d k sz v b : Nat} (hj : j + (d + 1) = k) (hk : k ≤ 8) (hs : p + 1 + k ≤ sz) (hz : sz ≤ 140737488351232) (hv : v < 72057594037927936) (hb : b < 256) :
    wrap64 ((p : Int) + 1) = (p : Int) + 1 ∧ wrap64 ((p : Int) + 1 + (k : Int)) = (p : Int) + 1 + (k : Int) ∧ ((p + 1 + j : Nat) : Int) < (p : Int) + 1 + (k : Int) ∧ (0 : Int) ≤ ((p + 1 + j : Nat) : Int) ∧ ((p + 1 + j : Nat) : Int) < (sz : Int) ∧
    wrap64 (((p + 1 + j : Nat) : Int) + 1) = ((p + 1 + (j + 1) : Nat) : Int) ∧ IntKind.u64.wrap (IntKind.u64.wrap ((v : Int) * 256) + IntKind.u64.wrap (b : Int)) = ((v * 256 + b : Nat) : Int) ∧ j < k ∧ (j + 1) + d = k := by
  refine ⟨w64 (by omega) (by omega), w64 (by omega) (by omega), by omega, by omega, by omega, ?_, ?_, by omega, by omega⟩
  · rw [w64 (by omega) (by omega)]; omega
  · rw [u64w (n := (v : Int) * 256) (by omega) (by omega), u64w (n := (b : Int)) (by omega) (by omega), u64w (by omega) (by omega)]; omega
def rrEnd (s : ByteArray) (p k : Nat) (v : Int) : Option (Int × Int × Int) :=
  if (k : Int) > 0 then (if (bt s ((p : Int) + 1)) = 0 then some (0, 0, 6) else (if v > 9223372036854775807 then some (0, 0, 6) else some (wrap64 v, (p : Int) + 1 + (k : Int), 0)))
  else (if v > 9223372036854775807 then some (0, 0, 6) else some (wrap64 v, (p : Int) + 1 + (k : Int), 0))
theorem pow7 (n : Nat) (h : n ≤ 7) : 256 ^ n ≤ 72057594037927936 := Nat.le_trans (Nat.pow_le_pow_right (by omega) h) (by decide)

theorem rr_loop (s : ByteArray) (hs : s.size ≤ 140737488351232) (p k : Nat) (r : List UInt8) (hr : s.toList.drop (p + 1) = r) (hps : p < s.size) (hk : k ≤ 8) (hkr : k ≤ r.length) : ∀ (d j K : Nat), j + d = k →
    cavalcaderef01_ReadNumber.l0 (d + 1 + K) s (p : Int) (k : Int) ((val (r.take j) : Nat) : Int) ((p + 1 + j : Nat) : Int) = rrEnd s p k ((val (r.take k) : Nat) : Int) := by
  have hpl : p + 1 + r.length = s.size := by
    have := congrArg List.length hr
    rw [List.length_drop, toList_length] at this
    omega
  intro d
  induction d with
  | zero =>
    intro j K hj
    obtain rfl : j = k := by omega
    have w1 : wrap64 ((p : Int) + 1) = (p : Int) + 1 := w64 (by omega) (by omega)
    have w2 : wrap64 ((p : Int) + 1 + (j : Int)) = (p : Int) + 1 + (j : Int) := w64 (by omega) (by omega)
    have h1 : ¬ ((p + 1 + j : Nat) : Int) < (p : Int) + 1 + (j : Int) := by omega
    rw [show 0 + 1 + K = K + 1 by omega, cavalcaderef01_ReadNumber.l0]
    rw [w1, w2, if_neg h1]
    unfold rrEnd
    by_cases h0 : (j : Int) > 0
    · have h2 : (0 : Int) ≤ (p : Int) + 1 := by omega
      have h3 : (p : Int) + 1 < (s.size : Int) := by omega
      rw [if_pos h0, if_pos h2, if_pos h3, if_pos h0]
    · rw [if_neg h0, if_neg h0]
  | succ d ih =>
    intro j K hj
    have hjr : j < r.length := by omega
    have hget : s.toList[p + 1 + j]? = some (r[j]'hjr) := by
      have : (s.toList.drop (p + 1))[j]? = some (r[j]'hjr) := by rw [hr]; exact List.getElem?_eq_getElem _
      rw [List.getElem?_drop] at this
      exact this
    have hb := bt_at_list hget
    have hv : val (r.take j) < 72057594037927936 := by
      have h1 := val_lt (r.take j)
      rw [List.length_take, Nat.min_eq_left (by omega)] at h1
      exact Nat.lt_of_lt_of_le h1 (pow7 j (by omega))
    have hbl : (r[j]'hjr).toNat < 256 := (r[j]'hjr).toNat_lt
    have hsz : p + 1 + k ≤ s.size := by omega
    obtain ⟨e1, e2, h1, h2, h3, e3, e4, h4, h5⟩ := rr1 hj hk hsz hs hv hbl
    have e5 : val (r.take j) * 256 + (r[j]'hjr).toNat = val (r.take (j + 1)) := by rw [List.take_succ_eq_append_getElem hjr, val_snoc]
    rw [show d + 1 + 1 + K = (d + 1 + K) + 1 by omega, cavalcaderef01_ReadNumber.l0]
    rw [e1, e2, if_pos h1, if_pos h2, if_pos h3, hb, e4, e3, e5]
    exact ih (j + 1) K h5

theorem rr_spec (s : ByteArray) (hs : s.size ≤ 140737488351232) (p : Nat) (hp : p ≤ s.size) (K : Nat) (hK : 12 ≤ K) :
    (rdNum (s.toList.drop p) = none → ∃ r1 r2 r3, cavalcaderef01_ReadNumber.f K s p = some (r1, r2, r3) ∧ r3 ≠ 0) ∧
    (∀ n u, rdNum (s.toList.drop p) = some (n, u) → cavalcaderef01_ReadNumber.f K s p = some ((n : Int), (p : Int) + u, 0)) := by
  have hf : cavalcaderef01_ReadNumber.f K s p = cavalcaderef01_ReadNumber.j0 K s p false := by
    unfold cavalcaderef01_ReadNumber.f
    rw [if_neg (by omega)]
    have : decide ((p : Int) > (s.size : Int)) = false := decide_eq_false (by omega)
    rw [this]
  obtain ⟨K, rfl⟩ : ∃ j, K = j + 1 := ⟨K - 1, by omega⟩
  rw [hf]
  cases hd : s.toList.drop p with
  | nil =>
    have hl := congrArg List.length hd
    rw [List.length_drop, toList_length] at hl
    simp at hl
    refine ⟨fun _ => ⟨0, 0, 5, ?_, by decide⟩, fun n u h => by simp [rdNum] at h⟩
    rw [cavalcaderef01_ReadNumber.j0]
    rw [if_neg (by decide), if_pos (by omega)]
  | cons b r =>
    have hl := congrArg List.length hd
    rw [List.length_drop, toList_length] at hl
    simp only [List.length_cons] at hl
    have hps : p < s.size := by omega
    have hr : s.toList.drop (p + 1) = r := by
      rw [← List.drop_drop, hd]
      rfl
    have hget : s.toList[p]? = some b := by
      have : (s.toList.drop p)[0]? = some b := by rw [hd]; rfl
      rw [List.getElem?_drop] at this
      simpa using this
    have hb := bt_at_list hget
    have hb8 : b.toNat < 256 := b.toNat_lt
    have eb : wrap64 (b.toNat : Int) = (b.toNat : Int) := w64 (by omega) (by omega)
    have e1 : wrap64 ((p : Int) + 1) = (p : Int) + 1 := w64 (by omega) (by omega)
    have e2 : wrap64 ((p : Int) + 1 + (b.toNat : Int)) = (p : Int) + 1 + (b.toNat : Int) := w64 (by omega) (by omega)
    have hj : cavalcaderef01_ReadNumber.j0 (K + 1) s p false = (if (b.toNat : Int) > 8 then (some (0, 0, 6)) else (if ((p : Int) + 1 + (b.toNat : Int)) > (s.size : Int) then (some (0, 0, 5)) else (cavalcaderef01_ReadNumber.l0 K s p (b.toNat : Int) 0 ((p : Int) + 1)))) := by
      rw [cavalcaderef01_ReadNumber.j0]
      rw [if_neg (by decide), if_neg (by omega), if_pos (by omega), if_pos (by omega), hb, eb, e1, e2]
    rw [hj]
    simp only [rdNum]
    by_cases c1 : 8 < b.toNat
    · rw [if_pos c1, if_pos (show (b.toNat : Int) > 8 by omega)]
      exact ⟨fun _ => ⟨0, 0, 6, rfl, by decide⟩, fun n u h => by simp at h⟩
    · rw [if_neg c1, if_neg (show ¬ (b.toNat : Int) > 8 by omega)]
      by_cases c2 : r.length < b.toNat
      · rw [if_pos c2, if_pos (show (p : Int) + 1 + (b.toNat : Int) > (s.size : Int) by omega)]
        exact ⟨fun _ => ⟨0, 0, 5, rfl, by decide⟩, fun n u h => by simp at h⟩
      · rw [if_neg c2, if_neg (show ¬ (p : Int) + 1 + (b.toNat : Int) > (s.size : Int) by omega)]
        obtain ⟨K, rfl⟩ : ∃ j, K = b.toNat + 1 + j := ⟨K - (b.toNat + 1), by omega⟩
        have hlp := rr_loop s hs p b.toNat r hr hps (by omega) (by omega) b.toNat 0 K (by omega)
        have z0 : ((val (r.take 0) : Nat) : Int) = 0 := by rw [List.take_zero]; rfl
        have z1 : ((p + 1 + 0 : Nat) : Int) = (p : Int) + 1 := by omega
        rw [z0, z1] at hlp
        rw [hlp]
        unfold rrEnd
        have hv := val_lt (r.take b.toNat)
        rw [List.length_take, Nat.min_eq_left (by omega)] at hv
        by_cases c3 : 0 < b.toNat
        · have hr0 : 0 < r.length := by omega
          have hget1 : s.toList[p + 1]? = some (r.headD 0) := by
            have : (s.toList.drop (p + 1))[0]? = some (r.headD 0) := by
              rw [hr]
              cases r with
              | nil => simp at hr0
              | cons x r => rfl
            rw [List.getElem?_drop] at this
            simpa using this
          have hb1 := bt_at_list hget1
          have hb1' : bt s ((p : Int) + 1) = ((r.headD 0).toNat : Int) := by rw [← hb1]; congr 1
          rw [if_pos (show (b.toNat : Int) > 0 by omega), hb1']
          by_cases c4 : (r.headD 0).toNat = 0
          · rw [if_pos ⟨c3, .inl c4⟩, if_pos (show ((r.headD 0).toNat : Int) = 0 by omega)]
            exact ⟨fun _ => ⟨0, 0, 6, rfl, by decide⟩, fun n u h => by simp at h⟩
          · rw [if_neg (show ¬ ((r.headD 0).toNat : Int) = 0 by omega)]
            have hbig : (9223372036854775807 < val (r.take b.toNat)) ↔ (b.toNat = 8 ∧ 127 < (r.headD 0).toNat) := by
              by_cases c5 : b.toNat = 8
              · rw [c5] at hv ⊢
                cases r with
                | nil => simp at hr0
                | cons x r =>
                  have hx : (r.take 7).length = 7 := by rw [List.length_take]; simp only [List.length_cons] at c2; omega
                  have h7 := val_lt (r.take 7)
                  rw [hx] at h7
                  have e7 : (256 : Nat) ^ 7 = 72057594037927936 := by decide
                  rw [e7] at h7
                  have : val ((x :: r).take 8) = x.toNat * 72057594037927936 + val (r.take 7) := by rw [List.take_succ_cons, val_cons, hx, e7]
                  rw [this]
                  show _ ↔ 8 = 8 ∧ 127 < x.toNat
                  constructor
                  · intro h; exact ⟨rfl, by omega⟩
                  · intro h; omega
              · constructor
                · intro h
                  have := pow7 b.toNat (by omega)
                  omega
                · intro h; exact absurd h.1 c5
            by_cases c6 : 9223372036854775807 < val (r.take b.toNat)
            · rw [if_pos ⟨c3, .inr (hbig.1 c6)⟩, if_pos (show ((val (r.take b.toNat) : Nat) : Int) > 9223372036854775807 by omega)]
              exact ⟨fun _ => ⟨0, 0, 6, rfl, by decide⟩, fun n u h => by simp at h⟩
            · rw [if_neg (by rintro ⟨-, h | h⟩; exact c4 h; exact c6 (hbig.2 h)), if_neg (show ¬ ((val (r.take b.toNat) : Nat) : Int) > 9223372036854775807 by omega)]
              refine ⟨fun h => by simp at h, fun n u h => ?_⟩
              simp only [Option.some.injEq, Prod.mk.injEq] at h
              obtain ⟨rfl, rfl⟩ := h
              rw [w64 (by omega) (by omega)]
              have : (p : Int) + 1 + (b.toNat : Int) = (p : Int) + ((1 + b.toNat : Nat) : Int) := by omega
              rw [this]
        · have hb0 : b.toNat = 0 := by omega
          have hv0 : val (r.take b.toNat) = 0 := by rw [hb0, List.take_zero]; rfl
          rw [if_neg (show ¬ (b.toNat : Int) > 0 by omega), hv0, if_neg (show ¬ ((0 : Nat) : Int) > 9223372036854775807 by decide), if_neg (show ¬ (0 < b.toNat ∧ ((r.headD 0).toNat = 0 ∨ (b.toNat = 8 ∧ 127 < (r.headD 0).toNat))) from fun h => c3 h.1)]
          refine ⟨fun h => by simp at h, fun n u h => ?_⟩
          simp only [Option.some.injEq, Prod.mk.injEq] at h
          obtain ⟨rfl, rfl⟩ := h
          have : (p : Int) + 1 + (b.toNat : Int) = (p : Int) + ((1 + b.toNat : Nat) : Int) := by omega
          rw [this, w64 (n := ((0 : Nat) : Int)) (by decide) (by decide)]
end Go.Proofs.Ytjilfabdbmfgjaa
