/- Reading a number: the plain words, and that the printed function tells them. -/
import Derived.Test.YtjilfabdbmfgjaaN1
import Derived.Test.YtjilfabdbmfgjaaPJournalOrderx1
namespace Go.Proofs.Ytjilfabdbmfgjaa
open Go.RowKit Go.Proofs.YtjilfabdbmfgjaaW.PrintWords Go.Proofs.Ytjilfabdbmfgjaa.PJournalOrder

/-- the number that bytes make, the highest first -/
def val (l : List UInt8) : Nat := l.foldl (fun n b => n * 256 + b.toNat) 0
theorem val_snoc (l : List UInt8) (b : UInt8) : val (l ++ [b]) = val l * 256 + b.toNat := by simp [val]
theorem val_lt (l : List UInt8) : val l < 256 ^ l.length := by
  have key : ∀ (l : List UInt8) (n k : Nat), n < 256 ^ k → l.foldl (fun n b => n * 256 + b.toNat) n < 256 ^ (k + l.length) := by
    intro l
    induction l with
    | nil => intro n k h; simpa using h
    | cons b l ih =>
      intro n k h
      have hb := b.toNat_lt
      have := ih (n * 256 + b.toNat) (k + 1) (by rw [Nat.pow_succ]; omega)
      rw [show k + (b :: l).length = k + 1 + l.length from by simp; omega]
      exact this
  have := key l 0 0 (by simp)
  simpa [val] using this
theorem val_cons (b : UInt8) (l : List UInt8) : val (b :: l) = b.toNat * 256 ^ l.length + val l := by
  have key : ∀ (l : List UInt8) (n : Nat), l.foldl (fun n b => n * 256 + b.toNat) n = n * 256 ^ l.length + l.foldl (fun n b => n * 256 + b.toNat) 0 := by
    intro l
    induction l with
    | nil => intro n; simp
    | cons x l ih =>
      intro n
      simp only [List.foldl_cons]
      rw [ih (n * 256 + x.toNat), ih (0 * 256 + x.toNat)]
      simp only [List.length_cons, Nat.pow_succ, Nat.zero_mul, Nat.zero_add, Nat.add_mul]
      rw [Nat.mul_assoc, Nat.mul_comm 256, Nat.add_assoc]
  unfold val
  rw [List.foldl_cons, key]
  simp

/-- the number at the begin of bytes, and how many bytes it takes; none: there is none. -/
def rdNum : List UInt8 → Option (Nat × Nat)
  | [] => none
  | k :: r => if 8 < k.toNat then none else if r.length < k.toNat then none else
    if 0 < k.toNat ∧ ((r.headD 0).toNat = 0 ∨ (k.toNat = 8 ∧ 127 < (r.headD 0).toNat)) then none else some (val (r.take k.toNat), 1 + k.toNat)

theorem w64 {n : Int} (h0 : -9223372036854775808 ≤ n) (h1 : n ≤ 9223372036854775807) : wrap64 n = n := by unfold wrap64; omega

theorem bt_at_list {s : ByteArray} {p : Nat} {b : UInt8} (h : s.toList[p]? = some b) : bt s (p : Int) = (b.toNat : Int) := by
  have hlt : p < s.size := by
    rw [← toList_length]
    exact (List.getElem?_eq_some_iff.1 h).1
  unfold bt
  simp only [Int.toNat_natCast, hlt, dif_pos]
  rw [ByteArray.toList_eq] at h
  have h2 := (List.getElem?_eq_some_iff.1 h).2
  rw [Array.getElem_toList] at h2
  exact congrArg (fun x : UInt8 => (x.toNat : Int)) h2

theorem pow6 (n : Nat) (h : n ≤ 6) : 256 ^ n ≤ 281474976710656 := Nat.le_trans (Nat.pow_le_pow_right (by omega) h) (by decide)
theorem val_take_mul (r : List UInt8) (k : Nat) (hk : k ≤ 8) (h8 : k = 8 → (r.headD 0).toNat ≤ 127) (j : Nat) (hj : j < k) (hkr : k ≤ r.length) : val (r.take j) * 256 < 9223372036854775808 := by
  by_cases h7 : j = 7
  · subst h7
    have hk8 : k = 8 := by omega
    match r, hkr, h8 with
    | b :: t, hkr, h8 =>
      have hb := h8 hk8
      simp only [List.headD_cons] at hb
      rw [show (b :: t).take 7 = b :: t.take 6 from rfl, val_cons]
      have hl : (t.take 6).length ≤ 6 := by rw [List.length_take]; omega
      have h1 := val_lt (t.take 6)
      have h2 := pow6 _ hl
      generalize 256 ^ (t.take 6).length = q at *
      generalize val (t.take 6) = v at *
      have h3 : b.toNat * q ≤ 127 * q := Nat.mul_le_mul_right _ hb
      omega
    | [], hkr, _ =>
      exfalso
      rw [List.length_nil] at hkr
      omega
  · have h := val_lt (r.take j)
    have hl : (r.take j).length ≤ 6 := by rw [List.length_take]; omega
    have h2 := pow6 _ hl
    omega
theorem bits_or_byte (x : Nat) (hx : x * 256 < 9223372036854775808) (b : UInt8) : bits .or .i64 (wrap64 ((x : Int) * 256)) (wrap64 (b.toNat : Int)) = ((x * 256 + b.toNat : Nat) : Int) := by
  have hb : b.toNat < 256 := b.toNat_lt
  have e63 : (2 : Int) ^ 63 = 9223372036854775808 := by decide
  have e8 : (2 : Int) ^ 8 = 256 := by decide
  rw [w64 (n := (x : Int) * 256) (by omega) (by omega), w64 (n := (b.toNat : Int)) (by omega) (by omega)]
  rw [bits_join .i64 63 (by decide) (fun n h0 h1 => by rw [IntKind.wrap_i64]; rw [e63] at h1; omega) 8 ((x : Int) * 256) (b.toNat : Int) (by omega) (by rw [e8]; omega) (by rw [e63]; omega) (by omega) (by rw [e8]; omega) (by rw [e63]; omega)]
  omega
theorem rn_loop (s : ByteArray) (hs : s.size ≤ 140737488351232) (p : Nat) (hp : p < s.size) (k : Nat) (r : List UInt8) (hr : s.toList.drop (p + 1) = r) (hk : k ≤ 8) (hkr : k ≤ r.length) (h8 : k = 8 → (r.headD 0).toNat ≤ 127) :
    ∀ (d j : Nat), j + d = k → octets_ReadNumber.l0 (d + 1) s (p : Int) (k : Int) (val (r.take j) : Int) (k : Int) (j : Int) = some ((val (r.take k) : Int), (p : Int) + 1 + k, 0) := by
  have hpl : p + 1 + r.length = s.size := by
    have := congrArg List.length hr
    rw [List.length_drop, toList_length] at this
    omega
  have e1 : wrap64 ((p : Int) + 1) = (p : Int) + 1 := w64 (by omega) (by omega)
  intro d
  induction d with
  | zero =>
    intro j hj
    obtain rfl : j = k := by omega
    simp only [octets_ReadNumber.l0]
    rw [if_neg (by omega), e1, w64 (by omega) (by omega)]
  | succ d ih =>
    intro j hj
    have hjk : j < k := by omega
    have hjr : j < r.length := by omega
    have hget : s.toList[p + 1 + j]? = some (r[j]'hjr) := by
      have : (s.toList.drop (p + 1))[j]? = some (r[j]'hjr) := by rw [hr]; exact List.getElem?_eq_getElem _
      rw [List.getElem?_drop] at this
      exact this
    have e2 : wrap64 ((p : Int) + 1 + (j : Int)) = ((p + 1 + j : Nat) : Int) := by rw [w64 (by omega) (by omega)]; omega
    have e3 : wrap64 ((j : Int) + 1) = ((j + 1 : Nat) : Int) := by rw [w64 (by omega) (by omega)]; omega
    have i1 : (j : Int) < (k : Int) := by omega
    have i2 : (0 : Int) ≤ ((p + 1 + j : Nat) : Int) := by omega
    have i3 : ((p + 1 + j : Nat) : Int) < (s.size : Int) := by omega
    have i4 : (j + 1) + d = k := by omega
    have hb := bt_at_list hget
    rw [octets_ReadNumber.l0]
    rw [if_pos i1, e1, e2, if_pos i2, if_pos i3, hb, bits_or_byte _ (val_take_mul r k hk h8 j hjk hkr)]
    have e4 : val (r.take j) * 256 + (r[j]'hjr).toNat = val (r.take (j + 1)) := by rw [List.take_succ_eq_append_getElem hjr, val_snoc]
    rw [e3, e4]
    exact ih (j + 1) i4

theorem rn_j (s : ByteArray) (hs : s.size ≤ 140737488351232) (p : Nat) (b : UInt8) (r : List UInt8) (hl : s.size = p + 1 + r.length) (hb : bt s (p : Int) = (b.toNat : Int)) (k : Nat) :
    octets_ReadNumber.j0 (k + 1) s p false = (if (b.toNat : Int) > 8 then (some (0, 0, 6)) else (if (r.length : Int) < (b.toNat : Int) then (some (0, 0, 5)) else (if (b.toNat : Int) > 0 then (if 0 ≤ ((p + 1 : Nat) : Int) then (if ((p + 1 : Nat) : Int) < (s.size : Int) then (if (bt s ((p + 1 : Nat) : Int)) = 0 then (some (0, 0, 6)) else (if (b.toNat : Int) = 8 then (if (bt s ((p + 1 : Nat) : Int)) > 127 then (some (0, 0, 6)) else (octets_ReadNumber.j1 k s p (b.toNat : Int))) else (octets_ReadNumber.j1 k s p (b.toNat : Int)))) else (none)) else (none)) else (octets_ReadNumber.j1 k s p (b.toNat : Int))))) := by
  have hb8 : b.toNat < 256 := b.toNat_lt
  have eb : wrap64 (b.toNat : Int) = (b.toNat : Int) := w64 (by omega) (by omega)
  have es : wrap64 (wrap64 ((s.size : Int) - (p : Int)) - 1) = (r.length : Int) := by
    rw [w64 (n := (s.size : Int) - (p : Int)) (by omega) (by omega), w64 (by omega) (by omega)]
    omega
  have e1 : wrap64 ((p : Int) + 1) = ((p + 1 : Nat) : Int) := by rw [w64 (by omega) (by omega)]; omega
  rw [octets_ReadNumber.j0]
  rw [if_neg (by decide), if_neg (by omega), if_pos (by omega), if_pos (by omega), hb, eb, es, e1]
theorem rn_good (s : ByteArray) (hs : s.size ≤ 140737488351232) (p : Nat) (b : UInt8) (r : List UInt8) (hr : s.toList.drop (p + 1) = r) (hps : p < s.size) (h1 : b.toNat ≤ 8) (h2 : b.toNat ≤ r.length) (h3 : b.toNat = 8 → (r.headD 0).toNat ≤ 127) :
    octets_ReadNumber.j1 (b.toNat + 2) s p (b.toNat : Int) = some ((val (r.take b.toNat) : Int), (p : Int) + ((1 + b.toNat : Nat) : Int), 0) := by
  have := rn_loop s hs p hps b.toNat r hr h1 h2 h3 b.toNat 0 (by omega)
  rw [octets_ReadNumber.j1]
  have e : (p : Int) + ((1 + b.toNat : Nat) : Int) = (p : Int) + 1 + (b.toNat : Int) := by omega
  rw [e]
  exact this

/-- what the printed function tells -/
theorem rn_spec (s : ByteArray) (hs : s.size ≤ 140737488351232) (p : Nat) (hp : p ≤ s.size) :
    (rdNum (s.toList.drop p) = none → ∃ k r1 r2 r3, octets_ReadNumber.f k s p = some (r1, r2, r3) ∧ r3 ≠ 0) ∧
    (∀ n u, rdNum (s.toList.drop p) = some (n, u) → ∃ k, octets_ReadNumber.f k s p = some ((n : Int), (p : Int) + u, 0)) := by
  have hf : ∀ k, octets_ReadNumber.f k s p = octets_ReadNumber.j0 k s p false := by
    intro k
    unfold octets_ReadNumber.f
    rw [if_neg (by omega)]
    have : decide ((p : Int) > (s.size : Int)) = false := decide_eq_false (by omega)
    rw [this]
  simp only [hf]
  cases hd : s.toList.drop p with
  | nil =>
    have hl := congrArg List.length hd
    rw [List.length_drop, toList_length] at hl
    simp at hl
    refine ⟨fun _ => ⟨1, 0, 0, 5, ?_, by decide⟩, fun n u h => by simp [rdNum] at h⟩
    simp only [octets_ReadNumber.j0]
    rw [if_neg (by decide), if_pos (by omega)]
  | cons b r =>
    have hl := congrArg List.length hd
    rw [List.length_drop, toList_length] at hl
    simp only [List.length_cons] at hl
    have hps : p < s.size := by omega
    have hr : s.toList.drop (p + 1) = r := by
      rw [← List.drop_drop, hd]
      rfl
    have hget : s.toList[p]? = some b := by
      have : (s.toList.drop p)[0]? = some b := by rw [hd]; rfl
      rw [List.getElem?_drop] at this
      simpa using this
    have hb := bt_at_list hget
    have hj := rn_j s hs p b r (by omega) hb
    have hgood := fun h1 h2 h3 => (⟨_, rn_good s hs p b r hr hps h1 h2 h3⟩ : ∃ k, octets_ReadNumber.j1 k s p (b.toNat : Int) = some ((val (r.take b.toNat) : Int), (p : Int) + ((1 + b.toNat : Nat) : Int), 0))
    simp only [rdNum]
    by_cases c1 : 8 < b.toNat
    · rw [if_pos c1]
      exact ⟨fun _ => ⟨1, 0, 0, 6, by rw [hj 0, if_pos (by omega)], by decide⟩, fun n u h => by simp at h⟩
    · rw [if_neg c1]
      by_cases c2 : r.length < b.toNat
      · rw [if_pos c2]
        exact ⟨fun _ => ⟨1, 0, 0, 5, by rw [hj 0, if_neg (by omega), if_pos (by omega)], by decide⟩, fun n u h => by simp at h⟩
      · rw [if_neg c2]
        by_cases c3 : 0 < b.toNat
        · have hr0 : 0 < r.length := by omega
          have hget1 : s.toList[p + 1]? = some (r.headD 0) := by
            have : (s.toList.drop (p + 1))[0]? = some (r.headD 0) := by
              rw [hr]
              cases r with
              | nil => simp at hr0
              | cons x r => rfl
            rw [List.getElem?_drop] at this
            simpa using this
          have hb1 := bt_at_list hget1
          by_cases c4 : (r.headD 0).toNat = 0
          · rw [if_pos ⟨c3, .inl c4⟩]
            refine ⟨fun _ => ⟨1, 0, 0, 6, ?_, by decide⟩, fun n u h => by simp at h⟩
            rw [hj 0, if_neg (by omega), if_neg (by omega), if_pos (by omega), if_pos (by omega), if_pos (by omega), hb1, if_pos (by omega)]
          · by_cases c5 : b.toNat = 8
            · by_cases c6 : 127 < (r.headD 0).toNat
              · rw [if_pos ⟨c3, .inr ⟨c5, c6⟩⟩]
                refine ⟨fun _ => ⟨1, 0, 0, 6, ?_, by decide⟩, fun n u h => by simp at h⟩
                rw [hj 0, if_neg (by omega), if_neg (by omega), if_pos (by omega), if_pos (by omega), if_pos (by omega), hb1, if_neg (by omega), if_pos (by omega), if_pos (by omega)]
              · rw [if_neg (by rintro ⟨-, h | ⟨-, h⟩⟩ <;> omega)]
                refine ⟨fun h => by simp at h, fun n u h => ?_⟩
                obtain ⟨k, hk⟩ := hgood (by omega) (by omega) (fun _ => by omega)
                simp only [Option.some.injEq, Prod.mk.injEq] at h
                obtain ⟨rfl, rfl⟩ := h
                refine ⟨k + 1, ?_⟩
                rw [hj k, if_neg (by omega), if_neg (by omega), if_pos (by omega), if_pos (by omega), if_pos (by omega), hb1, if_neg (by omega), if_pos (by omega), if_neg (by omega)]
                exact hk
            · rw [if_neg (by rintro ⟨-, h | ⟨h, -⟩⟩ <;> omega)]
              refine ⟨fun h => by simp at h, fun n u h => ?_⟩
              obtain ⟨k, hk⟩ := hgood (by omega) (by omega) (fun _ => by omega)
              simp only [Option.some.injEq, Prod.mk.injEq] at h
              obtain ⟨rfl, rfl⟩ := h
              refine ⟨k + 1, ?_⟩
              rw [hj k, if_neg (by omega), if_neg (by omega), if_pos (by omega), if_pos (by omega), if_pos (by omega), hb1, if_neg (by omega), if_neg (by omega)]
              exact hk
        · rw [if_neg (by rintro ⟨h, -⟩; omega)]
          refine ⟨fun h => by simp at h, fun n u h => ?_⟩
          obtain ⟨k, hk⟩ := hgood (by omega) (by omega) (fun _ => by omega)
          simp only [Option.some.injEq, Prod.mk.injEq] at h
          obtain ⟨rfl, rfl⟩ := h
          refine ⟨k + 1, ?_⟩
          rw [hj k, if_neg (by omega), if_neg (by omega), if_neg (by omega)]
          exact hk
end Go.Proofs.Ytjilfabdbmfgjaa
