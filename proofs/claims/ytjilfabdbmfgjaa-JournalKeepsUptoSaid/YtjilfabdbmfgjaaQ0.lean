/- Plain facts: the document's Number, Sum and Record are the journal's. -/
import Derived.Test.YtjilfabdbmfgjaaR0
import Derived.Test.YtjilfabdbmfgjaaN1
import Derived.Test.YtjilfabdbmfgjaaPJournalOrderx9
import Derived.Laws.BitsLemmas
namespace Go.Proofs.Ytjilfabdbmfgjaa
open Go.RowKit Go.Proofs.YtjilfabdbmfgjaaW.PrintWords Go.Proofs.YtjilfabdbmfgjaaW.PrintMore Go.Proofs.Ytjilfabdbmfgjaa.PJournalOrder
set_option maxRecDepth 100000

theorem sn1 (x : Nat) (_hx : x < 256) (a : List UInt8) : strOfNums [((x : Nat) : Int)] ++ (⟨a.toArray⟩ : ByteArray) = ⟨(UInt8.ofNat x :: a).toArray⟩ := by
  have : strOfNums [((x : Nat) : Int)] = ⟨[UInt8.ofNat x].toArray⟩ := by
    unfold strOfNums
    simp
  rw [this, ba_append]
  rfl
theorem sn1_size (x : Int) : (strOfNums [x]).size = 1 := by rw [strOfNums_size]; rfl

theorem nb1 {a L1 L2 c k n : Nat} (hl : L1 = L2 + 1) (h : L1 < k + 1) (hc : c + L1 ≤ 9) (ha : a + L1 ≤ 4611686018427387904) (hn : n < 9223372036854775808) :
    L2 < k ∧ n / 256 < 9223372036854775808 ∧ c + 1 + L2 ≤ 9 ∧ a + 1 + L2 ≤ 4611686018427387904 ∧ 1 + a ≤ 9223372036854775807 ∧ n % 256 < 256 := by omega
theorem nb0 {a L1 c : Nat} (hc : c + L1 ≤ 9) (ha : a + L1 ≤ 4611686018427387904) : 1 + a ≤ 9223372036854775807 ∧ c < 256 ∧ (c : Int) % 256 = (c : Int) := by omega
theorem number_go : ∀ (k n : Nat) (a : List UInt8) (c : Nat), (beD n).length < k → n < 9223372036854775808 → c + (beD n).length ≤ 9 → a.length + (beD n).length ≤ 4611686018427387904 →
    cavalcaderef01_Number.l0 k (n : Int) ⟨a.toArray⟩ (c : Int) = some (⟨(UInt8.ofNat (c + (beD n).length) :: (u8s (beD n) ++ a)).toArray⟩, 0)
  | 0, n, a, c, h, _, _, _ => by omega
  | k + 1, n, a, c, h, hn, hc, ha => by
    unfold cavalcaderef01_Number.l0
    by_cases h0 : n = 0
    · subst h0
      obtain ⟨g5, g6, e⟩ := nb0 hc ha
      rw [beD_zero]
      rw [if_neg (by decide)]
      simp only [Option.bind_some]
      rw [e, sn1_size, ba_size, if_pos g5, sn1 c g6]
      simp [u8s]
    · have hd := beD_pos h0
      have hl : (beD n).length = (beD (n / 256)).length + 1 := by rw [hd, List.length_append]; rfl
      rw [if_pos (by omega)]
      simp only [Option.bind_some]
      have e1 : Int.tmod (n : Int) 256 % 256 = ((n % 256 : Nat) : Int) := by
        have : Int.tmod (n : Int) 256 = ((n % 256 : Nat) : Int) := rfl
        rw [this]; omega
      have e2 : wrap64 (Int.tdiv (n : Int) 256) = ((n / 256 : Nat) : Int) := by
        have : Int.tdiv (n : Int) 256 = ((n / 256 : Nat) : Int) := rfl
        rw [this, w64 (by omega) (by omega)]
      have e3 : wrap64 ((c : Int) + 1) = ((c + 1 : Nat) : Int) := by rw [w64 (by omega) (by omega)]; omega
      obtain ⟨g1, g2, g3, g4, g5, g6⟩ := nb1 hl h hc ha hn
      have g4 : (UInt8.ofNat (n % 256) :: a).length + (beD (n / 256)).length ≤ 4611686018427387904 := g4
      have g := number_go k (n / 256) _ (c + 1) g1 g2 g3 g4
      rw [e1, sn1_size, ba_size, if_pos g5, sn1 _ g6, e2, e3, g]
      have e4 : u8s (beD (n / 256)) ++ UInt8.ofNat (n % 256) :: a = u8s (beD n) ++ a := by rw [hd]; simp [u8s]
      rw [e4, hl, show c + 1 + (beD (n / 256)).length = c + ((beD (n / 256)).length + 1) by omega]

theorem number_ref (k n : Nat) (hk : 9 ≤ k) (hn : n < 9223372036854775808) : cavalcaderef01_Number.f k (n : Int) = some (⟨(numB n).toArray⟩, 0) := by
  have hl := beD_length 8 n (by omega)
  have hneg : ¬ (n : Int) < 0 := by omega
  have h9 : 0 + (beD n).length ≤ 9 := by omega
  have hk' : (beD n).length < k := by omega
  have h8 : ([] : List UInt8).length + (beD n).length ≤ 4611686018427387904 := by
    rw [List.length_nil]
    omega
  have h := number_go k n [] 0 hk' hn h9 h8
  rw [Nat.zero_add, List.append_nil] at h
  exact (if_neg hneg).trans h

/-! the sum -/
theorem bits_xor_u32_nat (a b : Nat) (ha : a < 4294967296) (hb : b < 4294967296) : bits .xor .u32 (a : Int) (b : Int) = ((a ^^^ b : Nat) : Int) := by
  have hx : a ^^^ b < 2 ^ 32 := Nat.xor_lt_two_pow (by omega) (by omega)
  have h1 : (BitVec.ofInt 32 (a : Int)).toNat = a := by
    rw [BitVec.ofInt_natCast, BitVec.toNat_ofNat]; exact Nat.mod_eq_of_lt (by omega)
  have h2 : (BitVec.ofInt 32 (b : Int)).toNat = b := by
    rw [BitVec.ofInt_natCast, BitVec.toNat_ofNat]; exact Nat.mod_eq_of_lt (by omega)
  show IntKind.u32.wrap ((BitVec.ofInt 32 (a : Int) ^^^ BitVec.ofInt 32 (b : Int)).toNat : Int) = _
  rw [BitVec.toNat_xor, h1, h2, IntKind.wrap_u32]
  omega
theorem bits_and1 (a : Nat) (ha : a < 4294967296) : bits .and .u32 (a : Int) 1 = ((a % 2 : Nat) : Int) := by
  have := (bits_nat .u32 32 (by decide) (fun n h0 h1 => by rw [IntKind.wrap_u32]; have e : (2 : Int) ^ 32 = 4294967296 := by decide
                                                           rw [e] at h1; omega) a 1 (by omega) (by decide)).1
  rw [show ((1 : Nat) : Int) = 1 from rfl] at this
  rw [this, Nat.and_one_is_mod]

def cstepN (y : Nat) : Nat := if y % 2 = 0 then y / 2 else (y / 2) ^^^ 3988292384
def citerN : Nat → Nat → Nat
  | 0, y => y
  | n + 1, y => cstepN (citerN n y)
theorem cstepN_lt {y : Nat} (h : y < 4294967296) : cstepN y < 4294967296 := by
  unfold cstepN
  split
  · omega
  · exact Nat.xor_lt_two_pow (n := 32) (by omega) (by omega)
theorem citerN_lt {y : Nat} (h : y < 4294967296) : ∀ n, citerN n y < 4294967296
  | 0 => h
  | n + 1 => cstepN_lt (citerN_lt h n)
theorem cstep_nat {y : Nat} (h : y < 4294967296) : cstep (y : Int) = ((cstepN y : Nat) : Int) := by
  unfold cstep cstepN
  rw [bits_and1 y h]
  have e2 : ((y : Int) / 2) = ((y / 2 : Nat) : Int) := by omega
  by_cases h0 : y % 2 = 0
  · rw [if_pos h0, h0, if_pos (by decide), e2]
  · have h1 : y % 2 = 1 := by omega
    rw [if_neg h0, h1, if_neg (by decide), e2]
    exact bits_xor_u32_nat (y / 2) 3988292384 (by omega) (by omega)
theorem citer_nat {y : Nat} (h : y < 4294967296) : ∀ n, citer n (y : Int) = ((citerN n y : Nat) : Int)
  | 0 => rfl
  | n + 1 => by
    show cstep (citer n y) = _
    rw [citer_nat h n, cstep_nat (citerN_lt h n)]
    rfl

/-- the document's round: the byte's bit k, and the rest's -/
def rstep (b k x : Nat) : Nat := if (b / 2 ^ k % 2 ^^^ x % 2) = 1 then (x / 2) ^^^ 3988292384 else x / 2
def riter (b : Nat) : Nat → Nat → Nat → Nat
  | 0, _, x => x
  | m + 1, k, x => riter b m (k + 1) (rstep b k x)
theorem rstep_lt {b k x : Nat} (h : x < 4294967296) : rstep b k x < 4294967296 := by
  unfold rstep
  split
  · exact Nat.xor_lt_two_pow (n := 32) (by omega) (by omega)
  · omega
theorem xor_mod_two (a b : Nat) : (a ^^^ b) % 2 = (a % 2 ^^^ b % 2) := by
  have := Nat.xor_mod_two_pow (a := a) (b := b) (n := 1)
  simpa using this
theorem xor_div_two (a b : Nat) : (a ^^^ b) / 2 = a / 2 ^^^ b / 2 := by
  have := Nat.xor_div_two_pow (a := a) (b := b) (n := 1)
  simpa using this
theorem step_eq (b k x : Nat) : cstepN (x ^^^ b / 2 ^ k) = rstep b k x ^^^ b / 2 ^ (k + 1) := by
  have hd : b / 2 ^ (k + 1) = b / 2 ^ k / 2 := by rw [Nat.pow_succ, Nat.div_div_eq_div_mul]
  rw [hd]
  unfold cstepN rstep
  generalize b / 2 ^ k = c
  rw [xor_mod_two, xor_div_two]
  have h1 : x % 2 < 2 := Nat.mod_lt _ (by omega)
  have h2 : c % 2 < 2 := Nat.mod_lt _ (by omega)
  generalize x % 2 = p at *
  generalize c % 2 = q at *
  have hp : p = 0 ∨ p = 1 := by omega
  have hq : q = 0 ∨ q = 1 := by omega
  rcases hp with rfl | rfl <;> rcases hq with rfl | rfl <;> simp
  · rw [Nat.xor_assoc, Nat.xor_comm (c / 2), ← Nat.xor_assoc]
  · rw [Nat.xor_assoc, Nat.xor_comm (c / 2), ← Nat.xor_assoc]
theorem cstepN_iter (n y : Nat) : citerN n (cstepN y) = cstepN (citerN n y) := by
  induction n with
  | zero => rfl
  | succ n ih =>
    show cstepN _ = cstepN _
    rw [ih]
    rfl
theorem iter_eq (b : Nat) : ∀ (m k x : Nat), citerN m (x ^^^ b / 2 ^ k) = riter b m k x ^^^ b / 2 ^ (k + m)
  | 0, k, x => rfl
  | m + 1, k, x => by
    show cstepN (citerN m _) = riter b m (k + 1) (rstep b k x) ^^^ _
    rw [← cstepN_iter, step_eq, iter_eq b m (k + 1), show k + 1 + m = k + (m + 1) by omega]
theorem byte_eq (b x : Nat) (hb : b < 256) : riter b 8 0 x = citerN 8 (x ^^^ b) := by
  have := iter_eq b 8 0 x
  have e0 : b / 2 ^ 0 = b := by simp
  have e8 : b / 2 ^ (0 + 8) = 0 := Nat.div_eq_of_lt (by omega)
  rw [e0, e8, Nat.xor_zero] at this
  exact this.symm

def csumN : List UInt8 → Nat → Nat
  | [], y => y
  | b :: l, y => csumN l (citerN 8 (y ^^^ b.toNat))
theorem csum_nat : ∀ (l : List UInt8) (y : Nat), y < 4294967296 → csum l (y : Int) = ((csumN l y : Nat) : Int) ∧ csumN l y < 4294967296
  | [], y, h => ⟨rfl, h⟩
  | b :: l, y, h => by
    have hb : b.toNat < 256 := b.toNat_lt
    have hx : y ^^^ b.toNat < 4294967296 := Nat.xor_lt_two_pow (n := 32) (by omega) (by omega)
    show csum l (citer 8 (bits .xor .u32 (y : Int) ((b.toNat : Int) % 4294967296))) = _ ∧ _
    rw [show ((b.toNat : Int) % 4294967296) = ((b.toNat : Nat) : Int) by omega, bits_xor_u32_nat y _ h (by omega), citer_nat hx]
    exact csum_nat l _ (citerN_lt hx 8)
theorem xor_all (v : Nat) (h : v < 4294967296) : 4294967295 ^^^ v = 4294967295 - v := by
  apply Nat.eq_of_testBit_eq
  intro i
  have e1 : (4294967295 : Nat) = 2 ^ 32 - 1 := by decide
  have e2 : (4294967295 : Nat) - v = 2 ^ 32 - (v + 1) := by omega
  rw [Nat.testBit_xor, e2, Nat.testBit_two_pow_sub_succ (by omega), e1, Nat.testBit_two_pow_sub_one]
  by_cases hi : i < 32
  · simp [hi]
  · have : v.testBit i = false := Nat.testBit_lt_two_pow (Nat.lt_of_lt_of_le (by omega : v < 2 ^ 32) (Nat.pow_le_pow_right (by omega) (by omega)))
    simp [hi, this]
theorem crc_nat (l : List UInt8) : crcI l = ((4294967295 - csumN l 4294967295 : Nat) : Int) := by
  obtain ⟨h1, h2⟩ := csum_nat l 4294967295 (by omega)
  unfold crcI
  rw [show (4294967295 : Int) = ((4294967295 : Nat) : Int) from rfl, h1, show IntKind.u32.max = ((4294967295 : Nat) : Int) from rfl, bits_xor_u32_nat _ _ (by omega) h2, xor_all _ h2]

theorem sb1 {m j x i sz : Nat} (hj : j + (m + 1) = 8) (hx : x < 4294967296) (hi : i < sz) :
    (j : Int) < 8 ∧ (0 : Int) ≤ (i : Int) ∧ (i : Int) < (sz : Int) ∧ (0 : Int) ≤ (j : Int) ∧ x / 2 < 4294967296 ∧ j + 1 + m = 8 ∧ j ≤ 8 ∧ ((x / 2 : Nat) : Int) % 4294967296 = ((x / 2 : Nat) : Int) ∧ x % 2 < 4294967296 ∧
    (-9223372036854775808 : Int) ≤ (j : Int) + 1 ∧ (j : Int) + 1 ≤ 9223372036854775807 ∧ (j : Int) + 1 = ((j + 1 : Nat) : Int) := by omega
theorem sb2 {c B : Nat} (h : c ≤ B) (hB : B < 256) : ((c : Nat) : Int) % 4294967296 = (c : Int) ∧ c % 2 < 4294967296 ∧ c < 4294967296 := by omega
theorem shr_nat (b j : Nat) (hj : j ≤ 8) : shr .u8 (b : Int) (j : Int) = ((b / 2 ^ j : Nat) : Int) := by
  unfold shr
  rw [Int.toNat_natCast, Nat.min_eq_left (show j ≤ IntKind.u8.bits from hj)]
  simp
theorem tdiv2 (x : Nat) : Int.tdiv (x : Int) 2 = ((x / 2 : Nat) : Int) := rfl
theorem poly_lt {y : Nat} (h : y < 4294967296) : y ^^^ 3988292384 < 4294967296 := Nat.xor_lt_two_pow (n := 32) h (by decide)
theorem xor_poly {y : Nat} (h : y < 4294967296) : bits .xor .u32 ((y : Nat) : Int) 3988292384 = ((y ^^^ 3988292384 : Nat) : Int) := bits_xor_u32_nat y 3988292384 h (by decide)
theorem l1_step (s : ByteArray) (x i j K b : Nat) (h1 : (j : Int) < 8) (h2 : (0 : Int) ≤ (i : Int)) (h3 : (i : Int) < (s.size : Int)) (h4 : (0 : Int) ≤ (j : Int)) (hbt : bt s (i : Int) = (b : Int))
    (e1 : Go.bits .xor .u32 (Go.bits .and .u32 ((shr .u8 (b : Int) (j : Int)) % 4294967296) 1) (Go.bits .and .u32 (x : Int) 1) = ((b / 2 ^ j % 2 ^^^ x % 2 : Nat) : Int))
    (e2 : Int.tdiv (x : Int) 2 % 4294967296 = ((x / 2 : Nat) : Int)) (e3 : bits .xor .u32 ((x / 2 : Nat) : Int) 3988292384 = ((x / 2 ^^^ 3988292384 : Nat) : Int)) (e4 : wrap64 ((j : Int) + 1) = ((j + 1 : Nat) : Int)) :
    cavalcaderef08_Sum.l1 (K + 1) s (x : Int) (i : Int) (j : Int) = cavalcaderef08_Sum.l1 K s ((rstep b j x : Nat) : Int) (i : Int) ((j + 1 : Nat) : Int) := by
  rw [cavalcaderef08_Sum.l1]
  rw [if_pos h1, if_pos h2, if_pos h3, if_pos h4, hbt, e1, e2, e3, e4]
  unfold rstep
  generalize hq : (b / 2 ^ j % 2 ^^^ x % 2) = q
  by_cases hc : q = 1
  · rw [if_pos (by rw [hc]; rfl), if_pos hc]
  · rw [if_neg (fun h => hc (by exact_mod_cast h)), if_neg hc]
theorem sum_bits (s : ByteArray) (i : Nat) (b : UInt8) (hi : i < s.size) (hbt : bt s (i : Int) = (b.toNat : Int)) : ∀ (m j x K : Nat), j + m = 8 → x < 4294967296 →
    cavalcaderef08_Sum.l1 (m + 1 + K) s (x : Int) (i : Int) (j : Int) = cavalcaderef08_Sum.l0 K s ((riter b.toNat m j x : Nat) : Int) (wrap64 ((i : Int) + 1))
  | 0, j, x, K, hj, hx => by
    obtain rfl : j = 8 := hj
    rw [show 0 + 1 + K = K + 1 from Nat.add_comm 1 K ▸ (by rw [Nat.zero_add])]
    rw [cavalcaderef08_Sum.l1]
    rw [if_neg (by decide)]
    rfl
  | m + 1, j, x, K, hj, hx => by
    have hb : b.toNat < 256 := b.toNat_lt
    obtain ⟨h1, h2, h3, h4, h5, h6, h7, h8, h9, h10, h11, h12⟩ := sb1 hj hx hi
    obtain ⟨c1, c2, c3⟩ := sb2 (Nat.div_le_self b.toNat (2 ^ j)) hb
    have e1 : Go.bits .xor .u32 (Go.bits .and .u32 ((shr .u8 (b.toNat : Int) (j : Int)) % 4294967296) 1) (Go.bits .and .u32 (x : Int) 1) = ((b.toNat / 2 ^ j % 2 ^^^ x % 2 : Nat) : Int) := by
      rw [shr_nat _ _ h7, c1, bits_and1 _ c3, bits_and1 x hx]
      exact bits_xor_u32_nat _ _ c2 h9
    have e2 : Int.tdiv (x : Int) 2 % 4294967296 = ((x / 2 : Nat) : Int) := by rw [tdiv2, h8]
    have e4 : wrap64 ((j : Int) + 1) = ((j + 1 : Nat) : Int) := by rw [w64 h10 h11, h12]
    rw [show m + 1 + 1 + K = (m + 1 + K) + 1 from Nat.add_right_comm _ _ _, l1_step s x i j (m + 1 + K) b.toNat h1 h2 h3 h4 hbt e1 e2 (xor_poly h5) e4]
    exact sum_bits s i b hi hbt m (j + 1) _ K h6 (rstep_lt hx)

theorem sum_go (s : ByteArray) (hs : s.size ≤ 4611686018427387904) : ∀ (m i x K : Nat), i + m = s.size → x < 4294967296 → 10 * m + 1 ≤ K →
    cavalcaderef08_Sum.l0 K s (x : Int) (i : Int) = some ((4294967295 - ((csumN (s.toList.drop i) x : Nat) : Int)) % 4294967296)
  | 0, i, x, K, hi, hx, hK => by
    obtain ⟨K, rfl⟩ : ∃ j, K = j + 1 := ⟨K - 1, by omega⟩
    unfold cavalcaderef08_Sum.l0
    rw [if_neg (by omega), List.drop_eq_nil_of_le (by rw [toList_length]; omega)]
    rfl
  | m + 1, i, x, K, hi, hx, hK => by
    obtain ⟨K, rfl⟩ : ∃ j, K = 8 + 1 + j + 1 := ⟨K - 10, by omega⟩
    have hlt : i < s.toList.length := by rw [toList_length]; omega
    have hd : s.toList.drop i = s.toList[i] :: s.toList.drop (i + 1) := List.drop_eq_getElem_cons hlt
    have hb : bt s (i : Int) = (s.toList[i].toNat : Int) := bt_at_list (List.getElem?_eq_getElem hlt)
    have hbl : s.toList[i].toNat < 256 := s.toList[i].toNat_lt
    unfold cavalcaderef08_Sum.l0
    rw [if_pos (by omega), show (0 : Int) = ((0 : Nat) : Int) from rfl, sum_bits s i _ (by omega) hb 8 0 x K (by omega) hx, w64 (by omega) (by omega),
      show (i : Int) + 1 = ((i + 1 : Nat) : Int) by omega, byte_eq _ _ hbl,
      sum_go s hs m (i + 1) _ K (by omega) (citerN_lt (Nat.xor_lt_two_pow (n := 32) (by omega) (by omega)) 8) (by omega), hd]
    rfl
theorem sum_ref (s : ByteArray) (hs : s.size ≤ 4611686018427387904) (K : Nat) (hK : 10 * s.size + 1 ≤ K) : cavalcaderef08_Sum.f K s = some (crcI s.toList) := by
  unfold cavalcaderef08_Sum.f
  have := sum_go s hs s.size 0 4294967295 K (by omega) (by omega) hK
  rw [List.drop_zero] at this
  rw [show (4294967295 : Int) = ((4294967295 : Nat) : Int) from rfl, show (0 : Int) = ((0 : Nat) : Int) from rfl, this, crc_nat]
  have := (csum_nat s.toList 4294967295 (by omega)).2
  congr 1
  omega

theorem record_ref (i : Nat) (hi : i < 9223372036854775808) (t : ByteArray) (ht : t.size ≤ 1099511627776) (K : Nat) (hK : 10 * t.size + 101 ≤ K) : cavalcaderef10_Record.f K (i : Int) t = some ⟨(layB i t.toList).toArray⟩ := by
  have hn1 : (numB i).length ≤ 9 := by
    have := beD_length 8 i (by omega)
    simp [numB, u8s]
    omega
  have hn2 : (numB t.size).length ≤ 9 := by
    have := beD_length 8 t.size (by omega)
    simp [numB, u8s]
    omega
  have hz1 : (⟨(numB i).toArray⟩ : ByteArray).size = (numB i).length := ba_size _
  have hz2 : (⟨(numB t.size).toArray⟩ : ByteArray).size = (numB t.size).length := ba_size _
  have hza : ((⟨(numB i).toArray⟩ : ByteArray) ++ t).size = (numB i).length + t.size := by rw [ByteArray.size_append, hz1]
  have hl : ((⟨(numB i).toArray⟩ : ByteArray) ++ t).toList = numB i ++ t.toList := by rw [toList_append', ByteArray.toList_mk]
  unfold cavalcaderef10_Record.f
  rw [number_ref K t.size (by omega) (by omega), number_ref K i (by omega) hi]
  simp only [Option.bind_some]
  rw [if_pos (by omega), sum_ref _ (by omega) K (by omega), hl]
  simp only [Option.bind_some]
  rw [if_pos (by rw [hz2, strOfNums_size]; simp only [List.length_cons, List.length_nil]; omega), if_pos (by rw [ByteArray.size_append, hz2, strOfNums_size]; simp only [List.length_cons, List.length_nil]; omega)]
  have hx := crc_nat (numB i ++ t.toList)
  have hbe : strOfNums ([Int.tdiv (crcI (numB i ++ t.toList)) 16777216 % 4294967296 % 256, Int.tdiv (crcI (numB i ++ t.toList)) 65536 % 4294967296 % 256, Int.tdiv (crcI (numB i ++ t.toList)) 256 % 4294967296 % 256, crcI (numB i ++ t.toList) % 256] : List Int) = ⟨(be4 (crcI (numB i ++ t.toList))).toArray⟩ := by
    rw [hx]
    have hv : 4294967295 - csumN (numB i ++ t.toList) 4294967295 < 4294967296 := by omega
    generalize 4294967295 - csumN (numB i ++ t.toList) 4294967295 = v at *
    have t1 : Int.tdiv (v : Int) 16777216 = ((v : Int) / 16777216) := by rw [Int.tdiv_eq_ediv_of_nonneg (by omega)]
    have t2 : Int.tdiv (v : Int) 65536 = ((v : Int) / 65536) := by rw [Int.tdiv_eq_ediv_of_nonneg (by omega)]
    have t3 : Int.tdiv (v : Int) 256 = ((v : Int) / 256) := by rw [Int.tdiv_eq_ediv_of_nonneg (by omega)]
    rw [t1, t2, t3]
    unfold strOfNums be4
    simp only [List.map_cons, List.map_nil]
    rw [show (v : Int) / 16777216 % 4294967296 % 256 = (v : Int) / 16777216 % 256 by omega, show (v : Int) / 65536 % 4294967296 % 256 = (v : Int) / 65536 % 256 by omega, show (v : Int) / 256 % 4294967296 % 256 = (v : Int) / 256 % 256 by omega]
  have hfin : ((⟨(numB t.size).toArray⟩ : ByteArray) ++ (⟨(be4 (crcI (numB i ++ t.toList))).toArray⟩ : ByteArray)) ++ t = ⟨(layB i t.toList).toArray⟩ := by
    have ht' : t = ⟨t.toList.toArray⟩ := ba_mk t
    rw [ba_append]
    calc (⟨(numB t.size ++ be4 (crcI (numB i ++ t.toList))).toArray⟩ : ByteArray) ++ t = (⟨(numB t.size ++ be4 (crcI (numB i ++ t.toList))).toArray⟩ : ByteArray) ++ ⟨t.toList.toArray⟩ := by rw [← ht']
      _ = _ := by rw [ba_append]; unfold layB; rw [toList_length]
  rw [hbe, hfin]
end Go.Proofs.Ytjilfabdbmfgjaa
