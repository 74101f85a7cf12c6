/- The sum: the plain words, and the walk of crate.Sum. -/
import Derived.Test.YtjilfabdbmfgjaaN0
namespace Go.Proofs.Ytjilfabdbmfgjaa
open Go.RowKit Go.Proofs.YtjilfabdbmfgjaaW.PrintWords
set_option maxRecDepth 100000

def cstep (y : Int) : Int := if (bits .and .u32 y 1 == 0) = true then y / 2 else bits .xor .u32 (y / 2) 3988292384
def citer : Nat → Int → Int
  | 0, y => y
  | n + 1, y => cstep (citer n y)
def csum : List UInt8 → Int → Int
  | [], y => y
  | b :: l, y => csum l (citer 8 (bits .xor .u32 y ((b.toNat : Int) % 4294967296)))
/-- a text's sum -/
def crcI (l : List UInt8) : Int := bits .xor .u32 IntKind.u32.max (csum l 4294967295)
theorem csum_snoc (l : List UInt8) (b : UInt8) (y : Int) : csum (l ++ [b]) y = citer 8 (bits .xor .u32 (csum l y) ((b.toNat : Int) % 4294967296)) := by
  induction l generalizing y with
  | nil => rfl
  | cons x l ih => simp only [List.cons_append, csum, ih]
theorem cstep_bd {y : Int} (h0 : 0 ≤ y) (h1 : y < 4294967296) : 0 ≤ cstep y ∧ cstep y < 4294967296 := by
  unfold cstep
  split
  · omega
  · have := bits_lo_u32 .xor (y / 2) 3988292384
    have := bits_hi_u32 .xor (y / 2) 3988292384
    omega
theorem citer_bd {y : Int} (h0 : 0 ≤ y) (h1 : y < 4294967296) : ∀ n, 0 ≤ citer n y ∧ citer n y < 4294967296
  | 0 => ⟨h0, h1⟩
  | n + 1 => cstep_bd (citer_bd h0 h1 n).1 (citer_bd h0 h1 n).2
theorem csum_bd (l : List UInt8) : ∀ y, 0 ≤ y → y < 4294967296 → 0 ≤ csum l y ∧ csum l y < 4294967296 := by
  induction l with
  | nil => exact fun y h0 h1 => ⟨h0, h1⟩
  | cons b l ih =>
    intro y h0 h1
    have hlo := bits_lo_u32 .xor y ((b.toNat : Int) % 4294967296)
    have hhi := bits_hi_u32 .xor y ((b.toNat : Int) % 4294967296)
    have := citer_bd hlo (by omega) 8
    exact ih _ this.1 this.2
theorem toList_take_snoc (s : ByteArray) (k : Nat) (h : k < s.size) : s.toList.take (k + 1) = s.toList.take k ++ [s[k]] := by
  rw [ByteArray.toList_eq, List.take_succ_eq_append_getElem (by simpa using h)]
  rfl
theorem toList_length (s : ByteArray) : s.toList.length = s.size := by
  rw [ByteArray.toList_eq, Array.length_toList]
  rfl

theorem sum_any (s : ByteArray) (hs : s.size ≤ 140737488355327) (w : World) :
    Calls Try.prog 44 #[.string s] w fun e w' => e = .returned (.int .u32 (crcI s.toList)) ∧ w = w' := by
  go_enter Try.func44, Try.ntmps44
  go_wp2
  go_loop [3, 9] (fun x i => ∃ (k : Nat) (X : Int), k ≤ s.size ∧ 0 ≤ X ∧ X < 4294967296 ∧ Hid (X = csum (s.toList.take k) 4294967295) ∧ i = .int .i64 k ∧ x = .int .u32 X) (fun _ i => s.size - (intOf i).toNat)
  case atStart => exact ⟨0, 4294967295, Nat.zero_le _, by omega, by omega, rfl, rfl, rfl⟩
  case round =>
    obtain ⟨k, X, hk, hX0, hX, hXe, rfl, rfl⟩ := hrel
    by_cases hlt : k < s.size
    · have hlo := bits_lo_u32 .xor X ((s[k].toNat : Int) % 4294967296)
      have hhi := bits_hi_u32 .xor X ((s[k].toNat : Int) % 4294967296)
      have hXn : Hid (csum (s.toList.take (k + 1)) 4294967295 = citer 8 (bits .xor .u32 X ((s[k].toNat : Int) % 4294967296))) := by
        show _ = _
        rw [toList_take_snoc s k hlt, csum_snoc, hXe.out]
      clear hXe
      go_wp2
      go_step3
      go_wp2
      go_step3
      go_wp2
      generalize hZ : bits .xor .u32 X ((s[k].toNat : Int) % 4294967296) = Z at *
      have hZ := Lib.hid hZ
      go_loop [3, 5] (fun x j => ∃ (n : Nat) (Y : Int), n ≤ 8 ∧ 0 ≤ Y ∧ Y < 4294967296 ∧ Hid (Y = citer n Z) ∧ j = .int .i64 n ∧ x = .int .u32 Y) (fun _ j => 8 - (intOf j).toNat)
      case atStart => exact ⟨0, Z, Nat.zero_le _, hlo, by omega, rfl, rfl, rfl⟩
      case round =>
        obtain ⟨n, Y, hn, hY0, hY, hYe, rfl, rfl⟩ := hrel
        by_cases hlt2 : n < 8
        · have hbd := cstep_bd hY0 hY
          by_cases hb : (bits .and .u32 Y 1 == 0) = true
          · have hst : Hid (cstep Y = Y / 2) := by unfold cstep; exact if_pos hb
            go_wp2
            refine ⟨⟨n + 1, Y / 2, by omega, by omega, by omega, ?_, by go_num, rfl⟩, by simp [intOf]; omega⟩
            show Y / 2 = cstep (citer n Z)
            rw [← hYe.out, hst.out]
          · have hb2 : (bits .and .u32 Y 1 == 0) = false := by simpa using hb
            have hst : Hid (cstep Y = bits .xor .u32 (Y / 2) 3988292384) := by unfold cstep; exact if_neg hb
            have hl2 := bits_lo_u32 .xor (Y / 2) 3988292384
            have hh2 := bits_hi_u32 .xor (Y / 2) 3988292384
            clear hb
            go_wp2
            refine ⟨⟨n + 1, bits .xor .u32 (Y / 2) 3988292384, by omega, hl2, by omega, ?_, by go_num, rfl⟩, by simp [intOf]; omega⟩
            show _ = cstep (citer n Z)
            rw [← hYe.out, hst.out]
        · obtain rfl : n = 8 := by omega
          go_wp2
          exact ⟨⟨k + 1, Y, by omega, hY0, hY, by show Y = _; rw [hYe.out, hXn.out], by go_num, rfl⟩, by simp [intOf]; omega⟩
    · obtain rfl : k = s.size := by omega
      have hX2 : Hid (crcI s.toList = bits .xor .u32 IntKind.u32.max X) := by
        show _ = _
        unfold crcI
        rw [hXe.out, List.take_of_length_le (by rw [toList_length]; exact Nat.le_refl _)]
      clear hXe
      go_wp2
      go_ret
      exact ⟨congrArg (fun z => Ending.returned (Value.int .u32 z)) hX2.out.symm, rfl⟩
end Go.Proofs.Ytjilfabdbmfgjaa
namespace Go.Proofs.Ytjilfabdbmfgjaa
open Go.RowKit Go.Proofs.YtjilfabdbmfgjaaW.PrintWords
set_option maxRecDepth 100000

/-- four bytes, the highest first, as the code makes them -/
def be4 (x : Int) : List UInt8 := [x / 16777216, x / 65536, x / 256, x].map fun y => UInt8.ofNat (y % 256).toNat
/-- a record's bytes -/
def layB (i : Nat) (s : List UInt8) : List UInt8 := numB s.length ++ be4 (crcI (numB i ++ s)) ++ s

theorem toList_append' (a b : ByteArray) : (a ++ b).toList = a.toList ++ b.toList := by
  rw [ByteArray.toList_eq, ByteArray.toList_eq, ByteArray.toList_eq, ByteArray.data_append, Array.toList_append]

theorem ba_mk (s : ByteArray) : s = ⟨s.toList.toArray⟩ := by
  rw [ByteArray.toList_eq, Array.toArray_toList]
theorem ba_size (l : List UInt8) : (⟨l.toArray⟩ : ByteArray).size = l.length := by simp [ByteArray.size]
theorem ba_append (a b : List UInt8) : (⟨a.toArray⟩ : ByteArray) ++ ⟨b.toArray⟩ = ⟨(a ++ b).toArray⟩ := by
  apply ByteArray.ext
  rw [ByteArray.data_append]
  simp
theorem lay_bytes (n : List UInt8) (X : Int) (h0 : 0 ≤ X) (h1 : X ≤ 4294967295) (s : ByteArray) :
    (⟨n.toArray⟩ : ByteArray) ++ strOfNums [X / 16777216, X / 65536 % 256, X / 256 % 256, X % 256] ++ s = ⟨(n ++ be4 X ++ s.toList).toArray⟩ := by
  have hb : strOfNums [X / 16777216, X / 65536 % 256, X / 256 % 256, X % 256] = ⟨(be4 X).toArray⟩ := by
    unfold strOfNums be4
    simp only [List.map_cons, List.map_nil]
    rw [show X / 16777216 % 256 = X / 16777216 from by omega]
  rw [hb, ba_append]
  conv => lhs; rw [ba_mk s]
  rw [ba_append]

theorem lay_any (i : Nat) (hi : i < 9223372036854775808) (s : ByteArray) (hs : s.size ≤ 140737488351232) (w : World) :
    Calls Try.prog 34 #[.int .i64 (i : Int), .string s] w fun e w' => e = .returned (.string ⟨(layB i s.toList).toArray⟩) ∧ Below w.heap.size w w' := by
  have H1 := Lib.hid (fun W => number_any s.size (by omega) W)
  have H2 := Lib.hid (fun W => number_any i hi W)
  have hn1 : (numB i).length ≤ 9 := by
    have := beD_length 8 i (by omega)
    simp [numB, u8s]
    omega
  have hn2 : (numB s.size).length ≤ 9 := by
    have := beD_length 8 s.size (by omega)
    simp [numB, u8s]
    omega
  go_enter Try.func34, Try.ntmps34
  go_wp2_with (fail)
  refine (H1.out _).mono ?_
  rintro e w1 ⟨rfl, hb1⟩
  go_wp2_with (fail)
  refine (H2.out _).mono ?_
  rintro e w2 ⟨rfl, hb2⟩
  go_wp2_with (fail)
  have hz : ((⟨(numB i).toArray⟩ : ByteArray) ++ s).size ≤ 140737488355327 := by
    rw [ByteArray.size_append]
    have := ba_size (numB i)
    omega
  have hl : ((⟨(numB i).toArray⟩ : ByteArray) ++ s).toList = numB i ++ s.toList := by
    rw [toList_append', ByteArray.toList_mk]
  refine (sum_any _ hz _).mono ?_
  rintro e w3 ⟨rfl, rfl⟩
  rw [hl]
  have hx0 := bits_lo_u32 .xor IntKind.u32.max (csum (numB i ++ s.toList) 4294967295)
  have hx1 := bits_hi_u32 .xor IntKind.u32.max (csum (numB i ++ s.toList) 4294967295)
  rw [← show crcI (numB i ++ s.toList) = bits .xor .u32 IntKind.u32.max (csum (numB i ++ s.toList) 4294967295) from rfl] at hx0 hx1
  generalize hX : crcI (numB i ++ s.toList) = X at *
  have hX := Lib.hid hX
  clear hl H1 H2 hz
  have hconv : Hid ((convert 70 9 (.slice (some ⟨w2.heap.size, 0, none⟩) 4 4)).run Try.prog (w2.alloc (.cells #[.int .u8 (X / 16777216), .int .u8 (X / 65536 % 256), .int .u8 (X / 256 % 256), .int .u8 (X % 256)] 5)) =
      .ok (.string (strOfNums [X / 16777216, X / 65536 % 256, X / 256 % 256, X % 256])) (w2.alloc (.cells #[.int .u8 (X / 16777216), .int .u8 (X / 65536 % 256), .int .u8 (X / 256 % 256), .int .u8 (X % 256)] 5))) :=
    run_convert_bytes_arg (P := Try.prog) _ 70 5 Try.underlying70 Try.underlying5 w2.heap.size 0 4 4 _ rfl (fun i hi => by
      have hW := blk_new w2 (.cells #[.int .u8 (X / 16777216), .int .u8 (X / 65536 % 256), .int .u8 (X / 256 % 256), .int .u8 (X % 256)] 5)
      rw [blk_cell hW]
      rcases (by omega : i = 0 ∨ i = 1 ∨ i = 2 ∨ i = 3) with rfl | rfl | rfl | rfl <;> rfl) 9 Try.underlying9
  have hsz : (strOfNums [X / 16777216, X / 65536 % 256, X / 256 % 256, X % 256]).size = 4 := by rw [strOfNums_size]; rfl
  have hfin : Hid ((⟨(numB s.size).toArray⟩ : ByteArray) ++ strOfNums [X / 16777216, X / 65536 % 256, X / 256 % 256, X % 256] ++ s = ⟨(layB i s.toList).toArray⟩) := by
    show _ = _
    rw [lay_bytes _ _ hx0 hx1]
    unfold layB
    rw [toList_length, hX.out]
  have hsum1 : (⟨(numB s.size).toArray⟩ : ByteArray).size + 4 ≤ 9223372036854775807 := by
    have := ba_size (numB s.size)
    omega
  have hsum2 : ((⟨(numB s.size).toArray⟩ : ByteArray) ++ strOfNums [X / 16777216, X / 65536 % 256, X / 256 % 256, X % 256]).size + s.size ≤ 9223372036854775807 := by
    rw [ByteArray.size_append, hsz]
    have := ba_size (numB s.size)
    omega
  rw [← hsz] at hsum1
  have hbel : Hid (Below w.heap.size w (w2.alloc (.cells #[.int .u8 (X / 16777216), .int .u8 (X / 65536 % 256), .int .u8 (X / 256 % 256), .int .u8 (X % 256)] 5))) :=
    (hb1.trans (hb2.mono hb1.size)).alloc (Nat.le_trans hb1.size hb2.size) _
  generalize hN : (⟨(numB s.size).toArray⟩ : ByteArray) = N at *
  generalize hQ : strOfNums [X / 16777216, X / 65536 % 256, X / 256 % 256, X % 256] = Q at *
  have hsum3 : N.size + Q.size + s.size ≤ 9223372036854775807 := by rw [← ByteArray.size_append]; exact hsum2
  clear hsz hb1 hb2 hX hN hQ
  go_wp2_with (refine conv_is rfl _ _ _ rfl _ rfl hconv.out ?_)
  go_ret
  exact ⟨congrArg (fun z => Ending.returned (Value.string z)) hfin.out, hbel.out⟩
end Go.Proofs.Ytjilfabdbmfgjaa
