/- A record's bytes: the walk of journal.lay. -/
import Derived.Test.YtjilfabdbmfgjaaN1
namespace Go.Proofs.Ytjilfabdbmfgjaa
open Go.RowKit Go.Proofs.YtjilfabdbmfgjaaW.PrintWords
set_option maxRecDepth 100000

/-- four bytes, the highest first, as the code makes them -/
def be4 (x : Int) : List UInt8 := [x / 16777216, x / 65536, x / 256, x].map fun y => UInt8.ofNat (y % 256).toNat
/-- a record's bytes -/
def layB (i : Nat) (s : List UInt8) : List UInt8 := numB s.length ++ be4 (crcI (numB i ++ s)) ++ s

theorem toList_append' (a b : ByteArray) : (a ++ b).toList = a.toList ++ b.toList := by
  rw [ByteArray.toList_eq, ByteArray.toList_eq, ByteArray.toList_eq, ByteArray.data_append, Array.toList_append]

theorem ba_mk (s : ByteArray) : s = ⟨s.toList.toArray⟩ := by
  rw [ByteArray.toList_eq, Array.toArray_toList]
theorem ba_size (l : List UInt8) : (⟨l.toArray⟩ : ByteArray).size = l.length := by simp [ByteArray.size]
theorem ba_append (a b : List UInt8) : (⟨a.toArray⟩ : ByteArray) ++ ⟨b.toArray⟩ = ⟨(a ++ b).toArray⟩ := by
  apply ByteArray.ext
  rw [ByteArray.data_append]
  simp
theorem lay_bytes (n : List UInt8) (X : Int) (h0 : 0 ≤ X) (h1 : X ≤ 4294967295) (s : ByteArray) :
    (⟨n.toArray⟩ : ByteArray) ++ strOfNums [X / 16777216, X / 65536 % 256, X / 256 % 256, X % 256] ++ s = ⟨(n ++ be4 X ++ s.toList).toArray⟩ := by
  have hb : strOfNums [X / 16777216, X / 65536 % 256, X / 256 % 256, X % 256] = ⟨(be4 X).toArray⟩ := by
    unfold strOfNums be4
    simp only [List.map_cons, List.map_nil]
    rw [show X / 16777216 % 256 = X / 16777216 from by omega]
  rw [hb, ba_append]
  conv => lhs; rw [ba_mk s]
  rw [ba_append]

theorem lay_any (i : Nat) (hi : i < 9223372036854775808) (s : ByteArray) (hs : s.size ≤ 140737488351232) (w : World) :
    Calls Try.prog 34 #[.int .i64 (i : Int), .string s] w fun e w' => e = .returned (.string ⟨(layB i s.toList).toArray⟩) ∧ Below w.heap.size w w' := by
  have H1 := Lib.hid (fun W => number_any s.size (by omega) W)
  have H2 := Lib.hid (fun W => number_any i hi W)
  have hn1 : (numB i).length ≤ 9 := by
    have := beD_length 8 i (by omega)
    simp [numB, u8s]
    omega
  have hn2 : (numB s.size).length ≤ 9 := by
    have := beD_length 8 s.size (by omega)
    simp [numB, u8s]
    omega
  go_enter Try.func34, Try.ntmps34
  go_wp2_with (fail)
  refine (H1.out _).mono ?_
  rintro e w1 ⟨rfl, hb1⟩
  go_wp2_with (fail)
  refine (H2.out _).mono ?_
  rintro e w2 ⟨rfl, hb2⟩
  go_wp2_with (fail)
  have hz : ((⟨(numB i).toArray⟩ : ByteArray) ++ s).size ≤ 140737488355327 := by
    rw [ByteArray.size_append]
    have := ba_size (numB i)
    omega
  have hl : ((⟨(numB i).toArray⟩ : ByteArray) ++ s).toList = numB i ++ s.toList := by
    rw [toList_append', ByteArray.toList_mk]
  refine (sum_any _ hz _).mono ?_
  rintro e w3 ⟨rfl, rfl⟩
  rw [hl]
  have hx0 := bits_lo_u32 .xor IntKind.u32.max (csum (numB i ++ s.toList) 4294967295)
  have hx1 := bits_hi_u32 .xor IntKind.u32.max (csum (numB i ++ s.toList) 4294967295)
  rw [← show crcI (numB i ++ s.toList) = bits .xor .u32 IntKind.u32.max (csum (numB i ++ s.toList) 4294967295) from rfl] at hx0 hx1
  generalize hX : crcI (numB i ++ s.toList) = X at *
  have hX := Lib.hid hX
  clear hl H1 H2 hz
  have hconv : Hid ((convert 70 9 (.slice (some ⟨w2.heap.size, 0, none⟩) 4 4)).run Try.prog (w2.alloc (.cells #[.int .u8 (X / 16777216), .int .u8 (X / 65536 % 256), .int .u8 (X / 256 % 256), .int .u8 (X % 256)] 5)) =
      .ok (.string (strOfNums [X / 16777216, X / 65536 % 256, X / 256 % 256, X % 256])) (w2.alloc (.cells #[.int .u8 (X / 16777216), .int .u8 (X / 65536 % 256), .int .u8 (X / 256 % 256), .int .u8 (X % 256)] 5))) :=
    run_convert_bytes_arg (P := Try.prog) _ 70 5 Try.underlying70 Try.underlying5 w2.heap.size 0 4 4 _ rfl (fun i hi => by
      have hW := blk_new w2 (.cells #[.int .u8 (X / 16777216), .int .u8 (X / 65536 % 256), .int .u8 (X / 256 % 256), .int .u8 (X % 256)] 5)
      rw [blk_cell hW]
      rcases (by omega : i = 0 ∨ i = 1 ∨ i = 2 ∨ i = 3) with rfl | rfl | rfl | rfl <;> rfl) 9 Try.underlying9
  have hsz : (strOfNums [X / 16777216, X / 65536 % 256, X / 256 % 256, X % 256]).size = 4 := by rw [strOfNums_size]; rfl
  have hfin : Hid ((⟨(numB s.size).toArray⟩ : ByteArray) ++ strOfNums [X / 16777216, X / 65536 % 256, X / 256 % 256, X % 256] ++ s = ⟨(layB i s.toList).toArray⟩) := by
    show _ = _
    rw [lay_bytes _ _ hx0 hx1]
    unfold layB
    rw [toList_length, hX.out]
  have hsum1 : (⟨(numB s.size).toArray⟩ : ByteArray).size + 4 ≤ 9223372036854775807 := by
    have := ba_size (numB s.size)
    omega
  have hsum2 : ((⟨(numB s.size).toArray⟩ : ByteArray) ++ strOfNums [X / 16777216, X / 65536 % 256, X / 256 % 256, X % 256]).size + s.size ≤ 9223372036854775807 := by
    rw [ByteArray.size_append, hsz]
    have := ba_size (numB s.size)
    omega
  rw [← hsz] at hsum1
  have hbel : Hid (Below w.heap.size w (w2.alloc (.cells #[.int .u8 (X / 16777216), .int .u8 (X / 65536 % 256), .int .u8 (X / 256 % 256), .int .u8 (X % 256)] 5))) :=
    (hb1.trans (hb2.mono hb1.size)).alloc (Nat.le_trans hb1.size hb2.size) _
  generalize hN : (⟨(numB s.size).toArray⟩ : ByteArray) = N at *
  generalize hQ : strOfNums [X / 16777216, X / 65536 % 256, X / 256 % 256, X % 256] = Q at *
  have hsum3 : N.size + Q.size + s.size ≤ 9223372036854775807 := by rw [← ByteArray.size_append]; exact hsum2
  clear hsz hb1 hb2 hX hN hQ
  go_wp2_with (refine conv_is rfl _ _ _ rfl _ rfl hconv.out ?_)
  go_ret
  exact ⟨congrArg (fun z => Ending.returned (Value.string z)) hfin.out, hbel.out⟩
end Go.Proofs.Ytjilfabdbmfgjaa
