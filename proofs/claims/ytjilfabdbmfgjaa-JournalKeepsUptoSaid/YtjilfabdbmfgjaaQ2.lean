/- Plain facts: the document's Parse is the journal's; few. -/
import Derived.Test.YtjilfabdbmfgjaaQ1
import Derived.Test.YtjilfabdbmfgjaaP0
namespace Go.Proofs.Ytjilfabdbmfgjaa
open Go.RowKit Go.Proofs.YtjilfabdbmfgjaaW.PrintWords Go.Proofs.YtjilfabdbmfgjaaW.PrintMore Go.Proofs.Ytjilfabdbmfgjaa.PJournalOrder
set_option maxRecDepth 100000

theorem pr1 {p n u sz L : Nat} (h : p + u + 4 + n ≤ sz) (hz : sz ≤ 1048576) (hL : L ≤ p) :
    wrap64 ((p : Int) + (u : Int) + 4) = ((p + u + 4 : Nat) : Int) ∧ wrap64 (((p + u + 4 : Nat) : Int) + (n : Int)) = ((p + u + 4 + n : Nat) : Int) ∧ (0 : Int) ≤ ((p + u + 4 : Nat) : Int) ∧ ((p + u + 4 : Nat) : Int) ≤ ((p + u + 4 + n : Nat) : Int) ∧
    ((p + u + 4 + n : Nat) : Int) ≤ (sz : Int) ∧ (0 : Int) ≤ (p : Int) ∧ (p : Int) ≤ ((p + u + 4 + n : Nat) : Int) ∧ L < 8796093022208 ∧ L < 9223372036854775808 := by
  refine ⟨?_, ?_, by omega, by omega, by omega, by omega, by omega, by omega, by omega⟩
  · rw [w64 (by omega) (by omega)]; omega
  · rw [w64 (by omega) (by omega)]; omega

theorem pr3 {p n u sz : Nat} (h : p + u + 4 + n ≤ sz) (hz : sz ≤ 1048576) : wrap64 ((p : Int) + ((u + 4 + n : Nat) : Int)) = ((p + u + 4 + n : Nat) : Int) := by
  rw [w64 (by omega) (by omega)]; omega
theorem pr4 {p n u sz : Nat} (h : sz < p + u + 4 + n) (hn : n ≤ 4096) (hu : u ≤ 1048576) (hp : p ≤ 1048576) : decide (wrap64 (wrap64 ((p : Int) + (u : Int) + 4) + (n : Int)) > (sz : Int)) = true := by
  rw [w64 (n := (p : Int) + (u : Int) + 4) (by omega) (by omega), w64 (by omega) (by omega)]
  exact decide_eq_true (by omega)
theorem parse_ref_go (s : ByteArray) (hs : s.size ≤ 1048576) : ∀ (m p K : Nat) (ts : List ByteArray), p + m = s.size → ts.length ≤ p → 2 * m + 60000 ≤ K →
    cavalcaderef10_Parse.l0 K s ts (p : Int) = some (ts ++ (parseL ts.length (s.toList.drop p)).1.map mk, ((p + (parseL ts.length (s.toList.drop p)).2 : Nat) : Int)) := by
  intro m
  induction m using Nat.strongRecOn with
  | _ m ih =>
    intro p K ts hp hts hK
    obtain ⟨K, rfl⟩ : ∃ j, K = j + 2 := ⟨K - 2, by omega⟩
    have hstop : parseL ts.length (s.toList.drop p) = ([], 0) → (some (ts, (p : Int)) : Option (List ByteArray × Int)) = some (ts ++ (parseL ts.length (s.toList.drop p)).1.map mk, ((p + (parseL ts.length (s.toList.drop p)).2 : Nat) : Int)) := by
      intro h
      rw [h]
      simp
    rw [show K + 2 = (K + 1) + 1 by omega, cavalcaderef10_Parse.l0]
    by_cases hlt : p < s.size
    · rw [if_pos (show (p : Int) < (s.size : Int) by omega)]
      obtain ⟨g1, g2⟩ := rr_spec s (by omega) p (by omega) (K + 1) (by omega)
      cases hrd : rdNum (s.toList.drop p) with
      | none =>
        obtain ⟨r1, r2, r3, e, h3⟩ := g1 hrd
        rw [e]
        simp only [Option.bind_some]
        rw [if_neg h3, cavalcaderef10_Parse.j1]
        rw [if_pos rfl]
        exact hstop (parseL_none hrd)
      | some nu =>
        obtain ⟨n, u⟩ := nu
        rw [g2 n u hrd]
        simp only [Option.bind_some]
        rw [if_pos trivial]
        have hL : (s.toList.drop p).length = s.size - p := by rw [List.length_drop, toList_length]
        obtain ⟨hu1, hu2, hu3⟩ := rdNum_le hrd
        rw [hL] at hu1
        by_cases hbig : 4096 < n ∨ (s.toList.drop p).length < u + 4 + n
        · have hp0 := parseL_big (i := ts.length) hrd hbig
          rw [hL] at hbig
          by_cases hb1 : 4096 < n
          · rw [if_pos (show (n : Int) > 4096 by omega), cavalcaderef10_Parse.j1]
            rw [if_pos rfl]
            exact hstop hp0
          · have hng : ¬ (n : Int) > 4096 := by omega
            have hw := pr4 (p := p) (n := n) (u := u) (sz := s.size) (by omega) (by omega) (by omega) (by omega)
            rw [if_neg hng, hw, cavalcaderef10_Parse.j1]
            rw [if_pos rfl]
            exact hstop hp0
        · have hbig' := hbig
          rw [hL] at hbig'
          have hsz : p + u + 4 + n ≤ s.size := by omega
          have hng : ¬ (n : Int) > 4096 := by omega
          have hK1 : 10 * n + 101 ≤ K := by omega
          have hK2 : n ≤ 1099511627776 := by omega
          have hw : decide (((p + u + 4 + n : Nat) : Int) > (s.size : Int)) = false := decide_eq_false (by omega)
          have hT : (s.extract (p + u + 4) (p + u + 4 + n)).size = n := by rw [ByteArray.size_extract]; omega
          obtain ⟨e1, e2, h1, h2, h3, h4, h5, h6, h7⟩ := pr1 hsz hs hts
          have hrec := record_ref ts.length h7 (s.extract (p + u + 4) (p + u + 4 + n)) (hT.symm ▸ hK2) K (hT.symm ▸ hK1)
          rw [if_neg hng, e1, e2, hw, cavalcaderef10_Parse.j1]
          rw [if_neg (by decide), e1, e2, if_pos h1, if_pos h2, if_pos h3, Int.toNat_natCast, Int.toNat_natCast, hrec]
          clear e1 e2 hrec hw g1 g2
          simp only [Option.bind_some]
          rw [if_pos h4, if_pos h5, Int.toNat_natCast]
          have hmk : (⟨(layB ts.length (s.extract (p + u + 4) (p + u + 4 + n)).toList).toArray⟩ : ByteArray).toList = layB ts.length (s.extract (p + u + 4) (p + u + 4 + n)).toList := mk_toList _
          rw [hmk]
          by_cases hq : (s.extract p (p + u + 4 + n)).toList = layB ts.length (s.extract (p + u + 4) (p + u + 4 + n)).toList
          · have hlen : (layB ts.length (s.extract (p + u + 4) (p + u + 4 + n)).toList).length = u + 4 + n := by
              rw [← hq, toList_length, ByteArray.size_extract]; omega
            rw [if_pos hq, if_pos h6, ba_size, hlen]
            rw [pr3 hsz hs, ih (s.size - (p + u + 4 + n)) (by omega) (p + u + 4 + n) K (ts ++ [s.extract (p + u + 4) (p + u + 4 + n)]) (by omega) (by rw [List.length_append, List.length_singleton]; omega) (by omega)]
            have hl' := pj_lay ▸ hq.symm
            rw [parseL_more hrd hbig hl', List.length_append, List.length_singleton, List.drop_drop, List.drop_drop, show p + (u + 4 + n) = p + u + 4 + n by omega, show p + (u + 4) = p + u + 4 by omega]
            dsimp only
            have hx : mk ((s.toList.drop (p + u + 4)).take n) = s.extract (p + u + 4) (p + u + 4 + n) := by
              have := toList_extract s (p + u + 4) (p + u + 4 + n)
              rw [show p + u + 4 + n - (p + u + 4) = n by omega] at this
              rw [← this]
              exact (ba_mk _).symm
            rw [List.map_cons, hx, List.append_assoc]
            congr 2
            omega
          · rw [if_neg hq]
            refine hstop (parseL_other hrd hbig ?_)
            intro h
            exact hq (pj_lay ▸ h).symm
    · rw [if_neg (show ¬ (p : Int) < (s.size : Int) by omega)]
      refine hstop ?_
      rw [List.drop_eq_nil_of_le (by rw [toList_length]; omega), parse_nil]

theorem parse_ref (s : ByteArray) (hs : s.size ≤ 1048576) : cavalcaderef10_Parse.f (2 * s.size + 60000) s = some ((parseL 0 s.toList).1.map mk, (((parseL 0 s.toList).2 : Nat) : Int)) := by
  have := parse_ref_go s hs s.size 0 (2 * s.size + 60000) [] (by omega) (by simp) (Nat.le_refl _)
  rw [List.drop_zero, List.nil_append, List.length_nil, Nat.zero_add] at this
  exact this
end Go.Proofs.Ytjilfabdbmfgjaa
namespace Go.Proofs.Ytjilfabdbmfgjaa
open Go.RowKit Go.Proofs.YtjilfabdbmfgjaaW.PrintWords Go.Proofs.YtjilfabdbmfgjaaW.PrintMore Go.Proofs.Ytjilfabdbmfgjaa.PJournalOrder
set_option maxRecDepth 100000

def small (s : ByteArray) : Bool := decide (s.size ≤ 4096)
theorem fw1 {i m L x : Nat} (h : i + (m + 1) = L) (hL : L ≤ 8796093022208) (hx : x ≤ i) : (i : Int) < (L : Int) ∧ (0 : Int) ≤ (i : Int) ∧ x < 8796093022208 ∧ wrap64 ((i : Int) + 1) = ((i + 1 : Nat) : Int) ∧ i < L ∧ (i + 1) + m = L ∧ x ≤ i + 1 ∧ x + 1 ≤ i + 1 := by
  refine ⟨by omega, by omega, by omega, ?_, by omega, by omega, by omega, by omega⟩
  rw [w64 (by omega) (by omega)]; omega
theorem few_go (l : List ByteArray) (hl : l.length ≤ 8796093022208) : ∀ (m i : Nat) (x : List ByteArray), i + m = l.length → x.length ≤ i →
    cavalcadelaw10_few.l0 (m + 1) l x (i : Int) = some (x ++ (l.drop i).filter small)
  | 0, i, x, h, _ => by
    have h1 : ¬ (i : Int) < (l.length : Int) := by omega
    have h2 : l.drop i = [] := List.drop_eq_nil_of_le (by omega)
    rw [cavalcadelaw10_few.l0]
    rw [if_neg h1, h2]
    simp
  | m + 1, i, x, h, hx => by
    obtain ⟨h1, h2, h3, e1, h4, h5, h6, h7⟩ := fw1 h hl hx
    have hd : l.drop i = l[i] :: l.drop (i + 1) := List.drop_eq_getElem_cons h4
    have hr : rdOf ByteArray.empty l (i : Int) = l[i] := by
      unfold rdOf
      rw [Int.toNat_natCast]
      simp [List.getD_eq_getElem?_getD, h4]
    rw [cavalcadelaw10_few.l0]
    rw [if_pos h1, if_pos h2, hr, if_pos h3, e1]
    by_cases hc : l[i].size ≤ 4096
    · have hs : small l[i] = true := decide_eq_true hc
      rw [if_pos (show (l[i].size : Int) ≤ 4096 by omega), few_go l hl m (i + 1) _ h5 (by rw [List.length_append, List.length_singleton]; exact h7), hd, List.filter_cons_of_pos hs, List.append_assoc]
      rfl
    · have hs : ¬ small l[i] = true := by simpa [small] using hc
      rw [if_neg (show ¬ (l[i].size : Int) ≤ 4096 by omega), few_go l hl m (i + 1) _ h5 h6, hd, List.filter_cons_of_neg hs]
theorem few_is (l : List ByteArray) (hl : l.length ≤ 8796093022208) : cavalcadelaw10_few.f (l.length + 1) l = some (l.filter small) := by
  have := few_go l hl l.length 0 [] (by omega) (Nat.le_refl _)
  rw [List.drop_zero, List.nil_append] at this
  exact this

/-- the bytes of records from number i on, without number k -/
def skB (k : Nat) : Nat → List ByteArray → List UInt8
  | _, [] => []
  | i, s :: l => (if i = k then [] else layB i s.toList) ++ skB k (i + 1) l
theorem skB_append (k : Nat) (l m : List ByteArray) : ∀ i, skB k i (l ++ m) = skB k i l ++ skB k (i + l.length) m := by
  induction l with
  | nil => intro i; simp [skB]
  | cons s l ih =>
    intro i
    simp only [List.cons_append, skB, List.length_cons]
    rw [ih (i + 1), List.append_assoc, show i + 1 + l.length = i + (l.length + 1) by omega]
theorem skB_snoc (k : Nat) (l : List ByteArray) (p : Nat) (hp : p < l.length) : skB k 0 (l.take (p + 1)) = skB k 0 (l.take p) ++ (if p = k then [] else layB p l[p].toList) := by
  rw [List.take_succ_eq_append_getElem hp, skB_append, Nat.zero_add, List.length_take, Nat.min_eq_left (by omega)]
  simp [skB]
theorem skB_before (k : Nat) : ∀ (l : List ByteArray) (i : Nat), i + l.length ≤ k → skB k i l = catB i l
  | [], _, _ => rfl
  | s :: l, i, h => by
    simp only [List.length_cons] at h
    rw [skB, catB, if_neg (by omega), skB_before k l (i + 1) (by omega)]
theorem skB_length (k : Nat) : ∀ (l : List ByteArray) (i : Nat), (∀ s ∈ l, s.size ≤ 4096) → i + l.length ≤ 4611686018427387904 → (skB k i l).length ≤ 4109 * l.length
  | [], _, _, _ => by simp [skB]
  | s :: l, i, h, hi => by
    simp only [List.length_cons] at hi ⊢
    have h1 := skB_length k l (i + 1) (fun x hx => h x (List.mem_cons_of_mem _ hx)) (by omega)
    have h2 := h s List.mem_cons_self
    have h3 : (layB i s.toList).length ≤ 13 + s.toList.length := by
      have hn2 : (numB s.toList.length).length ≤ 9 := numB_length _ (by rw [toList_length]; omega)
      simp [layB, be4]
      omega
    rw [toList_length] at h3
    rw [skB, List.length_append]
    split
    · simp only [List.length_nil]; omega
    · omega
/-- what is read where record k lacks -/
theorem order_plain (l : List ByteArray) (h : ∀ s ∈ l, s.size ≤ 4096) (k : Nat) (hk : k < l.length) : ∃ more, (parseL 0 (skB k 0 l)).1.map mk = l.take k ++ more := by
  have e : skB k 0 l = catB 0 (l.take k) ++ skB k k (l.drop k) := by
    conv => lhs; rw [← List.take_append_drop k l]
    rw [skB_append, Nat.zero_add, List.length_take, Nat.min_eq_left (by omega), skB_before k (l.take k) 0 (by rw [List.length_take]; omega)]
  rw [e, parse_catB (l.take k) 0 _ (fun s hs => h s (List.mem_of_mem_take hs))]
  refine ⟨(parseL (0 + (l.take k).length) (skB k k (l.drop k))).1.map mk, ?_⟩
  dsimp only
  rw [List.map_append, map_mk_toList]
end Go.Proofs.Ytjilfabdbmfgjaa
