/- The records of a file's bytes: the plain words, and the walk of journal.Parse. -/
import Derived.Test.YtjilfabdbmfgjaaR0
import Derived.Test.YtjilfabdbmfgjaaS3
import Derived.Deep.RegionWith
import Derived.IntWalk
namespace Go.Proofs.Ytjilfabdbmfgjaa
open Go.RowKit Go.Proofs.YtjilfabdbmfgjaaW.PrintWords Go.Proofs.Ytjilfabdbmfgjaa.PJournalOrder
set_option maxRecDepth 100000

/-- the records that bytes have from record i on, and how many bytes they take -/
def parseL (i : Nat) (l : List UInt8) : List (List UInt8) × Nat :=
  match rdNum l with
  | none => ([], 0)
  | some (n, u) =>
    if h : 4096 < n ∨ l.length < u + 4 + n then ([], 0) else
    if layB i ((l.drop (u + 4)).take n) = l.take (u + 4 + n) then
      (((l.drop (u + 4)).take n) :: (parseL (i + 1) (l.drop (u + 4 + n))).1, u + 4 + n + (parseL (i + 1) (l.drop (u + 4 + n))).2)
    else ([], 0)
termination_by l.length
decreasing_by all_goals (rw [List.length_drop]; omega)

theorem parseL_none {i : Nat} {l : List UInt8} (h : rdNum l = none) : parseL i l = ([], 0) := by rw [parseL, h]
theorem parseL_big {i : Nat} {l : List UInt8} {n u : Nat} (h : rdNum l = some (n, u)) (hb : 4096 < n ∨ l.length < u + 4 + n) : parseL i l = ([], 0) := by
  rw [parseL, h]
  simp only [dif_pos hb]
theorem parseL_other {i : Nat} {l : List UInt8} {n u : Nat} (h : rdNum l = some (n, u)) (hb : ¬ (4096 < n ∨ l.length < u + 4 + n)) (hl : layB i ((l.drop (u + 4)).take n) ≠ l.take (u + 4 + n)) : parseL i l = ([], 0) := by
  rw [parseL, h]
  simp only [dif_neg hb, if_neg hl]
theorem parseL_more {i : Nat} {l : List UInt8} {n u : Nat} (h : rdNum l = some (n, u)) (hb : ¬ (4096 < n ∨ l.length < u + 4 + n)) (hl : layB i ((l.drop (u + 4)).take n) = l.take (u + 4 + n)) :
    parseL i l = (((l.drop (u + 4)).take n) :: (parseL (i + 1) (l.drop (u + 4 + n))).1, u + 4 + n + (parseL (i + 1) (l.drop (u + 4 + n))).2) := by
  rw [parseL, h]
  simp only [dif_neg hb, if_pos hl]

def mk (l : List UInt8) : ByteArray := ⟨l.toArray⟩

/-- a row of strings that reads; its block: below base, or of the strings' own type -/
structure StrsAt (base : Nat) (w : World) (v : Value) (l : List ByteArray) : Prop where
  out : ∃ A c, v = .slice A l.length c ∧ l.length ≤ c ∧ Kd.C Kd.string w A l.length l ∧ ∀ ad, A = some ad → ad.block < base ∨ ∃ cs fz, w.heap[ad.block]? = some (.cells cs 9 fz)

theorem strs_of_R {base : Nat} {w : World} {b0 : Nat} {v : Value} {l : List ByteArray} {ok : Nat → Prop} (h : Kd.R Kd.string 9 w b0 ok v l) : StrsAt base w v l := by
  obtain ⟨A, c, rfl, hc, hC⟩ := Kd.R_reads h
  refine ⟨A, c, rfl, hc, hC, ?_⟩
  rintro ad rfl
  have hb := (Kd.R_bound h).1 ad.block rfl
  obtain ⟨-, -, -, q, hq, cells, hcl⟩ := hb
  have hq' : q = 9 := by
    simp only [Kd.string, Kd.scalar, List.mem_cons, List.not_mem_nil, or_false] at hq
    exact hq
  subst hq'
  exact .inr ⟨_, _, hcl⟩

theorem strs_cut {base : Nat} {w : World} {A : Option Addr} {n c : Nat} {l : List ByteArray} (h : StrsAt base w (.slice A n c) l) : StrsAt base w (.slice A n n) l := by
  obtain ⟨A', c', hv, hc, hC, hb⟩ := h.out
  injection hv with e1 e2 e3
  subst e1 e2
  exact ⟨A, l.length, rfl, Nat.le_refl _, hC, hb⟩
theorem strs_heap {base : Nat} {w w' : World} {v : Value} {l : List ByteArray} (h : StrsAt base w v l) (hw : w'.heap = w.heap) : StrsAt base w' v l := by
  obtain ⟨A, c, hv, hc, hC, hb⟩ := h.out
  refine ⟨A, c, hv, hc, ⟨hC.1, hC.2.1, fun hn => ?_⟩, fun ad ha => by rw [hw]; exact hb ad ha⟩
  obtain ⟨ad, ha, hx⟩ := hC.2.2 hn
  refine ⟨ad, ha, fun j x hj => ?_⟩
  obtain ⟨cc, c1, c2, c3⟩ := hx j x hj
  refine ⟨cc, c1, c2, fun i u hu => ?_⟩
  rw [← c3 i u hu]
  unfold World.cell?
  rw [hw]
theorem rdNum_le {l : List UInt8} {n u : Nat} (h : rdNum l = some (n, u)) : u ≤ l.length ∧ 1 ≤ u ∧ n < 9223372036854775808 := by
  match l, h with
  | k :: r, h =>
    simp only [rdNum] at h
    by_cases c1 : 8 < k.toNat
    · rw [if_pos c1] at h; cases h
    · rw [if_neg c1] at h
      by_cases c2 : r.length < k.toNat
      · rw [if_pos c2] at h; cases h
      · rw [if_neg c2] at h
        by_cases c3 : 0 < k.toNat ∧ ((r.headD 0).toNat = 0 ∨ (k.toNat = 8 ∧ 127 < (r.headD 0).toNat))
        · rw [if_pos c3] at h; cases h
        · rw [if_neg c3] at h
          simp only [Option.some.injEq, Prod.mk.injEq] at h
          obtain ⟨rfl, rfl⟩ := h
          refine ⟨by simp; omega, by omega, ?_⟩
          by_cases c4 : k.toNat = 0
          · rw [c4, List.take_zero]; decide
          · obtain ⟨j, hj⟩ : ∃ j, k.toNat = j + 1 := ⟨k.toNat - 1, by omega⟩
            rw [hj]
            have hjr : j < r.length := by omega
            have hm := val_take_mul r (j + 1) (by omega) (fun h8 => by
              have : ¬ 127 < (r.headD 0).toNat := fun h127 => c3 ⟨by omega, .inr ⟨by omega, h127⟩⟩
              omega) j (by omega) (by omega)
            rw [List.take_succ_eq_append_getElem hjr, val_snoc]
            have hlt := (r[j]'hjr).toNat_lt
            generalize (r[j]'hjr).toNat = b at *
            generalize val (r.take j) = x at *
            have : b < 256 := hlt
            omega

theorem toList_extract (s : ByteArray) (a b : Nat) : (s.extract a b).toList = (s.toList.drop a).take (b - a) := by
  rw [ByteArray.toList_eq, ByteArray.toList_eq, ByteArray.data_extract]
  simp [Array.toList_extract, List.extract]

theorem pj_lay {s : ByteArray} {p u n i : Nat} : (layB i (s.extract (p + u + 4) (p + u + 4 + n)).toList = (s.extract p (p + u + 4 + n)).toList) = (layB i (((s.toList.drop p).drop (u + 4)).take n) = (s.toList.drop p).take (u + 4 + n)) := by
  rw [toList_extract, toList_extract, List.drop_drop, ← Nat.add_assoc, show p + u + 4 + n - (p + u + 4) = n by omega, show p + u + 4 + n - p = u + 4 + n by omega]

theorem pj_step {s : ByteArray} {p n u : Nat} {ts : List (List UInt8)} (hrd : rdNum (s.toList.drop p) = some (n, u)) (hbig : ¬ (4096 < n ∨ (s.toList.drop p).length < u + 4 + n))
    (h5 : parseL 0 s.toList = (ts ++ (parseL ts.length (s.toList.drop p)).1, p + (parseL ts.length (s.toList.drop p)).2))
    (hl : layB ts.length (s.extract (p + u + 4) (p + u + 4 + n)).toList = (s.extract p (p + u + 4 + n)).toList) :
    parseL 0 s.toList = ((ts ++ [(s.extract (p + u + 4) (p + u + 4 + n)).toList]) ++ (parseL (ts ++ [(s.extract (p + u + 4) (p + u + 4 + n)).toList]).length (s.toList.drop (p + u + 4 + n))).1,
      (p + u + 4 + n) + (parseL (ts ++ [(s.extract (p + u + 4) (p + u + 4 + n)).toList]).length (s.toList.drop (p + u + 4 + n))).2) := by
  have hl' := pj_lay ▸ hl
  rw [h5, parseL_more hrd hbig hl', List.length_append, List.length_singleton, toList_extract, List.drop_drop, List.drop_drop,
    show p + u + 4 + n - (p + u + 4) = n by omega, show p + (u + 4) = p + u + 4 by omega, show p + (u + 4 + n) = p + u + 4 + n by omega]
  dsimp only
  rw [List.append_assoc, show p + (u + 4 + n + (parseL (ts.length + 1) (s.toList.drop (p + u + 4 + n))).2) = p + u + 4 + n + (parseL (ts.length + 1) (s.toList.drop (p + u + 4 + n))).2 by omega]
  rfl

theorem pj_stop {s : ByteArray} {p n u : Nat} {ts : List (List UInt8)} (hrd : rdNum (s.toList.drop p) = some (n, u)) (hbig : ¬ (4096 < n ∨ (s.toList.drop p).length < u + 4 + n))
    (h5 : parseL 0 s.toList = (ts ++ (parseL ts.length (s.toList.drop p)).1, p + (parseL ts.length (s.toList.drop p)).2))
    (hl : ¬ layB ts.length (s.extract (p + u + 4) (p + u + 4 + n)).toList = (s.extract p (p + u + 4 + n)).toList) :
    parseL 0 s.toList = (ts, p) := by
  have hl' : ¬ _ := fun h => hl (pj_lay ▸ h)
  rw [h5, parseL_other hrd hbig hl']
  simp

def PJ (s : ByteArray) (w : World) (v : Value) (p : Nat) (ts : List (List UInt8)) (w' : World) : Prop :=
  Kd.R Kd.string 9 w' w.heap.size (fun _ => True) v (ts.map mk) ∧ Below w.heap.size w w' ∧ p ≤ s.size ∧ ts.length ≤ p ∧
  parseL 0 s.toList = (ts ++ (parseL ts.length (s.toList.drop p)).1, p + (parseL ts.length (s.toList.drop p)).2)

def J (s : ByteArray) (w : World) (a : Act) (w' : World) : Prop :=
  ∃ (v : Value) (p : Nat) (ts : List (List UInt8)), PJ s w v p ts w' ∧ ∃ u2 u3 u6 u7 u8 u9 u10 u11 u12 u13 u14 u15 u16 u17 u18 u19 u20 u21 u22 u23 u24 u25 u26 u27 u28 u29 u30 u31 u32 u33 u34 u35 u36 u37 u38 u39 u40 u41 u42 u43 u44 u45 u46 u47 u48 u49 u50 u51 u52 u53 u54 u55 u56 u57 u58 u59 u60 u61 u62 u63 u64 u65 u66 u67 u68 u69 u70 u71 u72 u73 : Value, a = ⟨#[.string s, undef, u2, u3, v, .int .i64 (p : Int), u6, u7, u8, u9, u10, u11, u12, u13, u14, u15, u16, u17, u18, u19, u20, u21, u22, u23, u24, u25, u26, u27, u28, u29, u30, u31, u32, u33, u34, u35, u36, u37, u38, u39, u40, u41, u42, u43, u44, u45, u46, u47, u48, u49, u50, u51, u52, u53, u54, u55, u56, u57, u58, u59, u60, u61, u62, u63, u64, u65, u66, u67, u68, u69, u70, u71, u72, u73], []⟩

def firstScope : Code → Option Code
  | .scope c => some c
  | .seq a b => match firstScope a with
    | some c => some c
    | none => firstScope b
  | .block _ c => firstScope c
  | _ => none
noncomputable def restX : Code := match ((Try.f13.body.bind firstScope).bind (findLabel · 0)).getD .skip with
  | .seq _ x => x
  | c => c

def Rpost (s : ByteArray) (w : World) (e : Ending) (w' : World) : Prop := ∃ v', e = .returned (.tuple #[v', .int .i64 ((parseL 0 s.toList).2 : Int)]) ∧ StrsAt 0 w' v' ((parseL 0 s.toList).1.map mk) ∧ Below w.heap.size w w'

theorem rpost_in {s : ByteArray} {w w' : World} {v : Value} {p : Nat} (f1 : StrsAt 0 w' v ((parseL 0 s.toList).1.map mk)) (f2 : Below w.heap.size w w') (f3 : (parseL 0 s.toList).2 = p) : Rpost s w (.returned (.tuple #[v, .int .i64 (p : Int)])) w' :=
  ⟨v, by rw [f3], f1, f2⟩

set_option maxHeartbeats 2000000 in
theorem parse_round (s : ByteArray) (hs : s.size ≤ 1048576) (w : World) (G : Act → World → Prop) (v : Value) (p : Nat) (ts : List (List UInt8)) (w1 : World) (hI : PJ s w v p ts w1)
    (hgoto : ∀ a w', J s w a w' → s.size - (intOf (a.tmps.getD 5 undef)).toNat < s.size - p → G a w')
    (u2 u3 u6 u7 u8 u9 u10 u11 u12 u13 u14 u15 u16 u17 u18 u19 u20 u21 u22 u23 u24 u25 u26 u27 u28 u29 u30 u31 u32 u33 u34 u35 u36 u37 u38 u39 u40 u41 u42 u43 u44 u45 u46 u47 u48 u49 u50 u51 u52 u53 u54 u55 u56 u57 u58 u59 u60 u61 u62 u63 u64 u65 u66 u67 u68 u69 u70 u71 u72 u73 : Value) :
    Code.wp Try.prog restX (Exit.jump 0 G (bodyPost Try.prog Try.f13 (Rpost s w))) ⟨#[.string s, undef, u2, u3, v, .int .i64 (p : Int), u6, u7, u8, u9, u10, u11, u12, u13, u14, u15, u16, u17, u18, u19, u20, u21, u22, u23, u24, u25, u26, u27, u28, u29, u30, u31, u32, u33, u34, u35, u36, u37, u38, u39, u40, u41, u42, u43, u44, u45, u46, u47, u48, u49, u50, u51, u52, u53, u54, u55, u56, u57, u58, u59, u60, u61, u62, u63, u64, u65, u66, u67, u68, u69, u70, u71, u72, u73], []⟩ w1 := by
  conv => arg 2; whnf
  obtain ⟨h1, h2, h3, h4, h5⟩ := hI
  obtain ⟨A, c, rfl, hc, hC⟩ := Kd.R_reads h1
  rw [List.length_map] at hc ⊢
  obtain ⟨hrn1, hrn2⟩ := rn_spec s (by omega) p h3
  have hexit : Hid (∀ a w', bodyPost Try.prog Try.f13 (Rpost s w) .ret a w' → Exit.jump 0 G (bodyPost Try.prog Try.f13 (Rpost s w)) .ret a w') := fun _ _ h => h
  have hgoto := Lib.hid hgoto
  cases hrd : rdNum (s.toList.drop p) with
  | none =>
    obtain ⟨k, r1, r2, r3, hf, hr3⟩ := hrn1 hrd
    have hp : parseL 0 s.toList = (ts, p) := by rw [h5, parseL_none hrd]; simp
    have hr3b : (r3 != 0) = true := by rw [bne_iff_ne]; exact hr3
    have hfin : Hid (∀ n, StrsAt 0 (w1.drewN n) (.slice A ts.length ts.length) ((parseL 0 s.toList).1.map mk) ∧ Below w.heap.size w (w1.drewN n) ∧ (parseL 0 s.toList).2 = p) := by
      intro n
      have hs1 := strs_of_R (base := 0) h1
      rw [List.length_map] at hs1
      rw [hp]
      exact ⟨strs_heap (strs_cut hs1) rfl, pw_below_drewN h2 n, rfl⟩
    have hf := Lib.hid hf
    clear h5 hr3 hC h1 h2 hrn1 hrn2 hp
    go_wp2_with (fail)
    refine (octets_ReadNumber.calls k s p r1 r2 r3 _ hf.out).mono ?_
    rintro e w2 ⟨rfl, ⟨⟨n, rfl⟩⟩⟩
    go_wp2_with (fail)
    refine hexit.out _ _ (bodyPost_ret (results_tmp2 rfl _ _ _) rfl ?_)
    obtain ⟨f1, f2, f3⟩ := hfin.out n
    exact rpost_in f1 f2 f3
  | some nu =>
    obtain ⟨n, u⟩ := nu
    obtain ⟨k, hf⟩ := hrn2 n u hrd
    obtain ⟨hu1, hu2, hn63⟩ := rdNum_le hrd
    have hL : (s.toList.drop p).length = s.size - p := by rw [List.length_drop, toList_length]
    rw [hL] at hu1
    have hf := Lib.hid hf
    have hfin : Hid (parseL 0 s.toList = (ts, p) → ∀ w', Kd.R Kd.string 9 w' w.heap.size (fun _ => True) (.slice A ts.length c) (ts.map mk) → Below w.heap.size w w' → StrsAt 0 w' (.slice A ts.length ts.length) ((parseL 0 s.toList).1.map mk) ∧ Below w.heap.size w w' ∧ (parseL 0 s.toList).2 = p) := by
      intro hp w' hR hB
      have hs1 := strs_of_R (base := 0) hR
      rw [hp]
      exact ⟨strs_cut hs1, hB, rfl⟩
    by_cases hbig : 4096 < n ∨ (s.toList.drop p).length < u + 4 + n
    · have hp : parseL 0 s.toList = (ts, p) := by rw [h5, parseL_big hrd hbig]; simp
      have hfin := hfin.out hp
      have hfin2 : Hid (∀ m, StrsAt 0 (w1.drewN m) (.slice A ts.length ts.length) ((parseL 0 s.toList).1.map mk) ∧ Below w.heap.size w (w1.drewN m) ∧ (parseL 0 s.toList).2 = p) := by
        intro m
        rw [List.length_map] at h1
        exact hfin _ (Kd.R_drewN h1 m) (pw_below_drewN h2 m)
      rw [hL] at hbig
      clear hfin h5 hC h1 h2 hrn1 hrn2 hp
      by_cases hb1 : 4096 < n
      · have hb1' : (4096 : Int) < (n : Int) := by omega
        clear hbig hb1
        go_wp2_with (fail)
        refine (octets_ReadNumber.calls k s p n (p + u) 0 _ hf.out).mono ?_
        rintro e w2 ⟨rfl, ⟨⟨m, rfl⟩⟩⟩
        go_wp2_with (fail)
        refine hexit.out _ _ (bodyPost_ret (results_tmp2 rfl _ _ _) rfl ?_)
        obtain ⟨f1, f2, f3⟩ := hfin2.out m
        exact rpost_in f1 f2 f3
      · have hb1' : ¬ (4096 : Int) < (n : Int) := by omega
        have hb2' : (s.size : Int) - ((p : Int) + (u : Int)) - 4 < (n : Int) := by omega
        clear hbig hb1
        go_wp2_with (fail)
        refine (octets_ReadNumber.calls k s p n (p + u) 0 _ hf.out).mono ?_
        rintro e w2 ⟨rfl, ⟨⟨m, rfl⟩⟩⟩
        go_wp2_with (fail)
        refine hexit.out _ _ (bodyPost_ret (results_tmp2 rfl _ _ _) rfl ?_)
        obtain ⟨f1, f2, f3⟩ := hfin2.out m
        exact rpost_in f1 f2 f3
    · have hbig' := hbig
      rw [hL] at hbig'
      have hb1 : ¬ (4096 : Int) < (n : Int) := by omega
      have hb2 : ¬ (s.size : Int) - ((p : Int) + (u : Int)) - 4 < (n : Int) := by omega
      have hb3 : (0 : Int) ≤ (p : Int) + (u : Int) + 4 := by omega
      have hb4 : (p : Int) + (u : Int) + 4 + (n : Int) ≤ (s.size : Int) := by omega
      have hb4' : p + u + 4 + n ≤ s.size := by omega
      clear hbig'
      rw [List.length_map] at h1
      have h1 := Lib.hid h1
      have h2 := Lib.hid h2
      have h5 := Lib.hid h5
      have hrd := Lib.hid hrd
      have hbig := Lib.hid hbig
      have hL := Lib.hid hL
      clear hC hrn1 hrn2
      go_wp2_with (fail)
      refine (octets_ReadNumber.calls k s p n (p + u) 0 _ hf.out).mono ?_
      rintro e w2 ⟨rfl, ⟨⟨m, rfl⟩⟩⟩
      go_wp2_with (fail)
      have hsz : (s.extract (p + u + 4) (p + u + 4 + n)).size ≤ 140737488351232 := by rw [ByteArray.size_extract]; omega
      have hlay : Hid (∀ W, Calls Try.prog 34 #[.int .i64 (ts.length : Int), .string (s.extract (p + u + 4) (p + u + 4 + n))] W fun e w' => e = .returned (.string ⟨(layB ts.length (s.extract (p + u + 4) (p + u + 4 + n)).toList).toArray⟩) ∧ Below W.heap.size W w') :=
        fun W => lay_any ts.length (by omega) _ hsz W
      clear hsz
      generalize hT : s.extract (p + u + 4) (p + u + 4 + n) = T at *
      have hT := Lib.hid hT
      have w1' : IntKind.i64.wrap ((p : Int) + (u : Int) + 4) = (p : Int) + (u : Int) + 4 := IntWalk.i64_in _ (by omega)
      have w2' : IntKind.i64.wrap ((p : Int) + (u : Int) + 4 + (n : Int)) = (p : Int) + (u : Int) + 4 + (n : Int) := IntWalk.i64_in _ (by omega)
      have g1 : (0 : Int) ≤ (p : Int) := by omega
      have g2 : (p : Int) ≤ (p : Int) + (u : Int) + 4 + (n : Int) := by omega
      have g3 : (0 : Int) ≤ (p : Int) + (u : Int) + 4 + (n : Int) := by omega
      have g4 : ((p : Int) + (u : Int) + 4 + (n : Int)).toNat = p + u + 4 + n := by omega
      go_region_with (go_at_call 34; refine (hlay.out _).mono ?_; rintro e w3 ⟨rfl, hb⟩)
      have hsz1 := h2.out.size
      by_cases hq : layB ts.length T.toList = (s.extract p (p + u + 4 + n)).toList
      · have hq1 : (layB ts.length T.toList == (s.extract p (p + u + 4 + n)).toList) = true := beq_iff_eq.2 hq
        have hb' := Lib.hid (h2.out.trans ((pw_below_drewN (Below.refl _ w1) _).trans (hb.mono hsz1)))
        have hsz3 := Lib.hid (Nat.le_trans hsz1 hb.size)
        have hR' := Lib.hid (Kd.R_below (Kd.R_drewN h1.out _) hb)
        have hnew : Hid (parseL 0 s.toList = ((ts ++ [T.toList]) ++ (parseL (ts ++ [T.toList]).length (s.toList.drop (p + u + 4 + n))).1, (p + u + 4 + n) + (parseL (ts ++ [T.toList]).length (s.toList.drop (p + u + 4 + n))).2)) := by
          have := pj_step hrd.out hbig.out h5.out (by rw [hT.out]; exact hq)
          rw [hT.out] at this
          exact this
        clear hq
        rw [hq1, Bool.not_true]
        clear hq1
        go_wp2_with (at_builtin; refine Kd.R_append Kd.string (w0 := w3) w.heap.size rfl (.tmp 66) (.tmp 68) 29 9 (.string ⟨#[]⟩) 16 rfl Try.underlying29 strInfo rfl (by decide) (by omega) (.slice A ts.length c) (ts.map mk) T [.string T] (fun _ => True) (fun _ => False) rfl rfl ?aP (fun _ hk => hk.elim) ?aF ?aO ?aB ?aS ?aL ?_; (case aP => exact rfl); (case aF => exact fun _ _ => trivial); (case aO => exact hR'.out); (case aB => exact Below.refl _ _); (case aS => exact hsz3.out); (case aL => rw [List.length_map]; omega); intro v1 w4 ho hb4 hg hat)
        refine wp_goto ⟨rfl, ?_⟩
        have hpc : ((p : Int) + (u : Int) + 4 + (n : Int)) = ((p + u + 4 + n : Nat) : Int) := by omega
        rw [hpc]
        refine hgoto.out _ _ ⟨v1, p + u + 4 + n, ts ++ [T.toList], ⟨?_, hb'.out.trans hb4, hb4', ?_, hnew.out⟩, _, _, _, _, _, _, _, _, _, _, _, _, _, _, _, _, _, _, _, _, _, _, _, _, _, _, _, _, _, _, _, _, _, _, _, _, _, _, _, _, _, _, _, _, _, _, _, _, _, _, _, _, _, _, _, _, _, _, _, _, _, _, _, _, _, _, _, _, _, _, rfl⟩ ?_
        · rw [List.map_append]
          have e1 : mk T.toList = T := (ba_mk T).symm
          show Kd.R Kd.string _ _ _ _ _ (ts.map mk ++ [mk T.toList])
          rw [e1]
          exact ho
        · rw [List.length_append, List.length_singleton]; omega
        · show s.size - ((p + u + 4 + n : Nat) : Int).toNat < s.size - p
          rw [Int.toNat_natCast]; omega
      · have hq1 : (layB ts.length T.toList == (s.extract p (p + u + 4 + n)).toList) = false := beq_eq_false_iff_ne.2 hq
        have hp := pj_stop hrd.out hbig.out h5.out (by rw [hT.out]; exact hq)
        have hb' := h2.out.trans ((pw_below_drewN (Below.refl _ w1) _).trans (hb.mono hsz1))
        have hfin2 := Lib.hid (fun m => hfin.out hp _ (Kd.R_drewN (Kd.R_below (Kd.R_drewN h1.out _) hb) m) (pw_below_drewN hb' m))
        clear hq hp hfin
        rw [hq1, Bool.not_false]
        clear hq1
        go_wp2_with (fail)
        obtain ⟨f1, f2, f3⟩ := hfin2.out 0
        refine hexit.out _ _ (bodyPost_ret (results_tmp2 rfl _ _ _) rfl ?_)
        exact rpost_in f1 f2 f3

theorem parse_any (s : ByteArray) (hs : s.size ≤ 1048576) (w : World) : Calls Try.prog 13 #[.string s] w (Rpost s w) := by
  go_enter Try.func13, Try.ntmps13
  go_wp2_with (fail)
  refine wp_scope_jumps 0 (J s w) (fun a _ => s.size - (intOf (a.tmps.getD 5 undef)).toNat) rfl ?_ ?_
  · go_wp2_with (fail)
    go_step3
    rename_i K hK
    refine hK _ _ ?_
    refine parse_round s hs w (J s w) (.slice none 0 0) 0 [] w ⟨?_, Below.refl _ _, Nat.zero_le _, Nat.le_refl _, ?_⟩ (fun _ _ h _ => h) _ _ _ _ _ _ _ _ _ _ _ _ _ _ _ _ _ _ _ _ _ _ _ _ _ _ _ _ _ _ _ _ _ _ _ _ _ _ _ _ _ _ _ _ _ _ _ _ _ _ _ _ _ _ _ _ _ _ _ _ _ _ _ _ _ _ _ _ _ _
    · exact Kd.R_nil _ _ _ _ _
    · rw [List.drop_zero, List.length_nil, List.nil_append, Nat.zero_add]
  · rintro a w1 ⟨v, p, ts, hI, u2, u3, hJ⟩
    obtain ⟨u6, hJ⟩ := hJ
    obtain ⟨u7, hJ⟩ := hJ
    obtain ⟨u8, hJ⟩ := hJ
    obtain ⟨u9, hJ⟩ := hJ
    obtain ⟨u10, hJ⟩ := hJ
    obtain ⟨u11, hJ⟩ := hJ
    obtain ⟨u12, hJ⟩ := hJ
    obtain ⟨u13, hJ⟩ := hJ
    obtain ⟨u14, hJ⟩ := hJ
    obtain ⟨u15, hJ⟩ := hJ
    obtain ⟨u16, hJ⟩ := hJ
    obtain ⟨u17, hJ⟩ := hJ
    obtain ⟨u18, hJ⟩ := hJ
    obtain ⟨u19, hJ⟩ := hJ
    obtain ⟨u20, hJ⟩ := hJ
    obtain ⟨u21, hJ⟩ := hJ
    obtain ⟨u22, hJ⟩ := hJ
    obtain ⟨u23, hJ⟩ := hJ
    obtain ⟨u24, hJ⟩ := hJ
    obtain ⟨u25, hJ⟩ := hJ
    obtain ⟨u26, hJ⟩ := hJ
    obtain ⟨u27, hJ⟩ := hJ
    obtain ⟨u28, hJ⟩ := hJ
    obtain ⟨u29, hJ⟩ := hJ
    obtain ⟨u30, hJ⟩ := hJ
    obtain ⟨u31, hJ⟩ := hJ
    obtain ⟨u32, hJ⟩ := hJ
    obtain ⟨u33, hJ⟩ := hJ
    obtain ⟨u34, hJ⟩ := hJ
    obtain ⟨u35, hJ⟩ := hJ
    obtain ⟨u36, hJ⟩ := hJ
    obtain ⟨u37, hJ⟩ := hJ
    obtain ⟨u38, hJ⟩ := hJ
    obtain ⟨u39, hJ⟩ := hJ
    obtain ⟨u40, hJ⟩ := hJ
    obtain ⟨u41, hJ⟩ := hJ
    obtain ⟨u42, hJ⟩ := hJ
    obtain ⟨u43, hJ⟩ := hJ
    obtain ⟨u44, hJ⟩ := hJ
    obtain ⟨u45, hJ⟩ := hJ
    obtain ⟨u46, hJ⟩ := hJ
    obtain ⟨u47, hJ⟩ := hJ
    obtain ⟨u48, hJ⟩ := hJ
    obtain ⟨u49, hJ⟩ := hJ
    obtain ⟨u50, hJ⟩ := hJ
    obtain ⟨u51, hJ⟩ := hJ
    obtain ⟨u52, hJ⟩ := hJ
    obtain ⟨u53, hJ⟩ := hJ
    obtain ⟨u54, hJ⟩ := hJ
    obtain ⟨u55, hJ⟩ := hJ
    obtain ⟨u56, hJ⟩ := hJ
    obtain ⟨u57, hJ⟩ := hJ
    obtain ⟨u58, hJ⟩ := hJ
    obtain ⟨u59, hJ⟩ := hJ
    obtain ⟨u60, hJ⟩ := hJ
    obtain ⟨u61, hJ⟩ := hJ
    obtain ⟨u62, hJ⟩ := hJ
    obtain ⟨u63, hJ⟩ := hJ
    obtain ⟨u64, hJ⟩ := hJ
    obtain ⟨u65, hJ⟩ := hJ
    obtain ⟨u66, hJ⟩ := hJ
    obtain ⟨u67, hJ⟩ := hJ
    obtain ⟨u68, hJ⟩ := hJ
    obtain ⟨u69, hJ⟩ := hJ
    obtain ⟨u70, hJ⟩ := hJ
    obtain ⟨u71, hJ⟩ := hJ
    obtain ⟨u72, hJ⟩ := hJ
    obtain ⟨u73, hJ⟩ := hJ
    subst hJ
    refine wp_seq (wp_skip ?_)
    refine parse_round s hs w _ v p ts w1 hI ?_ _ _ _ _ _ _ _ _ _ _ _ _ _ _ _ _ _ _ _ _ _ _ _ _ _ _ _ _ _ _ _ _ _ _ _ _ _ _ _ _ _ _ _ _ _ _ _ _ _ _ _ _ _ _ _ _ _ _ _ _ _ _ _ _ _ _ _ _ _ _
    intro a w' h1 h2
    exact ⟨h1, h2⟩
end Go.Proofs.Ytjilfabdbmfgjaa
