/- The law JournalOrder: for every list of strings and every number it returns true. -/
import Derived.Test.YtjilfabdbmfgjaaK3
import Derived.Test.YtjilfabdbmfgjaaRows
import Derived.ProofKit
import Derived.Carry
import Derived.SizedLaws
import Derived.SliceStrings
namespace Go.Proofs.Ytjilfabdbmfgjaa
open Go.RowKit Go.ChangeShapes Go.WideShapes Go.ChangeAt Go.ChangeMaps Go.Proofs.YtjilfabdbmfgjaaW.PrintWords
set_option maxRecDepth 100000

theorem tryOwn3 : ownKnob Try.prog.godebug = none := by kernel_rfl
theorem tryLaid3 : laidOutB Try.prog = true := by kernel_rfl
theorem tryCellsStr : Try.prog.cellsOf 9 = 1 := by kernel_rfl
theorem tryBytesStr : Try.prog.bytesOf 9 = 16 := by kernel_rfl

/-- a slice of strings that came in -/
theorem strs_arg {H : Type} {enc : TypeId × Value → H} {W : World} {v : Value} {d : DataW H} {p : List MemPlace} {b0 : Nat} {ts : List TypeId} {ds : List (DataW H)} {j : Nat} (hsz : (DataW.weightsEach Try.prog ts ds).all (· ≤ reachBytes) = true)
    (ht : ts[j]? = some 29) (hdj : ds[j]? = some d) (hval : Value.okWide Try.prog W .any b0 29 v) (hd : DataW.Trod enc Try.prog W 0 (fun _ => true) true 29 v d p) :
    ∃ A c l, v = .slice A (l : List ByteArray).length c ∧ l.length ≤ c ∧ Kd.C Kd.string W A l.length l ∧ l.length ≤ 8796093022208 := by
  obtain ⟨a0, len, cap, rfl⟩ := okWide_slice Try.underlying29 hval
  obtain ⟨fuel, hf⟩ := hd
  rcases open_strings Try.underlying29 Try.underlying9 tryCellsStr hf with ⟨hcs, hx⟩ | ⟨a, len', cap', zs, hcs, -, hl, hm, hz, hx, hcell, hwz⟩
  · simp [Value.cells] at hcs
    obtain ⟨rfl, rfl, rfl⟩ := hcs
    exact ⟨none, 0, [], rfl, Nat.le_refl _, ⟨rfl, by decide, fun h => absurd h (by decide)⟩, by decide⟩
  · simp [Value.cells] at hcs
    obtain ⟨rfl, rfl, rfl⟩ := hcs
    simp only [if_true] at hz
    obtain ⟨hx, _⟩ := Prod.mk.inj hx
    subst hx
    have z := sized_slice hsz ht hdj Try.underlying29
    rw [tryBytesStr] at z
    have h1 : (strs (H := H) (zs.take len)).length + (strs (H := H) (zs.drop len)).length = zs.length := by
      simp [strs]
      omega
    rw [h1] at z
    have hr : reachBytes = 140737488351232 := rfl
    rw [hr] at z
    have hlen : (zs.take len).length = len := by rw [List.length_take, hz]; omega
    unfold maxLen at hm
    refine ⟨some a, cap, zs.take len, by rw [hlen], by rw [hlen]; exact hl, ?_, by rw [hlen]; omega⟩
    rw [hlen]
    refine ⟨hlen, by omega, fun _ => ⟨a, rfl, fun i s hi => ⟨[.string s], rfl, rfl, fun k u hk => ?_⟩⟩⟩
    cases k with
    | succ k => simp at hk
    | zero =>
      simp only [List.getElem?_cons_zero, Option.some.injEq] at hk
      subst hk
      have hi1 : i < zs.length ∧ zs[i]? = some s := by
        have h2 := (List.getElem?_eq_some_iff.1 hi).1
        rw [hlen] at h2
        rw [List.getElem?_take, if_pos h2] at hi
        exact ⟨by omega, hi⟩
      have hc := hcell i hi1.1
      rw [List.getD_eq_getElem?_getD, hi1.2] at hc
      show W.cell? (a.add (i * 1 + 0)) = some (.string s)
      rw [Nat.mul_one, Nat.add_zero]
      exact hc

theorem journalOrder_lifted (os : Os) (started : os.Started) (H : Type) (enc : TypeId × Value → H) :
    ReturnsInHanded {} Try.checked os 4 .any (Rows.journalOrderSpec.pre6 enc Try.prog Try.f4 Rows.journalOrderRow.domain false) (Rows.journalOrderSpec.post enc Try.prog Try.f4 false true false false) := by
  refine returnsInHanded_of_change_sized (C := Try.checked) tryOwn3 started (by kernel_rfl) Try.func4
    (ChangeSpec.witness6 (enc := enc) (C := Try.checked) false ⟨#[], #[.slice none 0 0, .int .u8 0], []⟩ 8 (by kernel_rfl) (by kernel_rfl) (by kernel_rfl) (by kernel_rfl)) ?_
  intro W base args ds gs before hval0 hW _ hsz0 _
  have hsz : (DataW.weightsEach Try.prog (Try.f4.params.toList ++ Rows.journalOrderSpec.plain.varTypes Try.prog) (ds ++ gs)).all (· ≤ reachBytes) = true := hsz0
  clear hsz0
  have hval : ∀ (j : Nat) t v, Try.f4.params[j]? = some t → args[j]? = some v → Value.okWide Try.prog W .any base t v := hval0
  have hW' := hW
  obtain ⟨p, q, hA0, hV, rfl, hfz, hnd⟩ := hW
  have hA : DataW.TrodAll enc Try.prog W 0 (fun _ => true) true Try.f4.params.toList args.toList ds p := hA0
  rw [Try.params4] at hA hval hsz
  obtain ⟨v0, v1, d0, d1, p0, p1, rfl, rfl, rfl, h0, h1⟩ := trodAll_two hA
  obtain ⟨rfl, rfl⟩ := trodVars_none hV
  obtain ⟨A, c, l, rfl, hlc, hC, hl⟩ := strs_arg hsz (j := 0) rfl rfl (hval 0 29 v0 rfl rfl) h0
  obtain ⟨n, rfl, rfl, rfl, z1⟩ := open_int Try.underlying5 (hval 1 5 v1 rfl rfl) h1
  clear hA0 hval0
  simp only [List.append_nil] at hW'
  have hlt : ∀ x ∈ p0, x.block < W.heap.size := fun x hx => by simpa using hW'.lt x hx
  have z2 : 0 ≤ n ∧ n < 256 := by
    simp only [Lit.wf, Bool.and_eq_true, decide_eq_true_eq] at z1
    have h1 : IntKind.u8.min = 0 := rfl
    have h2 : IntKind.u8.max = 255 := rfl
    omega
  obtain ⟨k, rfl⟩ : ∃ k : Nat, n = (k : Int) := ⟨n.toNat, by omega⟩
  refine (order_any A c l W hC hlc hl k (by omega)).mono fun e W' ⟨he, hB⟩ => ?_
  subst he
  exact ⟨_, rfl, _, _, _, [], _, [], hW', trodAll_mk1 (shut_bool Try.underlying4 _),
    trodAll_mk2 (Below.trod tryLaid3 (by kernel_rfl) (of_decide_eq_true (by kernel_rfl)) h0 hB hlt) (shut_int Try.underlying5 z1), rfl, hB.frame _, fun h => by cases h⟩

theorem journalOrder_holds : Rows.JournalOrderSaid :=
  OpenClaim.holds_of_wide 4 Try.f4 rfl rfl rfl rfl rfl rfl rfl ⟨rfl, rfl, rfl, rfl, rfl⟩ rfl rfl rfl rfl rfl (by kernel_rfl) Try.func4 (by kernel_rfl)
    (of_decide_eq_true (by kernel_rfl)) (by unfold Func.isWrapper; first | (rw [if_pos (by decide +kernel)]; kernel_rfl) | (rw [if_neg (by decide +kernel)]; exact ⟨rfl, rfl⟩))
    (fun os started H enc _ => journalOrder_lifted os started H enc)
#print axioms journalOrder_holds
end Go.Proofs.Ytjilfabdbmfgjaa
