/- The law JournalNone: the walk, and the statement. -/
import Derived.Test.YtjilfabdbmfgjaaK0
import Derived.Test.YtjilfabdbmfgjaaRows
import Derived.ProofKit
namespace Go.Proofs.Ytjilfabdbmfgjaa
open Go.RowKit Go.ChangeShapes Go.WideShapes Go.ChangeAt Go.ChangeMaps Go.Proofs.YtjilfabdbmfgjaaW.PrintWords
set_option maxRecDepth 100000

theorem none_any (nm s : ByteArray) (w : World) : Calls Try.prog 5 #[.string nm, .string s] w fun e w' => e = .returned (.bool true) ∧ Below w.heap.size w w' := by
  have hO := Lib.hid (open_nil nm w)
  have hA := Lib.hid (awake_any w)
  go_enter Try.func5, Try.ntmps5
  go_wp2_with (fail)
  refine hO.out.mono ?_
  rintro e w1 ⟨rfl, rfl⟩
  go_wp2_with (fail)
  refine hA.out.mono ?_
  rintro e w2 ⟨rfl, hb⟩
  have hb := Lib.hid hb
  have h1 := Lib.hid (jadd_nil s w2)
  have h2 := Lib.hid (jsync_nil w2)
  have h3 := Lib.hid (jrenew_nil (.slice none 0 0) w2)
  have h4 := Lib.hid (jlen_nil w2)
  have h5 := Lib.hid (jsynced_nil w2)
  go_wp2_with (first |
    (go_at_call 18; refine h1.out.mono ?_; rintro e w' ⟨rfl, rfl⟩) |
    (go_at_call 19; refine h2.out.mono ?_; rintro e w' ⟨rfl, rfl⟩) |
    (go_at_call 20; refine h3.out.mono ?_; rintro e w' ⟨rfl, rfl⟩) |
    (go_at_call 21; refine h4.out.mono ?_; rintro e w' ⟨rfl, rfl⟩) |
    (go_at_call 22; refine h5.out.mono ?_; rintro e w' ⟨rfl, rfl⟩))
  go_ret
  exact ⟨rfl, hb.out⟩

theorem Try.own : ownKnob Try.prog.godebug = none := by kernel_rfl

theorem journalNone_lifted (os : Os) (started : os.Started) (H : Type) (enc : TypeId × Value → H) :
    ReturnsInHanded {} Try.checked os 5 .any (Rows.journalNoneSpec.pre6 enc Try.prog Try.f5 Rows.journalNoneRow.domain false) (Rows.journalNoneSpec.post enc Try.prog Try.f5 false true false false) := by
  refine returnsInHanded_of_change (C := Try.checked) Try.own started (by kernel_rfl) Try.func5
    (ChangeSpec.witness6 (enc := enc) (C := Try.checked) false ⟨#[], #[.string ⟨#[]⟩, .string ⟨#[]⟩], []⟩ 8 (by kernel_rfl) (by kernel_rfl) (by kernel_rfl) (by kernel_rfl)) ?_
  intro W base args ds gs before hval0 hW hcnd _
  have hval : ∀ (j : Nat) t v, Try.f5.params[j]? = some t → args[j]? = some v → Value.okWide Try.prog W .any base t v := hval0
  have hW' := hW
  obtain ⟨p, q, hA0, hV, rfl, hfz, hnd⟩ := hW
  have hA : DataW.TrodAll enc Try.prog W 0 (fun _ => true) true Try.f5.params.toList args.toList ds p := hA0
  rw [Try.params5] at hA hval
  obtain ⟨v0, v1, d0, d1, p0, p1, rfl, rfl, rfl, h0, h1⟩ := trodAll_two hA
  obtain ⟨rfl, rfl⟩ := trodVars_none hV
  obtain ⟨s0, rfl, rfl, rfl, z0⟩ := open_string Try.underlying9 (hval 0 9 v0 rfl rfl) h0
  obtain ⟨s1, rfl, rfl, rfl, z1⟩ := open_string Try.underlying9 (hval 1 9 v1 rfl rfl) h1
  clear hA0 hval0
  simp only [List.append_nil] at hW'
  refine (none_any s0 s1 W).mono fun e W' ⟨he, hB⟩ => ?_
  subst he
  exact ⟨_, rfl, _, _, _, [], [], [], hW', trodAll_mk1 (shut_bool Try.underlying4 _), trodAll_mk2 (shut_string Try.underlying9 z0) (shut_string Try.underlying9 z1), rfl, hB.frame _, fun h => by cases h⟩

theorem journalNone_holds : Rows.JournalNoneSaid :=
  OpenClaim.holds_of_wide 5 Try.f5 rfl rfl rfl rfl rfl rfl rfl ⟨rfl, rfl, rfl, rfl, rfl⟩ rfl rfl rfl rfl rfl (by kernel_rfl) Try.func5 (by kernel_rfl)
    (of_decide_eq_true (by kernel_rfl)) (by unfold Func.isWrapper; first | (rw [if_pos (by decide +kernel)]; kernel_rfl) | (rw [if_neg (by decide +kernel)]; exact ⟨rfl, rfl⟩))
    (fun os started H enc _ => journalNone_lifted os started H enc)
#print axioms journalNone_holds
end Go.Proofs.Ytjilfabdbmfgjaa
