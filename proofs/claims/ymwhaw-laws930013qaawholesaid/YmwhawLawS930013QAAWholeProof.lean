/-
  THE PROOF OF 'Rows.LawS930013QAAWholeSaid' ('example.com/own/semver.LawS930013QAAWhole'): the given shell's frame; its one hole, the walk, filled out of the contracts of YmwhawIdentTops and the plain law of YmwhawPlain.
-/
import Derived.Test.YmwhawRows
import Derived.Test.YmwhawIdentTops
import Derived.WalkKit
import Derived.ProofKit
import Derived.OpenShut
import Derived.ShutString
namespace Go.Proofs.Ymwhaw.lawS930013QAAWhole
open Go.ChangeShapes Go.WideShapes Go.ChangeAt Go.RowKit
open Go.ChangeMaps (open_string shut_string)
set_option linter.unusedVariables false      -- a walk need not use every 'w<i>' (that an integer argument fits its kind)

theorem own : ownKnob Yawv.prog.godebug = none := by kernel_rfl

/-! ### STEP 1: THE WALK: the Go text returns true. 'Grown w w'': the world has at most new blocks. -/
set_option maxHeartbeats 400000 in
theorem walk_in (a0 : ByteArray) (a1 : ByteArray) (h0 : a0.size ≤ 1024) (h1 : a1.size ≤ 1024) (w : World) :
    Calls Yawv.prog 3 #[.string a0, .string a1] w fun e w' => e = .returned (.bool true) ∧ Grown w w' := by
  obtain ⟨r, hr⟩ : ∃ r, Pl.ciB (Pl.num a0.data.toList) (Pl.num a1.data.toList) (Op.bytesLess a0.toList a1.toList) (a0.toList == a1.toList) a0.size a1.size = r := ⟨_, rfl⟩
  have hc := ci_any a0 a1 h0 h1
  have hm := mo_any a0 a1 h0 h1
  rw [← Pl.same_strings] at hm
  rw [hr] at hc hm
  clear hr
  have HC : Hid (∀ w : World, Calls Yawv.prog 5 #[.string a0, .string a1] w fun e w' => e = .returned (.int .i64 r) ∧ w' = w) := hc
  have HM : Hid (∀ w : World, Calls Yawv.prog 6 #[.string a0, .string a1] w fun e w' => e = .returned (.int .i64 r) ∧ Grown w w') := hm
  clear hc hm
  have hd0 : decide (1024 < a0.size) = false := by simp; omega
  have hd1 : decide (1024 < a1.size) = false := by simp; omega
  go_enter Yawv.func3, Yawv.ntmps3
  go_wp2_with fail
  refine (HC.out _).mono ?_
  rintro e w1 ⟨rfl, rfl⟩
  go_wp2_with fail
  refine (HM.out _).mono ?_
  rintro e w1 ⟨rfl, hg⟩
  go_wp2
  go_ret
  exact ⟨by simp, hg⟩

set_option maxHeartbeats 400000 in
theorem walk (a0 : ByteArray) (a1 : ByteArray) (w0 : a0.size ≤ maxLen) (w1 : a1.size ≤ maxLen) (w : World) :
    Calls Yawv.prog 3 #[.string a0, .string a1] w fun e w' => e = .returned (.bool true) ∧ Grown w w' := by
  by_cases h0 : 1024 < a0.size
  · go_enter Yawv.func3, Yawv.ntmps3
    go_wp2
    go_ret
    exact ⟨rfl, Grown.refl _⟩
  · by_cases h1 : 1024 < a1.size
    · go_enter Yawv.func3, Yawv.ntmps3
      go_wp2
      go_ret
      exact ⟨rfl, Grown.refl _⟩
    · exact walk_in a0 a1 (by omega) (by omega) w

/-! ### THE ROW's STEP: WRITTEN OUT: LEAVE IT -/
set_option maxRecDepth 100000 in
theorem lifted (os : Os) (started : os.Started) (H : Type) (enc : TypeId × Value → H) :
    ReturnsInHanded {} Yawv.checked os 3 .any (Rows.lawS930013QAAWholeSpec.pre6 enc Yawv.prog Yawv.f3 Rows.lawS930013QAAWholeRow.domain false) (Rows.lawS930013QAAWholeSpec.post enc Yawv.prog Yawv.f3 false true false false) := by
  refine returnsInHanded_of_change (C := Yawv.checked) own started (by kernel_rfl) Yawv.func3
    (ChangeSpec.witness6 (enc := enc) (C := Yawv.checked) false ⟨#[], #[.string ByteArray.empty, .string ByteArray.empty], []⟩ 8 (by kernel_rfl) (by kernel_rfl) (by kernel_rfl) (by kernel_rfl)) ?_
  intro W base args ds gs before hval0 hW hcnd _
  have hval : ∀ (j : Nat) t v, Yawv.f3.params[j]? = some t → args[j]? = some v → Value.okWide Yawv.prog W .any base t v := hval0
  have hW' := hW
  obtain ⟨p, q, hA0, hV, rfl, hfz, hnd⟩ := hW
  have hA : DataW.TrodAll enc Yawv.prog W 0 (fun _ => true) true Yawv.f3.params.toList args.toList ds p := hA0
  rw [Yawv.params3] at hA hval
  obtain ⟨v0, vs0, d0, ds0, p0, q0, hargs, rfl, rfl, h0, r0⟩ := trodAll_cons hA
  obtain ⟨v1, vs1, d1, ds1, p1, q1, rfl, rfl, rfl, h1, r1⟩ := trodAll_cons r0
  obtain ⟨rfl, rfl, rfl⟩ := trodAll_nil r1
  obtain rfl : args = #[v0, v1] := by cases args; simp_all
  obtain ⟨rfl, rfl⟩ := trodVars_none hV
  obtain ⟨a0, rfl, rfl, rfl, w0⟩ := open_string Yawv.underlying9 (hval 0 9 v0 rfl rfl) h0
  obtain ⟨a1, rfl, rfl, rfl, w1⟩ := open_string Yawv.underlying9 (hval 1 9 v1 rfl rfl) h1
  clear hA0 hval0
  simp only [List.append_nil] at hW'
  refine (walk a0 a1 w0 w1 W).mono fun e W' ⟨he, hg⟩ => ?_
  subst he
  exact ⟨_, rfl, post_of_same (pa := []) (pv := []) hW' (fun _ _ _ => (trodAll_cons_mk (shut_bool Yawv.underlying4 _) trodAll_mk0)) (fun sp _ => (trodAll_cons_mk (shut_string Yawv.underlying9 w0) (trodAll_cons_mk (shut_string Yawv.underlying9 w1) trodAll_mk0))) (fun _ _ => rfl) rfl
    (hg.frame _) hg.2.1 (ok_one (by kernel_rfl) rfl (okWide_bool_mk Yawv.underlying4 _))⟩

theorem over : Rows.lawS930013QAAWholeRow.holds Yawv.pinned (OpenSpec.ofChange Rows.lawS930013QAAWholeSpec) :=
  OpenClaim.holds_of_wide 3 Yawv.f3 rfl rfl rfl rfl rfl rfl rfl ⟨rfl, rfl, rfl, rfl, rfl⟩ rfl rfl rfl rfl rfl (by kernel_rfl) Yawv.func3 (by kernel_rfl)
    (of_decide_eq_true (by kernel_rfl)) (by unfold Func.isWrapper; first | (rw [if_pos (by decide +kernel)]; kernel_rfl) | (rw [if_neg (by decide +kernel)]; exact ⟨rfl, rfl⟩))
    (fun os started H enc _ => lifted os started H enc)

/-- ████ THE STATEMENT ████ -/
theorem proved : Rows.LawS930013QAAWholeSaid :=
  over
end Go.Proofs.Ymwhaw.lawS930013QAAWhole
