/-
  THE WALKS, ONE STOREY UP: 'CompareIdent' and the model, out of the contracts of YmwhawIdentWalks. Every test on the road is decided ahead of the walk.
-/
import Derived.Test.YmwhawIdentWalks
namespace Go.Proofs.Ymwhaw
open Go.RowKit
set_option linter.unusedVariables false      -- a way need not use every test's outcome by its name: the walk takes it out of the context

/-! ### 'CompareIdent' -/
set_option maxHeartbeats 400000 in
theorem ci_tf (a b : ByteArray) (lt eq : Bool) (h1 : Hid (Pl.num a.data.toList = true)) (h2 : Hid (Pl.num b.data.toList = false))
    (hl : Op.bytesLess a.toList b.toList = lt) (he : (a.toList == b.toList) = eq) (ha : a.size ≤ 1024) (hb : b.size ≤ 1024) (w : World) :
    Calls Yawv.prog 5 #[.string a, .string b] w fun e w' => e = .returned (.int .i64 (Pl.ciB true false lt eq a.size b.size)) ∧ w' = w := by
  have hf : Hid (Pl.ciB true false lt eq a.size b.size = -1) := by unfold Hid Pl.ciB; simp
  go_enter Yawv.func5, Yawv.ntmps5
  go_wp2_with fail
  refine (isnum_any _ _ h1 ha _).mono ?_
  rintro e w1 ⟨rfl, rfl⟩
  go_wp2_with fail
  refine (isnum_any _ _ h2 hb _).mono ?_
  rintro e w1 ⟨rfl, rfl⟩
  go_wp2
  go_ret
  exact ⟨ret_int hf.out.symm, rfl⟩

set_option maxHeartbeats 400000 in
theorem ci_ft (a b : ByteArray) (lt eq : Bool) (h1 : Hid (Pl.num a.data.toList = false)) (h2 : Hid (Pl.num b.data.toList = true))
    (hl : Op.bytesLess a.toList b.toList = lt) (he : (a.toList == b.toList) = eq) (ha : a.size ≤ 1024) (hb : b.size ≤ 1024) (w : World) :
    Calls Yawv.prog 5 #[.string a, .string b] w fun e w' => e = .returned (.int .i64 (Pl.ciB false true lt eq a.size b.size)) ∧ w' = w := by
  cases eq
  · have hf : Hid (Pl.ciB false true lt false a.size b.size = 1) := by unfold Hid Pl.ciB; simp
    go_enter Yawv.func5, Yawv.ntmps5
    go_wp2_with fail
    refine (isnum_any _ _ h1 ha _).mono ?_
    rintro e w1 ⟨rfl, rfl⟩
    go_wp2_with fail
    refine (isnum_any _ _ h2 hb _).mono ?_
    rintro e w1 ⟨rfl, rfl⟩
    go_wp2
    go_ret
    exact ⟨ret_int hf.out.symm, rfl⟩
  · have hf : Hid (Pl.ciB false true lt true a.size b.size = 0) := by unfold Hid Pl.ciB; simp
    go_enter Yawv.func5, Yawv.ntmps5
    go_wp2_with fail
    refine (isnum_any _ _ h1 ha _).mono ?_
    rintro e w1 ⟨rfl, rfl⟩
    go_wp2_with fail
    refine (isnum_any _ _ h2 hb _).mono ?_
    rintro e w1 ⟨rfl, rfl⟩
    go_wp2
    go_ret
    exact ⟨ret_int hf.out.symm, rfl⟩

set_option maxHeartbeats 400000 in
theorem ci_ff (a b : ByteArray) (lt eq : Bool) (r : Int) (h1 : Hid (Pl.num a.data.toList = false)) (h2 : Hid (Pl.num b.data.toList = false)) (hf : Hid (Pl.ciB false false lt eq a.size b.size = r))
    (hl : Op.bytesLess a.toList b.toList = lt) (he : (a.toList == b.toList) = eq) (ha : a.size ≤ 1024) (hb : b.size ≤ 1024) (w : World) :
    Calls Yawv.prog 5 #[.string a, .string b] w fun e w' => e = .returned (.int .i64 r) ∧ w' = w := by
  cases lt <;> cases eq
  all_goals
    go_enter Yawv.func5, Yawv.ntmps5
    go_wp2_with fail
    refine (isnum_any _ _ h1 ha _).mono ?_
    rintro e w1 ⟨rfl, rfl⟩
    go_wp2_with fail
    refine (isnum_any _ _ h2 hb _).mono ?_
    rintro e w1 ⟨rfl, rfl⟩
    go_wp2
    go_ret
    exact ⟨ret_int (by rw [← hf.out]; unfold Pl.ciB; simp), rfl⟩

set_option maxHeartbeats 400000 in
theorem ci_tt_same (a b : ByteArray) (lt eq : Bool) (r : Int) (h1 : Hid (Pl.num a.data.toList = true)) (h2 : Hid (Pl.num b.data.toList = true)) (hs : Hid (a.size = b.size)) (hf : Hid (Pl.ciB true true lt eq a.size b.size = r))
    (hl : Op.bytesLess a.toList b.toList = lt) (he : (a.toList == b.toList) = eq) (ha : a.size ≤ 1024) (hb : b.size ≤ 1024) (w : World) :
    Calls Yawv.prog 5 #[.string a, .string b] w fun e w' => e = .returned (.int .i64 r) ∧ w' = w := by
  have hn : ((a.size : Int) != (b.size : Int)) = false := by have := hs.out; simp; omega
  cases lt <;> cases eq
  all_goals
    go_enter Yawv.func5, Yawv.ntmps5
    go_wp2_with fail
    refine (isnum_any _ _ h1 ha _).mono ?_
    rintro e w1 ⟨rfl, rfl⟩
    go_wp2_with fail
    refine (isnum_any _ _ h2 hb _).mono ?_
    rintro e w1 ⟨rfl, rfl⟩
    go_wp2
    go_ret
    exact ⟨ret_int (by rw [← hf.out, hs.out]; unfold Pl.ciB; simp), rfl⟩

set_option maxHeartbeats 400000 in
theorem ci_tt_less (a b : ByteArray) (lt eq : Bool) (h1 : Hid (Pl.num a.data.toList = true)) (h2 : Hid (Pl.num b.data.toList = true)) (hs : a.size < b.size)
    (hl : Op.bytesLess a.toList b.toList = lt) (he : (a.toList == b.toList) = eq) (ha : a.size ≤ 1024) (hb : b.size ≤ 1024) (w : World) :
    Calls Yawv.prog 5 #[.string a, .string b] w fun e w' => e = .returned (.int .i64 (Pl.ciB true true lt eq a.size b.size)) ∧ w' = w := by
  have hf : Hid (Pl.ciB true true lt eq a.size b.size = -1) := by
    have : ¬ a.size = b.size := by omega
    unfold Hid Pl.ciB; simp [hs, this]
  have hn : ((a.size : Int) != (b.size : Int)) = true := by simp; omega
  go_enter Yawv.func5, Yawv.ntmps5
  go_wp2_with fail
  refine (isnum_any _ _ h1 ha _).mono ?_
  rintro e w1 ⟨rfl, rfl⟩
  go_wp2_with fail
  refine (isnum_any _ _ h2 hb _).mono ?_
  rintro e w1 ⟨rfl, rfl⟩
  go_wp2
  go_ret
  exact ⟨ret_int hf.out.symm, rfl⟩

set_option maxHeartbeats 400000 in
theorem ci_tt_more (a b : ByteArray) (lt eq : Bool) (r : Int) (h1 : Hid (Pl.num a.data.toList = true)) (h2 : Hid (Pl.num b.data.toList = true)) (hs : b.size < a.size) (hf : Hid (Pl.ciB true true lt eq a.size b.size = r))
    (hl : Op.bytesLess a.toList b.toList = lt) (he : (a.toList == b.toList) = eq) (ha : a.size ≤ 1024) (hb : b.size ≤ 1024) (w : World) :
    Calls Yawv.prog 5 #[.string a, .string b] w fun e w' => e = .returned (.int .i64 r) ∧ w' = w := by
  have hn : ((a.size : Int) != (b.size : Int)) = true := by simp; omega
  have hg : decide (a.size < b.size) = false := by simp; omega
  cases eq
  all_goals
    go_enter Yawv.func5, Yawv.ntmps5
    go_wp2_with fail
    refine (isnum_any _ _ h1 ha _).mono ?_
    rintro e w1 ⟨rfl, rfl⟩
    go_wp2_with fail
    refine (isnum_any _ _ h2 hb _).mono ?_
    rintro e w1 ⟨rfl, rfl⟩
    go_wp2
    go_ret
    exact ⟨ret_int (by rw [← hf.out]; unfold Pl.ciB; have hne : ¬ a.size = b.size := by omega
                       simp [hne]; omega), rfl⟩

/-- 'CompareIdent', whatever the two strings. -/
theorem ci_any (a b : ByteArray) (ha : a.size ≤ 1024) (hb : b.size ≤ 1024) (w : World) :
    Calls Yawv.prog 5 #[.string a, .string b] w fun e w' => e = .returned (.int .i64 (Pl.ciB (Pl.num a.data.toList) (Pl.num b.data.toList) (Op.bytesLess a.toList b.toList) (a.toList == b.toList) a.size b.size)) ∧ w' = w := by
  generalize h1 : Pl.num a.data.toList = na
  generalize h2 : Pl.num b.data.toList = nb
  cases na <;> cases nb
  · exact ci_ff a b _ _ _ h1 h2 (rfl : _ = _) rfl rfl ha hb w
  · exact ci_ft a b _ _ h1 h2 rfl rfl ha hb w
  · exact ci_tf a b _ _ h1 h2 rfl rfl ha hb w
  · rcases Nat.lt_trichotomy a.size b.size with h | h | h
    · exact ci_tt_less a b _ _ h1 h2 h rfl rfl ha hb w
    · exact ci_tt_same a b _ _ _ h1 h2 h (rfl : _ = _) rfl rfl ha hb w
    · exact ci_tt_more a b _ _ _ h1 h2 h (rfl : _ = _) rfl rfl ha hb w

/-! ### The model -/
set_option maxHeartbeats 400000 in
theorem mo_eq (a b : ByteArray) (na nb : Bool) (bb : Int) (he : (a.toList == b.toList) = true) (w : World) :
    Calls Yawv.prog 6 #[.string a, .string b] w fun e w' => e = .returned (.int .i64 (Pl.moB na nb true a.size b.size bb)) ∧ Grown w w' := by
  have hf : Hid (Pl.moB na nb true a.size b.size bb = 0) := by unfold Hid Pl.moB; simp
  go_enter Yawv.func6, Yawv.ntmps6
  go_wp2
  go_ret
  exact ⟨ret_int hf.out.symm, Grown.refl _⟩

set_option maxHeartbeats 400000 in
theorem mo_tf (a b : ByteArray) (bb : Int) (h1 : Hid (Pl.num a.data.toList = true)) (h2 : Hid (Pl.num b.data.toList = false))
    (he : (a.toList == b.toList) = false) (ha : a.size ≤ 1024) (hb : b.size ≤ 1024) (w : World) :
    Calls Yawv.prog 6 #[.string a, .string b] w fun e w' => e = .returned (.int .i64 (Pl.moB true false false a.size b.size bb)) ∧ Grown w w' := by
  have hf : Hid (Pl.moB true false false a.size b.size bb = -1) := by unfold Hid Pl.moB; simp
  go_enter Yawv.func6, Yawv.ntmps6
  go_wp2_with fail
  refine (digits_any _ _ h1 ha _).mono ?_
  rintro e w1 ⟨rfl, rfl⟩
  go_wp2_with fail
  refine (digits_any _ _ h2 hb _).mono ?_
  rintro e w1 ⟨rfl, rfl⟩
  go_wp2
  go_ret
  exact ⟨ret_int hf.out.symm, Grown.refl _⟩

set_option maxHeartbeats 400000 in
theorem mo_ft (a b : ByteArray) (bb : Int) (h1 : Hid (Pl.num a.data.toList = false)) (h2 : Hid (Pl.num b.data.toList = true))
    (he : (a.toList == b.toList) = false) (ha : a.size ≤ 1024) (hb : b.size ≤ 1024) (w : World) :
    Calls Yawv.prog 6 #[.string a, .string b] w fun e w' => e = .returned (.int .i64 (Pl.moB false true false a.size b.size bb)) ∧ Grown w w' := by
  have hf : Hid (Pl.moB false true false a.size b.size bb = 1) := by unfold Hid Pl.moB; simp
  go_enter Yawv.func6, Yawv.ntmps6
  go_wp2_with fail
  refine (digits_any _ _ h1 ha _).mono ?_
  rintro e w1 ⟨rfl, rfl⟩
  go_wp2_with fail
  refine (digits_any _ _ h2 hb _).mono ?_
  rintro e w1 ⟨rfl, rfl⟩
  go_wp2
  go_ret
  exact ⟨ret_int hf.out.symm, Grown.refl _⟩

set_option maxHeartbeats 400000 in
theorem mo_ff (a b : ByteArray) (h1 : Hid (Pl.num a.data.toList = false)) (h2 : Hid (Pl.num b.data.toList = false))
    (he : (a.toList == b.toList) = false) (ha : a.size ≤ 1024) (hb : b.size ≤ 1024) (w : World) :
    Calls Yawv.prog 6 #[.string a, .string b] w fun e w' => e = .returned (.int .i64 (Pl.moB false false false a.size b.size (Pl.byB a.data.toList b.data.toList))) ∧ Grown w w' := by
  have hf : Hid (Pl.moB false false false a.size b.size (Pl.byB a.data.toList b.data.toList) = Pl.byB a.data.toList b.data.toList) := by unfold Hid Pl.moB; simp
  go_enter Yawv.func6, Yawv.ntmps6
  go_wp2_with fail
  refine (digits_any _ _ h1 ha _).mono ?_
  rintro e w1 ⟨rfl, rfl⟩
  go_wp2_with fail
  refine (digits_any _ _ h2 hb _).mono ?_
  rintro e w1 ⟨rfl, rfl⟩
  go_wp2_with fail
  refine (bytes_any _ _ ha hb _).mono ?_
  rintro e w1 ⟨rfl, hg⟩
  go_wp2
  go_ret
  exact ⟨ret_int hf.out.symm, hg⟩

set_option maxHeartbeats 400000 in
theorem mo_tt_less (a b : ByteArray) (bb : Int) (h1 : Hid (Pl.num a.data.toList = true)) (h2 : Hid (Pl.num b.data.toList = true)) (hs : a.size < b.size)
    (he : (a.toList == b.toList) = false) (ha : a.size ≤ 1024) (hb : b.size ≤ 1024) (w : World) :
    Calls Yawv.prog 6 #[.string a, .string b] w fun e w' => e = .returned (.int .i64 (Pl.moB true true false a.size b.size bb)) ∧ Grown w w' := by
  have hf : Hid (Pl.moB true true false a.size b.size bb = -1) := by unfold Hid Pl.moB; simp [hs]
  go_enter Yawv.func6, Yawv.ntmps6
  go_wp2_with fail
  refine (digits_any _ _ h1 ha _).mono ?_
  rintro e w1 ⟨rfl, rfl⟩
  go_wp2_with fail
  refine (digits_any _ _ h2 hb _).mono ?_
  rintro e w1 ⟨rfl, rfl⟩
  go_wp2
  go_ret
  exact ⟨ret_int hf.out.symm, Grown.refl _⟩

set_option maxHeartbeats 400000 in
theorem mo_tt_more (a b : ByteArray) (bb : Int) (h1 : Hid (Pl.num a.data.toList = true)) (h2 : Hid (Pl.num b.data.toList = true)) (hs : b.size < a.size)
    (he : (a.toList == b.toList) = false) (ha : a.size ≤ 1024) (hb : b.size ≤ 1024) (w : World) :
    Calls Yawv.prog 6 #[.string a, .string b] w fun e w' => e = .returned (.int .i64 (Pl.moB true true false a.size b.size bb)) ∧ Grown w w' := by
  have hf : Hid (Pl.moB true true false a.size b.size bb = 1) := by
    have : ¬ a.size < b.size := by omega
    unfold Hid Pl.moB; simp [hs, this]
  go_enter Yawv.func6, Yawv.ntmps6
  go_wp2_with fail
  refine (digits_any _ _ h1 ha _).mono ?_
  rintro e w1 ⟨rfl, rfl⟩
  go_wp2_with fail
  refine (digits_any _ _ h2 hb _).mono ?_
  rintro e w1 ⟨rfl, rfl⟩
  go_wp2
  go_ret
  exact ⟨ret_int hf.out.symm, Grown.refl _⟩

set_option maxHeartbeats 400000 in
theorem mo_tt_same (a b : ByteArray) (h1 : Hid (Pl.num a.data.toList = true)) (h2 : Hid (Pl.num b.data.toList = true)) (hs : ¬ a.size < b.size) (hs' : ¬ b.size < a.size)
    (he : (a.toList == b.toList) = false) (ha : a.size ≤ 1024) (hb : b.size ≤ 1024) (w : World) :
    Calls Yawv.prog 6 #[.string a, .string b] w fun e w' => e = .returned (.int .i64 (Pl.moB true true false a.size b.size (Pl.byB a.data.toList b.data.toList))) ∧ Grown w w' := by
  have hf : Hid (Pl.moB true true false a.size b.size (Pl.byB a.data.toList b.data.toList) = Pl.byB a.data.toList b.data.toList) := by unfold Hid Pl.moB; simp [hs, hs']
  go_enter Yawv.func6, Yawv.ntmps6
  go_wp2_with fail
  refine (digits_any _ _ h1 ha _).mono ?_
  rintro e w1 ⟨rfl, rfl⟩
  go_wp2_with fail
  refine (digits_any _ _ h2 hb _).mono ?_
  rintro e w1 ⟨rfl, rfl⟩
  go_wp2_with fail
  refine (bytes_any _ _ ha hb _).mono ?_
  rintro e w1 ⟨rfl, hg⟩
  go_wp2
  go_ret
  exact ⟨ret_int hf.out.symm, hg⟩

/-- The model, whatever the two strings. -/
theorem mo_any (a b : ByteArray) (ha : a.size ≤ 1024) (hb : b.size ≤ 1024) (w : World) :
    Calls Yawv.prog 6 #[.string a, .string b] w fun e w' => e = .returned (.int .i64 (Pl.moB (Pl.num a.data.toList) (Pl.num b.data.toList) (a.toList == b.toList) a.size b.size (Pl.byB a.data.toList b.data.toList))) ∧ Grown w w' := by
  generalize he : (a.toList == b.toList) = eq
  generalize h1 : Pl.num a.data.toList = na
  generalize h2 : Pl.num b.data.toList = nb
  cases eq
  · cases na <;> cases nb
    · exact mo_ff a b h1 h2 he ha hb w
    · exact mo_ft a b _ h1 h2 he ha hb w
    · exact mo_tf a b _ h1 h2 he ha hb w
    · by_cases hs : a.size < b.size
      · exact mo_tt_less a b _ h1 h2 hs he ha hb w
      · by_cases hs' : b.size < a.size
        · exact mo_tt_more a b _ h1 h2 hs' he ha hb w
        · exact mo_tt_same a b h1 h2 hs hs' he ha hb w
  · exact mo_eq a b _ _ _ he w

end Go.Proofs.Ymwhaw
