/-
  THE WALKS: what 'IsNumeric', the model's 'digits' and 'bytes' compute, as the plain functions of YmwhawPlain say it.
-/
import Derived.Test.YmwhawProg
import Derived.Test.YmwhawPlain
import Derived.WalkKit
import Derived.WalkSpells
import Derived.WalkLawsBesides
namespace Go.Proofs.Ymwhaw
open Go.RowKit

theorem ret_bool {a b : Bool} (h : a = b) : Ending.returned (.bool a) = .returned (.bool b) := by rw [h]
theorem ret_int {k : IntKind} {a b : Int} (h : a = b) : Ending.returned (.int k a) = .returned (.int k b) := by rw [h]

set_option maxHeartbeats 400000 in
/-- 'IsNumeric': not empty, and digits alone. -/
theorem isnum_any (s : ByteArray) (v : Bool) (hv : Hid (Pl.num s.data.toList = v)) (hs : s.size ≤ 1024) (w : World) :
    Calls Yawv.prog 9 #[.string s] w fun e w' => e = .returned (.bool v) ∧ w' = w := by
  go_enter Yawv.func9, Yawv.ntmps9
  go_wp2
  go_loop [3] (fun i => ∃ k : Nat, k ≤ s.size ∧ i = .int .i64 k ∧ Hid ((s.data.toList.take k).all Pl.dig = true)) (fun i => s.size - (intOf i).toNat)
  case atStart => exact ⟨0, Nat.zero_le _, rfl, by unfold Hid; rfl⟩
  case round =>
    obtain ⟨k, hk, rfl, ha⟩ := hrel
    by_cases hlt : k < s.size
    · by_cases h1 : (s[k].toNat : Int) < 48
      · go_wp2
        go_ret
        exact ⟨ret_bool (by rw [← hv.out]; exact (Pl.num_no s k hlt (.inl h1)).symm), rfl⟩
      · by_cases h2 : 57 < (s[k].toNat : Int)
        · go_wp2
          go_ret
          exact ⟨ret_bool (by rw [← hv.out]; exact (Pl.num_no s k hlt (.inr h2)).symm), rfl⟩
        · have hn : Hid ((s.data.toList.take (k + 1)).all Pl.dig = true) := Pl.all_snoc s k hlt ha.out (by omega) (by omega)
          go_wp2
          go_round
          case rel => exact ⟨k + 1, by omega, by go_num, hn⟩
          case measure => simp [intOf]; omega
    · go_wp2
      go_ret
      exact ⟨ret_bool (by rw [← hv.out, Pl.num_end s k (by omega) ha.out]), rfl⟩

set_option maxHeartbeats 400000 in
/-- The model's 'digits': the same. -/
theorem digits_any (s : ByteArray) (v : Bool) (hv : Hid (Pl.num s.data.toList = v)) (hs : s.size ≤ 1024) (w : World) :
    Calls Yawv.prog 10 #[.string s] w fun e w' => e = .returned (.bool v) ∧ w' = w := by
  by_cases h0 : s.size = 0
  · have hz : ((s.size : Int) == 0) = true := by simp [h0]
    have hn : Hid (Pl.num s.data.toList = false) := Pl.num_empty s h0
    clear h0
    go_enter Yawv.func10, Yawv.ntmps10
    go_wp2
    go_ret
    exact ⟨ret_bool (by rw [← hv.out, hn.out]), rfl⟩
  · have hz : ((s.size : Int) == 0) = false := by simp [h0]
    have hp : 0 < s.size := by omega
    clear h0
    go_enter Yawv.func10, Yawv.ntmps10
    go_wp2
    go_loop [3] (fun i => ∃ k : Nat, k ≤ s.size ∧ i = .int .i64 k ∧ Hid ((s.data.toList.take k).all Pl.dig = true)) (fun i => s.size - (intOf i).toNat)
    case atStart => exact ⟨0, Nat.zero_le _, rfl, by unfold Hid; rfl⟩
    case round =>
      obtain ⟨k, hk, rfl, ha⟩ := hrel
      by_cases hlt : k < s.size
      · by_cases h1 : (s[k].toNat : Int) < 48
        · go_wp2
          go_ret
          exact ⟨ret_bool (by rw [← hv.out]; exact (Pl.num_no s k hlt (.inl h1)).symm), rfl⟩
        · by_cases h2 : 57 < (s[k].toNat : Int)
          · go_wp2
            go_ret
            exact ⟨ret_bool (by rw [← hv.out]; exact (Pl.num_no s k hlt (.inr h2)).symm), rfl⟩
          · have hn : Hid ((s.data.toList.take (k + 1)).all Pl.dig = true) := Pl.all_snoc s k hlt ha.out (by omega) (by omega)
            go_wp2
            go_round
            case rel => exact ⟨k + 1, by omega, by go_num, hn⟩
            case measure => simp [intOf]; omega
      · go_wp2
        go_ret
        exact ⟨ret_bool (by rw [← hv.out, Pl.num_end s k (by omega) ha.out]; simp [hp]), rfl⟩

set_option maxHeartbeats 400000 in
/-- The model's 'bytes': -1, 0, 1 by bytes. Here the second string is the shorter. -/
theorem bytes_long (a b : ByteArray) (ha : a.size ≤ 1024) (hl : b.size < a.size) (w : World) :
    Calls Yawv.prog 11 #[.string a, .string b] w fun e w' => e = .returned (.int .i64 (Pl.byB a.data.toList b.data.toList)) ∧ Grown w w' := by
  go_enter Yawv.func11, Yawv.ntmps11
  go_wp2
  go_loopw [6] (fun i wr => ∃ k : Nat, k ≤ b.size ∧ i = .int .i64 k ∧ Hid (a.data.toList.take k = b.data.toList.take k) ∧ Grown w wr) (fun i _ => b.size - (intOf i).toNat)
  case atStart => exact ⟨0, Nat.zero_le _, rfl, by unfold Hid; simp, Grown.refl _⟩
  case round =>
    obtain ⟨k, hkb, rfl, ht, hg⟩ := hrel
    by_cases hlt : k < b.size
    · have hlta : k < a.size := by omega
      by_cases h1 : (a[k].toNat : Int) < (b[k].toNat : Int)
      · go_wp2
        go_region
        all_goals
          go_wp2
          go_ret
          exact ⟨ret_int (Pl.byB_lt a b k hlta hlt ht.out h1).symm, by repeat (first | exact hg | apply Grown.drew)⟩
      · by_cases h2 : (b[k].toNat : Int) < (a[k].toNat : Int)
        · go_wp2
          go_region
          all_goals
            go_wp2
            go_region
          all_goals
            go_wp2
            go_ret
            exact ⟨ret_int (Pl.byB_gt a b k hlta hlt ht.out h2).symm, by repeat (first | exact hg | apply Grown.drew)⟩
        · have hn : Hid (a.data.toList.take (k + 1) = b.data.toList.take (k + 1)) := Pl.take_next a b k hlta hlt ht.out (by omega)
          go_wp2
          go_region
          all_goals
            go_wp2
            go_region
          all_goals
            go_wp2
            go_roundw
            case rel => exact ⟨k + 1, by omega, by go_num, hn, by repeat (first | exact hg | apply Grown.drew)⟩
            case measure => simp [intOf]; omega
    · go_wp2
      go_ret
      exact ⟨ret_int (Pl.byB_long a b k (by omega) ht.out hl).symm, hg⟩

set_option maxHeartbeats 400000 in
/-- The same where the second string is no shorter. -/
theorem bytes_short (a b : ByteArray) (hb : b.size ≤ 1024) (hl : a.size ≤ b.size) (w : World) :
    Calls Yawv.prog 11 #[.string a, .string b] w fun e w' => e = .returned (.int .i64 (Pl.byB a.data.toList b.data.toList)) ∧ Grown w w' := by
  have hd : decide (b.size < a.size) = false := by simp; omega
  go_enter Yawv.func11, Yawv.ntmps11
  go_wp2
  go_loopw [6] (fun i wr => ∃ k : Nat, k ≤ a.size ∧ i = .int .i64 k ∧ Hid (a.data.toList.take k = b.data.toList.take k) ∧ Grown w wr) (fun i _ => a.size - (intOf i).toNat)
  case atStart => exact ⟨0, Nat.zero_le _, rfl, by unfold Hid; simp, Grown.refl _⟩
  case round =>
    obtain ⟨k, hka, rfl, ht, hg⟩ := hrel
    by_cases hlt : k < a.size
    · have hltb : k < b.size := by omega
      by_cases h1 : (a[k].toNat : Int) < (b[k].toNat : Int)
      · go_wp2
        go_region
        all_goals
          go_wp2
          go_ret
          exact ⟨ret_int (Pl.byB_lt a b k hlt hltb ht.out h1).symm, by repeat (first | exact hg | apply Grown.drew)⟩
      · by_cases h2 : (b[k].toNat : Int) < (a[k].toNat : Int)
        · go_wp2
          go_region
          all_goals
            go_wp2
            go_region
          all_goals
            go_wp2
            go_ret
            exact ⟨ret_int (Pl.byB_gt a b k hlt hltb ht.out h2).symm, by repeat (first | exact hg | apply Grown.drew)⟩
        · have hn : Hid (a.data.toList.take (k + 1) = b.data.toList.take (k + 1)) := Pl.take_next a b k hlt hltb ht.out (by omega)
          go_wp2
          go_region
          all_goals
            go_wp2
            go_region
          all_goals
            go_wp2
            go_roundw
            case rel => exact ⟨k + 1, by omega, by go_num, hn, by repeat (first | exact hg | apply Grown.drew)⟩
            case measure => simp [intOf]; omega
    · by_cases hs : a.size < b.size
      · go_wp2
        go_ret
        exact ⟨ret_int (Pl.byB_short a b k (by omega) ht.out hs hka).symm, hg⟩
      · go_wp2
        go_ret
        exact ⟨ret_int (Pl.byB_same a b k (by omega) (by omega) ht.out).symm, hg⟩

theorem bytes_any (a b : ByteArray) (ha : a.size ≤ 1024) (hb : b.size ≤ 1024) (w : World) :
    Calls Yawv.prog 11 #[.string a, .string b] w fun e w' => e = .returned (.int .i64 (Pl.byB a.data.toList b.data.toList)) ∧ Grown w w' := by
  by_cases hl : b.size < a.size
  · exact bytes_long a b ha hl w
  · exact bytes_short a b hb (by omega) w

end Go.Proofs.Ymwhaw
