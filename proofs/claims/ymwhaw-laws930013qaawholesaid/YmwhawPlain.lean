/-
  THE PLAIN LAWS of 'CompareIdent' and of its model: no Go in sight. Bytes are lists of UInt8; '<' on strings is the model's own 'Op.bytesLess'.
-/
import Derived.Laws.Strings
namespace Go.Proofs.Ymwhaw.Pl

/-- Is it a digit's byte? -/
def dig (c : UInt8) : Bool := decide (48 ≤ c.toNat) && decide (c.toNat ≤ 57)
/-- Not empty, and digits alone. -/
def num (l : List UInt8) : Bool := !l.isEmpty && l.all dig
/-- -1, 0, 1 by bytes. -/
def byB (x y : List UInt8) : Int := if Op.bytesLess x y = true then -1 else if x = y then 0 else 1
/-- What 'CompareIdent' comes to, test by test: is each numeric, is a < b, is a == b, the two lengths. -/
def ciB (na nb lt eq : Bool) (n m : Nat) : Int :=
  if (if na != nb then na else if na && !(n == m) then decide (n < m) else lt) then -1 else if eq then 0 else 1
/-- What the model comes to, test by test; 'bb': what its comparison by bytes answers. -/
def moB (na nb eq : Bool) (n m : Nat) (bb : Int) : Int :=
  if eq then 0 else if na && !nb then -1 else if !na && nb then 1
  else if na && nb && decide (n < m) then -1 else if na && nb && decide (m < n) then 1 else bb

theorem size_data (s : ByteArray) : s.data.toList.length = s.size := by cases s; rfl

theorem dig_yes (c : UInt8) (h1 : 48 ≤ (c.toNat : Int)) (h2 : (c.toNat : Int) ≤ 57) : dig c = true := by
  unfold dig; simp; omega

theorem take_snoc (s : ByteArray) (k : Nat) (h : k < s.size) : s.data.toList.take (k + 1) = s.data.toList.take k ++ [s[k]] := by
  rw [List.take_succ_eq_append_getElem (by simpa using h)]; rfl

theorem all_snoc (s : ByteArray) (k : Nat) (h : k < s.size) (ha : (s.data.toList.take k).all dig = true) (h1 : 48 ≤ (s[k].toNat : Int)) (h2 : (s[k].toNat : Int) ≤ 57) :
    (s.data.toList.take (k + 1)).all dig = true := by
  rw [take_snoc s k h, List.all_append, ha]
  simp [dig_yes _ h1 h2]

theorem num_no (s : ByteArray) (k : Nat) (h : k < s.size) (hc : (s[k].toNat : Int) < 48 ∨ 57 < (s[k].toNat : Int)) : num s.data.toList = false := by
  have hm : s[k] ∈ s.data.toList := by
    have hl : k < s.data.toList.length := by rw [size_data]; exact h
    have : s[k] = s.data.toList[k] := rfl
    rw [this]; exact List.getElem_mem hl
  have hd : dig s[k] = false := by unfold dig; simp; omega
  have ha : s.data.toList.all dig = false := by
    rw [List.all_eq_false]
    exact ⟨s[k], hm, by simp [hd]⟩
  simp [num, ha]

theorem num_end (s : ByteArray) (k : Nat) (hk : s.size ≤ k) (ha : (s.data.toList.take k).all dig = true) : num s.data.toList = decide (0 < s.size) := by
  rw [List.take_of_length_le (by rw [size_data]; exact hk)] at ha
  unfold num
  rw [ha, ← size_data]
  cases s.data.toList <;> simp

theorem num_empty (s : ByteArray) (h : s.size = 0) : num s.data.toList = false := by
  rw [← size_data] at h
  rw [List.length_eq_zero_iff] at h
  rw [h]; rfl

/-! ### '<' on bytes -/
theorem less_irrefl : ∀ x : List UInt8, Op.bytesLess x x = false
  | [] => rfl
  | a :: x => by
    rw [Op.bytesLess, less_irrefl x]
    simp [UInt8.lt_irrefl]

theorem less_app : ∀ p x y : List UInt8, Op.bytesLess (p ++ x) (p ++ y) = Op.bytesLess x y
  | [], _, _ => rfl
  | a :: p, x, y => by
    show Op.bytesLess (a :: (p ++ x)) (a :: (p ++ y)) = _
    rw [Op.bytesLess, less_app p x y]
    simp [UInt8.lt_irrefl]

theorem split_at (s : ByteArray) (k : Nat) (h : k < s.size) : s.data.toList = s.data.toList.take k ++ s[k] :: s.data.toList.drop (k + 1) := by
  have hl : k < s.data.toList.length := by rw [size_data]; exact h
  have e : s[k] = s.data.toList[k] := rfl
  rw [e, ← List.drop_eq_getElem_cons hl, List.take_append_drop]

theorem take_next (a b : ByteArray) (k : Nat) (ha : k < a.size) (hb : k < b.size) (ht : a.data.toList.take k = b.data.toList.take k) (h : (a[k].toNat : Int) = (b[k].toNat : Int)) :
    a.data.toList.take (k + 1) = b.data.toList.take (k + 1) := by
  have e : a[k] = b[k] := UInt8.toNat_inj.1 (by omega)
  rw [take_snoc a k ha, take_snoc b k hb, ht, e]

theorem byB_lt (a b : ByteArray) (k : Nat) (ha : k < a.size) (hb : k < b.size) (ht : a.data.toList.take k = b.data.toList.take k) (h : (a[k].toNat : Int) < (b[k].toNat : Int)) :
    byB a.data.toList b.data.toList = -1 := by
  have hl : Op.bytesLess a.data.toList b.data.toList = true := by
    rw [split_at a k ha, split_at b k hb, ht, less_app, Op.bytesLess]
    have : a[k] < b[k] := by rw [UInt8.lt_iff_toNat_lt]; omega
    simp [this]
  simp [byB, hl]

theorem byB_gt (a b : ByteArray) (k : Nat) (ha : k < a.size) (hb : k < b.size) (ht : a.data.toList.take k = b.data.toList.take k) (h : (b[k].toNat : Int) < (a[k].toNat : Int)) :
    byB a.data.toList b.data.toList = 1 := by
  have hne : ¬ a[k] = b[k] := by intro e; rw [e] at h; omega
  have hl : Op.bytesLess a.data.toList b.data.toList = false := by
    rw [split_at a k ha, split_at b k hb, ht, less_app, Op.bytesLess]
    have : ¬ a[k] < b[k] := by rw [UInt8.lt_iff_toNat_lt]; omega
    simp [this, hne]
  have he : ¬ a.data.toList = b.data.toList := by
    intro e
    rw [split_at a k ha, split_at b k hb, ht] at e
    have := List.append_cancel_left e
    simp at this
    exact hne this.1
  simp [byB, hl, he]

theorem byB_short (a b : ByteArray) (k : Nat) (hk : a.size ≤ k) (ht : a.data.toList.take k = b.data.toList.take k) (hl : a.size < b.size) (hkb : k ≤ a.size) :
    byB a.data.toList b.data.toList = -1 := by
  have e : k = a.size := by omega
  subst e
  rw [List.take_of_length_le (by rw [size_data]; exact Nat.le_refl _)] at ht
  have h1 : Op.bytesLess a.data.toList b.data.toList = true := by
    rw [split_at b a.size hl, ← ht]
    have := less_app a.data.toList [] (b[a.size] :: b.data.toList.drop (a.size + 1))
    rw [List.append_nil] at this
    rw [this]; rfl
  simp [byB, h1]

theorem byB_long (a b : ByteArray) (k : Nat) (hk : k = b.size) (ht : a.data.toList.take k = b.data.toList.take k) (hl : b.size < a.size) :
    byB a.data.toList b.data.toList = 1 := by
  subst hk
  have hb : b.data.toList.take b.size = b.data.toList := List.take_of_length_le (by rw [size_data]; exact Nat.le_refl _)
  rw [hb] at ht
  have h1 : Op.bytesLess a.data.toList b.data.toList = false := by
    rw [split_at a b.size hl, ht]
    have := less_app b.data.toList (a[b.size] :: a.data.toList.drop (b.size + 1)) []
    rw [List.append_nil] at this
    rw [this]; rfl
  have he : ¬ a.data.toList = b.data.toList := by
    intro e
    have := congrArg List.length e
    rw [size_data, size_data] at this
    omega
  simp [byB, h1, he]

theorem byB_same (a b : ByteArray) (k : Nat) (ha : a.size ≤ k) (hb : b.size ≤ k) (ht : a.data.toList.take k = b.data.toList.take k) :
    byB a.data.toList b.data.toList = 0 := by
  rw [List.take_of_length_le (by rw [size_data]; exact ha), List.take_of_length_le (by rw [size_data]; exact hb)] at ht
  rw [ht]
  simp [byB, less_irrefl]

/-! ### THE LAW: 'CompareIdent' and the model answer alike -/
theorem same (x y : List UInt8) : ciB (num x) (num y) (Op.bytesLess x y) (x == y) x.length y.length = moB (num x) (num y) (x == y) x.length y.length (byB x y) := by
  by_cases he : x = y
  · subst he
    simp [ciB, moB, less_irrefl]
  · have hb : (x == y) = false := by simp [he]
    rw [hb]
    unfold byB
    rw [if_neg he]
    generalize num x = na
    generalize num y = nb
    generalize Op.bytesLess x y = lt
    generalize x.length = n
    generalize y.length = m
    unfold ciB moB
    rcases Nat.lt_trichotomy n m with h | h | h
    · have h1 : ¬ n = m := by omega
      have h2 : ¬ m < n := by omega
      cases na <;> cases nb <;> cases lt <;> simp [h, h1, h2]
    · subst h
      cases na <;> cases nb <;> cases lt <;> simp
    · have h1 : ¬ n = m := by omega
      have h2 : ¬ n < m := by omega
      cases na <;> cases nb <;> cases lt <;> simp [h, h1, h2]

theorem same_strings (a b : ByteArray) : ciB (num a.data.toList) (num b.data.toList) (Op.bytesLess a.toList b.toList) (a.toList == b.toList) a.size b.size
    = moB (num a.data.toList) (num b.data.toList) (a.toList == b.toList) a.size b.size (byB a.data.toList b.data.toList) := by
  rw [ByteArray.toList_eq, ByteArray.toList_eq, ← size_data a, ← size_data b]
  exact same _ _

end Go.Proofs.Ymwhaw.Pl
