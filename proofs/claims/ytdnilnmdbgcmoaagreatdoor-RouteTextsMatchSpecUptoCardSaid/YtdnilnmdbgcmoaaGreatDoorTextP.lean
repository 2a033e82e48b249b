/- Chapter texts of ours, as far as the claim needs them. -/
import Derived.Test.YtdnilnmdbgcmoaaGreatDoorPlain
import Derived.Test.YtdnilnmdbgcmoaaGreatDoorShelf
import Derived.Lib.SmallJoins
import Derived.Lib.AtoiBound
namespace Go.Proofs.YtdnilnmdbgcmoaaGreatDoor
open Go Go.RowKit Go.Proofs Go.Shelf
set_option linter.unusedVariables false
set_option linter.unusedSectionVars false
set_option linter.unusedSimpArgs false
def rowByte (b : UInt8) : Bool := decide (33 ≤ b.toNat) && decide (b.toNat ≤ 126)
def isRowS (s : Str) : Bool := !(s == []) && s.all rowByte
def outRune (r : Nat) : Bool := decide (r < 33) || decide (126 < r)
theorem decodeN_high (n b0 b1 b2 b3 : Nat) (h0 : 128 ≤ b0) : 128 ≤ (Lib.decodeN n b0 b1 b2 b3).1 := by
  unfold Lib.decodeN
  repeat' split
  all_goals (simp only; omega)
theorem decodeN_low (n b0 b1 b2 b3 : Nat) (h : b0 < 128) : Lib.decodeN n b0 b1 b2 b3 = (b0, 1) := by simp [Lib.decodeN, h]
theorem idxRow_from (s : ByteArray) : ∀ (f pos : Nat), s.size ≤ pos + f → (0 ≤ Lib.idxFuncFrom outRune true s f pos ↔ ∃ j, pos ≤ j ∧ j < s.size ∧ rowByte (s.get! j) = false)
  | 0, pos, h => by
    unfold Lib.idxFuncFrom
    constructor
    · intro e; omega
    · rintro ⟨j, h1, h2, _⟩; omega
  | f + 1, pos, h => by
    unfold Lib.idxFuncFrom
    by_cases hp : pos < s.size
    · rw [if_pos hp]
      by_cases hb : (s.get! pos).toNat < 128
      · have hd : Utf8.decode s pos = ((s.get! pos).toNat, 1) := by rw [Lib.decode_at, decodeN_low _ _ _ _ _ hb]
        rw [hd]
        by_cases ho : outRune (s.get! pos).toNat = true
        · rw [if_pos ho]
          refine ⟨fun _ => ⟨pos, Nat.le_refl _, hp, ?_⟩, fun _ => Int.natCast_nonneg _⟩
          unfold outRune at ho; unfold rowByte
          simp at ho ⊢; omega
        · rw [if_neg ho, idxRow_from s f (pos + 1) (by omega)]
          constructor
          · rintro ⟨j, h1, h2, h3⟩; exact ⟨j, by omega, h2, h3⟩
          · rintro ⟨j, h1, h2, h3⟩
            refine ⟨j, ?_, h2, h3⟩
            rcases Nat.lt_or_eq_of_le h1 with e | e
            · exact e
            · subst e
              unfold outRune at ho; unfold rowByte at h3
              simp at ho h3; omega
      · have hd : 128 ≤ (Utf8.decode s pos).1 := by rw [Lib.decode_at]; exact decodeN_high _ _ _ _ _ (by omega)
        have ho : outRune (Utf8.decode s pos).1 = true := by unfold outRune; simp; omega
        rw [if_pos ho]
        refine ⟨fun _ => ⟨pos, Nat.le_refl _, hp, ?_⟩, fun _ => Int.natCast_nonneg _⟩
        unfold rowByte; simp; omega
    · rw [if_neg hp]
      constructor
      · intro e; omega
      · rintro ⟨j, h1, h2, _⟩; omega
theorem ba_get (s : Str) (j : Nat) (h : j < s.length) : (ba s).get! j = s[j] := by
  show (s.toArray)[j]! = _
  rw [getElem!_pos (s.toArray) j (by simpa using h)]
  simp
theorem idxRow (s : Str) : decide (0 ≤ Lib.idxFunc (fun r => decide (r < 33) || decide (126 < r)) true (ba s)) = !(s.all rowByte) := by
  have h := idxRow_from (ba s) (ba s).size 0 (by omega)
  have e : (0 ≤ Lib.idxFunc (fun r => decide (r < 33) || decide (126 < r)) true (ba s)) ↔ ∃ j, 0 ≤ j ∧ j < (ba s).size ∧ rowByte ((ba s).get! j) = false := h
  rw [Bool.eq_iff_iff, decide_eq_true_iff, e]
  constructor
  · rintro ⟨j, _, h2, h3⟩
    rw [ba_size] at h2
    rw [ba_get s j h2] at h3
    rw [Bool.not_eq_true', ← Bool.not_eq_true, List.all_eq_true]
    intro hall
    rw [hall _ (List.getElem_mem h2)] at h3
    cases h3
  · intro hn
    rw [Bool.not_eq_true', ← Bool.not_eq_true, List.all_eq_true] at hn
    have : ∃ x, x ∈ s ∧ ¬ rowByte x = true := by
      refine Classical.byContradiction fun hc => hn fun x hx => ?_
      exact Classical.byContradiction fun h' => hc ⟨x, hx, h'⟩
    obtain ⟨x, hx, hr⟩ := this
    obtain ⟨j, hj, rfl⟩ := List.mem_iff_getElem.1 hx
    exact ⟨j, Nat.zero_le _, by rw [ba_size]; exact hj, by rw [ba_get s j hj]; simpa using hr⟩
def digitsS : Str := [48, 49, 50, 51, 52, 53, 54, 55, 56, 57]
def isDig (b : UInt8) : Bool := decide (48 ≤ b.toNat) && decide (b.toNat ≤ 57)
theorem digits_contains (b : UInt8) : digitsS.contains b = isDig b := by
  have key : ∀ n, n < 256 → digitsS.contains (UInt8.ofNat n) = isDig (UInt8.ofNat n) := by decide +kernel
  have := key b.toNat (UInt8.toNat_lt b)
  rwa [UInt8.ofNat_toNat] at this
theorem dropWhile_nil {α : Type} (p : α → Bool) : ∀ l : List α, l.dropWhile p = [] ↔ l.all p = true
  | [] => by simp
  | x :: r => by
    rw [List.dropWhile_cons]
    by_cases h : p x = true
    · rw [if_pos h, dropWhile_nil p r]; simp [h]
    · rw [if_neg h]; simp [h]
theorem trim_digits (s : Str) : (Lib.trimS s digitsS == []) = s.all isDig := by
  have hc : (fun b => digitsS.contains b) = isDig := funext digits_contains
  rw [Bool.eq_iff_iff, beq_iff_eq]
  unfold Lib.trimS Lib.trimLeftS Lib.trimRightS
  rw [hc, dropWhile_nil]
  constructor
  · intro h
    by_cases he : s.reverse.dropWhile isDig = []
    · rw [dropWhile_nil] at he; simpa using he
    · exfalso
      have hl := List.head_dropWhile_not (l := s.reverse) isDig he
      rw [List.all_reverse] at h
      have := List.all_eq_true.1 h _ (List.head_mem he)
      rw [this] at hl; cases hl
  · intro h
    have : s.reverse.dropWhile isDig = [] := by rw [dropWhile_nil]; simpa using h
    rw [this]; rfl
theorem decFrom_digits : ∀ (l : Str) (acc : Nat), l.all isDig = true → ∃ n, Lib.decFrom acc l = some n
  | [], acc, _ => ⟨acc, rfl⟩
  | b :: r, acc, h => by
    rw [List.all_cons, Bool.and_eq_true] at h
    have hd : Lib.digitVal b = some (b.toNat - 48) := by
      have := h.1; unfold isDig at this; simp at this
      unfold Lib.digitVal; rw [if_pos this]
    obtain ⟨n, hn⟩ := decFrom_digits r (acc * 10 + (b.toNat - 48)) h.2
    exact ⟨n, by unfold Lib.decFrom; rw [hd]; exact hn⟩
theorem atoi_digits {s : Str} (hne : s ≠ []) (h : s.all isDig = true) : ∃ n : Nat, Lib.atoi s = some (n : Int) ∧ Lib.decFrom 0 s = some n := by
  cases s with
  | nil => exact absurd rfl hne
  | cons b r =>
    obtain ⟨n, hn⟩ := decFrom_digits (b :: r) 0 h
    refine ⟨n, ?_, hn⟩
    rw [List.all_cons, Bool.and_eq_true] at h
    have hb := h.1; unfold isDig at hb; simp at hb
    have h1 : (b == 45) = false := by rw [beq_eq_false_iff_ne]; rintro rfl; exact absurd hb.1 (by decide)
    have h2 : (b == 43) = false := by rw [beq_eq_false_iff_ne]; rintro rfl; exact absurd hb.1 (by decide)
    show (if b == 45 then (Lib.decNat r).map fun (m : Nat) => -(m : Int) else if b == 43 then (Lib.decNat r).map fun (m : Nat) => (m : Int) else (Lib.decNat (b :: r)).map fun (m : Nat) => (m : Int)) = _
    rw [h1, h2]
    simp only [Bool.false_eq_true, if_false]
    unfold Lib.decNat
    rw [hn]
    rfl
def numeral (s : Str) : Bool := !(s == []) && decide (s.length ≤ 9) && s.all isDig && (decide (s.length ≤ 1) || !((s.getD 0 0).toNat == 48))
def numOf (s : Str) : Int × Bool := if numeral s then ((Lib.atoi s).getD 0, true) else (0, false)
theorem indexByte_range (l : Str) (c : UInt8) : -1 ≤ Lib.indexByte l c ∧ Lib.indexByte l c < l.length := by
  induction l with
  | nil => simp [Lib.indexByte]
  | cons b r ih =>
    unfold Lib.indexByte
    rw [List.length_cons]
    split
    · omega
    · split <;> omega
def cutS (s : Str) (c : UInt8) : Str × Str × Bool := if 0 ≤ Lib.indexByte s c then (s.take (Lib.indexByte s c).toNat, s.drop ((Lib.indexByte s c).toNat + 1), true) else (s, [], false)
theorem cutS_le (s : Str) (c : UInt8) : (cutS s c).1.length ≤ s.length := by
  unfold cutS; split
  · show (s.take _).length ≤ _; rw [List.length_take]; omega
  · exact Nat.le_refl _
theorem cutS_rest (s : Str) (c : UInt8) (h : (cutS s c).2.2 = true) : (cutS s c).2.1.length < s.length := by
  unfold cutS at h ⊢
  have := indexByte_range s c
  split
  · show (s.drop _).length < _; rw [List.length_drop]; omega
  · rename_i hn; rw [if_neg hn] at h; cases h
theorem split_ne (s sep : Str) : Lib.split s sep ≠ [] := by
  unfold Lib.split
  generalize Lib.count s sep = k
  cases k with
  | zero => simp [Lib.splitK]
  | succ k =>
    unfold Lib.splitK
    split <;> simp
end Go.Proofs.YtdnilnmdbgcmoaaGreatDoor
