/- Chapter texts of ours, as far as the claim needs them. -/
import Derived.Test.YtdnilnmdbgcmoaaGreatDoorTextC
namespace Go.Proofs.YtdnilnmdbgcmoaaGreatDoor
open Go Go.RowKit Go.Proofs Go.Shelf
set_option linter.unusedVariables false
set_option linter.unusedSectionVars false
set_option linter.unusedSimpArgs false
theorem split_fits {s x : Str} {c : UInt8} (hs : s.length ≤ 9223372036854775807) (hx : x ∈ Lib.split s [c]) : x.length ≤ s.length := splitK_le [c] _ s x hx
theorem S_strings_Split {s : Str} {c : UInt8} (hs : s.length < 4294967281) {Q : List Str → Prop} (h : Q (Lib.split s [c])) : M_strings_Split s [c] Q := ⟨⟨hs, ⟨c, rfl⟩, rfl, rfl⟩, h⟩
theorem S_strings_Cut {s : Str} {c : UInt8} (hs : s.length < 4294967281) {Q : Str → Str → Bool → Prop} (h : Q (cutS s c).1 (cutS s c).2.1 (cutS s c).2.2) : M_strings_Cut s [c] Q := by
  unfold M_strings_Cut M_stringslite_Cut
  refine ⟨c, rfl, ?_⟩
  have hr := indexByte_range s c
  unfold cutS at h
  refine cnd_of (fun e => ?_) (fun e => ?_)
  · have e' : 0 ≤ Lib.indexByte s c := by simpa using e
    rw [if_pos e'] at h
    have hw : w64 (Lib.indexByte s c + (([c] : Str).length : Int)) = Lib.indexByte s c + 1 := by
      rw [List.length_singleton]; exact w64_id (by omega) (by omega)
    rw [hw]
    refine ⟨⟨by omega, e', by omega⟩, ⟨by omega, by omega, Int.le_refl _⟩, ?_⟩
    have h1 : seg s 0 (Lib.indexByte s c) = s.take (Lib.indexByte s c).toNat := by simp [seg]
    have h2 : seg s (Lib.indexByte s c + 1) (s.length : Int) = s.drop ((Lib.indexByte s c).toNat + 1) := by
      have : (Lib.indexByte s c + 1).toNat = (Lib.indexByte s c).toNat + 1 := by omega
      simp [seg, this]
    rw [h1, h2]
    exact h
  · have e' : ¬ 0 ≤ Lib.indexByte s c := by simpa using e
    rw [if_neg e'] at h
    exact h
theorem numOf_ok {s : Str} (h : numeral s = true) : s ≠ [] ∧ s.length ≤ 9 ∧ s.all isDig = true ∧ (s.length ≤ 1 ∨ (s.getD 0 0).toNat ≠ 48) := by
  unfold numeral at h
  simp only [Bool.and_eq_true, decide_eq_true_eq, Bool.not_eq_true', beq_eq_false_iff_ne, Bool.or_eq_true] at h
  exact ⟨h.1.1.1, h.1.1.2, h.1.2, h.2⟩
theorem numeral_of {s : Str} (h1 : s ≠ []) (h2 : s.length ≤ 9) (h3 : s.all isDig = true) (h4 : s.length ≤ 1 ∨ (s.getD 0 0).toNat ≠ 48) : numeral s = true := by
  unfold numeral
  simp only [Bool.and_eq_true, decide_eq_true_eq, Bool.not_eq_true', beq_eq_false_iff_ne, Bool.or_eq_true]
  exact ⟨⟨⟨h1, h2⟩, h3⟩, h4⟩
theorem S_Atoi {s : Str} {Q : Int → Bool → Prop} (h : Q (numOf s).1 (numOf s).2) (e : numeral s = true) : M_strconv_Atoi s fun y1 y2 => Q y1 true := by
  obtain ⟨h1, h2, h3, _⟩ := numOf_ok e
  obtain ⟨n, hn, _⟩ := atoi_digits h1 h3
  refine ⟨by omega, n, hn, ?_⟩
  unfold numOf at h
  rw [if_pos e, hn] at h
  exact h
theorem S_Trim {s : Str} (hs : s.length < 4294967281) {Q : Str → Prop} (h : ∀ y, (y == []) = s.all isDig → Q y) : M_strings_Trim s [48, 49, 50, 51, 52, 53, 54, 55, 56, 57] Q :=
  ⟨⟨by omega, by decide, by decide⟩, h _ (trim_digits s)⟩
theorem num_false (s : Str) (h : ¬ (s ≠ [] ∧ s.length ≤ 9 ∧ s.all isDig = true ∧ (s.length ≤ 1 ∨ (s.getD 0 0).toNat ≠ 48))) : numeral s = false := by
  rw [← Bool.not_eq_true]; exact fun e => h (numOf_ok e)
theorem len3 {α : Type} {w : List α} (h : w.length = 3) : ∃ a b c, w = [a, b, c] := match w, h with | [a, b, c], _ => ⟨a, b, c, rfl⟩
theorem leneq (n k : Nat) : ((n : Int) == (k : Int)) = decide (n = k) := by
  by_cases h : n = k
  · subst h; simp
  · rw [decide_eq_false h, beq_eq_false_iff_ne]; omega
theorem num_row {d : Str} (h : (numOf d).2 = true) : isRowS d = true := by
  unfold numOf at h
  split at h
  · rename_i e
    obtain ⟨h1, _, h3, _⟩ := numOf_ok e
    unfold isRowS
    rw [Bool.and_eq_true]
    refine ⟨by simpa using h1, List.all_eq_true.2 fun b hb => ?_⟩
    have := List.all_eq_true.1 h3 b hb
    unfold isDig at this; unfold rowByte
    simp at this ⊢; omega
  · cases h
end Go.Proofs.YtdnilnmdbgcmoaaGreatDoor
