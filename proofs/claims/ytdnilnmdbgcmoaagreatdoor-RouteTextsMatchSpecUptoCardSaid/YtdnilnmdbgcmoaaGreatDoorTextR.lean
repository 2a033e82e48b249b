/- Chapter texts of ours, as far as the claim needs them. -/
import Derived.Test.YtdnilnmdbgcmoaaGreatDoorTextQ
import Derived.Lib.ItoaNum
import Derived.Lib.SplitLaws
import Derived.Lib.IndexBytes
namespace Go.Proofs.YtdnilnmdbgcmoaaGreatDoor
open Go Go.RowKit Go.Proofs Go.Shelf
set_option linter.unusedVariables false
set_option linter.unusedSectionVars false
set_option linter.unusedSimpArgs false
theorem decFrom_append : ∀ (l r : Str) (acc : Nat), Lib.decFrom acc (l ++ r) = (Lib.decFrom acc l).bind (fun a => Lib.decFrom a r)
  | [], r, acc => rfl
  | b :: l, r, acc => by
    show (match Lib.digitVal b with | some d => Lib.decFrom (acc * 10 + d) (l ++ r) | none => none) = (match Lib.digitVal b with | some d => Lib.decFrom (acc * 10 + d) l | none => none).bind _
    cases Lib.digitVal b with
    | none => rfl
    | some d => exact decFrom_append l r _
theorem digit_byte {d : Nat} (h : d < 10) : (UInt8.ofNat (48 + d)).toNat = 48 + d := by
  rw [UInt8.toNat_ofNat', Nat.mod_eq_of_lt (by omega)]
theorem digit_val {d : Nat} (h : d < 10) : Lib.digitVal (UInt8.ofNat (48 + d)) = some d := by
  unfold Lib.digitVal
  rw [digit_byte h, if_pos (by omega)]
  congr 1; omega
theorem decFrom_one {d acc : Nat} (h : d < 10) : Lib.decFrom acc [UInt8.ofNat (48 + d)] = some (acc * 10 + d) := by
  show (match Lib.digitVal (UInt8.ofNat (48 + d)) with | some d => Lib.decFrom (acc * 10 + d) [] | none => none) = _
  rw [digit_val h]
  rfl
theorem dec_facts : ∀ (u : Nat), (Lib.decDigits u).all isDig = true ∧ Lib.decDigits u ≠ [] ∧ Lib.decFrom 0 (Lib.decDigits u) = some u ∧ (1 ≤ u → ((Lib.decDigits u).getD 0 0).toNat ≠ 48) := by
  intro u
  induction u using Nat.strongRecOn with
  | _ u ih =>
    rw [Lib.decDigits]
    by_cases h : u < 10
    · rw [dif_pos h]
      have hb := digit_byte h
      refine ⟨?_, by simp, ?_, fun h1 => ?_⟩
      · rw [List.all_cons, List.all_nil, Bool.and_true]; unfold isDig; rw [hb]; simp; omega
      · rw [decFrom_one h]; congr 1; omega
      · rw [List.getD_cons_zero, hb]; omega
    · rw [dif_neg h]
      obtain ⟨i1, i2, i3, i4⟩ := ih (u / 10) (by omega)
      have hm : u % 10 < 10 := Nat.mod_lt _ (by decide)
      have hb := digit_byte hm
      refine ⟨?_, by simp, ?_, fun h1 => ?_⟩
      · rw [List.all_append, i1, List.all_cons, List.all_nil, Bool.and_true, Bool.true_and]; unfold isDig; rw [hb]; simp; omega
      · rw [decFrom_append, i3]
        show Lib.decFrom (u / 10) [UInt8.ofNat (48 + u % 10)] = _
        rw [decFrom_one hm]
        congr 1; omega
      · have := i4 (by omega)
        cases hd : Lib.decDigits (u / 10) with
        | nil => exact absurd hd i2
        | cons b r => rw [hd] at this; exact this
theorem dec_length : ∀ (k u : Nat), u < 10 ^ (k + 1) → (Lib.decDigits u).length ≤ k + 1
  | 0, u, h => by rw [Lib.decDigits, dif_pos (by simpa using h)]; exact Nat.le_refl _
  | k + 1, u, h => by
    rw [Lib.decDigits]
    split
    · simp
    · rw [List.length_append, List.length_singleton]
      have := dec_length k (u / 10) (by rw [Nat.pow_succ] at h; omega)
      omega
theorem numOf_dec {u : Nat} (h : u < 1000000000) : numOf (Lib.decDigits u) = ((u : Int), true) := by
  obtain ⟨h1, h2, h3, h4⟩ := dec_facts u
  have hl := dec_length 8 u h
  have hn : numeral (Lib.decDigits u) = true := by
    refine numeral_of h2 hl h1 ?_
    by_cases h0 : u < 10
    · left; rw [Lib.decDigits, dif_pos h0]; exact Nat.le_refl _
    · exact .inr (h4 (by omega))
  obtain ⟨n, hn1, hn2⟩ := atoi_digits h2 h1
  rw [h3] at hn2
  injection hn2 with hn2
  unfold numOf
  rw [if_pos hn, hn1, hn2]
  rfl
theorem itoa_nat (u : Nat) : Lib.itoa (u : Int) = Lib.decDigits u := by
  unfold Lib.itoa; rw [if_neg (by omega)]; rfl
theorem numOf_itoa {n : Int} (h0 : 0 ≤ n) (h1 : n < 1000000000) : numOf (Lib.itoa n) = (n, true) := by
  obtain ⟨u, rfl⟩ := Int.eq_ofNat_of_zero_le h0
  rw [itoa_nat]
  exact numOf_dec (by omega)
theorem itoa_row {n : Int} (h0 : 0 ≤ n) (h1 : n < 1000000000) : isRowS (Lib.itoa n) = true := num_row (by rw [numOf_itoa h0 h1])
theorem row_bytes {s : Str} (h : isRowS s = true) : ∀ b ∈ s, b ≠ 32 ∧ b ≠ 10 := by
  intro b hb
  unfold isRowS at h
  rw [Bool.and_eq_true] at h
  have := List.all_eq_true.1 h.2 b hb
  unfold rowByte at this
  simp at this
  constructor <;> (rintro rfl; exact absurd this.1 (by decide))
theorem indexByte_at : ∀ (l t : Str) (c : UInt8), (∀ b ∈ l, b ≠ c) → Lib.indexByte (l ++ c :: t) c = (l.length : Int)
  | [], t, c, _ => by show Lib.indexByte (c :: t) c = 0; unfold Lib.indexByte; simp
  | b :: l, t, c, h => by
    show Lib.indexByte (b :: (l ++ c :: t)) c = _
    have hb : (b == c) = false := by rw [beq_eq_false_iff_ne]; exact h b (List.mem_cons_self ..)
    have ih := indexByte_at l t c (fun x hx => h x (List.mem_cons_of_mem _ hx))
    unfold Lib.indexByte
    rw [hb, ih]
    simp only [Bool.false_eq_true, if_false]
    rw [if_neg (by rw [beq_iff_eq]; omega), List.length_cons]; omega
theorem cutS_line (l t : Str) (h : ∀ b ∈ l, b ≠ 10) : cutS (l ++ 10 :: t) 10 = (l, t, true) := by
  unfold cutS
  rw [indexByte_at l t 10 h, if_pos (Int.natCast_nonneg _)]
  simp
theorem count_none (l : Str) (c : UInt8) (h : ∀ b ∈ l, b ≠ c) : l.count c = 0 := List.count_eq_zero.2 fun hc => h c hc rfl
theorem split_last (l : Str) (h : ∀ b ∈ l, b ≠ 32) : Lib.split l [32] = [l] := by
  unfold Lib.split
  rw [Lib.count_one, count_none l 32 h]
  rfl
theorem split_word (l t : Str) (h : ∀ b ∈ l, b ≠ 32) : Lib.split (l ++ 32 :: t) [32] = l :: Lib.split t [32] := by
  unfold Lib.split
  rw [Lib.count_one, Lib.count_one, List.count_append, count_none l 32 h, List.count_cons_self, Nat.zero_add]
  show (if Lib.index (l ++ 32 :: t) [32] == -1 then [l ++ 32 :: t] else (l ++ 32 :: t).take ((Lib.index (l ++ 32 :: t) [32]).toNat + 0) :: Lib.splitK [32] 0 (t.count 32) ((l ++ 32 :: t).drop ((Lib.index (l ++ 32 :: t) [32]).toNat + ([32] : List UInt8).length))) = l :: Lib.splitK [32] 0 (t.count 32) t
  rw [Lib.index_one, indexByte_at l t 32 h]
  rw [if_neg (by rw [beq_iff_eq]; omega)]
  have e1 : (l ++ 32 :: t).take ((l.length : Int).toNat + 0) = l := by simp
  have e2 : (l ++ 32 :: t).drop ((l.length : Int).toNat + ([32] : List UInt8).length) = t := by
    rw [List.length_singleton, Int.toNat_natCast, ← List.drop_drop, List.drop_left]
    rfl
  rw [e1, e2]
end Go.Proofs.YtdnilnmdbgcmoaaGreatDoor
