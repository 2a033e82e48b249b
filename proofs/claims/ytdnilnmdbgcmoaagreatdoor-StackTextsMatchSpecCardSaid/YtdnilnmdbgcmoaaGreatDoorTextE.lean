/- Reading stacks: what is read, by both, with no program in sight. -/
import Derived.Test.YtdnilnmdbgcmoaaGreatDoorTextD
import Derived.Test.YtdnilnmdbgcmoaaGreatDoorTextQ
namespace Go.Proofs.YtdnilnmdbgcmoaaGreatDoor
open Go Go.RowKit Go.Proofs Go.Shelf
set_option linter.unusedVariables false

/-- numbers, as stack.number asks for them -/
theorem S_stack_number {s : Str} (hs : s.length < 4294967281) {Q : Int → Bool → Prop} (h : Q (numOf s).1 (numOf s).2) : M_stack_number s Q := by
  have kk : ∀ c1, c1 = !(numeral s) → M_stack_number_k1 s Q c1 := by
    rintro c1 rfl
    unfold M_stack_number_k1
    exact cnd_of (fun e => numOf_not h (by simpa using e)) (fun e => S_Atoi h (by simpa using e))
  unfold M_stack_number
  refine cnd_of (fun e => kk _ ?_) (fun e => cnd_of (fun e1 => kk _ ?_) (fun e1 => S_Trim hs fun y hy => cnd_of (fun e2 => kk _ ?_) (fun e2 => ?_)))
  · rw [num_false s (by rintro ⟨h1, _⟩; simp at e; exact h1 (List.eq_nil_of_length_eq_zero (by omega)))]; rfl
  · rw [num_false s (by rintro ⟨_, h1, _⟩; simp at e1; omega)]; rfl
  · rw [hy] at e2
    rw [num_false s (by rintro ⟨_, _, h1, _⟩; rw [h1] at e2; cases e2)]; rfl
  · rw [hy] at e2
    have e2' : s.all isDig = true := by simpa using e2
    simp at e e1
    cases s with
    | nil => simp at e
    | cons b r =>
      refine idx_nat (i := 0) (x := b) rfl (cnd_of (fun e3 => kk _ ?_) (fun e3 => kk _ ?_))
      · have e3' : b.toNat = 48 := by have : (b.toNat : Int) = 48 := by simpa using e3
                                      omega
        have hb : b = 48 := by rw [← UInt8.toNat_inj]; exact e3'
        subst hb
        congr 1
        cases r with
        | nil => exact (numeral_of (by simp) (by simp) e2' (.inl (by simp))).symm
        | cons c r => exact (num_false _ (by rintro ⟨_, _, _, h4⟩; rcases h4 with h4 | h4 <;> simp at h4)).symm
      · have e3' : b.toNat ≠ 48 := by intro e'; rw [e'] at e3; simp at e3
        rw [numeral_of (by simp) (by simp only [List.length_cons] at e1 ⊢; omega) e2' (.inr e3')]; rfl
/-- numbers, as the reference asks for them -/
theorem S_ref4_number {s : Str} (hs : s.length < 4294967281) {Q : Int → Bool → Prop} (h : Q (numOf s).1 (numOf s).2) : M_ref4_number s Q := by
  have kk : ∀ c1, c1 = !(numeral s) → M_ref4_number_k1 s Q c1 := by
    rintro c1 rfl
    unfold M_ref4_number_k1
    exact cnd_of (fun e => numOf_not h (by simpa using e)) (fun e => S_Atoi h (by simpa using e))
  have last : s ≠ [] → s.length ≤ 9 → (s.length ≤ 1 ∨ (s.getD 0 0).toNat ≠ 48) → M_strings_Trim s [48, 49, 50, 51, 52, 53, 54, 55, 56, 57] fun y3 => M_ref4_number_k1 s Q (!(y3 == [])) := by
    intro h1 h2 h4
    refine S_Trim hs fun y hy => kk _ ?_
    rw [hy]
    cases e : s.all isDig
    · rw [num_false s (by rintro ⟨_, _, h3, _⟩; rw [h3] at e; cases e)]
    · rw [numeral_of h1 h2 e h4]
  unfold M_ref4_number
  refine cnd_of (fun e => kk _ ?_) (fun e => cnd_of (fun e1 => kk _ ?_) (fun e1 => cnd_of (fun e2 => ?_) (fun e2 => last ?_ ?_ ?_)))
  · rw [num_false s (by rintro ⟨h1, _⟩; exact h1 (by simpa using e))]; rfl
  · rw [num_false s (by rintro ⟨_, h1, _⟩; simp at e1; omega)]; rfl
  · have hne : s ≠ [] := by simpa using e
    simp at e1 e2
    cases s with
    | nil => exact absurd rfl hne
    | cons b r =>
      refine idx_nat (i := 0) (x := b) rfl (cnd_of (fun e3 => kk _ ?_) (fun e3 => last hne ?_ ?_))
      · have e3' : b.toNat = 48 := by have : (b.toNat : Int) = 48 := by simpa using e3
                                      omega
        rw [num_false _ (by rintro ⟨_, _, _, h4⟩; rcases h4 with h4 | h4 <;> simp only [List.length_cons, List.getD_cons_zero] at h4 e2 <;> omega)]; rfl
      · simp only [List.length_cons] at e1 ⊢; omega
      · exact .inr (by intro e'; simp at e'; rw [e'] at e3; simp at e3)
  · simpa using e
  · simp at e1; omega
  · simp at e2; omega
theorem S_ref4_isRow {s : Str} (hs : s.length < 4294967281) {Q : Bool → Prop} (h : Q (isRowS s)) : M_ref4_isRow s Q := by
  unfold M_ref4_isRow
  refine lp_scan (xs := s) (by omega) (fun b => !(rowByte b)) (A := Q false) (done := Q (!(s == []))) (fun X n hc => ?_) ?_
  · unfold M_ref4_isRow_L1
    refine cnd_of (fun e => ?_) (fun e => hc.2 e)
    obtain ⟨h0, x, hx, hk⟩ := hc.1 e
    refine ⟨h0, x, hx, cnd_of (fun e1 => ?_) (fun e1 => ?_)⟩
    · unfold M_ref4_isRow_k2
      refine cnd_of (fun _ => hk.1 ?_) (fun e' => by cases e')
      unfold rowByte; simp at e1 ⊢; omega
    · unfold M_ref4_isRow_k2
      refine cnd_of (fun e2 => hk.1 ?_) (fun e2 => hk.2 ?_)
      · unfold rowByte; simp at e1 e2 ⊢; omega
      · unfold rowByte; simp at e1 e2 ⊢; omega
  · unfold isRowS at h
    rw [List.all_eq_not_any_not] at h
    split
    · rename_i e; rw [e] at h; simpa using h
    · rename_i e
      rw [(Bool.not_eq_true _).mp e] at h; simpa using h

theorem S_stack_isRow {s : Str} {Q : Bool → Prop} (h : Q (isRowS s)) : M_stack_isRow s Q := by
  unfold M_stack_isRow M_stack_ContainsRow
  unfold isRowS at h
  refine cnd_of (fun e => ?_) (fun e => ?_)
  · show Q (!(decide _))
    rw [idxRow, Bool.not_not]
    rw [e, Bool.true_and] at h
    exact h
  · rw [e, Bool.false_and] at h; exact h
theorem S_contains_stack {t : List Str} {Q : Bool → Prop} (h : Q (t.any (fun x => !(isRowS x)))) : M_contains_stack t Q := by
  unfold M_contains_stack M_indexfunc_stack
  refine forIn_any (fun x => !(isRowS x)) (fun k x next hq => ?_) t 0 (A := Q true) ?_
  · unfold M_indexfunc_stack_L1 M_stack_notRow
    refine S_stack_isRow ?_
    have : decide ((k : Int) ≥ 0) = true := by simp
    dsimp only
    rw [this]; exact cnd_iff.2 hq
  · split
    · rename_i e2; rw [e2] at h; exact h
    · rename_i e2
      rw [(Bool.not_eq_true _).mp e2] at h; exact h
/-! ### a line -/
def kindOf (x : Str) : Int := if x = [99, 111, 112, 112, 101, 114] then 1 else if x = [99, 111, 114, 101] then 2 else if x = [103, 108, 117, 101] then 3 else 0
def wMaterial : Str := [109, 97, 116, 101, 114, 105, 97, 108]
def wCopper : Str := [99, 111, 112, 112, 101, 114]
def wLayer : Str := [108, 97, 121, 101, 114]
/-- what a line's words add; none: they cannot stand there -/
def lineOf (m : List Material) (s : List Layer) (w : List Str) : Option (List Material × List Layer) :=
  if w.any (fun x => !(isRowS x)) then none else
  match w with
  | [a, b, c] => if a = wCopper then some (m, s ++ [⟨b, c⟩]) else none
  | [a, b] => if a = wLayer then some (m, s ++ [⟨[], b⟩]) else none
  | [a, b, c, d, e] => if a = wMaterial ∧ s = [] ∧ 0 < kindOf c ∧ (numOf d).2 = true ∧ (numOf e).2 = true then some (m ++ [⟨b, kindOf c, (numOf d).1, (numOf e).1⟩], s) else none
  | _ => none

theorem S_index_kind4 {x : Str} {Q : Int → Prop} (h : ∀ k, (0 < k → k = kindOf x) → (0 < kindOf x → k = kindOf x) → Q k) : M_index_str ([[], [99, 111, 112, 112, 101, 114], [99, 111, 114, 101], [103, 108, 117, 101]] : List Str) x Q := by
  unfold M_index_str
  have hk : ∀ (r : Str) (k : Nat) next, (x = r → Q (k : Int)) → (x ≠ r → next) → M_index_str_L1 x Q k r next := by
    intro r k next h1 h2
    unfold M_index_str_L1
    exact cnd_of (fun e => h1 (by simpa using e)) (fun e => h2 (by simpa using e))
  refine hk _ _ _ (fun e => h _ ?_ ?_) (fun e0 => hk _ _ _ (fun e => h _ ?_ ?_) (fun e1 => hk _ _ _ (fun e => h _ ?_ ?_) (fun e2 => hk _ _ _ (fun e => h _ ?_ ?_) (fun e3 => h _ ?_ ?_))))
  all_goals (first | subst e | skip)
  all_goals simp_all [kindOf]
theorem S_index_kind3 {x : Str} {Q : Int → Prop} (h : Q (kindOf x - 1)) : M_index_str ([[99, 111, 112, 112, 101, 114], [99, 111, 114, 101], [103, 108, 117, 101]] : List Str) x Q := by
  unfold M_index_str
  have hk : ∀ (r : Str) (k : Nat) next, (x = r → Q (k : Int)) → (x ≠ r → next) → M_index_str_L1 x Q k r next := by
    intro r k next h1 h2
    unfold M_index_str_L1
    exact cnd_of (fun e => h1 (by simpa using e)) (fun e => h2 (by simpa using e))
  refine hk _ _ _ (fun e => ?_) (fun e1 => hk _ _ _ (fun e => ?_) (fun e2 => hk _ _ _ (fun e => ?_) (fun e3 => ?_)))
  · subst e; simpa [kindOf] using h
  · subst e; simpa [kindOf] using h
  · subst e; simpa [kindOf] using h
  · show Q (-1); unfold kindOf at h; rw [if_neg e1, if_neg e2, if_neg e3] at h; exact h

end Go.Proofs.YtdnilnmdbgcmoaaGreatDoor
