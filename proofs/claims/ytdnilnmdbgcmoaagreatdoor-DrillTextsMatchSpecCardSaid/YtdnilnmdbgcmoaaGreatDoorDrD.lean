/- Reading bits and jobs: what is read, by both; the law. -/
import Derived.Test.YtdnilnmdbgcmoaaGreatDoorDrC
import Derived.Test.YtdnilnmdbgcmoaaGreatDoorDrB
import Derived.Test.YtdnilnmdbgcmoaaGreatDoorTextQ
namespace Go.Proofs.YtdnilnmdbgcmoaaGreatDoor
open Go Go.RowKit Go.Proofs Go.Shelf
set_option linter.unusedVariables false

/-- numbers, as the reference asks for them -/
theorem S_ref8_number {s : Str} (hs : s.length < 4294967281) {Q : Int → Bool → Prop} (h : Q (numOf s).1 (numOf s).2) : M_ref8_number s Q := by
  have kk : ∀ c1, c1 = !(numeral s) → M_ref8_number_k1 s Q c1 := by
    rintro c1 rfl
    unfold M_ref8_number_k1
    exact cnd_of (fun e => numOf_not h (by simpa using e)) (fun e => S_Atoi h (by simpa using e))
  have last : s ≠ [] → s.length ≤ 9 → (s.length ≤ 1 ∨ (s.getD 0 0).toNat ≠ 48) → M_strings_Trim s [48, 49, 50, 51, 52, 53, 54, 55, 56, 57] fun y3 => M_ref8_number_k1 s Q (!(y3 == [])) := by
    intro h1 h2 h4
    refine S_Trim hs fun y hy => kk _ ?_
    rw [hy]
    cases e : s.all isDig
    · rw [num_false s (by rintro ⟨_, _, h3, _⟩; rw [h3] at e; cases e)]
    · rw [numeral_of h1 h2 e h4]
  unfold M_ref8_number
  refine cnd_of (fun e => kk _ ?_) (fun e => cnd_of (fun e1 => kk _ ?_) (fun e1 => cnd_of (fun e2 => ?_) (fun e2 => last ?_ ?_ ?_)))
  · rw [num_false s (by rintro ⟨h1, _⟩; exact h1 (by simpa using e))]; rfl
  · rw [num_false s (by rintro ⟨_, h1, _⟩; simp at e1; omega)]; rfl
  · have hne : s ≠ [] := by simpa using e
    simp at e1 e2
    cases s with
    | nil => exact absurd rfl hne
    | cons b r =>
      refine idx_nat (i := 0) (x := b) rfl (cnd_of (fun e3 => kk _ ?_) (fun e3 => last hne ?_ ?_))
      · have e3' : b.toNat = 48 := by have : (b.toNat : Int) = 48 := by simpa using e3
                                      omega
        rw [num_false _ (by rintro ⟨_, _, _, h4⟩; rcases h4 with h4 | h4 <;> simp only [List.length_cons, List.getD_cons_zero] at h4 e2 <;> omega)]; rfl
      · simp only [List.length_cons] at e1 ⊢; omega
      · exact .inr (by intro e'; simp at e'; rw [e'] at e3; simp at e3)
  · simpa using e
  · simp at e1; omega
  · simp at e2; omega
theorem S_ref8_isRow {s : Str} (hs : s.length < 4294967281) {Q : Bool → Prop} (h : Q (isRowS s)) : M_ref8_isRow s Q := by
  unfold M_ref8_isRow
  refine lp_scan (xs := s) (by omega) (fun b => !(rowByte b)) (A := Q false) (done := Q (!(s == []))) (fun X n hc => ?_) ?_
  · unfold M_ref8_isRow_L1
    refine cnd_of (fun e => ?_) (fun e => hc.2 e)
    obtain ⟨h0, x, hx, hk⟩ := hc.1 e
    refine ⟨h0, x, hx, cnd_of (fun e1 => ?_) (fun e1 => ?_)⟩
    · unfold M_ref8_isRow_k2
      refine cnd_of (fun _ => hk.1 ?_) (fun e' => by cases e')
      unfold rowByte; simp at e1 ⊢; omega
    · unfold M_ref8_isRow_k2
      refine cnd_of (fun e2 => hk.1 ?_) (fun e2 => hk.2 ?_)
      · unfold rowByte; simp at e1 e2 ⊢; omega
      · unfold rowByte; simp at e1 e2 ⊢; omega
  · unfold isRowS at h
    rw [List.all_eq_not_any_not] at h
    split
    · rename_i e; rw [e] at h; simpa using h
    · rename_i e
      rw [(Bool.not_eq_true _).mp e] at h; simpa using h

/-! ### numbers with a sign -/
theorem decFrom_ge : ∀ (l : Str) (acc n : Nat), Lib.decFrom acc l = some n → acc ≤ n
  | [], acc, n, h => by unfold Lib.decFrom at h; injection h with h; omega
  | b :: r, acc, n, h => by
    unfold Lib.decFrom at h
    split at h
    · rename_i d hd
      have := decFrom_ge r _ n h
      omega
    · cases h
/-- a number with a minus ahead or none -/
def sigOf (s : Str) : Int × Bool := match s with
  | 45 :: d => (-(numOf d).1, (numOf d).2 && !((numOf d).1 == 0))
  | _ => numOf s
theorem sigOf_plain {s : Str} (h : s.head? ≠ some 45) : sigOf s = numOf s := by
  unfold sigOf
  split
  · exact absurd rfl h
  · rfl
theorem sig_row {d : Str} (h : (sigOf d).2 = true) : isRowS d = true := by
  by_cases hd : d.head? = some 45
  · cases d with
    | nil => cases hd
    | cons b r =>
      have : b = 45 := by simpa using hd
      subst this
      have h' : ((numOf r).2 && !((numOf r).1 == 0)) = true := h
      rw [Bool.and_eq_true] at h'
      have hr := num_row h'.1
      unfold isRowS at hr ⊢
      rw [Bool.and_eq_true] at hr
      have h45 : rowByte 45 = true := by decide
      rw [List.all_cons, hr.2, h45]; rfl
  · rw [sigOf_plain hd] at h; exact num_row h
theorem numeral_dig {s : Str} {b : UInt8} {r : Str} (hs : s = b :: r) (h : numeral s = true) : b ≠ 45 := by
  obtain ⟨_, _, h3, _⟩ := numOf_ok h
  rw [hs, List.all_cons, Bool.and_eq_true] at h3
  rintro rfl
  exact absurd h3.1 (by decide)
/-- a digit row behind a minus -/
theorem atoi_neg {d : Str} (h1 : d ≠ []) (h3 : d.all isDig = true) : ∃ n : Nat, Lib.atoi (45 :: d) = some (-(n : Int)) ∧ Lib.atoi d = some (n : Int) ∧ Lib.decFrom 0 d = some n := by
  obtain ⟨n, hn, hd⟩ := atoi_digits h1 h3
  refine ⟨n, ?_, hn, hd⟩
  show (if (45 : UInt8) == 45 then (Lib.decNat d).map fun (m : Nat) => -(m : Int) else if (45 : UInt8) == 43 then (Lib.decNat d).map fun (m : Nat) => (m : Int) else (Lib.decNat (45 :: d)).map fun (m : Nat) => (m : Int)) = _
  rw [if_pos (by decide)]
  unfold Lib.decNat
  have : d.isEmpty = false := by cases d with | nil => exact absurd rfl h1 | cons _ _ => rfl
  rw [this, hd]
  rfl
/-- the step of numbers: a word, with its sign cut off or not -/
theorem S_drill_num_k2 {s d : Str} {l2 : List Int} {next : List Int → Prop} {Q : List Int → Bool → Prop} {v : Int × Bool} (hs : s.length < 4294967281) (hl : l2.length ≤ 100) (hc : (d = s ∧ v = numOf s) ∨ (s = 45 :: d ∧ v = sigOf s)) (h : v.2 = true → next (l2 ++ [v.1])) (h0 : v.2 = false → Q [] false) : M_drill_numbers_k2 Q s l2 next d := by
  have hdl : d.length < 4294967281 := by
    rcases hc with ⟨e, _⟩ | ⟨e, _⟩
    · rw [e]; exact hs
    · rw [e, List.length_cons] at hs; omega
  have kk : ∀ c1, c1 = !v.2 → M_drill_numbers_k3 Q s l2 next c1 := by
    rintro c1 rfl
    unfold M_drill_numbers_k3
    refine cnd_of (fun e => h0 (by simpa using e)) (fun e => ?_)
    have e' : v.2 = true := by simpa using e
    have hr : room (l2 ++ [v.1]).length 8 := ⟨by rw [List.length_append, List.length_singleton]; omega, by rw [List.length_append, List.length_singleton]; omega⟩
    rcases hc with ⟨e1, e2⟩ | ⟨e1, e2⟩
    · have hn : numeral s = true := by
        rw [e2] at e'; unfold numOf at e'
        cases hn : numeral s
        · rw [hn] at e'; cases e'
        · rfl
      obtain ⟨h1, h2, h3, _⟩ := numOf_ok hn
      obtain ⟨n, hn', _⟩ := atoi_digits h1 h3
      refine ⟨by omega, n, hn', ?_⟩
      have hv : v.1 = n := by rw [e2]; unfold numOf; rw [if_pos hn, hn']; rfl
      rw [← hv]
      exact ⟨hr, h e'⟩
    · have hq : v = (-(numOf d).1, (numOf d).2 && !((numOf d).1 == 0)) := by rw [e2, e1]; rfl
      rw [hq] at e'
      simp only [Bool.and_eq_true] at e'
      have hn : numeral d = true := by
        have := e'.1; unfold numOf at this
        cases hn : numeral d
        · rw [hn] at this; cases this
        · rfl
      obtain ⟨h1, h2, h3, _⟩ := numOf_ok hn
      obtain ⟨n, hn', hn2, _⟩ := atoi_neg h1 h3
      refine ⟨by rw [e1, List.length_cons]; omega, -(n : Int), by rw [e1]; exact hn', ?_⟩
      have hv : v.1 = -(n : Int) := by rw [hq]; unfold numOf; rw [if_pos hn, hn2]; rfl
      rw [← hv]
      refine ⟨hr, h ?_⟩
      rw [hq]; simp only [Bool.and_eq_true]; exact e'
  -- what is asked is what v says
  have bad : (d = [] ∨ 9 < d.length ∨ d.all isDig = false) → v.2 = false := by
    intro hb
    have hn : numeral d = false := num_false d (fun ⟨h1, h2, h3, _⟩ => hb.elim h1 (fun hb => hb.elim (fun hb => by omega) (fun hb => by rw [hb] at h3; cases h3)))
    rcases hc with ⟨e1, e2⟩ | ⟨e1, e2⟩
    · rw [e2, ← e1]; unfold numOf; rw [hn]; rfl
    · rw [e2, e1]; show ((numOf d).2 && _) = false; unfold numOf; rw [hn]; rfl
  unfold M_drill_numbers_k2
  refine cnd_of (fun e => kk _ ?_) (fun e => cnd_of (fun e1 => kk _ ?_) (fun e1 => S_Trim hdl fun y hy => cnd_of (fun e2 => kk _ ?_) (fun e2 => ?_)))
  · rw [bad (.inl (List.eq_nil_of_length_eq_zero (by simp at e; omega)))]; rfl
  · rw [bad (.inr (.inl (by simp at e1; omega)))]; rfl
  · rw [hy] at e2
    rw [bad (.inr (.inr (by simpa using e2)))]; rfl
  · rw [hy] at e2
    have e2' : d.all isDig = true := by simpa using e2
    simp at e e1
    cases d with
    | nil => simp at e
    | cons b r =>
      refine idx_nat (i := 0) (x := b) rfl (cnd_of (fun e3 => kk _ ?_) (fun e3 => kk _ ?_))
      · have e3' : b.toNat = 48 := by
          have : (b.toNat : Int) = 48 := by simpa using e3
          omega
        have hb : b = 48 := by rw [← UInt8.toNat_inj]; exact e3'
        subst hb
        rcases hc with ⟨e4, e5⟩ | ⟨e4, e5⟩
        · subst e4
          congr 1
          rw [e5]
          cases r with
          | nil => decide
          | cons c r =>
            have : numeral (48 :: c :: r) = false := num_false _ (by rintro ⟨_, _, _, h4⟩; rcases h4 with h4 | h4 <;> simp at h4)
            unfold numOf; rw [this]; simp
        · have hv : v.2 = false := by
            rw [e5, e4]
            show ((numOf (48 :: r)).2 && !((numOf (48 :: r)).1 == 0)) = false
            cases r with
            | nil => decide
            | cons c r =>
              have : numeral (48 :: c :: r) = false := num_false _ (by rintro ⟨_, _, _, h4⟩; rcases h4 with h4 | h4 <;> simp at h4)
              unfold numOf; rw [this]; rfl
          rw [hv, e4]; simp
      · have e3' : b.toNat ≠ 48 := by intro e'; rw [e'] at e3; simp at e3
        have hn : numeral (b :: r) = true := numeral_of (by simp) (by simp only [List.length_cons] at e1 ⊢; omega) e2' (.inr e3')
        rcases hc with ⟨e4, e5⟩ | ⟨e4, e5⟩
        · subst e4
          rw [e5]; unfold numOf; rw [hn]; rfl
        · rw [e5, e4]
          show false = !((numOf (b :: r)).2 && !((numOf (b :: r)).1 == 0))
          obtain ⟨n, hn1, hn2⟩ := atoi_digits (s := b :: r) (by simp) e2'
          have hpos : n ≠ 0 := by
            rw [List.all_cons, Bool.and_eq_true] at e2'
            have hb := e2'.1; unfold isDig at hb; simp at hb
            unfold Lib.decFrom Lib.digitVal at hn2
            rw [if_pos hb] at hn2
            have := decFrom_ge r _ n hn2
            omega
          unfold numOf; rw [if_pos hn, hn1]
          simp [hpos]
theorem S_TrimMinus {s : Str} {Q : Str → Prop} (h : ∀ d, (s.head? ≠ some 45 ∧ d = s) ∨ s = 45 :: d → Q d) : M_strings_TrimPrefix s [45] Q := by
  unfold M_strings_TrimPrefix M_stringslite_TrimPrefix M_stringslite_HasPrefix
  cases s with
  | nil => exact cnd_of (fun e => by simp at e) (fun _ => cnd_of (fun e' => by cases e') (fun _ => h _ (.inl ⟨by simp, rfl⟩)))
  | cons b r =>
    refine cnd_of (fun _ => ⟨⟨by simp, by simp, by simp; omega⟩, ?_⟩) (fun e => by simp at e; omega)
    have hs : seg (b :: r) 0 (([45] : Str).length : Int) = [b] := by simp [seg]
    rw [hs]
    refine cnd_of (fun e => ⟨⟨by simp, by simp; omega, Int.le_refl _⟩, h _ (.inr ?_)⟩) (fun e => h _ (.inl ⟨?_, rfl⟩))
    · have : b = 45 := by simpa using e
      rw [this]; simp [seg]
    · have : ¬ b = 45 := by simpa using e
      simpa using this
theorem S_drill_num_step {s : Str} {sg : Int} {k : Nat} {l2 : List Int} {next : List Int → Prop} {Q : List Int → Bool → Prop} (hs : s.length < 4294967281) (hl : l2.length ≤ 100)
    (h : (if (k : Int) < sg then sigOf s else numOf s).2 = true → next (l2 ++ [(if (k : Int) < sg then sigOf s else numOf s).1])) (h0 : (if (k : Int) < sg then sigOf s else numOf s).2 = false → Q [] false) : M_drill_numbers_L1 sg Q k s l2 next := by
  unfold M_drill_numbers_L1
  refine cnd_of (fun e => S_TrimMinus fun d hd => ?_) (fun e => ?_)
  · rw [if_pos (by simpa using e)] at h h0
    refine S_drill_num_k2 (v := sigOf s) hs hl ?_ h h0
    rcases hd with ⟨h1, h2⟩ | h2
    · exact .inl ⟨h2, sigOf_plain h1⟩
    · exact .inr ⟨h2, rfl⟩
  · rw [if_neg (by simpa using e)] at h h0
    exact S_drill_num_k2 (v := numOf s) hs hl (.inl ⟨rfl, rfl⟩) h h0
theorem S_drill_numbers3 {x y z : Str} {Q : List Int → Bool → Prop} (hx : x.length < 4294967281) (hy : y.length < 4294967281) (hz : z.length < 4294967281)
    (h : (sigOf x).2 = true → (sigOf y).2 = true → (numOf z).2 = true → Q [(sigOf x).1, (sigOf y).1, (numOf z).1] true) (h0 : ¬ ((sigOf x).2 = true ∧ (sigOf y).2 = true ∧ (numOf z).2 = true) → Q [] false) : M_drill_numbers [x, y, z] 2 Q := by
  unfold M_drill_numbers
  refine S_drill_num_step hx (by simp) (fun e1 => S_drill_num_step hy (by simp) (fun e2 => S_drill_num_step hz (by simp) (fun e3 => ?_) (fun e3 => ?_)) (fun e2 => ?_)) (fun e1 => ?_)
  · exact h e1 e2 e3
  · exact h0 fun hh => by rw [show (numOf z).2 = false from e3] at hh; cases hh.2.2
  · exact h0 fun hh => by rw [show (sigOf y).2 = false from e2] at hh; cases hh.2.1
  · exact h0 fun hh => by rw [show (sigOf x).2 = false from e1] at hh; cases hh.1
theorem S_drill_numbers3' {x y z : Str} {Q : List Int → Bool → Prop} (hx : x.length < 4294967281) (hy : y.length < 4294967281) (hz : z.length < 4294967281)
    (h : (numOf x).2 = true → (numOf y).2 = true → (numOf z).2 = true → Q [(numOf x).1, (numOf y).1, (numOf z).1] true) (h0 : ¬ ((numOf x).2 = true ∧ (numOf y).2 = true ∧ (numOf z).2 = true) → Q [] false) : M_drill_numbers [x, y, z] 0 Q := by
  unfold M_drill_numbers
  refine S_drill_num_step hx (by simp) (fun e1 => S_drill_num_step hy (by simp) (fun e2 => S_drill_num_step hz (by simp) (fun e3 => ?_) (fun e3 => ?_)) (fun e2 => ?_)) (fun e1 => ?_)
  · exact h e1 e2 e3
  · exact h0 fun hh => by rw [show (numOf z).2 = false from e3] at hh; cases hh.2.2
  · exact h0 fun hh => by rw [show (numOf y).2 = false from e2] at hh; cases hh.2.1
  · exact h0 fun hh => by rw [show (numOf x).2 = false from e1] at hh; cases hh.1
theorem S_drill_numbers4 {x y z d : Str} {Q : List Int → Bool → Prop} (hx : x.length < 4294967281) (hy : y.length < 4294967281) (hz : z.length < 4294967281) (hd : d.length < 4294967281)
    (h : (sigOf x).2 = true → (sigOf y).2 = true → (numOf z).2 = true → (numOf d).2 = true → Q [(sigOf x).1, (sigOf y).1, (numOf z).1, (numOf d).1] true) (h0 : ¬ ((sigOf x).2 = true ∧ (sigOf y).2 = true ∧ (numOf z).2 = true ∧ (numOf d).2 = true) → Q [] false) : M_drill_numbers [x, y, z, d] 2 Q := by
  unfold M_drill_numbers
  refine S_drill_num_step hx (by simp) (fun e1 => S_drill_num_step hy (by simp) (fun e2 => S_drill_num_step hz (by simp) (fun e3 => S_drill_num_step hd (by simp) (fun e4 => ?_) (fun e4 => ?_)) (fun e3 => ?_)) (fun e2 => ?_)) (fun e1 => ?_)
  · exact h e1 e2 e3 e4
  · exact h0 fun hh => by rw [show (numOf d).2 = false from e4] at hh; cases hh.2.2.2
  · exact h0 fun hh => by rw [show (numOf z).2 = false from e3] at hh; cases hh.2.2.1
  · exact h0 fun hh => by rw [show (sigOf y).2 = false from e2] at hh; cases hh.2.1
  · exact h0 fun hh => by rw [show (sigOf x).2 = false from e1] at hh; cases hh.1
theorem S_CutMinus {s : Str} {Q : Str → Bool → Prop} (h : ∀ d c, (s.head? ≠ some 45 ∧ d = s ∧ c = false) ∨ (s = 45 :: d ∧ c = true) → Q d c) : M_strings_CutPrefix s [45] Q := by
  unfold M_strings_CutPrefix M_stringslite_CutPrefix M_stringslite_HasPrefix
  cases s with
  | nil => exact cnd_of (fun e => by simp at e) (fun _ => cnd_of (fun _ => h _ _ (.inl ⟨by simp, rfl, rfl⟩)) (fun e' => by cases e'))
  | cons b r =>
    refine cnd_of (fun _ => ⟨⟨by simp, by simp, by simp; omega⟩, ?_⟩) (fun e => by simp at e; omega)
    have hs : seg (b :: r) 0 (([45] : Str).length : Int) = [b] := by simp [seg]
    rw [hs]
    refine cnd_of (fun e => h _ _ (.inl ⟨?_, rfl, rfl⟩)) (fun e => ⟨⟨by simp, by simp; omega, Int.le_refl _⟩, h _ _ (.inr ⟨?_, rfl⟩)⟩)
    · have : ¬ b = 45 := by simpa using e
      simpa using this
    · have : b = 45 := by simpa using e
      rw [this]; simp [seg]
theorem S_ref8_signed {s : Str} (hs : s.length < 4294967281) {Q : Int → Bool → Prop} (h : ∀ v, ((sigOf s).2 = true → v = (sigOf s).1) → Q v (sigOf s).2) : M_ref8_signed s Q := by
  unfold M_ref8_signed
  refine S_CutMinus fun d c hd => ?_
  have hdl : d.length < 4294967281 := by
    rcases hd with ⟨_, e, _⟩ | ⟨e, _⟩
    · rw [e]; exact hs
    · rw [e, List.length_cons] at hs; omega
  have hb := numOf_fits d
  refine S_ref8_number hdl (cnd_of (fun e => ?_) (fun e => ?_))
  · rcases hd with ⟨h1, h2, _⟩ | ⟨_, h2⟩
    · subst h2
      have := h (numOf d).1 (fun _ => by rw [sigOf_plain h1])
      rw [sigOf_plain h1] at this
      exact this
    · rw [h2] at e; cases e
  · rcases hd with ⟨_, _, h2⟩ | ⟨h1, _⟩
    · rw [h2] at e; cases e
    · have hsg : sigOf s = (-(numOf d).1, (numOf d).2 && !((numOf d).1 == 0)) := by rw [h1]; rfl
      rw [w64_id (by omega) (by omega)]
      have key := h (-(numOf d).1) (fun _ => by rw [hsg])
      rw [hsg] at key
      refine cnd_of (fun e1 => ?_) (fun e1 => ?_)
      · rw [e1] at key; exact key
      · rw [e1] at key; exact key
/-! ### a line -/
def wTool : Str := [116, 111, 111, 108]
def wJob : Str := [106, 111, 98]
def wHole : Str := [104, 111, 108, 101]
def wP : Str := [112]
def wDash : Str := [45]
/-- the last job takes a hole more -/
def addHole (j : List Job) (h : Hole) : List Job := match j[j.length - 1]? with
  | some x => j.set (j.length - 1) ⟨x.Tool, x.Holes ++ [h]⟩
  | none => j
theorem addHole_at {j : List Job} {x : Job} (hx : j[j.length - 1]? = some x) (h : Hole) : addHole j h = j.set (j.length - 1) ⟨x.Tool, x.Holes ++ [h]⟩ := by
  unfold addHole; rw [hx]
theorem last_at {j : List Job} (h : j ≠ []) (hl : j.length ≤ 1000000) : ∃ x, j[j.length - 1]? = some x ∧ (w64 ((j.length : Int) - 1)) = ((j.length - 1 : Nat) : Int) := by
  have : 0 < j.length := List.length_pos_iff.2 h
  exact ⟨j[j.length - 1], List.getElem?_eq_getElem (by omega), by rw [w64_id (by omega) (by omega)]; omega⟩
/-- what a line's words add; none: they cannot stand there -/
def lineD (t : List Bit) (j : List Job) (w : List Str) : Option (List Bit × List Job) :=
  if w.any (fun x => !(isRowS x)) then none else
  match w with
  | [a, n, x, y, z] => if a = wTool ∧ j = [] ∧ (numOf x).2 = true ∧ (numOf y).2 = true ∧ (numOf z).2 = true then some (t ++ [⟨n, (numOf x).1, (numOf y).1, (numOf z).1⟩], j) else none
  | [a, n] => if a = wJob then some (t, j ++ [⟨n, []⟩]) else none
  | [a, x, y, z, d, p] => if a = wHole ∧ j ≠ [] ∧ (p = wP ∨ p = wDash) ∧ (sigOf x).2 = true ∧ (sigOf y).2 = true ∧ (numOf z).2 = true ∧ (numOf d).2 = true then some (t, addHole j ⟨⟨(sigOf x).1, (sigOf y).1⟩, (numOf z).1, (numOf d).1, p == wP⟩) else none
  | _ => none
theorem lineD_tool (t : List Bit) (n x y z : Str) : lineD t [] [wTool, n, x, y, z] = if isRowS n = true ∧ (numOf x).2 = true ∧ (numOf y).2 = true ∧ (numOf z).2 = true then some (t ++ [⟨n, (numOf x).1, (numOf y).1, (numOf z).1⟩], []) else none := by
  unfold lineD
  have hw : isRowS wTool = true := by decide
  by_cases hc : isRowS n = true ∧ (numOf x).2 = true ∧ (numOf y).2 = true ∧ (numOf z).2 = true
  · rw [if_pos hc, if_neg (by simp [hw, hc.1, num_row hc.2.1, num_row hc.2.2.1, num_row hc.2.2.2])]
    exact if_pos ⟨rfl, rfl, hc.2⟩
  · rw [if_neg hc]
    split
    · rfl
    · rename_i hg
      refine if_neg fun h => hc ?_
      simp [hw] at hg
      exact ⟨hg.1, h.2.2⟩
theorem lineD_job (t : List Bit) (j : List Job) (n : Str) : lineD t j [wJob, n] = if isRowS n = true then some (t, j ++ [⟨n, []⟩]) else none := by
  unfold lineD
  have hw : isRowS wJob = true := by decide
  by_cases hc : isRowS n = true
  · rw [if_pos hc, if_neg (by simp [hw, hc])]
    exact if_pos rfl
  · rw [if_neg hc]
    refine if_pos ?_
    simp [hw]
    simpa using hc
theorem lineD_hole (t : List Bit) (j : List Job) (x y z d p : Str) : lineD t j [wHole, x, y, z, d, p] = if j ≠ [] ∧ (p = wP ∨ p = wDash) ∧ (sigOf x).2 = true ∧ (sigOf y).2 = true ∧ (numOf z).2 = true ∧ (numOf d).2 = true then some (t, addHole j ⟨⟨(sigOf x).1, (sigOf y).1⟩, (numOf z).1, (numOf d).1, p == wP⟩) else none := by
  unfold lineD
  have hw : isRowS wHole = true := by decide
  by_cases hc : j ≠ [] ∧ (p = wP ∨ p = wDash) ∧ (sigOf x).2 = true ∧ (sigOf y).2 = true ∧ (numOf z).2 = true ∧ (numOf d).2 = true
  · have hu : isRowS p = true := by rcases hc.2.1 with h | h <;> rw [h] <;> decide
    rw [if_pos hc, if_neg (by simp [hw, hu, sig_row hc.2.2.1, sig_row hc.2.2.2.1, num_row hc.2.2.2.2.1, num_row hc.2.2.2.2.2])]
    exact if_pos ⟨rfl, hc⟩
  · rw [if_neg hc]
    split
    · rfl
    · exact if_neg fun h => hc h.2
theorem lineD_none {t : List Bit} {j : List Job} {w : List Str} (h1 : ¬ (w.head? = some wTool ∧ w.length = 5 ∧ j = [])) (h2 : ¬ (w.head? = some wJob ∧ w.length = 2)) (h3 : ¬ (w.head? = some wHole ∧ w.length = 6 ∧ j ≠ [] ∧ (w.getD 5 [] = wP ∨ w.getD 5 [] = wDash))) : lineD t j w = none := by
  unfold lineD
  split
  · rfl
  · split
    · exact if_neg fun e => h1 ⟨by rw [e.1]; rfl, rfl, e.2.1⟩
    · exact if_neg fun e => h2 ⟨by rw [e]; rfl, rfl⟩
    · exact if_neg fun e => h3 ⟨by rw [e.1]; rfl, rfl, e.2.1, e.2.2.1⟩
    · rfl
theorem lineD_bad {t : List Bit} {j : List Job} {w : List Str} (h : w.any (fun x => !(isRowS x)) = true) : lineD t j w = none := by
  unfold lineD; rw [if_pos h]

theorem S_drill_notRow {s : Str} {Q : Bool → Prop} (h : Q (!(isRowS s))) : M_drill_notRow s Q := by
  unfold M_drill_notRow M_drill_ContainsRow
  unfold isRowS at h
  refine cnd_of (fun e => ?_) (fun e => ?_)
  · rw [e] at h; exact h
  · show Q (decide _)
    rw [idxRow]
    rw [e, Bool.not_false, Bool.true_and] at h
    exact h
theorem S_contains_drill {t : List Str} {Q : Bool → Prop} (h : Q (t.any (fun x => !(isRowS x)))) : M_contains_drill t Q := by
  unfold M_contains_drill M_indexfunc_drill
  refine forIn_any (fun x => !(isRowS x)) (fun k x next hq => ?_) t 0 (A := Q true) ?_
  · unfold M_indexfunc_drill_L1
    refine S_drill_notRow ?_
    have : decide ((k : Int) ≥ 0) = true := by simp
    dsimp only
    rw [this]; exact cnd_iff.2 hq
  · split
    · rename_i e2; rw [e2] at h; exact h
    · rename_i e2
      rw [(Bool.not_eq_true _).mp e2] at h; exact h


theorem S_drill_readLine {t : List Bit} {j : List Job} {line : Str} (hll : line.length < 4294967281) (hm : t.length ≤ 1000000) (hs : j.length ≤ 1000000) (hh : ∀ x ∈ j, x.Holes.length ≤ 1000000) {Q : Bool → List Bit → List Job → Prop}
    (h : ∀ m' s', lineD t j (Lib.split line [32]) = some (m', s') → Q true m' s') (h0 : lineD t j (Lib.split line [32]) = none → Q false t j) : M_drill_readLine t j line Q := by
  unfold M_drill_readLine
  refine S_strings_Split hll (S_contains_drill (cnd_of (fun e => h0 (lineD_bad e)) (fun hg => ?_)))
  have hne := split_ne line [32]
  have hle : ∀ x ∈ Lib.split line [32], x.length < 4294967281 := fun x hx => Nat.lt_of_le_of_lt (split_fits (by omega) hx) hll
  revert h h0 hg hne hle
  generalize Lib.split line [32] = w
  intro h h0 hg hne hle
  rw [← Bool.not_eq_true] at hg
  have hrow : ∀ x ∈ w, isRowS x = true := fun x hx => Classical.byContradiction fun hc => hg (List.any_eq_true.2 ⟨x, hx, by simpa using hc⟩)
  obtain ⟨a, r, rfl⟩ : ∃ a r, w = a :: r := by cases w with | nil => exact absurd rfl hne | cons a r => exact ⟨a, r, rfl⟩
  have room1 : ∀ (n : Nat), n ≤ 1000001 → room n 40 := fun n hn => ⟨by omega, by omega⟩
  have k3 : ¬ (a = wTool ∧ (a :: r).length = 5 ∧ j = []) → ¬ (a = wJob ∧ (a :: r).length = 2) → ∀ c3, (c3 = true ↔ (a = wHole ∧ (a :: r).length = 6 ∧ j ≠ [] ∧ ((a :: r).getD 5 [] = wP ∨ (a :: r).getD 5 [] = wDash))) → M_drill_readLine_k3 t j Q (a :: r) c3 := by
    intro n1 n2 c3 hc
    unfold M_drill_readLine_k3
    refine cnd_of (fun e => ?_) (fun e => ?_)
    · obtain ⟨rfl, h2, hj, hu⟩ := hc.1 e
      obtain ⟨_, x, y, z, d, p, hr⟩ := len6 h2
      injection hr with _ hr; subst hr
      replace hu : p = wP ∨ p = wDash := hu
      rw [lineD_hole] at h h0
      refine ⟨⟨by omega, by omega, by simp⟩, ?_⟩
      show M_drill_numbers [x, y, z, d] 2 _
      refine S_drill_numbers4 (hle x (by simp)) (hle y (by simp)) (hle z (by simp)) (hle d (by simp)) ?_ ?_
      · intro e1 e2 e3 e4
        obtain ⟨l, hl, hw⟩ := last_at hj hs
        have hlm := hh l (List.mem_of_getElem? hl)
        refine cnd_of (fun e' => by cases e') (fun _ => ?_)
        rw [hw]
        refine idx_nat (i := j.length - 1) (x := l) hl (idx_nat (i := 0) (x := (sigOf x).1) rfl (idx_nat (i := 1) (x := (sigOf y).1) rfl (idx_nat (i := 2) (x := (numOf z).1) rfl (idx_nat (i := 3) (x := (numOf d).1) rfl (idx_nat (i := 5) (x := p) rfl ⟨room1 _ (by rw [List.length_append, List.length_singleton]; omega), h _ _ ?_⟩)))))
        rw [if_pos ⟨hj, hu, e1, e2, e3, e4⟩, addHole_at hl]; rfl
      · intro e1
        refine cnd_of (fun _ => h0 (if_neg fun hq => e1 hq.2.2)) (fun e' => by cases e')
    · exact h0 (lineD_none (by simpa using n1) (by simpa using n2) (by intro h'; rw [hc.2 ⟨by simpa using h'.1, h'.2⟩] at e; cases e))
  have k2 : ¬ (a = wTool ∧ (a :: r).length = 5 ∧ j = []) → ∀ c2, (c2 = true ↔ (a = wJob ∧ (a :: r).length = 2)) → M_drill_readLine_k2 t j Q (a :: r) c2 := by
    intro n1 c2 hc
    unfold M_drill_readLine_k2
    refine cnd_of (fun e => ?_) (fun e => ?_)
    · obtain ⟨rfl, h2⟩ := hc.1 e
      obtain ⟨_, n, hr⟩ := len2 h2
      injection hr with _ hr; subst hr
      refine idx_nat (i := 1) (x := n) rfl ⟨room1 _ (by rw [List.length_append, List.length_singleton]; omega), h _ _ ?_⟩
      rw [lineD_job, if_pos (hrow n (by simp))]
    · have n2 : ¬ (a = wJob ∧ (a :: r).length = 2) := fun h' => by rw [hc.2 h'] at e; cases e
      refine idx_nat (i := 0) (x := a) rfl (cnd_of (fun ea => cnd_of (fun e6 => cnd_of (fun ej => ?_) (fun ej => k3 n1 n2 _ ?_)) (fun e6 => k3 n1 n2 _ ?_)) (fun ea => k3 n1 n2 _ ?_))
      · have ea' : a = wHole := by simpa [wHole] using ea
        rw [show ((6 : Int)) = ((6 : Nat) : Int) from rfl, leneq] at e6
        have e6' : (a :: r).length = 6 := by simpa using e6
        have ej' : j ≠ [] := by intro h'; rw [h'] at ej; simp at ej
        obtain ⟨_, x, y, z, d, p, hr⟩ := len6 e6'
        injection hr with _ hr; subst hr
        refine idx_nat (i := 5) (x := p) rfl (cnd_of (fun eu => k3 n1 n2 _ ?_) (fun eu => k3 n1 n2 _ ?_))
        · have eu' : p = wP := by simpa [wP] using eu
          exact ⟨fun _ => ⟨ea', rfl, ej', .inl eu'⟩, fun _ => rfl⟩
        · have eu' : ¬ p = wP := by simpa [wP] using eu
          constructor
          · intro e'; exact ⟨ea', rfl, ej', .inr (by simpa [wDash] using e')⟩
          · rintro ⟨_, _, _, h' | h'⟩
            · exact absurd h' eu'
            · have h'' : p = wDash := h'
              rw [h'']; decide
      · have ej' : j = [] := by cases j with | nil => rfl | cons _ _ => simp at ej
        exact ⟨fun h' => (by cases h'), fun h' => absurd ej' h'.2.2.1⟩
      · rw [show ((6 : Int)) = ((6 : Nat) : Int) from rfl, leneq] at e6
        simp only [decide_eq_false_iff_not] at e6
        exact ⟨fun h' => (by cases h'), fun h' => absurd h'.2.1 e6⟩
      · have ea' : ¬ a = wHole := by simpa [wHole] using ea
        exact ⟨fun h' => (by cases h'), fun h' => absurd h'.1 ea'⟩
  have k1 : ∀ c1, (c1 = true ↔ (a = wTool ∧ (a :: r).length = 5 ∧ j = [])) → M_drill_readLine_k1 t j Q (a :: r) c1 := by
    intro c1 hc
    unfold M_drill_readLine_k1
    refine cnd_of (fun e => ?_) (fun e => ?_)
    · obtain ⟨rfl, h2, rfl⟩ := hc.1 e
      obtain ⟨_, n, x, y, z, hr⟩ := len5 h2
      injection hr with _ hr; subst hr
      rw [lineD_tool] at h h0
      have hp := hrow n (by simp)
      refine ⟨⟨by omega, by simp, Int.le_refl _⟩, ?_⟩
      show M_drill_numbers [x, y, z] 0 _
      refine S_drill_numbers3' (hle x (by simp)) (hle y (by simp)) (hle z (by simp)) ?_ ?_
      · intro e1 e2 e3
        refine cnd_of (fun e' => by cases e') (fun _ => idx_nat (i := 1) (x := n) rfl (idx_nat (i := 0) (x := (numOf x).1) rfl (idx_nat (i := 1) (x := (numOf y).1) rfl (idx_nat (i := 2) (x := (numOf z).1) rfl ⟨room1 _ (by rw [List.length_append, List.length_singleton]; omega), h _ _ ?_⟩))))
        rw [if_pos ⟨hp, e1, e2, e3⟩]
      · intro e1
        refine cnd_of (fun _ => h0 (if_neg fun hq => e1 hq.2)) (fun e' => by cases e')
    · have n1 : ¬ (a = wTool ∧ (a :: r).length = 5 ∧ j = []) := fun h' => by rw [hc.2 h'] at e; cases e
      refine idx_nat (i := 0) (x := a) rfl (cnd_of (fun ea => k2 n1 _ ?_) (fun ea => k2 n1 _ ?_))
      · have ea' : a = wJob := by simpa [wJob] using ea
        rw [show ((2 : Int)) = ((2 : Nat) : Int) from rfl, leneq]; simp [ea']
      · have ea' : ¬ a = wJob := by simpa [wJob] using ea
        simp [ea']
  refine idx_nat (i := 0) (x := a) rfl (cnd_of (fun ea => cnd_of (fun e5 => k1 _ ?_) (fun e5 => k1 _ ?_)) (fun ea => k1 _ ?_))
  · have ea' : a = wTool := by simpa [wTool] using ea
    rw [show ((5 : Int)) = ((5 : Nat) : Int) from rfl, leneq] at e5
    rw [show ((0 : Int)) = ((0 : Nat) : Int) from rfl, leneq]
    simp only [decide_eq_true_eq] at e5 ⊢
    exact ⟨fun h' => ⟨ea', e5, List.eq_nil_of_length_eq_zero h'⟩, fun h' => by rw [h'.2.2]; rfl⟩
  · rw [show ((5 : Int)) = ((5 : Nat) : Int) from rfl, leneq] at e5
    simp only [decide_eq_false_iff_not] at e5
    exact ⟨fun h' => (by cases h'), fun h' => absurd h'.2.1 e5⟩
  · have ea' : ¬ a = wTool := by simpa [wTool] using ea
    exact ⟨fun h' => (by cases h'), fun h' => absurd h'.1 ea'⟩

/-- the reference's round behind the words of a line -/
theorem S_ref8_words {t : List Bit} {j : List Job} {w : List Str} {n : Int} {y2 : Str} {y3 : Bool} (hne : w ≠ []) (hle : ∀ x ∈ w, x.length < 4294967281) (hm : t.length ≤ 1000000) (hs : j.length ≤ 1000000) (hh : ∀ x ∈ j, x.Holes.length ≤ 1000000) {Q : List Bit → List Job → Int → Int → Prop} {again : List Job → List Bit → Str → Int → Prop}
    (h : y3 = true → ∀ m' s', lineD t j w = some (m', s') → again s' m' y2 (w64 (n + 1))) (h0 : y3 = false ∨ lineD t j w = none → Q [] [] n 10) :
    idx w 0 fun x2 => cnd (x2 == [116, 111, 111, 108]) (M_ref8_Read_k4 Q j t n again y2 y3 w ((j.length : Int) == 0)) (M_ref8_Read_k4 Q j t n again y2 y3 w false) := by
  obtain ⟨a, r, rfl⟩ : ∃ a r, w = a :: r := by cases w with | nil => exact absurd rfl hne | cons a r => exact ⟨a, r, rfl⟩
  have room1 : ∀ (n : Nat), n ≤ 1000001 → room n 40 := fun n hn => ⟨by omega, by omega⟩
  have k2 : ∀ (s' : List Job) (m' : List Bit) (c1 : Bool), (c1 = true → lineD t j (a :: r) = some (m', s')) → (c1 = false → lineD t j (a :: r) = none) → M_ref8_Read_k2 Q n again y2 y3 s' m' c1 := by
    intro s' m' c1 hc hc0
    unfold M_ref8_Read_k2 M_ref8_Read_k3
    refine cnd_of (fun e => cnd_of (fun _ => h0 (.inr (hc0 (by simpa using e)))) (fun e' => by cases e')) (fun e => cnd_of (fun e1 => h0 (.inl (by simpa using e1))) (fun e1 => h (by simpa using e1) _ _ (hc (by simpa using e))))
  have tool : ∀ {P : Bit → Bool → Prop}, (∀ x, lineD t [] (a :: r) = some (t ++ [x], []) → P x true) → (lineD t [] (a :: r) = none → ∀ x, P x false) → a = wTool → M_ref8_readTool (a :: r) P := by
    intro P hp hp0 ea
    unfold M_ref8_readTool
    have n2 : ¬ ((a :: r).head? = some wJob ∧ (a :: r).length = 2) := by rw [ea]; rintro ⟨h1, _⟩; simp [wTool, wJob] at h1
    have n3 : ¬ ((a :: r).head? = some wHole ∧ (a :: r).length = 6 ∧ ([] : List Job) ≠ [] ∧ ((a :: r).getD 5 [] = wP ∨ (a :: r).getD 5 [] = wDash)) := by rintro ⟨_, _, h3, _⟩; exact h3 rfl
    have kt : M_ref8_readTool_k1 (a :: r) P true ↔ P ⟨[], 0, 0, 0⟩ false := by unfold M_ref8_readTool_k1; simp [cnd]
    refine cnd_of (fun e => kt.2 (hp0 (lineD_none ?_ n2 n3) _)) (fun e => ?_)
    · rintro ⟨_, h5, _⟩
      rw [h5] at e; cases e
    · have h5 : (a :: r).length = 5 := by
        rw [show ((5 : Int)) = ((5 : Nat) : Int) from rfl, bne, leneq] at e; simpa using e
      obtain ⟨_, nm, x, y, z, hr⟩ := len5 h5
      injection hr with _ hr; subst hr; subst ea
      rw [lineD_tool] at hp hp0
      refine idx_nat (i := 1) (x := nm) rfl (S_ref8_isRow (hle nm (by simp)) ?_)
      cases e1 : isRowS nm
      · exact kt.2 (hp0 (if_neg fun hq => by rw [hq.1] at e1; cases e1) _)
      unfold M_ref8_readTool_k1
      refine cnd_of (fun e' => by cases e') (fun _ => ?_)
      refine idx_nat (i := 2) (x := x) rfl (S_ref8_number (hle x (by simp)) (idx_nat (i := 3) (x := y) rfl (S_ref8_number (hle y (by simp)) (idx_nat (i := 4) (x := z) rfl (S_ref8_number (hle z (by simp)) (idx_nat (i := 1) (x := nm) rfl ?_))))))
      refine cnd_of (fun e3 => cnd_of (fun e4 => ?_) (fun e4 => hp0 (if_neg (by rw [e4]; rintro ⟨_, _, h4, _⟩; cases h4)) _)) (fun e3 => hp0 (if_neg (by rw [e3]; rintro ⟨_, h4, _⟩; cases h4)) _)
      cases e5 : (numOf z).2
      · exact hp0 (if_neg (by rw [e5]; rintro ⟨_, _, _, h4⟩; cases h4)) _
      · exact hp _ (if_pos ⟨e1, e3, e4, e5⟩)
  have hole : ∀ {P : Hole → Bool → Prop}, (∀ x, lineD t j (a :: r) = some (t, addHole j x) → P x true) → (lineD t j (a :: r) = none → ∀ x, P x false) → a = wHole → j ≠ [] → M_ref8_readHole (a :: r) P := by
    intro P hp hp0 ea hj
    unfold M_ref8_readHole
    have n1 : ¬ ((a :: r).head? = some wTool ∧ (a :: r).length = 5 ∧ j = []) := fun h' => hj h'.2.2
    have n2 : ¬ ((a :: r).head? = some wJob ∧ (a :: r).length = 2) := by rw [ea]; rintro ⟨h1, _⟩; simp [wHole, wJob] at h1
    have kt : M_ref8_readHole_k1 (a :: r) P true ↔ P ⟨⟨0, 0⟩, 0, 0, false⟩ false := by unfold M_ref8_readHole_k1; simp [cnd]
    refine cnd_of (fun e => kt.2 (hp0 (lineD_none n1 n2 ?_) _)) (fun e => ?_)
    · rintro ⟨_, h5, _⟩
      rw [h5] at e; cases e
    · have h5 : (a :: r).length = 6 := by
        rw [show ((6 : Int)) = ((6 : Nat) : Int) from rfl, bne, leneq] at e; simpa using e
      obtain ⟨_, x, y, z, d, p, hr⟩ := len6 h5
      injection hr with _ hr; subst hr; subst ea
      rw [lineD_hole] at hp hp0
      have go : (p = wP ∨ p = wDash) → M_ref8_readHole_k1 [wHole, x, y, z, d, p] P false := by
        intro hu
        unfold M_ref8_readHole_k1
        refine cnd_of (fun e' => by cases e') (fun _ => ?_)
        refine idx_nat (i := 1) (x := x) rfl (S_ref8_signed (hle x (by simp)) fun v1 hv1 => idx_nat (i := 2) (x := y) rfl (S_ref8_signed (hle y (by simp)) fun v2 hv2 => idx_nat (i := 3) (x := z) rfl (S_ref8_number (hle z (by simp)) (idx_nat (i := 4) (x := d) rfl (S_ref8_number (hle d (by simp)) (idx_nat (i := 5) (x := p) rfl ?_))))))
        refine cnd_of (fun e3 => cnd_of (fun e4 => cnd_of (fun e6 => ?_) (fun e6 => hp0 (if_neg (by rw [e6]; rintro ⟨_, _, _, _, h4, _⟩; cases h4)) _)) (fun e4 => hp0 (if_neg (by rw [e4]; rintro ⟨_, _, _, h4, _⟩; cases h4)) _)) (fun e3 => hp0 (if_neg (by rw [e3]; rintro ⟨_, _, h4, _⟩; cases h4)) _)
        cases e5 : (numOf d).2
        · exact hp0 (if_neg (by rw [e5]; rintro ⟨_, _, _, _, _, h4⟩; cases h4)) _
        · rw [hv1 e3, hv2 e4]
          exact hp _ (if_pos ⟨hj, hu, e3, e4, e6, e5⟩)
      refine idx_nat (i := 5) (x := p) rfl (cnd_of (fun e3 => ?_) (fun e3 => go (.inl (by simpa [wP] using e3))))
      cases e4 : (p == [45])
      · refine kt.2 (hp0 (if_neg fun hq => ?_) _)
        have e3' : ¬ p = wP := by simpa [wP] using e3
        have e4' : ¬ p = wDash := by simpa [wDash] using e4
        rcases hq.2.1 with h' | h'
        · exact e3' h'
        · exact e4' h'
      · exact go (.inr (by simpa [wDash] using e4))
  have k6 : ¬ (a = wTool ∧ j = []) → ¬ (a = wJob ∧ (a :: r).length = 2) → ∀ c5, (c5 = true ↔ (a = wHole ∧ j ≠ [])) → M_ref8_Read_k6 Q j t n again y2 y3 (a :: r) c5 := by
    intro n1 n2 c5 hc
    unfold M_ref8_Read_k6
    refine cnd_of (fun e => ?_) (fun e => k2 _ _ _ (fun e' => by cases e') (fun _ => lineD_none (fun h' => n1 ⟨by simpa using h'.1, h'.2.2⟩) (by simpa using n2) (fun h' => by rw [hc.2 ⟨by simpa using h'.1, h'.2.2.1⟩] at e; cases e)))
    obtain ⟨ea, hj⟩ := hc.1 e
    obtain ⟨l, hl, hw⟩ := last_at hj hs
    have hlm := hh l (List.mem_of_getElem? hl)
    have hr : ∀ x : Hole, room (l.Holes ++ [x]).length 40 := fun x => room1 _ (by rw [List.length_append, List.length_singleton]; omega)
    refine hole (fun x hx => ?_) (fun hx x => ?_) ea hj
    · rw [hw]
      refine idx_nat (i := j.length - 1) (x := l) hl ⟨hr x, k2 _ _ _ (fun _ => ?_) (fun e' => by cases e')⟩
      rw [hx, addHole_at hl]; rfl
    · rw [hw]
      exact idx_nat (i := j.length - 1) (x := l) hl ⟨hr x, k2 _ _ _ (fun e' => by cases e') (fun _ => hx)⟩
  have k5 : ¬ (a = wTool ∧ j = []) → ∀ c4, (c4 = true ↔ (a = wJob ∧ (a :: r).length = 2)) → M_ref8_Read_k5 Q j t n again y2 y3 (a :: r) c4 := by
    intro n1 c4 hc
    unfold M_ref8_Read_k5
    refine cnd_of (fun e => ?_) (fun e => ?_)
    · obtain ⟨rfl, h2⟩ := hc.1 e
      obtain ⟨_, nm, hr⟩ := len2 h2
      injection hr with _ hr; subst hr
      refine idx_nat (i := 1) (x := nm) rfl (S_ref8_isRow (hle nm (by simp)) ⟨room1 _ (by rw [List.length_append, List.length_singleton]; omega), k2 _ _ _ (fun e' => ?_) (fun e' => ?_)⟩)
      · rw [lineD_job, if_pos e']
      · rw [lineD_job, if_neg (by rw [e']; decide)]
    · have n2 : ¬ (a = wJob ∧ (a :: r).length = 2) := fun h' => by rw [hc.2 h'] at e; cases e
      refine idx_nat (i := 0) (x := a) rfl (cnd_of (fun ea => k6 n1 n2 _ ?_) (fun ea => k6 n1 n2 _ ?_))
      · have ea' : a = wHole := by simpa [wHole] using ea
        rw [decide_eq_true_iff]
        exact ⟨fun h' => ⟨ea', fun h'' => by rw [h''] at h'; simp at h'⟩, fun h' => by have := List.length_pos_iff.2 h'.2; omega⟩
      · have ea' : ¬ a = wHole := by simpa [wHole] using ea
        exact ⟨fun h' => (by cases h'), fun h' => absurd h'.1 ea'⟩
  have k4 : ∀ c3, (c3 = true ↔ (a = wTool ∧ j = [])) → M_ref8_Read_k4 Q j t n again y2 y3 (a :: r) c3 := by
    intro c3 hc
    unfold M_ref8_Read_k4
    refine cnd_of (fun e => ?_) (fun e => ?_)
    · obtain ⟨ea, es⟩ := hc.1 e
      subst es
      refine tool (fun x hx => ⟨room1 _ (by rw [List.length_append, List.length_singleton]; omega), k2 _ _ _ (fun _ => hx) (fun e' => by cases e')⟩) (fun hx x => ⟨room1 _ (by rw [List.length_append, List.length_singleton]; omega), k2 _ _ _ (fun e' => by cases e') (fun _ => hx)⟩) ea
    · have n1 : ¬ (a = wTool ∧ j = []) := fun h' => by rw [hc.2 h'] at e; cases e
      refine idx_nat (i := 0) (x := a) rfl (cnd_of (fun e1 => k5 n1 _ ?_) (fun e1 => k5 n1 _ ?_))
      · have ea : a = wJob := by simpa [wJob] using e1
        rw [show ((2 : Int)) = ((2 : Nat) : Int) from rfl, leneq]; simp [ea]
      · have ea : ¬ a = wJob := by simpa [wJob] using e1
        simp [ea]
  refine idx_nat (i := 0) (x := a) rfl (cnd_of (fun ea => k4 _ ?_) (fun ea => k4 _ ?_))
  · have ea' : a = wTool := by simpa [wTool] using ea
    rw [show ((0 : Int)) = ((0 : Nat) : Int) from rfl, leneq]
    simp only [decide_eq_true_eq]
    exact ⟨fun h' => ⟨ea', List.eq_nil_of_length_eq_zero h'⟩, fun h' => by rw [h'.2]; rfl⟩
  · have ea' : ¬ a = wTool := by simpa [wTool] using ea
    exact ⟨fun h' => (by cases h'), fun h' => absurd h'.1 ea'⟩

/-! ### the whole text -/
def readS : Nat → Str → Int → List Bit → List Job → (List Bit × List Job × Int × Int)
  | 0, _, _, m, s => ([], [], 0, 0)
  | k + 1, text, n, m, s =>
    if text = [] then (if jobsFault m s = 0 then (m, s, 0, 0) else ([], [], 0, jobsFault m s)) else
    match (cutS text 10).2.2, lineD m s (Lib.split (cutS text 10).1 [32]) with
    | true, some (m', s') => readS k (cutS text 10).2.1 (n + 1) m' s'
    | _, _ => ([], [], n, 10)
/-- names that are read are short, and no job has more holes than so many -/
def Short (H : Nat) (t : List Bit) (j : List Job) : Prop := Fits.fits t ∧ (∀ x ∈ j, x.Holes.length ≤ H)
theorem lineD_more {m m' : List Bit} {s s' : List Job} {w : List Str} {L H : Nat} (h : lineD m s w = some (m', s')) (hw : ∀ x ∈ w, x.length ≤ L) (hL : L ≤ 1000000) (hm : Short H m s) : Short (H + 1) m' s' ∧ m'.length ≤ m.length + 1 ∧ s'.length ≤ s.length + 1 := by
  have up : ∀ x ∈ s, x.Holes.length ≤ H + 1 := fun x hx => Nat.le_succ_of_le (hm.2 x hx)
  unfold lineD at h
  split at h
  · cases h
  · split at h
    · rename_i a n x y z _
      split at h
      · injection h with h; injection h with h1 h2; subst h1 h2
        refine ⟨⟨fun x hx => ?_, up⟩, by rw [List.length_append, List.length_singleton]; exact Nat.le_refl _, by omega⟩
        rcases List.mem_append.1 hx with hx | hx
        · exact hm.1 x hx
        · rw [List.mem_singleton.1 hx]
          have h1 := hw n (by simp)
          exact ⟨by show n.length ≤ _; omega, trivial, trivial, trivial⟩
      · cases h
    · rename_i a n _
      split at h
      · injection h with h; injection h with h1 h2; subst h1 h2
        refine ⟨⟨hm.1, fun x hx => ?_⟩, by omega, by rw [List.length_append, List.length_singleton]; exact Nat.le_refl _⟩
        rcases List.mem_append.1 hx with hx | hx
        · exact up x hx
        · rw [List.mem_singleton.1 hx]; exact Nat.zero_le _
      · cases h
    · rename_i a x y z d p _
      split at h
      · injection h with h; injection h with h1 h2; subst h1 h2
        unfold addHole
        split
        · rename_i l hl
          refine ⟨⟨hm.1, fun x hx => ?_⟩, by omega, by rw [List.length_set]; omega⟩
          rcases List.mem_or_eq_of_mem_set hx with hx | hx
          · exact up x hx
          · rw [hx]
            have := hm.2 l (List.mem_of_getElem? hl)
            show (l.Holes ++ [_]).length ≤ _
            rw [List.length_append, List.length_singleton]; omega
        · exact ⟨⟨hm.1, up⟩, by omega, by omega⟩
      · cases h
    · cases h
theorem S_drill_Read {text : Str} {Q : List Bit → List Job → Int → Int → Prop} (h : if text.length > 500000 then Q [] [] 0 2 else ∀ a, readS (text.length + 1) text 1 [] [] = a → Q a.1 a.2.1 a.2.2.1 a.2.2.2) : M_drill_Read text Q := by
  unfold M_drill_Read
  refine cnd_of (fun e => ?_) (fun e => ?_)
  · rw [if_pos (by simp at e; omega)] at h; exact h
  have hl : text.length ≤ 500000 := by simp at e; omega
  rw [if_neg (by omega)] at h
  refine ⟨text.length + 1, ?_⟩
  have key : ∀ (k H : Nat) (t : Str) (n : Int) (m : List Bit) (s : List Job), t.length < k → t.length ≤ 500000 → 0 ≤ n → n + t.length ≤ 600000 → m.length + t.length ≤ 1000000 → s.length + t.length ≤ 1000000 → Short H m s → H + t.length ≤ 1000000 → (∀ a, readS k t n m s = a → Q a.1 a.2.1 a.2.2.1 a.2.2.2) →
      iterF (fun again (s : List Bit × List Job × Str × Int) => M_drill_Read_L1 Q (fun l3 l4 s2 n2 => again (l3, l4, s2, n2)) s.1 s.2.1 s.2.2.1 s.2.2.2) k (m, s, t, n) := by
    intro k
    induction k with
    | zero => intro H t n m s hk; omega
    | succ k ih =>
      intro H t n m s hk ht hn hn2 hmt hst hm hH hq
      show M_drill_Read_L1 Q _ m s t n
      unfold M_drill_Read_L1
      unfold readS at hq
      refine cnd_of (fun e1 => ?_) (fun e1 => ?_)
      · rw [if_neg (by simpa using e1)] at hq
        refine S_strings_Cut (by omega) ?_
        have hrest := cutS_rest t 10
        have hlen := cutS_le t 10
        have k2 : ∀ (m' : List Bit) (s' : List Job) (c : Bool), (c = true → Q [] [] n 10) → (c = false → iterF (fun again (s : List Bit × List Job × Str × Int) => M_drill_Read_L1 Q (fun l3 l4 s2 n2 => again (l3, l4, s2, n2)) s.1 s.2.1 s.2.2.1 s.2.2.2) k (m', s', (cutS t 10).2.1, n + 1)) → M_drill_Read_k2 Q n (fun l3 l4 s2 n2 => iterF (fun again (s : List Bit × List Job × Str × Int) => M_drill_Read_L1 Q (fun l3 l4 s2 n2 => again (l3, l4, s2, n2)) s.1 s.2.1 s.2.2.1 s.2.2.2) k (l3, l4, s2, n2)) (cutS t 10).2.1 m' s' c := by
          intro m' s' c h1 h2
          unfold M_drill_Read_k2
          rw [w64_id (by omega) (by omega)]
          exact cnd_of h1 h2
        refine cnd_of (fun e2 => ?_) (fun e2 => ?_)
        · have e2' : (cutS t 10).2.2 = false := by simpa using e2
          refine k2 _ _ _ (fun _ => ?_) (fun e' => by cases e')
          rw [e2'] at hq
          exact hq _ rfl
        · have e2' : (cutS t 10).2.2 = true := by simpa using e2
          rw [e2'] at hq
          have hr := hrest e2'
          refine S_drill_readLine (by omega) (by omega) (by omega) (fun x hx => by have := hm.2 x hx; omega) (fun m' s' hx => ?_) (fun hx => ?_)
          · rw [hx] at hq
            have hmore := lineD_more hx (fun x hx' => split_fits (by omega) hx') (by omega) hm
            refine k2 _ _ _ (fun e' => by cases e') (fun _ => ih _ _ _ _ _ (by omega) (by omega) (by omega) (by omega) (by omega) (by omega) hmore.1 (by omega) hq)
          · rw [hx] at hq
            exact k2 _ _ _ (fun _ => hq _ rfl) (fun e' => by cases e')
      · rw [if_pos (by simpa using e1)] at hq
        refine S_drill_CheckJobs hm.1 (cnd_of (fun e2 => ?_) (fun e2 => ?_))
        · rw [if_neg (by simpa using e2)] at hq; exact hq _ rfl
        · rw [if_pos (by simpa using e2)] at hq; exact hq _ rfl
  exact key _ 0 _ _ _ _ (by omega) hl (by omega) (by omega) (by simp; omega) (by simp; omega) ⟨fun x hx => (by cases hx), fun x hx => (by cases hx)⟩ (by omega) h
theorem S_ref8_Read {text : Str} {Q : List Bit → List Job → Int → Int → Prop} (h : if text.length > 500000 then Q [] [] 0 2 else ∀ a, readS (text.length + 1) text 1 [] [] = a → Q a.1 a.2.1 a.2.2.1 a.2.2.2) : M_ref8_Read text Q := by
  unfold M_ref8_Read
  refine cnd_of (fun e => ?_) (fun e => ?_)
  · rw [if_pos (by simp at e; omega)] at h; exact h
  have hl : text.length ≤ 500000 := by simp at e; omega
  rw [if_neg (by omega)] at h
  refine ⟨text.length + 1, ?_⟩
  have key : ∀ (k H : Nat) (t : Str) (n : Int) (m : List Bit) (s : List Job), t.length < k → t.length ≤ 500000 → 0 ≤ n → n + t.length ≤ 600000 → m.length + t.length ≤ 1000000 → s.length + t.length ≤ 1000000 → Short H m s → H + t.length ≤ 1000000 → (∀ a, readS k t n m s = a → Q a.1 a.2.1 a.2.2.1 a.2.2.2) →
      iterF (fun again (s : List Job × List Bit × Str × Int) => M_ref8_Read_L1 Q (fun l3 l4 s2 n2 => again (l3, l4, s2, n2)) s.1 s.2.1 s.2.2.1 s.2.2.2) k (s, m, t, n) := by
    intro k
    induction k with
    | zero => intro H t n m s hk; omega
    | succ k ih =>
      intro H t n m s hk ht hn hn2 hmt hst hm hH hq
      show M_ref8_Read_L1 Q _ s m t n
      unfold M_ref8_Read_L1
      unfold readS at hq
      refine cnd_of (fun e1 => ?_) (fun e1 => ?_)
      · rw [if_neg (by simpa using e1)] at hq
        refine S_strings_Cut (by omega) ?_
        have hrest := cutS_rest t 10
        have hlen := cutS_le t 10
        refine S_strings_Split (by omega) (S_ref8_words (split_ne _ _) (fun x hx => Nat.lt_of_le_of_lt (split_fits (by omega) hx) (by omega)) (by omega) (by omega) (fun x hx => by have := hm.2 x hx; omega) (fun e2 m' s' hx => ?_) (fun hx => ?_))
        · rw [e2, hx] at hq
          have hmore := lineD_more hx (fun x hx' => split_fits (by omega) hx') (by omega) hm
          have hr := hrest e2
          rw [w64_id (by omega) (by omega)]
          exact ih _ _ _ _ _ (by omega) (by omega) (by omega) (by omega) (by omega) (by omega) hmore.1 (by omega) hq
        · rcases hx with hx | hx
          · rw [hx] at hq; exact hq _ rfl
          · rw [hx] at hq
            cases e3 : (cutS t 10).2.2
            · rw [e3] at hq; exact hq _ rfl
            · rw [e3] at hq; exact hq _ rfl
      · rw [if_pos (by simpa using e1)] at hq
        refine S_ref8_CheckJobs hm.1 (cnd_of (fun e2 => ?_) (fun e2 => ?_))
        · rw [if_neg (by simpa using e2)] at hq; exact hq _ rfl
        · rw [if_pos (by simpa using e2)] at hq; exact hq _ rfl
  exact key _ 0 _ _ _ _ (by omega) hl (by omega) (by omega) (by simp; omega) (by simp; omega) ⟨fun x hx => (by cases hx), fun x hx => (by cases hx)⟩ (by omega) h
theorem S_equal_hole {xs ys : List Hole} {Q : Bool → Prop} (h : Q (decide (xs = ys))) : M_equal_hole xs ys Q := by
  unfold M_equal_hole
  exact equal_loop (fun k x next hq => hq) h
theorem S_ref8_SameJobs_self {xs : List Job} {Q : Bool → Prop} (h : Q true) : M_ref8_SameJobs xs xs Q := by
  unfold M_ref8_SameJobs
  refine cnd_of (fun e => by simp at e) (fun _ => ?_)
  refine forIn0 (fun _ _ => True) trivial (fun k x s hx _ next hn => ?_) (fun _ _ => h)
  unfold M_ref8_SameJobs_L1
  refine idx_nat (i := k) (x := x) hx (cnd_of (fun e => by simp at e) (fun _ => S_equal_hole ?_))
  unfold M_ref8_SameJobs_k2
  exact cnd_of (fun e => by simp at e) (fun _ => hn () trivial)
theorem S_equal_bit {xs ys : List Bit} {Q : Bool → Prop} (h : Q (decide (xs = ys))) : M_equal_bit xs ys Q := by
  unfold M_equal_bit
  exact equal_loop (fun k x next hq => hq) h
theorem law_DrillReads_true (text : Str) : M_law_DrillReads text (· = true) := by
  unfold M_law_DrillReads
  have fin : ∀ (a : List Bit) (b : List Job) (n f : Int), cnd (f == f) (cnd (n == n) (M_equal_bit a a fun y9 => cnd y9 (M_ref8_SameJobs b b fun y10 => cnd y10 (M_awake fun y11 => y11 = true) (false = true)) (false = true)) (false = true)) (false = true) := by
    intro a b n f
    refine cnd_of (fun _ => cnd_of (fun _ => S_equal_bit (cnd_of (fun _ => S_ref8_SameJobs_self (cnd_of (fun _ => S_awake rfl) (fun e => by simp at e))) (fun e => by simp at e))) (fun e => by simp at e)) (fun e => by simp at e)
  refine S_drill_Read ?_
  split
  · rename_i hl
    refine S_ref8_Read ?_
    rw [if_pos hl]
    exact fin _ _ _ _
  · rename_i hl
    intro a ha
    refine S_ref8_Read ?_
    rw [if_neg hl]
    intro b hb
    rw [← hb, ha]
    exact fin _ _ _ _

end Go.Proofs.YtdnilnmdbgcmoaaGreatDoor
