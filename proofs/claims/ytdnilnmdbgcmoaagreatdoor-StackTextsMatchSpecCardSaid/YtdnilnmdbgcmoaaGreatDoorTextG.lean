/- Reading stacks: line by line; the law. -/
import Derived.Test.YtdnilnmdbgcmoaaGreatDoorTextE
namespace Go.Proofs.YtdnilnmdbgcmoaaGreatDoor
open Go Go.RowKit Go.Proofs Go.Shelf
set_option linter.unusedVariables false

theorem kind_row {c : Str} (h : 0 < kindOf c) : isRowS c = true := by
  unfold kindOf at h
  split at h
  · rename_i e; rw [e]; decide
  · split at h
    · rename_i e; rw [e]; decide
    · split at h
      · rename_i e; rw [e]; decide
      · cases h
theorem kindOf_range (c : Str) : 0 ≤ kindOf c ∧ kindOf c ≤ 3 := by
  unfold kindOf
  repeat' split
  all_goals decide
theorem lineOf_mat (m : List Material) (b c d e : Str) : lineOf m [] [wMaterial, b, c, d, e] = if isRowS b = true ∧ 0 < kindOf c ∧ (numOf d).2 = true ∧ (numOf e).2 = true then some (m ++ [⟨b, kindOf c, (numOf d).1, (numOf e).1⟩], []) else none := by
  unfold lineOf
  have hw : isRowS wMaterial = true := by decide
  by_cases hc : isRowS b = true ∧ 0 < kindOf c ∧ (numOf d).2 = true ∧ (numOf e).2 = true
  · rw [if_pos hc, if_neg (by simp [hw, hc.1, kind_row hc.2.1, num_row hc.2.2.1, num_row hc.2.2.2])]
    exact if_pos ⟨rfl, rfl, hc.2⟩
  · rw [if_neg hc]
    split
    · rfl
    · rename_i hg
      refine if_neg fun h => hc ⟨?_, h.2.2⟩
      simp [hw] at hg
      exact hg.1
theorem lineOf_copper (m : List Material) (s : List Layer) (b c : Str) : lineOf m s [wCopper, b, c] = if isRowS b = true ∧ isRowS c = true then some (m, s ++ [⟨b, c⟩]) else none := by
  unfold lineOf
  have hw : isRowS wCopper = true := by decide
  by_cases hc : isRowS b = true ∧ isRowS c = true
  · rw [if_pos hc, if_neg (by simp [hw, hc.1, hc.2])]
    exact if_pos rfl
  · rw [if_neg hc]
    refine if_pos ?_
    simp [hw]
    cases h1 : isRowS b
    · exact .inl rfl
    · exact .inr (by simpa [h1] using hc)
theorem lineOf_layer (m : List Material) (s : List Layer) (b : Str) : lineOf m s [wLayer, b] = if isRowS b = true then some (m, s ++ [⟨[], b⟩]) else none := by
  unfold lineOf
  have hw : isRowS wLayer = true := by decide
  by_cases hc : isRowS b = true
  · rw [if_pos hc, if_neg (by simp [hw, hc])]
    exact if_pos rfl
  · rw [if_neg hc]
    refine if_pos ?_
    simp [hw]
    simpa using hc
theorem lineOf_none {m : List Material} {s : List Layer} {w : List Str} (h1 : ¬ (w.head? = some wMaterial ∧ w.length = 5 ∧ s = [])) (h2 : ¬ (w.head? = some wCopper ∧ w.length = 3)) (h3 : ¬ (w.head? = some wLayer ∧ w.length = 2)) : lineOf m s w = none := by
  unfold lineOf
  split
  · rfl
  · split
    · exact if_neg fun e => h2 ⟨by rw [e]; rfl, rfl⟩
    · exact if_neg fun e => h3 ⟨by rw [e]; rfl, rfl⟩
    · exact if_neg fun e => h1 ⟨by rw [e.1]; rfl, rfl, e.2.1⟩
    · rfl
theorem lineOf_bad {m : List Material} {s : List Layer} {w : List Str} (h : w.any (fun x => !(isRowS x)) = true) : lineOf m s w = none := by
  unfold lineOf; rw [if_pos h]

theorem S_stack_readLine {m : List Material} {s : List Layer} {line : Str} (hl : line.length < 4294967281) (hm : m.length ≤ 1000000) (hs : s.length ≤ 1000000) {Q : Bool → List Material → List Layer → Prop}
    (h : ∀ m' s', lineOf m s (Lib.split line [32]) = some (m', s') → Q true m' s') (h0 : lineOf m s (Lib.split line [32]) = none → ∀ m' s', Q false m' s') : M_stack_readLine m s line Q := by
  unfold M_stack_readLine
  refine S_strings_Split hl (S_contains_stack (cnd_of (fun e => h0 (lineOf_bad e) _ _) (fun hg => ?_)))
  have hne := split_ne line [32]
  have hle : ∀ x ∈ Lib.split line [32], x.length < 4294967281 := fun x hx => Nat.lt_of_le_of_lt (split_fits (by omega) hx) hl
  revert h h0 hg hne hle
  generalize Lib.split line [32] = w
  intro h h0 hg hne hle
  rw [← Bool.not_eq_true] at hg
  have hrow : ∀ x ∈ w, isRowS x = true := fun x hx => Classical.byContradiction fun hc => hg (List.any_eq_true.2 ⟨x, hx, by simpa using hc⟩)
  obtain ⟨a, r, rfl⟩ : ∃ a r, w = a :: r := by cases w with | nil => exact absurd rfl hne | cons a r => exact ⟨a, r, rfl⟩
  have room1 : ∀ (n : Nat), n ≤ 1000001 → room n 32 ∧ room n 40 := fun n hn => ⟨⟨by omega, by omega⟩, ⟨by omega, by omega⟩⟩
  have k3 : ¬ (a = wMaterial ∧ (a :: r).length = 5 ∧ s = []) → ¬ (a = wCopper ∧ (a :: r).length = 3) → ∀ c3, (c3 = true ↔ (a = wLayer ∧ (a :: r).length = 2)) → M_stack_readLine_k3 m s Q (a :: r) c3 := by
    intro n1 n2 c3 hc
    unfold M_stack_readLine_k3
    refine cnd_of (fun e => ?_) (fun e => ?_)
    · obtain ⟨rfl, h2⟩ := hc.1 e
      obtain ⟨_, b, hr⟩ := len2 h2
      injection hr with _ hr; subst hr
      refine idx_nat (i := 1) (x := b) rfl ⟨(room1 _ (by rw [List.length_append, List.length_singleton]; omega)).1, h _ _ ?_⟩
      rw [lineOf_layer, if_pos (hrow b (by simp))]
    · exact h0 (lineOf_none (by simpa using n1) (by simpa using n2) (by rw [e] at hc; intro h'; exact absurd (hc.2 ⟨by simpa using h'.1, h'.2⟩) (by decide))) _ _
  have k2 : ¬ (a = wMaterial ∧ (a :: r).length = 5 ∧ s = []) → ∀ c2, (c2 = true ↔ (a = wCopper ∧ (a :: r).length = 3)) → M_stack_readLine_k2 m s Q (a :: r) c2 := by
    intro n1 c2 hc
    unfold M_stack_readLine_k2
    refine cnd_of (fun e => ?_) (fun e => ?_)
    · obtain ⟨rfl, h2⟩ := hc.1 e
      obtain ⟨_, b, c, hr⟩ := len3 h2
      injection hr with _ hr; subst hr
      refine idx_nat (i := 1) (x := b) rfl (idx_nat (i := 2) (x := c) rfl ⟨(room1 _ (by rw [List.length_append, List.length_singleton]; omega)).1, h _ _ ?_⟩)
      rw [lineOf_copper, if_pos ⟨hrow b (by simp), hrow c (by simp)⟩]
    · have n2 : ¬ (a = wCopper ∧ (a :: r).length = 3) := fun h' => by rw [hc.2 h'] at e; cases e
      refine idx_nat (i := 0) (x := a) rfl (cnd_of (fun ea => k3 n1 n2 _ ?_) (fun ea => k3 n1 n2 _ ?_))
      · have ea' : a = wLayer := by simpa [wLayer] using ea
        rw [show ((2 : Int)) = ((2 : Nat) : Int) from rfl, leneq]; simp [ea']
      · have ea' : ¬ a = wLayer := by simpa [wLayer] using ea
        simp [ea']
  have k1 : ∀ c1, (c1 = true ↔ (a = wMaterial ∧ (a :: r).length = 5 ∧ s = [])) → M_stack_readLine_k1 m s Q (a :: r) c1 := by
    intro c1 hc
    unfold M_stack_readLine_k1
    refine cnd_of (fun e => ?_) (fun e => ?_)
    · obtain ⟨rfl, h2, rfl⟩ := hc.1 e
      obtain ⟨_, b, c, d, f, hr⟩ := len5 h2
      injection hr with _ hr; subst hr
      refine idx_nat (i := 2) (x := c) rfl (S_index_kind4 fun k hk1 hk2 => idx_nat (i := 3) (x := d) rfl (S_stack_number (hle d (by simp)) (idx_nat (i := 4) (x := f) rfl (S_stack_number (hle f (by simp)) (idx_nat (i := 1) (x := b) rfl ⟨(room1 _ (by rw [List.length_append, List.length_singleton]; omega)).2, ?_⟩)))))
      rw [lineOf_mat] at h h0
      have hb := hrow b (by simp)
      refine cnd_of (fun e1 => cnd_of (fun e2 => ?_) (fun e2 => ?_)) (fun e1 => ?_)
      · have e1' : 0 < k := by simpa using e1
        have hk := hk1 e1'
        cases e3 : (numOf f).2
        · exact h0 (if_neg (by rw [e3]; rintro ⟨_, _, _, h4⟩; cases h4)) _ _
        · refine h _ _ ?_
          rw [if_pos ⟨hb, hk ▸ e1', e2, e3⟩, hk]
      · exact h0 (if_neg (by rw [e2]; rintro ⟨_, _, h4, _⟩; cases h4)) _ _
      · have e1' : ¬ 0 < k := by simpa using e1
        exact h0 (if_neg (by rintro ⟨_, h4, _, _⟩; exact e1' (hk2 h4 ▸ h4))) _ _
    · have n1 : ¬ (a = wMaterial ∧ (a :: r).length = 5 ∧ s = []) := fun h' => by rw [hc.2 h'] at e; cases e
      refine idx_nat (i := 0) (x := a) rfl (cnd_of (fun ea => k2 n1 _ ?_) (fun ea => k2 n1 _ ?_))
      · have ea' : a = wCopper := by simpa [wCopper] using ea
        rw [show ((3 : Int)) = ((3 : Nat) : Int) from rfl, leneq]; simp [ea']
      · have ea' : ¬ a = wCopper := by simpa [wCopper] using ea
        simp [ea']
  refine idx_nat (i := 0) (x := a) rfl (cnd_of (fun ea => cnd_of (fun e5 => k1 _ ?_) (fun e5 => k1 _ ?_)) (fun ea => k1 _ ?_))
  · have ea' : a = wMaterial := by simpa [wMaterial] using ea
    rw [show ((5 : Int)) = ((5 : Nat) : Int) from rfl, leneq] at e5
    rw [show ((0 : Int)) = ((0 : Nat) : Int) from rfl, leneq]
    simp only [decide_eq_true_eq] at e5 ⊢
    exact ⟨fun h' => ⟨ea', e5, List.eq_nil_of_length_eq_zero h'⟩, fun h' => by rw [h'.2.2]; rfl⟩
  · rw [show ((5 : Int)) = ((5 : Nat) : Int) from rfl, leneq] at e5
    simp only [decide_eq_false_iff_not] at e5
    exact ⟨fun h' => (by cases h'), fun h' => absurd h'.2.1 e5⟩
  · have ea' : ¬ a = wMaterial := by simpa [wMaterial] using ea
    exact ⟨fun h' => (by cases h'), fun h' => absurd h'.1 ea'⟩

/-- the reference's round behind the words of a line -/
theorem S_ref4_words {m : List Material} {s : List Layer} {w : List Str} {n : Int} {y2 : Str} {y3 : Bool} (hne : w ≠ []) (hle : ∀ x ∈ w, x.length < 4294967281) (hm : m.length ≤ 1000000) (hs : s.length ≤ 1000000) {Q : List Material → List Layer → Int → Int → Prop} {again : List Layer → List Material → Str → Int → Prop}
    (h : y3 = true → ∀ m' s', lineOf m s w = some (m', s') → again s' m' y2 (w64 (n + 1))) (h0 : y3 = false ∨ lineOf m s w = none → Q [] [] n 10) :
    idx w 0 fun x2 => cnd (x2 == [109, 97, 116, 101, 114, 105, 97, 108]) (M_ref4_Read_k4 Q s m n again y2 y3 w ((s.length : Int) == 0)) (M_ref4_Read_k4 Q s m n again y2 y3 w false) := by
  obtain ⟨a, r, rfl⟩ : ∃ a r, w = a :: r := by cases w with | nil => exact absurd rfl hne | cons a r => exact ⟨a, r, rfl⟩
  have room1 : ∀ (n : Nat), n ≤ 1000001 → room n 32 ∧ room n 40 := fun n hn => ⟨⟨by omega, by omega⟩, ⟨by omega, by omega⟩⟩
  have k2 : ∀ (s' : List Layer) (m' : List Material) (c1 : Bool), (c1 = true → lineOf m s (a :: r) = some (m', s')) → (c1 = false → lineOf m s (a :: r) = none) → M_ref4_Read_k2 Q n again y2 y3 s' m' c1 := by
    intro s' m' c1 hc hc0
    unfold M_ref4_Read_k2 M_ref4_Read_k3
    refine cnd_of (fun e => cnd_of (fun _ => h0 (.inr (hc0 (by simpa using e)))) (fun e' => by cases e')) (fun e => cnd_of (fun e1 => h0 (.inl (by simpa using e1))) (fun e1 => h (by simpa using e1) _ _ (hc (by simpa using e))))
  have mat : ∀ {P : Material → Bool → Prop}, (∀ x, lineOf m [] (a :: r) = some (m ++ [x], []) → P x true) → (lineOf m [] (a :: r) = none → ∀ x, P x false) → a = wMaterial → M_ref4_readMaterial (a :: r) P := by
    intro P hp hp0 ea
    unfold M_ref4_readMaterial M_ref4_readMaterial_k1
    have n2 : ¬ ((a :: r).head? = some wCopper ∧ (a :: r).length = 3) := by rw [ea]; rintro ⟨h1, _⟩; simp [wMaterial, wCopper, wLayer] at h1
    have n3 : ¬ ((a :: r).head? = some wLayer ∧ (a :: r).length = 2) := by rw [ea]; rintro ⟨h1, _⟩; simp [wMaterial, wCopper, wLayer] at h1
    refine cnd_of (fun e => cnd_of (fun _ => hp0 (lineOf_none ?_ n2 n3) _) (fun e' => by cases e')) (fun e => ?_)
    · rintro ⟨_, h5, _⟩
      rw [h5] at e; cases e
    · have h5 : (a :: r).length = 5 := by
        rw [show ((5 : Int)) = ((5 : Nat) : Int) from rfl, bne, leneq] at e; simpa using e
      obtain ⟨_, b, c, d, f, hr⟩ := len5 h5
      injection hr with _ hr; subst hr; subst ea
      rw [lineOf_mat] at hp hp0
      refine idx_nat (i := 1) (x := b) rfl (S_ref4_isRow (hle b (by simp)) (cnd_of (fun e1 => hp0 (if_neg fun hh => by rw [hh.1] at e1; cases e1) _) (fun e1 => ?_)))
      have hb : isRowS b = true := by simpa using e1
      refine idx_nat (i := 2) (x := c) rfl (S_strings_Split (by decide) ?_)
      have hk : Lib.split [99, 111, 112, 112, 101, 114, 32, 99, 111, 114, 101, 32, 103, 108, 117, 101] [32] = ([[99, 111, 112, 112, 101, 114], [99, 111, 114, 101], [103, 108, 117, 101]] : List Str) := by decide
      rw [hk]
      have hkr : 0 ≤ kindOf c ∧ kindOf c ≤ 3 := kindOf_range c
      have hw : w64 (kindOf c - 1 + 1) = kindOf c := by rw [w64_id (by omega) (by omega)]; omega
      refine S_index_kind3 (idx_nat (i := 3) (x := d) rfl (S_ref4_number (hle d (by simp)) (idx_nat (i := 4) (x := f) rfl (S_ref4_number (hle f (by simp)) (idx_nat (i := 1) (x := b) rfl ?_)))))
      rw [hw]
      refine cnd_of (fun e2 => cnd_of (fun e3 => ?_) (fun e3 => hp0 (if_neg (by rw [e3]; rintro ⟨_, _, h4, _⟩; cases h4)) _)) (fun e2 => hp0 (if_neg (by rintro ⟨_, h4, _, _⟩; simp at e2; omega)) _)
      have e2' : 0 < kindOf c := by simpa using e2
      cases e4 : (numOf f).2
      · exact hp0 (if_neg (by rw [e4]; rintro ⟨_, _, _, h4⟩; cases h4)) _
      · exact hp _ (if_pos ⟨hb, e2', e3, e4⟩)
  have lay : ∀ {P : Layer → Bool → Prop}, (∀ x, lineOf m s (a :: r) = some (m, s ++ [x]) → P x true) → (lineOf m s (a :: r) = none → ∀ x, P x false) → a ≠ wMaterial → M_ref4_readLayer (a :: r) P := by
    intro P hp hp0 ea
    have n1 : ¬ ((a :: r).head? = some wMaterial ∧ (a :: r).length = 5 ∧ s = []) := fun h' => ea (by simpa using h'.1)
    have l2 : ∀ c2, (c2 = true ↔ (a = wLayer ∧ (a :: r).length = 2)) → ¬ (a = wCopper ∧ (a :: r).length = 3) → M_ref4_readLayer_k2 (a :: r) P c2 := by
      intro c2 hc n2
      unfold M_ref4_readLayer_k2
      refine cnd_of (fun e => ?_) (fun e => hp0 (lineOf_none n1 (by simpa using n2) (by rw [e] at hc; intro h'; exact absurd (hc.2 ⟨by simpa using h'.1, h'.2⟩) (by decide))) _)
      obtain ⟨rfl, h2⟩ := hc.1 e
      obtain ⟨_, b, hr⟩ := len2 h2
      injection hr with _ hr; subst hr
      rw [lineOf_layer] at hp hp0
      refine idx_nat (i := 1) (x := b) rfl (S_ref4_isRow (hle b (by simp)) ?_)
      cases e1 : isRowS b
      · exact hp0 (if_neg (by rw [e1]; decide)) _
      · exact hp _ (if_pos e1)
    have l1 : ∀ c1, (c1 = true ↔ (a = wCopper ∧ (a :: r).length = 3)) → M_ref4_readLayer_k1 (a :: r) P c1 := by
      intro c1 hc
      unfold M_ref4_readLayer_k1
      refine cnd_of (fun e => ?_) (fun e => ?_)
      · obtain ⟨rfl, h2⟩ := hc.1 e
        obtain ⟨_, b, c, hr⟩ := len3 h2
        injection hr with _ hr; subst hr
        rw [lineOf_copper] at hp hp0
        refine idx_nat (i := 1) (x := b) rfl (idx_nat (i := 2) (x := c) rfl (S_ref4_isRow (hle b (by simp)) (cnd_of (fun e1 => S_ref4_isRow (hle c (by simp)) ?_) (fun e1 => hp0 (if_neg (by rw [e1]; rintro ⟨h4, _⟩; cases h4)) _))))
        cases e2 : isRowS c
        · exact hp0 (if_neg (by rw [e2]; rintro ⟨_, h4⟩; cases h4)) _
        · exact hp _ (if_pos ⟨e1, e2⟩)
      · have n2 : ¬ (a = wCopper ∧ (a :: r).length = 3) := fun h' => by rw [hc.2 h'] at e; cases e
        refine cnd_of (fun e1 => idx_nat (i := 0) (x := a) rfl (l2 _ ?_ n2)) (fun e1 => l2 _ ?_ n2)
        · rw [show ((2 : Int)) = ((2 : Nat) : Int) from rfl, leneq] at e1
          simp only [decide_eq_true_eq] at e1
          exact ⟨fun h' => ⟨by simpa [wLayer] using h', e1⟩, fun h' => by rw [h'.1]; decide⟩
        · rw [show ((2 : Int)) = ((2 : Nat) : Int) from rfl, leneq] at e1
          simp only [decide_eq_false_iff_not] at e1
          exact ⟨fun h' => (by cases h'), fun h' => absurd h'.2 e1⟩
    unfold M_ref4_readLayer
    refine cnd_of (fun e1 => idx_nat (i := 0) (x := a) rfl (l1 _ ?_)) (fun e1 => l1 _ ?_)
    · rw [show ((3 : Int)) = ((3 : Nat) : Int) from rfl, leneq] at e1
      simp only [decide_eq_true_eq] at e1
      exact ⟨fun h' => ⟨by simpa [wCopper] using h', e1⟩, fun h' => by rw [h'.1]; decide⟩
    · rw [show ((3 : Int)) = ((3 : Nat) : Int) from rfl, leneq] at e1
      simp only [decide_eq_false_iff_not] at e1
      exact ⟨fun h' => (by cases h'), fun h' => absurd h'.2 e1⟩
  have nomat : ∀ c3, (c3 = true ↔ (a = wMaterial ∧ s = [])) → M_ref4_Read_k4 Q s m n again y2 y3 (a :: r) c3 := by
    intro c3 hc
    unfold M_ref4_Read_k4
    refine cnd_of (fun e => ?_) (fun e => idx_nat (i := 0) (x := a) rfl (cnd_of (fun e1 => ?_) (fun e1 => ?_)))
    · obtain ⟨ea, es⟩ := hc.1 e
      subst es
      refine mat (fun x hx => ⟨(room1 _ (by rw [List.length_append, List.length_singleton]; omega)).2, k2 _ _ _ (fun _ => hx) (fun e' => by cases e')⟩) (fun hx x => ⟨(room1 _ (by rw [List.length_append, List.length_singleton]; omega)).2, k2 _ _ _ (fun e' => by cases e') (fun _ => hx)⟩) ea
    · refine lay (fun x hx => ⟨(room1 _ (by rw [List.length_append, List.length_singleton]; omega)).1, k2 _ _ _ (fun _ => hx) (fun e' => by cases e')⟩) (fun hx x => ⟨(room1 _ (by rw [List.length_append, List.length_singleton]; omega)).1, k2 _ _ _ (fun e' => by cases e') (fun _ => hx)⟩) (by simpa [wMaterial] using e1)
    · have ea : a = wMaterial := by simpa [wMaterial] using e1
      refine k2 _ _ _ (fun e' => by cases e') (fun _ => lineOf_none ?_ ?_ ?_)
      · rintro ⟨_, _, hs'⟩; rw [hc.2 ⟨ea, hs'⟩] at e; cases e
      · rw [ea]; rintro ⟨h1, _⟩; simp [wMaterial, wCopper, wLayer] at h1
      · rw [ea]; rintro ⟨h1, _⟩; simp [wMaterial, wCopper, wLayer] at h1
  refine idx_nat (i := 0) (x := a) rfl (cnd_of (fun ea => nomat _ ?_) (fun ea => nomat _ ?_))
  · have ea' : a = wMaterial := by simpa [wMaterial] using ea
    rw [show ((0 : Int)) = ((0 : Nat) : Int) from rfl, leneq]
    simp only [decide_eq_true_eq]
    exact ⟨fun h' => ⟨ea', List.eq_nil_of_length_eq_zero h'⟩, fun h' => by rw [h'.2]; rfl⟩
  · have ea' : ¬ a = wMaterial := by simpa [wMaterial] using ea
    exact ⟨fun h' => (by cases h'), fun h' => absurd h'.1 ea'⟩

/-! ### the whole text -/
def readS : Nat → Str → Int → List Material → List Layer → (List Material × List Layer × Int × Int)
  | 0, _, _, m, s => ([], [], 0, 0)
  | k + 1, text, n, m, s =>
    if text = [] then (if stackFault m s = 0 then (m, s, 0, 0) else ([], [], 0, stackFault m s)) else
    match (cutS text 10).2.2, lineOf m s (Lib.split (cutS text 10).1 [32]) with
    | true, some (m', s') => readS k (cutS text 10).2.1 (n + 1) m' s'
    | _, _ => ([], [], n, 10)
theorem lineOf_more {m m' : List Material} {s s' : List Layer} {w : List Str} {L : Nat} (h : lineOf m s w = some (m', s')) (hw : ∀ x ∈ w, x.length ≤ L) (hL : L ≤ 1000000) (hm : Fits.fits m) (hs : Fits.fits s) :
    Fits.fits m' ∧ Fits.fits s' ∧ m'.length ≤ m.length + 1 ∧ s'.length ≤ s.length + 1 := by
  unfold lineOf at h
  split at h
  · cases h
  · split at h
    · rename_i a b c _
      split at h
      · injection h with h; injection h with h1 h2; subst h1 h2
        refine ⟨hm, fun x hx => ?_, by omega, by rw [List.length_append, List.length_singleton]; exact Nat.le_refl _⟩
        rcases List.mem_append.1 hx with hx | hx
        · exact hs x hx
        · rw [List.mem_singleton.1 hx]
          have h1 := hw b (by simp); have h2 := hw c (by simp)
          exact ⟨by show b.length ≤ _; omega, by show c.length ≤ _; omega⟩
      · cases h
    · rename_i a b _
      split at h
      · injection h with h; injection h with h1 h2; subst h1 h2
        refine ⟨hm, fun x hx => ?_, by omega, by rw [List.length_append, List.length_singleton]; exact Nat.le_refl _⟩
        rcases List.mem_append.1 hx with hx | hx
        · exact hs x hx
        · rw [List.mem_singleton.1 hx]
          have h2 := hw b (by simp)
          exact ⟨by show (0 : Nat) ≤ _; omega, by show b.length ≤ _; omega⟩
      · cases h
    · rename_i a b c d e _
      split at h
      · injection h with h; injection h with h1 h2; subst h1 h2
        refine ⟨fun x hx => ?_, hs, by rw [List.length_append, List.length_singleton]; exact Nat.le_refl _, by omega⟩
        rcases List.mem_append.1 hx with hx | hx
        · exact hm x hx
        · rw [List.mem_singleton.1 hx]
          have h2 := hw b (by simp)
          exact ⟨by show b.length ≤ _; omega, trivial, trivial, trivial⟩
      · cases h
    · cases h
theorem S_stack_Read {text : Str} {Q : List Material → List Layer → Int → Int → Prop} (h : if text.length > 50000 then Q [] [] 0 2 else ∀ a, readS (text.length + 1) text 1 [] [] = a → Q a.1 a.2.1 a.2.2.1 a.2.2.2) : M_stack_Read text Q := by
  unfold M_stack_Read
  refine cnd_of (fun e => ?_) (fun e => ?_)
  · rw [if_pos (by simp at e; omega)] at h; exact h
  have hl : text.length ≤ 50000 := by simp at e; omega
  rw [if_neg (by omega)] at h
  refine ⟨text.length + 1, ?_⟩
  have key : ∀ (k : Nat) (t : Str) (n : Int) (m : List Material) (s : List Layer), t.length < k → t.length ≤ 50000 → 0 ≤ n → n + t.length ≤ 60000 → m.length + t.length ≤ 100000 → s.length + t.length ≤ 100000 → Fits.fits m → Fits.fits s → (∀ a, readS k t n m s = a → Q a.1 a.2.1 a.2.2.1 a.2.2.2) →
      iterF (fun again (s : List Material × List Layer × Str × Int) => M_stack_Read_L1 Q (fun l3 l4 s2 n2 => again (l3, l4, s2, n2)) s.1 s.2.1 s.2.2.1 s.2.2.2) k (m, s, t, n) := by
    intro k
    induction k with
    | zero => intro t n m s hk; omega
    | succ k ih =>
      intro t n m s hk ht hn hn2 hmt hst hm hs hq
      show M_stack_Read_L1 Q _ m s t n
      unfold M_stack_Read_L1
      unfold readS at hq
      refine cnd_of (fun e1 => ?_) (fun e1 => ?_)
      · rw [if_neg (by simpa using e1)] at hq
        refine S_strings_Cut (by omega) ?_
        have hrest := cutS_rest t 10
        have hlen := cutS_le t 10
        have k2 : ∀ (m' : List Material) (s' : List Layer) (c : Bool), (c = true → Q [] [] n 10) → (c = false → iterF (fun again (s : List Material × List Layer × Str × Int) => M_stack_Read_L1 Q (fun l3 l4 s2 n2 => again (l3, l4, s2, n2)) s.1 s.2.1 s.2.2.1 s.2.2.2) k (m', s', (cutS t 10).2.1, n + 1)) → M_stack_Read_k2 Q n (fun l3 l4 s2 n2 => iterF (fun again (s : List Material × List Layer × Str × Int) => M_stack_Read_L1 Q (fun l3 l4 s2 n2 => again (l3, l4, s2, n2)) s.1 s.2.1 s.2.2.1 s.2.2.2) k (l3, l4, s2, n2)) (cutS t 10).2.1 m' s' c := by
          intro m' s' c h1 h2
          unfold M_stack_Read_k2
          rw [w64_id (by omega) (by omega)]
          exact cnd_of h1 h2
        refine cnd_of (fun e2 => ?_) (fun e2 => ?_)
        · have e2' : (cutS t 10).2.2 = false := by simpa using e2
          refine k2 _ _ _ (fun _ => ?_) (fun e' => by cases e')
          rw [e2'] at hq
          exact hq _ rfl
        · have e2' : (cutS t 10).2.2 = true := by simpa using e2
          rw [e2'] at hq
          have hr := hrest e2'
          refine S_stack_readLine (by omega) (by omega) (by omega) (fun m' s' hx => ?_) (fun hx m' s' => ?_)
          · rw [hx] at hq
            have hmore := lineOf_more hx (fun x hx' => split_fits (by omega) hx') (by omega) hm hs
            refine k2 _ _ _ (fun e' => by cases e') (fun _ => ih _ _ _ _ (by omega) (by omega) (by omega) (by omega) (by omega) (by omega) hmore.1 hmore.2.1 hq)
          · rw [hx] at hq
            exact k2 _ _ _ (fun _ => hq _ rfl) (fun e' => by cases e')
      · rw [if_pos (by simpa using e1)] at hq
        refine S_stack_CheckStack hm hs (cnd_of (fun e2 => ?_) (fun e2 => ?_))
        · rw [if_neg (by simpa using e2)] at hq; exact hq _ rfl
        · rw [if_pos (by simpa using e2)] at hq; exact hq _ rfl
  exact key _ _ _ _ _ (by omega) hl (by omega) (by omega) (by simp; omega) (by simp; omega) (fun x hx => by cases hx) (fun x hx => by cases hx) h
theorem S_ref4_Read {text : Str} {Q : List Material → List Layer → Int → Int → Prop} (h : if text.length > 50000 then Q [] [] 0 2 else ∀ a, readS (text.length + 1) text 1 [] [] = a → Q a.1 a.2.1 a.2.2.1 a.2.2.2) : M_ref4_Read text Q := by
  unfold M_ref4_Read
  refine cnd_of (fun e => ?_) (fun e => ?_)
  · rw [if_pos (by simp at e; omega)] at h; exact h
  have hl : text.length ≤ 50000 := by simp at e; omega
  rw [if_neg (by omega)] at h
  refine ⟨text.length + 1, ?_⟩
  have key : ∀ (k : Nat) (t : Str) (n : Int) (m : List Material) (s : List Layer), t.length < k → t.length ≤ 50000 → 0 ≤ n → n + t.length ≤ 60000 → m.length + t.length ≤ 100000 → s.length + t.length ≤ 100000 → Fits.fits m → Fits.fits s → (∀ a, readS k t n m s = a → Q a.1 a.2.1 a.2.2.1 a.2.2.2) →
      iterF (fun again (s : List Layer × List Material × Str × Int) => M_ref4_Read_L1 Q (fun l3 l4 s2 n2 => again (l3, l4, s2, n2)) s.1 s.2.1 s.2.2.1 s.2.2.2) k (s, m, t, n) := by
    intro k
    induction k with
    | zero => intro t n m s hk; omega
    | succ k ih =>
      intro t n m s hk ht hn hn2 hmt hst hm hs hq
      show M_ref4_Read_L1 Q _ s m t n
      unfold M_ref4_Read_L1
      unfold readS at hq
      refine cnd_of (fun e1 => ?_) (fun e1 => ?_)
      · rw [if_neg (by simpa using e1)] at hq
        refine S_strings_Cut (by omega) ?_
        have hrest := cutS_rest t 10
        have hlen := cutS_le t 10
        refine S_strings_Split (by omega) (S_ref4_words (split_ne _ _) (fun x hx => Nat.lt_of_le_of_lt (split_fits (by omega) hx) (by omega)) (by omega) (by omega) (fun e2 m' s' hx => ?_) (fun hx => ?_))
        · rw [e2, hx] at hq
          have hmore := lineOf_more hx (fun x hx' => split_fits (by omega) hx') (by omega) hm hs
          have hr := hrest e2
          rw [w64_id (by omega) (by omega)]
          exact ih _ _ _ _ (by omega) (by omega) (by omega) (by omega) (by omega) (by omega) hmore.1 hmore.2.1 hq
        · rcases hx with hx | hx
          · rw [hx] at hq; exact hq _ rfl
          · rw [hx] at hq
            cases e3 : (cutS t 10).2.2
            · rw [e3] at hq; exact hq _ rfl
            · rw [e3] at hq; exact hq _ rfl
      · rw [if_pos (by simpa using e1)] at hq
        refine S_ref4_CheckStack hm hs (cnd_of (fun e2 => ?_) (fun e2 => ?_))
        · rw [if_neg (by simpa using e2)] at hq; exact hq _ rfl
        · rw [if_pos (by simpa using e2)] at hq; exact hq _ rfl
  exact key _ _ _ _ _ (by omega) hl (by omega) (by omega) (by simp; omega) (by simp; omega) (fun x hx => by cases hx) (fun x hx => by cases hx) h
theorem S_equal_layer {xs ys : List Layer} {Q : Bool → Prop} (h : Q (decide (xs = ys))) : M_equal_layer xs ys Q := by
  unfold M_equal_layer
  exact equal_loop (fun k x next hq => hq) h
theorem S_equal_material {xs ys : List Material} {Q : Bool → Prop} (h : Q (decide (xs = ys))) : M_equal_material xs ys Q := by
  unfold M_equal_material
  exact equal_loop (fun k x next hq => hq) h
theorem law_StackReads_true (text : Str) : M_law_StackReads text (· = true) := by
  unfold M_law_StackReads
  have fin : ∀ (a : List Material) (b : List Layer) (n f : Int), cnd (f == f) (cnd (n == n) (M_equal_material a a fun y9 => cnd y9 (M_equal_layer b b fun y10 => cnd y10 (M_awake fun y11 => y11 = true) (false = true)) (false = true)) (false = true)) (false = true) := by
    intro a b n f
    refine cnd_of (fun _ => cnd_of (fun _ => S_equal_material (cnd_of (fun _ => S_equal_layer (cnd_of (fun _ => S_awake rfl) (fun e => by simp at e))) (fun e => by simp at e))) (fun e => by simp at e)) (fun e => by simp at e)
  refine S_stack_Read ?_
  split
  · rename_i hl
    refine S_ref4_Read ?_
    rw [if_pos hl]
    exact fin _ _ _ _
  · rename_i hl
    intro a ha
    refine S_ref4_Read ?_
    rw [if_neg hl]
    intro b hb
    rw [← hb, ha]
    exact fin _ _ _ _

end Go.Proofs.YtdnilnmdbgcmoaaGreatDoor
