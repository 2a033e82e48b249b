/- No tree costs less than the least one: what the table of least trees says of any tree. Plain lemmas, no program in sight. -/
import Derived.Test.YtihjaehkdgdenaaDw
namespace Go.Proofs.Ytihjaehkdgdenaa
open Go Go.RowKit
set_option linter.unusedVariables false
set_option linter.unusedSimpArgs false

/-! ### sets of pins as numbers -/
def mk (P : Nat → Bool) : Nat → Nat
  | 0 => 0
  | k + 1 => (if P k = true then 2 ^ k else 0) ||| mk P k
theorem mk_bit (P : Nat → Bool) : ∀ (k j : Nat), (mk P k).testBit j = (decide (j < k) && P j)
  | 0, j => by simp [mk]
  | k + 1, j => by
    unfold mk
    rw [Nat.testBit_or, mk_bit P k j]
    by_cases hp : P k = true
    · rw [if_pos hp, Nat.testBit_two_pow]
      by_cases h : k = j
      · subst h; simp [hp]
      · have : decide (j < k + 1) = decide (j < k) := decide_eq_decide.2 (by omega)
        rw [this]; simp [h]
    · rw [if_neg hp, Nat.zero_testBit]
      by_cases h : j = k
      · subst h; simp [hp]
      · have : decide (j < k + 1) = decide (j < k) := decide_eq_decide.2 (by omega)
        rw [this]; simp
theorem mk_lt (P : Nat → Bool) (k : Nat) : mk P k < 2 ^ k := by
  refine Nat.lt_pow_two_of_testBit _ (fun i hi => ?_)
  rw [mk_bit]; simp; omega
theorem part_tab0 : ((List.range 64).all fun m => (List.range 64).all fun p => !(decide (0 < p) && decide (p < m) && decide (p &&& m = p)) || (partsOf m).contains p) = true := by decide +kernel
theorem part_tab (m : Nat) (hm : m < 64) (p : Nat) (hp : p < 64) (h0 : 0 < p) (h1 : p < m) (h2 : p &&& m = p) : p ∈ partsOf m := by
  have h := List.all_eq_true.1 (List.all_eq_true.1 part_tab0 m (List.mem_range.2 hm)) p (List.mem_range.2 hp)
  rw [decide_eq_true h0, decide_eq_true h1, decide_eq_true h2] at h
  simpa using h
theorem bits_tab0 : ((List.range 64).all fun m => (List.range 64).all fun p => (List.range 6).all fun j => !(decide (p &&& m = p) && m.testBit j) || (p.testBit j || (m - p).testBit j)) = true := by decide +kernel
theorem bits_tab (m : Nat) (hm : m < 64) (p : Nat) (hp : p < 64) (h2 : p &&& m = p) (j : Nat) (hj : j < 6) (hb : m.testBit j = true) : p.testBit j = true ∨ (m - p).testBit j = true := by
  have h := List.all_eq_true.1 (List.all_eq_true.1 (List.all_eq_true.1 bits_tab0 m (List.mem_range.2 hm)) p (List.mem_range.2 hp)) j (List.mem_range.2 hj)
  rw [decide_eq_true h2, hb] at h
  simpa using h
theorem or_tab : ∀ p < 64, ∀ q < 64, p &&& q = 0 → p + q = p ||| q ∧ p &&& (p ||| q) = p := by decide +kernel
theorem one_tab : ∀ i < 6, ∀ j < 6, (2 ^ i).testBit j = true → i = j := by decide +kernel
theorem partsGo_sub {m : Nat} : ∀ (f p : Nat), p &&& m = p → ∀ x ∈ partsGo m f p, x &&& m = x
  | 0, p, _, x, hx => by cases hx
  | f + 1, p, hp, x, hx => by
    unfold partsGo at hx
    split at hx
    · cases hx
    · rcases List.mem_cons.1 hx with h | h
      · subst h; exact hp
      · exact partsGo_sub f _ (by rw [Nat.and_assoc, Nat.and_self]) x h
theorem partsOf_sub {m x : Nat} (hx : x ∈ partsOf m) : x &&& m = x := partsGo_sub _ _ (by rw [Nat.and_assoc, Nat.and_self]) x hx
/-! ### what a fold over parts is -/
theorem foldP_cases (T : Nat → List Int) (m n : Nat) : ∀ (l : List Nat) (now : Int), 0 ≤ foldP T m n l now → foldP T m n l now = now ∨ ∃ p ∈ l, 0 ≤ (T p).getD n (-1) ∧ 0 ≤ (T (m - p)).getD n (-1) ∧ foldP T m n l now = (T p).getD n (-1) + (T (m - p)).getD n (-1)
  | [], now, _ => .inl rfl
  | p :: r, now, h => by
    have h' : foldP T m n (p :: r) now = foldP T m n r (upd now ((T p).getD n (-1)) ((T (m - p)).getD n (-1))) := rfl
    rw [h'] at h ⊢
    rcases foldP_cases T m n r _ h with h1 | ⟨q, hq, h2, h3, h4⟩
    · rw [h1]
      unfold upd
      split
      · rename_i hc; exact .inr ⟨p, List.mem_cons_self, hc.1, hc.2.1, rfl⟩
      · exact .inl rfl
    · exact .inr ⟨q, List.mem_cons_of_mem _ hq, h2, h3, h4⟩
theorem upd_down {now x y v : Int} (h : 0 ≤ now ∧ now ≤ v) : 0 ≤ upd now x y ∧ upd now x y ≤ v := by unfold upd; split <;> omega
theorem foldP_down (T : Nat → List Int) (m n : Nat) {v : Int} : ∀ (l : List Nat) (now : Int), 0 ≤ now ∧ now ≤ v → 0 ≤ foldP T m n l now ∧ foldP T m n l now ≤ v
  | [], now, h => h
  | p :: r, now, h => foldP_down T m n r _ (upd_down h)
theorem foldP_part (T : Nat → List Int) (m n : Nat) {p : Nat} {x y : Int} (hx : (T p).getD n (-1) = x) (hy : (T (m - p)).getD n (-1) = y) (hx0 : 0 ≤ x) (hy0 : 0 ≤ y) : ∀ (l : List Nat) (now : Int), p ∈ l → 0 ≤ foldP T m n l now ∧ foldP T m n l now ≤ x + y
  | [], _, h => by cases h
  | q :: r, now, h => by
    by_cases he : p = q
    · subst he
      refine foldP_down T m n r _ ?_
      simp only
      rw [hx, hy]
      unfold upd
      split <;> omega
    · exact foldP_part T m n hx hy hx0 hy0 r _ ((List.mem_cons.1 h).resolve_left he)
section
variable {G : Gr} {num : Nat → Nat} {k : Nat} {T : Nat → List Int}
/-- each pin of a set is not farther than the set's cost says -/
theorem Dwt.low (ok : G.Ok) (hk : k ≤ 6) (hD : Dwt G num k T (2 ^ k)) (hT : TOk G T (2 ^ k)) : ∀ m, 0 < m → m < 2 ^ k → ∀ (i : Nat) d, (T m)[i]? = some d → 0 ≤ d → ∀ j, j < k → m.testBit j = true → ∃ c, G.UW (num j) i c ∧ c ≤ d := by
  have hK : 2 ^ k ≤ 64 := by have : 2 ^ k ≤ 2 ^ 6 := Nat.pow_le_pow_right (by omega) hk; exact this
  intro m
  induction m using Nat.strongRecOn with
  | _ m ih =>
    intro h0 hm i d hd hd0 j hj hbit
    obtain ⟨j0, d0, c0, h1, h2, h3, h4⟩ := (hD m h0 hm).snd i d hd hd0
    have hj0 : j0 < G.N := h3.ends.1
    rw [mergeL_get hj0] at h1
    injection h1 with h1
    rw [← h1] at h2
    rcases foldP_cases T m j0 _ _ h2 with h5 | ⟨p, hp, h6, h7, h8⟩
    · rw [h5] at h1 h2
      unfold base0 at h1 h2
      split at h2
      · rename_i hb
        obtain ⟨i', hi', e1, e2⟩ := hb
        have : i' = j := one_tab i' (by omega) j (by omega) (by rw [← e1]; exact hbit)
        subst this
        rw [e2]
        rw [if_pos ⟨i', hi', e1, e2⟩] at h1
        exact ⟨c0, h3, by omega⟩
      · omega
    · obtain ⟨hp0, hpm⟩ := partsOf_mem hp
      have hsub := partsOf_sub hp
      have g1 : (T p)[j0]? = some ((T p).getD j0 (-1)) := by
        rw [List.getD_eq_getElem?_getD, List.getElem?_eq_getElem (by rw [hT.len p hp0 (by omega)]; exact hj0)]; rfl
      have g2 : (T (m - p))[j0]? = some ((T (m - p)).getD j0 (-1)) := by
        rw [List.getD_eq_getElem?_getD, List.getElem?_eq_getElem (by rw [hT.len (m - p) (by omega) (by omega)]; exact hj0)]; rfl
      rcases bits_tab m (by omega) p (by omega) hsub j (by omega) hbit with hb | hb
      · obtain ⟨c, hc, hle⟩ := ih p hpm hp0 (by omega) j0 _ g1 h6 j hj hb
        exact ⟨c + c0, hc.trans h3, by omega⟩
      · obtain ⟨c, hc, hle⟩ := ih (m - p) (by omega) (by omega) (by omega) j0 _ g2 h7 j hj hb
        exact ⟨c + c0, hc.trans h3, by omega⟩
/-- a set of pins hangs at a cell at a cost that is not less than what the table says -/
def Jn (G : Gr) (T : Nat → List Int) (k m n : Nat) (v : Int) : Prop := 0 < m ∧ m < 2 ^ k ∧ n < G.N ∧ G.no n = false ∧ ∃ d, (T m)[n]? = some d ∧ 0 ≤ d ∧ d ≤ v
theorem Jn.le {m n : Nat} {v v' : Int} (h : Jn G T k m n v) (hv : v ≤ v') : Jn G T k m n v' := by
  obtain ⟨h1, h2, h3, h4, d, h5, h6, h7⟩ := h
  exact ⟨h1, h2, h3, h4, d, h5, h6, by omega⟩
theorem Jn.pos {m n : Nat} {v : Int} (h : Jn G T k m n v) : 0 ≤ v := by obtain ⟨_, _, _, _, d, _, _, _⟩ := h; omega
theorem Jn.move (hD : Dwt G num k T (2 ^ k)) {m n n' : Nat} {v c : Int} (h : Jn G T k m n v) (hw : G.UW n n' c) : Jn G T k m n' (v + c) := by
  obtain ⟨h1, h2, h3, h4, d, h5, h6, h7⟩ := h
  obtain ⟨j0, d0, c0, g1, g2, g3, g4⟩ := (hD m h1 h2).snd n d h5 h6
  obtain ⟨d', e1, e2, e3⟩ := (hD m h1 h2).min j0 n' d0 (c0 + c) g1 g2 (g3.trans hw)
  exact ⟨h1, h2, hw.ends.2.1, hw.ends.2.2.2, d', e1, e2, by omega⟩
theorem Jn.pin (hD : Dwt G num k T (2 ^ k)) (hnum : ∀ i, i < k → num i < G.N ∧ G.no (num i) = false) {i : Nat} (hi : i < k) : Jn G T k (2 ^ i) (num i) 0 := by
  have h0 : 0 < 2 ^ i := Nat.pos_of_ne_zero (by simp)
  have h1 : 2 ^ i < 2 ^ k := Nat.pow_lt_pow_right (by omega) hi
  have hb : base0 num k (2 ^ i) (num i) = 0 := by unfold base0; rw [if_pos ⟨i, hi, rfl, rfl⟩]
  have hf := foldP_down T (2 ^ i) (num i) (v := 0) (partsOf (2 ^ i)) (base0 num k (2 ^ i) (num i)) (by rw [hb]; omega)
  obtain ⟨d', e1, e2, e3⟩ := (hD (2 ^ i) h0 h1).min (num i) (num i) _ 0 (mergeL_get (hnum i hi).1) hf.1 (.nil (hnum i hi).1 (hnum i hi).2)
  exact ⟨h0, h1, (hnum i hi).1, (hnum i hi).2, d', e1, e2, by omega⟩
theorem Jn.add (hk : k ≤ 6) (hD : Dwt G num k T (2 ^ k)) {p q n : Nat} {v v' : Int} (h : Jn G T k p n v) (h' : Jn G T k q n v') (hpq : p &&& q = 0) : Jn G T k (p ||| q) n (v + v') := by
  have hK : 2 ^ k ≤ 64 := by have : 2 ^ k ≤ 2 ^ 6 := Nat.pow_le_pow_right (by omega) hk; exact this
  obtain ⟨h1, h2, h3, h4, d, h5, h6, h7⟩ := h
  obtain ⟨g1, g2, _, _, d', g5, g6, g7⟩ := h'
  obtain ⟨e1, e2⟩ := or_tab p (by omega) q (by omega) hpq
  have hlt : p ||| q < 2 ^ k := Nat.or_lt_two_pow h2 g2
  have hmem := part_tab (p ||| q) (by omega) p (by omega) h1 (by omega) e2
  have hx : (T p).getD n (-1) = d := getDn h5
  have hy : (T ((p ||| q) - p)).getD n (-1) = d' := by rw [← e1, Nat.add_sub_cancel_left]; exact getDn g5
  have hf := foldP_part T (p ||| q) n hx hy h6 g6 (partsOf (p ||| q)) (base0 num k (p ||| q) n) hmem
  obtain ⟨z, f1, f2, f3⟩ := (hD (p ||| q) (by omega) hlt).min n n _ 0 (mergeL_get h3) hf.1 (.nil h3 h4)
  exact ⟨by omega, hlt, h3, h4, z, f1, f2, by omega⟩
/-- sets of pins that hang at cells of a list, disjoint, with what they cost together -/
inductive Hang (G : Gr) (T : Nat → List Int) (k : Nat) (C : List Nat) : Nat → Int → Prop
  | nil : Hang G T k C 0 0
  | cons {a P M : Nat} {x v : Int} : a ∈ C → Jn G T k P a x → P &&& M = 0 → Hang G T k C M v → Hang G T k C (P ||| M) (x + v)
theorem Hang.mono {C C' : List Nat} {M : Nat} {v : Int} (h : Hang G T k C M v) (hs : ∀ a ∈ C, a ∈ C') : Hang G T k C' M v := by
  induction h with
  | nil => exact .nil
  | cons ha hj hd _ ih => exact .cons (hs _ ha) hj hd ih
theorem and_or_zero {a b c : Nat} (h1 : a &&& b = 0) (h2 : a &&& c = 0) : a &&& (b ||| c) = 0 := by
  rw [Nat.and_or_distrib_left, h1, h2]; rfl
theorem or_zero_and {a b c : Nat} (h : (a ||| b) &&& c = 0) : a &&& c = 0 ∧ b &&& c = 0 := by
  rw [Nat.and_or_distrib_right] at h
  exact Nat.or_eq_zero_iff.1 h
theorem Hang.union {C : List Nat} {M M' : Nat} {v v' : Int} (h : Hang G T k C M v) (h' : Hang G T k C M' v') (hd : M &&& M' = 0) : Hang G T k C (M ||| M') (v + v') := by
  induction h with
  | nil => rw [Nat.zero_or, Int.zero_add]; exact h'
  | cons ha hj hpm hh ih =>
    obtain ⟨d1, d2⟩ := or_zero_and hd
    rw [Nat.or_assoc, Int.add_assoc]
    exact .cons ha hj (and_or_zero hpm d1) (ih d2)
theorem Hang.split {C A B : List Nat} {M : Nat} {v : Int} (h : Hang G T k C M v) (hs : ∀ a ∈ C, a ∈ A ∨ a ∈ B) : ∃ M1 M2 v1 v2, Hang G T k A M1 v1 ∧ Hang G T k B M2 v2 ∧ M1 &&& M2 = 0 ∧ M1 ||| M2 = M ∧ v1 + v2 = v := by
  induction h with
  | nil => exact ⟨0, 0, 0, 0, .nil, .nil, rfl, rfl, rfl⟩
  | @cons a P M x v ha hj hpm _ ih =>
    obtain ⟨M1, M2, v1, v2, h1, h2, h3, h4, h5⟩ := ih
    rw [← h4] at hpm
    have hp1 : P &&& M1 = 0 := by
      have : M1 &&& P = 0 := (or_zero_and (a := M1) (b := M2) (by rw [Nat.and_comm]; exact hpm)).1
      rw [Nat.and_comm]; exact this
    have hp2 : P &&& M2 = 0 := by
      have : M2 &&& P = 0 := (or_zero_and (a := M1) (b := M2) (by rw [Nat.and_comm]; exact hpm)).2
      rw [Nat.and_comm]; exact this
    rcases hs a ha with h6 | h6
    · refine ⟨P ||| M1, M2, x + v1, v2, .cons h6 hj hp1 h1, h2, ?_, by rw [Nat.or_assoc, h4], by omega⟩
      rw [Nat.and_or_distrib_right, hp2, h3]; rfl
    · refine ⟨M1, P ||| M2, v1, x + v2, h1, .cons h6 hj hp2 h2, ?_, by rw [← h4, ← Nat.or_assoc, Nat.or_comm M1 P, Nat.or_assoc], by omega⟩
      exact and_or_zero (by rw [Nat.and_comm]; exact hp1) h3
theorem Hang.zero {C : List Nat} {M : Nat} {v : Int} (h : Hang G T k C M v) (h0 : M = 0) : v = 0 := by
  cases h with
  | nil => rfl
  | cons ha hj _ _ => exact absurd (Nat.or_eq_zero_iff.1 h0).1 (by have := hj.1; omega)
theorem Hang.pos {C : List Nat} {M : Nat} {v : Int} (h : Hang G T k C M v) : 0 ≤ v := by
  induction h with
  | nil => exact Int.le_refl _
  | cons _ hj _ _ ih => have := hj.pos; omega
/-- all at one cell -/
theorem Hang.at (hk : k ≤ 6) (hD : Dwt G num k T (2 ^ k)) {n M : Nat} {v : Int} (h : Hang G T k [n] M v) (h0 : M ≠ 0) : Jn G T k M n v := by
  induction h with
  | nil => exact absurd rfl h0
  | @cons a P M x v ha hj hpm hh ih =>
    simp at ha; subst ha
    by_cases hz : M = 0
    · have := hh.zero hz
      subst hz; rw [Nat.or_zero, this, Int.add_zero]; exact hj
    · exact hj.add hk hD (ih hz) hpm
/-- steps without turns and directions, cell after cell -/
inductive Chain (G : Gr) : Nat → List Nat → Int → Prop
  | nil {u : Nat} : Chain G u [] 0
  | cons {u w : Nat} {l : List Nat} {c c' : Int} : G.UW u w c → Chain G w l c' → Chain G u (w :: l) (c + c')
theorem Chain.pos (ok : G.Ok) {u : Nat} {l : List Nat} {c : Int} (h : Chain G u l c) : 0 ≤ c := by
  induction h with
  | nil => exact Int.le_refl _
  | cons hw _ ih => have := hw.cost ok; omega
theorem Hang.chain (ok : G.Ok) (hk : k ≤ 6) (hD : Dwt G num k T (2 ^ k)) {u : Nat} {l : List Nat} {c : Int} (hc : Chain G u l c) : ∀ {M : Nat} {v : Int}, Hang G T k (u :: l) M v → M ≠ 0 → Jn G T k M u (c + v) := by
  induction hc with
  | nil => intro M v h h0; rw [Int.zero_add]; exact h.at hk hD h0
  | @cons u w l c c' hw hr ih =>
    intro M v h h0
    obtain ⟨M1, M2, v1, v2, h1, h2, h3, h4, h5⟩ := h.split (A := [u]) (B := w :: l) (fun a ha => by
      rcases List.mem_cons.1 ha with h | h
      · exact .inl (by simp [h])
      · exact .inr h)
    have hc0 := hw.cost ok
    have hc1 := hr.pos ok
    subst h4
    by_cases z2 : M2 = 0
    · have e2 := h2.zero z2
      subst z2
      rw [Nat.or_zero] at h0 ⊢
      exact (h1.at hk hD h0).le (by omega)
    · have j2 := (ih h2 z2).move hD hw.rev
      by_cases z1 : M1 = 0
      · have e1 := h1.zero z1
        subst z1
        rw [Nat.zero_or]
        exact j2.le (by omega)
      · exact ((h1.at hk hD z1).add hk hD j2 h3).le (by omega)
/-- pins that lie on cells -/
theorem Hang.pins (hD : Dwt G num k T (2 ^ k)) (hnum : ∀ i, i < k → num i < G.N ∧ G.no (num i) = false) {C : List Nat} (P : Nat → Bool) (hP : ∀ i, P i = true → num i ∈ C) : ∀ j, j ≤ k → Hang G T k C (mk P j) 0
  | 0, _ => .nil
  | j + 1, hj => by
    have ih := Hang.pins hD hnum P hP j (by omega)
    unfold mk
    by_cases hp : P j = true
    · rw [if_pos hp]
      have := Hang.cons (hP j hp) (Jn.pin hD hnum (i := j) (by omega)) ?_ ih
      · simpa using this
      · refine Nat.eq_of_testBit_eq (fun i => ?_)
        rw [Nat.testBit_and, Nat.zero_testBit, mk_bit, Nat.testBit_two_pow]
        by_cases h : j = i
        · subst h; simp
        · simp [h]
    · rw [if_neg hp, Nat.zero_or]; exact ih
end
end Go.Proofs.Ytihjaehkdgdenaa
