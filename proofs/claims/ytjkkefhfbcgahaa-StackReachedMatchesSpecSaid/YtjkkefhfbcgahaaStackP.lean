/- Chapter 4: reaching, both ways of reckoning: plain. -/
import Derived.Test.YtjkkefhfbcgahaaStackO
namespace Go.Proofs.Ytjkkefhfbcgahaa
open Go Go.RowKit
set_option linter.unusedVariables false

def InSpan (x : Through) (i : Nat) : Prop := (x.From - 1).toNat ≤ i ∧ i < x.To.toNat
def Closed (l : List Through) (C : Int → Prop) : Prop := ∀ x ∈ l, ∀ i j : Nat, InSpan x i → InSpan x j → C i → C j
def Inv (C : Int → Prop) (o : List Int) : Prop := ∀ (i : Nat) (y : Int), o[i]? = some y → (C (i : Int) ↔ C y)
def Low (o : List Int) : Prop := ∀ (i : Nat) (y : Int), o[i]? = some y → y ≤ i
theorem min_at {n : Nat} {o : List Int} {x : Through} (ho : RowOk n o) (hx : SpanOk n x) : ∃ j, InSpan x j ∧ o[j]? = some (minL (part o x)) := by
  obtain ⟨hl, hne, hg⟩ := part_get ho hx
  obtain ⟨_, h2⟩ := minL_spec hne
  obtain ⟨j, hj⟩ := List.getElem?_of_mem h2
  have hjl := lt_of_get hj
  have := hg j (by omega)
  unfold SpanOk at hx
  exact ⟨(x.From - 1).toNat + j, ⟨by omega, by omega⟩, by rw [← this]; exact hj⟩
theorem lay_cases {n : Nat} {o : List Int} {x : Through} {i : Nat} {y : Int} (hy : (passSpan o x).1[i]? = some y) : ∃ z, o[i]? = some z ∧ ((InSpan x i ∧ y = minL (part o x)) ∨ (¬ InSpan x i ∧ y = z)) := by
  unfold passSpan at hy
  dsimp only at hy
  rw [lay_get] at hy
  cases ho : o[i]? with
  | none => rw [ho] at hy; cases hy
  | some z =>
    rw [ho] at hy
    simp only [Option.map_some, Option.some.injEq] at hy
    by_cases h : (x.From - 1).toNat ≤ i ∧ i < x.To.toNat
    · rw [if_pos h] at hy; exact ⟨z, rfl, .inl ⟨h, hy.symm⟩⟩
    · rw [if_neg h] at hy; exact ⟨z, rfl, .inr ⟨h, hy.symm⟩⟩
theorem span_inv {n : Nat} {o : List Int} {x : Through} (ho : RowOk n o) (hx : SpanOk n x) {C : Int → Prop} (hC : ∀ i j : Nat, InSpan x i → InSpan x j → C i → C j) (h : Inv C o) : Inv C (passSpan o x).1 := fun i y hy => by
  obtain ⟨z, hz, h1 | h1⟩ := lay_cases (n := n) hy
  · obtain ⟨j, hj, hjm⟩ := min_at ho hx
    rw [h1.2, ← h j _ hjm]
    exact ⟨hC i j h1.1 hj, hC j i hj h1.1⟩
  · rw [h1.2]; exact h i z hz
theorem span_low {n : Nat} {o : List Int} {x : Through} (ho : RowOk n o) (hx : SpanOk n x) (h : Low o) : Low (passSpan o x).1 := fun i y hy => by
  obtain ⟨z, hz, h1 | h1⟩ := lay_cases (n := n) hy
  · have := (part_min ho hx).2.2 i z h1.1.1 h1.1.2 hz
    have := h i z hz
    rw [h1.2]; omega
  · rw [h1.2]; exact h i z hz
theorem pass_keeps {n : Nat} : ∀ (l : List Through) (st : List Int × Bool), RowOk n st.1 → (∀ x ∈ l, SpanOk n x) → (Low st.1 → Low (l.foldl passStep st).1) ∧ (∀ C, Closed l C → Inv C st.1 → Inv C (l.foldl passStep st).1)
  | [], st, _, _ => ⟨id, fun _ _ => id⟩
  | x :: l, st, ho, hl => by
    have hx := hl x (List.mem_cons_self ..)
    obtain ⟨i1, i2⟩ := pass_keeps l (passStep st x) (lay_ok ho hx) (fun y hy => hl y (List.mem_cons_of_mem _ hy))
    exact ⟨fun h => i1 (span_low ho hx h), fun C hC h => i2 C (fun y hy => hC y (List.mem_cons_of_mem _ hy)) (span_inv ho hx (hC x (List.mem_cons_self ..)) h)⟩
theorem span_same {n : Nat} {o : List Int} {x : Through} (ho : RowOk n o) (hx : SpanOk n x) (h : (passSpan o x).2 = false) : (passSpan o x).1 = o ∧ ∀ i y, InSpan x i → o[i]? = some y → y = minL (part o x) := by
  obtain ⟨hl, hne, hg⟩ := part_get ho hx
  have key : ∀ i y, InSpan x i → o[i]? = some y → y = minL (part o x) := fun i y hi hy => by
    unfold InSpan at hi
    have h3 := hg (i - (x.From - 1).toNat) (by unfold SpanOk at hx; omega)
    rw [show (x.From - 1).toNat + (i - (x.From - 1).toNat) = i by omega, hy] at h3
    have h4 : (part o x).any (fun y => y != minL (part o x)) = false := h
    have h5 := List.any_eq_false.1 h4 y (List.mem_of_getElem? h3)
    simpa using h5
  refine ⟨List.ext_getElem? (fun i => ?_), key⟩
  cases hi : (passSpan o x).1[i]? with
  | none =>
    rw [List.getElem?_eq_none_iff] at hi
    rw [(lay_ok ho hx).1] at hi
    rw [List.getElem?_eq_none (by rw [ho.1]; exact hi)]
  | some y =>
    obtain ⟨z, hz, h1 | h1⟩ := lay_cases (n := n) hi
    · rw [hz, h1.2, key i z h1.1 hz]
    · rw [hz, h1.2]
theorem pass_none {n : Nat} : ∀ (l : List Through) (o : List Int) (b : Bool), RowOk n o → (∀ x ∈ l, SpanOk n x) → (l.foldl passStep (o, b)).2 = false → b = false ∧ (l.foldl passStep (o, b)).1 = o ∧ ∀ x ∈ l, ∀ i y, InSpan x i → o[i]? = some y → y = minL (part o x)
  | [], o, b, _, _, h => ⟨h, rfl, fun x hx => by cases hx⟩
  | x :: l, o, b, ho, hl, h => by
    have hx := hl x (List.mem_cons_self ..)
    have e : (x :: l).foldl passStep (o, b) = l.foldl passStep ((passSpan o x).1, b || (passSpan o x).2) := rfl
    rw [e] at h ⊢
    obtain ⟨i1, i2, i3⟩ := pass_none l _ _ (lay_ok ho hx) (fun y hy => hl y (List.mem_cons_of_mem _ hy)) h
    rw [Bool.or_eq_false_iff] at i1
    obtain ⟨h1, h2⟩ := span_same ho hx i1.2
    rw [h1] at i2 i3
    rw [h1]
    refine ⟨i1.1, i2, fun y hy => ?_⟩
    rcases List.mem_cons.1 hy with hy | hy
    · subst hy; exact h2
    · exact i3 y hy
theorem run_spec {n : Nat} {l : List Through} (hl : ∀ x ∈ l, SpanOk n x) : ∀ (f : Nat) (o : List Int), RowOk n o → o.sum < (f : Int) → Low o → (∀ C, Closed l C → Inv C o) →
    RowOk n (runReach l f o) ∧ Low (runReach l f o) ∧ (∀ C, Closed l C → Inv C (runReach l f o)) ∧ ∀ x ∈ l, ∃ v, ∀ i y, InSpan x i → (runReach l f o)[i]? = some y → y = v
  | 0, o, ho, hs, _, _ => by have := (sum_bound o ho.2).1; omega
  | f + 1, o, ho, hs, h1, h2 => by
    obtain ⟨p1, p2, p3⟩ := passes l (o, false) ho hl
    obtain ⟨k1, k2⟩ := pass_keeps l (o, false) ho hl
    have hrun : runReach l (f + 1) o = if (pass l o).2 = true then runReach l f (pass l o).1 else (pass l o).1 := rfl
    rw [hrun]
    split
    · rename_i hc
      have hlt : (pass l o).1.sum < o.sum := by
        rcases p3 hc with h | h
        · cases h
        · exact h
      exact run_spec hl f _ p1 (by omega) (k1 h1) (fun C hC => k2 C hC (h2 C hC))
    · rename_i hc
      have hc : (l.foldl passStep (o, false)).2 = false := (Bool.not_eq_true _).mp hc
      obtain ⟨_, q2, q3⟩ := pass_none l o false ho hl hc
      have e : (pass l o).1 = o := q2
      rw [e]
      exact ⟨ho, h1, h2, fun x hx => ⟨_, q3 x hx⟩⟩
theorem reach_spec {n : Nat} {l : List Through} (hl : ∀ x ∈ l, SpanOk n x) :
    RowOk n (reachOf n l) ∧ Low (reachOf n l) ∧ (∀ C, Closed l C → Inv C (reachOf n l)) ∧ ∀ x ∈ l, ∃ v, ∀ i y, InSpan x i → (reachOf n l)[i]? = some y → y = v := by
  have hst := start_ok n
  have hsb := sum_bound (startOf n) hst.2
  rw [hst.1] at hsb
  have hg : ∀ (i : Nat) (y : Int), (startOf n)[i]? = some y → y = (i : Int) := fun i y hy => by
    unfold startOf at hy
    have := lt_of_get hy
    rw [List.getElem?_map, List.getElem?_range (by simpa using this)] at hy
    simpa using hy.symm
  refine run_spec hl _ _ hst (by have h9 : ((n * n + 1 : Nat) : Int) = (n : Int) * n + 1 := by simp
                                 rw [h9]; omega) (fun i y hy => by rw [hg i y hy]; exact Int.le_refl _) (fun C _ i y hy => by rw [hg i y hy])
/-- the class of a copper: what is reached from it -/
def cls (o : List Int) (c : Nat) (p : Int) : Prop := 0 ≤ p ∧ ∃ y, o[p.toNat]? = some y ∧ o[c]? = some y
theorem cls_closed {n : Nat} {l : List Through} (hl : ∀ x ∈ l, SpanOk n x) (c : Nat) : Closed l (cls (reachOf n l) c) := fun x hx i j hi hj ⟨_, y, h1, h2⟩ => by
  obtain ⟨hro, _, _, hv⟩ := reach_spec hl
  obtain ⟨v, hv⟩ := hv x hx
  have hxx := hl x hx
  unfold SpanOk at hxx
  rw [Int.toNat_natCast] at h1
  have hjl : j < (reachOf n l).length := by rw [hro.1]; unfold InSpan at hj; omega
  refine ⟨Int.natCast_nonneg _, y, ?_, h2⟩
  rw [Int.toNat_natCast, List.getElem?_eq_getElem hjl]
  rw [hv j _ hj (List.getElem?_eq_getElem hjl), hv i y hi h1]
/-- the class is the least closed set about the copper -/
theorem cls_iff {n : Nat} {l : List Through} (hl : ∀ x ∈ l, SpanOk n x) {c p : Nat} (hc : c < n) (hp : p < n) : cls (reachOf n l) c (p : Int) ↔ ∀ C, Closed l C → C (c : Int) → C (p : Int) := by
  obtain ⟨hro, _, hinv, _⟩ := reach_spec hl
  have hcl : c < (reachOf n l).length := by rw [hro.1]; exact hc
  constructor
  · rintro ⟨_, y, h1, h2⟩ C hC hcc
    rw [Int.toNat_natCast] at h1
    exact (hinv C hC p y h1).2 ((hinv C hC c y h2).1 hcc)
  · intro h
    exact h _ (cls_closed hl c) ⟨Int.natCast_nonneg _, (reachOf n l)[c], by rw [Int.toNat_natCast]; exact List.getElem?_eq_getElem hcl, List.getElem?_eq_getElem hcl⟩
/-- rows with the same classes are the same -/
theorem same_cls {n : Nat} {l r : List Through} (hl : ∀ x ∈ l, SpanOk n x) (hr : ∀ x ∈ r, SpanOk n x) (h : ∀ c p, c < n → p < n → (cls (reachOf n l) c (p : Int) ↔ cls (reachOf n r) c (p : Int))) : reachOf n l = reachOf n r := by
  have key : ∀ {l r : List Through}, (∀ x ∈ l, SpanOk n x) → (∀ x ∈ r, SpanOk n x) → (∀ c p, c < n → p < n → (cls (reachOf n l) c (p : Int) → cls (reachOf n r) c (p : Int))) → ∀ (i : Nat) (y z : Int), (reachOf n l)[i]? = some y → (reachOf n r)[i]? = some z → z ≤ y := by
    intro l r hl hr h i y z hy hz
    obtain ⟨hro, hlow, hinv, _⟩ := reach_spec hl
    obtain ⟨hro', hlow', _, _⟩ := reach_spec hr
    have hi : i < n := by rw [← hro.1]; exact lt_of_get hy
    have hself : cls (reachOf n l) i (i : Int) := ⟨Int.natCast_nonneg _, y, by rw [Int.toNat_natCast]; exact hy, hy⟩
    have h1 := (hinv _ (cls_closed hl i) i y hy).1 hself
    have hyl := hlow i y hy
    obtain ⟨hy0, _⟩ := h1
    have h2 := h i y.toNat hi (by omega) (by rw [Int.toNat_of_nonneg hy0]; exact (hinv _ (cls_closed hl i) i y hy).1 hself)
    obtain ⟨_, u, h3, h4⟩ := h2
    rw [Int.toNat_natCast] at h3
    have := hlow' _ _ h3
    rw [h4] at hz
    injection hz with hz
    omega
  obtain ⟨hro, _⟩ := reach_spec hl
  obtain ⟨hro', _⟩ := reach_spec hr
  refine List.ext_getElem? (fun i => ?_)
  rcases Nat.lt_or_ge i n with hi | hi
  · have h1 : (reachOf n l)[i]? = some ((reachOf n l)[i]'(by rw [hro.1]; exact hi)) := List.getElem?_eq_getElem _
    have h2 : (reachOf n r)[i]? = some ((reachOf n r)[i]'(by rw [hro'.1]; exact hi)) := List.getElem?_eq_getElem _
    rw [h1, h2]
    have h3 := key hl hr (fun c p hc hp => (h c p hc hp).1) i _ _ h1 h2
    have h4 := key hr hl (fun c p hc hp => (h c p hc hp).2) i _ _ h2 h1
    congr 1; omega
  · rw [List.getElem?_eq_none (by rw [hro.1]; exact hi), List.getElem?_eq_none (by rw [hro'.1]; exact hi)]
end Go.Proofs.Ytjkkefhfbcgahaa
