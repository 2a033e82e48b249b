/- Chapter 4: the reference's reach: plain. -/
import Derived.Test.YtjkkefhfbcgahaaStackP
namespace Go.Proofs.Ytjkkefhfbcgahaa
open Go Go.RowKit
set_option linter.unusedVariables false

def setR (s : List Bool) (a b : Nat) : List Bool := s.mapIdx (fun j y => if a ≤ j ∧ j < b then true else y)
theorem setR_get (s : List Bool) (a b j : Nat) : (setR s a b)[j]? = s[j]?.map (fun y => if a ≤ j ∧ j < b then true else y) := by unfold setR; rw [List.getElem?_mapIdx]
theorem setR_len (s : List Bool) (a b : Nat) : (setR s a b).length = s.length := by simp [setR]
theorem setR_none (s : List Bool) (a : Nat) : setR s a a = s := by
  refine List.ext_getElem? (fun j => ?_)
  rw [setR_get]
  cases s[j]? with
  | none => rfl
  | some y => rw [Option.map_some, if_neg (by omega)]
theorem setR_set {s : List Bool} {a b : Nat} (hab : a ≤ b) (hb : b < s.length) : (setR s a b).set b true = setR s a (b + 1) := by
  refine List.ext_getElem? (fun j => ?_)
  rw [List.getElem?_set, setR_get, setR_get, setR_len]
  by_cases hj : b = j
  · subst hj
    rw [if_pos rfl, if_pos hb, List.getElem?_eq_getElem hb]
    simp [hab]
  · rw [if_neg hj]
    congr 1
    funext y
    by_cases h2 : a ≤ j ∧ j < b
    · rw [if_pos h2, if_pos (by omega)]
    · rw [if_neg h2, if_neg (by omega)]
def offs (s : List Bool) : List Int := s.map (fun b => if b = true then (0 : Int) else 1)
theorem offs_nonneg (s : List Bool) : 0 ≤ (offs s).sum := by
  induction s with
  | nil => simp [offs]
  | cons b s ih =>
    have : (offs (b :: s)).sum = (if b = true then (0 : Int) else 1) + (offs s).sum := by simp [offs]
    rw [this]; split <;> omega
theorem offs_setR (s : List Bool) (a b : Nat) : offs (setR s a b) = (offs s).mapIdx (fun j y => if a ≤ j ∧ j < b then 0 else y) := by
  refine List.ext_getElem? (fun j => ?_)
  unfold offs
  rw [List.getElem?_map, setR_get, List.getElem?_mapIdx, List.getElem?_map]
  cases s[j]? with
  | none => rfl
  | some y =>
    simp only [Option.map_some]
    by_cases h : a ≤ j ∧ j < b
    · rw [if_pos h, if_pos h]; rfl
    · rw [if_neg h, if_neg h]
theorem offs_lt {s : List Bool} {a b j : Nat} (h : s[j]? = some false) (ha : a ≤ j) (hb : j < b) : (offs (setR s a b)).sum < (offs s).sum := by
  rw [offs_setR]
  refine (sum_mapIdx (offs s) _ (fun i y hy => ?_)).2 ⟨j, 1, by unfold offs; rw [List.getElem?_map, h]; rfl, by rw [if_pos ⟨ha, hb⟩]; decide⟩
  split
  · unfold offs at hy
    rw [List.getElem?_map] at hy
    cases hs : s[i]? with
    | none => rw [hs] at hy; cases hy
    | some z => rw [hs] at hy; simp only [Option.map_some, Option.some.injEq] at hy; rw [← hy]; split <;> omega
  · exact Int.le_refl _
def SInv (n : Nat) (l : List Through) (c : Nat) (s : List Bool) : Prop := s.length = n + 1 ∧ s[c]? = some true ∧ ∀ C, Closed l C → C ((c - 1 : Nat) : Int) → ∀ p : Nat, s[p]? = some true → 1 ≤ p ∧ C ((p - 1 : Nat) : Int)
def SClosed (x : Through) (s : List Bool) : Prop := ∀ i j : Nat, x.From ≤ i → (i : Int) ≤ x.To → x.From ≤ j → (j : Int) ≤ x.To → s[i]? = some true → s[j]? = some true
def seenOf (n : Nat) (l : List Through) (c : Nat) : List Bool := (List.range (n + 1)).map (fun p => decide (1 ≤ p ∧ (reachOf n l).getD (p - 1) 0 = (reachOf n l).getD (c - 1) 0))
theorem seen_is {n : Nat} {l : List Through} (hl : ∀ x ∈ l, SpanOk n x) {c : Nat} (hc1 : 1 ≤ c) (hc2 : c ≤ n) {s : List Bool} (h : SInv n l c s) (hs : ∀ x ∈ l, SClosed x s) : s = seenOf n l c := by
  obtain ⟨hlen, hcs, hC⟩ := h
  obtain ⟨hro, _⟩ := reach_spec hl
  refine List.ext_getElem? (fun p => ?_)
  rcases Nat.lt_or_ge p (n + 1) with hp | hp
  · unfold seenOf
    rw [List.getElem?_map, List.getElem?_range hp, List.getElem?_eq_getElem (by omega)]
    simp only [Option.map_some, Option.some.injEq]
    have hcl : c - 1 < (reachOf n l).length := by rw [hro.1]; omega
    rw [Bool.eq_iff_iff, decide_eq_true_eq]
    constructor
    · intro h
      obtain ⟨h1, h2⟩ := hC _ (cls_closed hl (c - 1)) ⟨Int.natCast_nonneg _, (reachOf n l)[c - 1], by rw [Int.toNat_natCast]; exact List.getElem?_eq_getElem hcl, List.getElem?_eq_getElem hcl⟩ p (by rw [List.getElem?_eq_getElem (by omega), h])
      obtain ⟨_, y, h3, h4⟩ := h2
      rw [Int.toNat_natCast] at h3
      exact ⟨h1, by rw [getD_of0 h3, getD_of0 h4]⟩
    · rintro ⟨h1, h2⟩
      have hpl : p - 1 < (reachOf n l).length := by rw [hro.1]; omega
      rw [getD_of0 (List.getElem?_eq_getElem hpl), getD_of0 (List.getElem?_eq_getElem hcl)] at h2
      have h3 : cls (reachOf n l) (c - 1) ((p - 1 : Nat) : Int) := ⟨Int.natCast_nonneg _, (reachOf n l)[c - 1], by rw [Int.toNat_natCast, List.getElem?_eq_getElem hpl, h2], List.getElem?_eq_getElem hcl⟩
      have h4 := (cls_iff hl (by omega) (by omega)).1 h3 (fun q => s[(q + 1).toNat]? = some true) (fun x hx i j hi hj hs1 => by
        have hxx := hl x hx
        unfold SpanOk at hxx
        unfold InSpan at hi hj
        have e1 : ((i : Int) + 1).toNat = i + 1 := by omega
        have e2 : ((j : Int) + 1).toNat = j + 1 := by omega
        have hs1 : s[((i : Int) + 1).toNat]? = some true := hs1
        rw [e1] at hs1
        show s[((j : Int) + 1).toNat]? = some true
        rw [e2]
        exact hs x hx (i + 1) (j + 1) (by omega) (by omega) (by omega) (by omega) hs1) (by rw [show (((c - 1 : Nat) : Int) + 1).toNat = c by omega]; exact hcs)
      rw [show (((p - 1 : Nat) : Int) + 1).toNat = p by omega, List.getElem?_eq_getElem (by omega)] at h4
      simpa using h4
  · rw [List.getElem?_eq_none (by omega), List.getElem?_eq_none (by simp [seenOf]; omega)]
theorem getD_bool {s : List Bool} {i : Nat} (hi : i < s.length) : s[i]? = some (s.getD i false) := by rw [List.getD_eq_getElem?_getD, List.getElem?_eq_getElem hi]; rfl
theorem reach_span {n : Nat} (hn : n ≤ 60) {l : List Through} {c : Nat} {x : Through} (hx : x ∈ l) (hxo : SpanOk n x) {k : Nat} {l4 : List Bool} {c4 : Bool} {next2 : List Bool → Bool → Prop} (h : SInv n l c l4) (hA : SClosed x l4 → next2 l4 c4)
    (hB : ∀ s, SInv n l c s → (offs s).sum < (offs l4).sum → next2 s true) : M_ref4_reach_L2 k x l4 c4 next2 := by
  obtain ⟨hlen, hcs, hC⟩ := h
  unfold SpanOk at hxo
  have hf : x.From = ((x.From.toNat : Nat) : Int) := by omega
  have hm : x.To = ((x.From.toNat + (x.To - x.From).toNat : Nat) : Int) := by omega
  generalize hF : x.From.toNat = f at *
  generalize hM : (x.To - x.From).toNat = m0 at *
  have hb : f + m0 ≤ n := by omega
  unfold M_ref4_reach_L2
  refine lp_upto (fun i => ((List.range i).any (fun t => l4.getD (f + t) false), (List.range i).all (fun t => l4.getD (f + t) false), ((f + i : Nat) : Int))) (m0 + 1) (by simp; exact hf) (fun X i hi hX => ?_) (fun X => ?_)
  · unfold M_ref4_reach_L3
    dsimp only at hX ⊢
    rw [List.range_succ, List.any_append, List.all_append] at hX
    simp only [List.any_cons, List.any_nil, List.all_cons, List.all_nil, Bool.or_false, Bool.and_true] at hX
    have hw : w64 (((f + i : Nat) : Int) + 1) = ((f + (i + 1) : Nat) : Int) := by rw [w64_id] <;> omega
    rw [hw]
    have hg := getD_bool (s := l4) (i := f + i) (by omega)
    generalize l4.getD (f + i) false = v at *
    generalize (List.range i).any (fun t => l4.getD (f + t) false) = b1 at *
    generalize (List.range i).all (fun t => l4.getD (f + t) false) = b2 at *
    refine cnd_of (fun _ => ?_) (fun e => by simp at e; omega)
    cases b1 <;> cases b2 <;> simp only [Bool.true_or, Bool.false_or, Bool.true_and, Bool.false_and] at hX
    · exact cnd_of (fun e => by cases e) (fun _ => idx_nat hg (cnd_of (fun e => by cases e) (fun _ => hX)))
    · exact cnd_of (fun e => by cases e) (fun _ => idx_nat hg (cnd_of (fun _ => hX) (fun e => by cases e)))
    · exact cnd_of (fun _ => cnd_of (fun e => by cases e) (fun _ => hX)) (fun e => by cases e)
    · exact cnd_of (fun _ => cnd_of (fun _ => idx_nat hg hX) (fun e => by cases e)) (fun e => by cases e)
  · unfold M_ref4_reach_L3 M_ref4_reach_k4
    dsimp only
    refine cnd_of (fun e => by simp at e; omega) (fun _ => ?_)
    refine cnd_of (fun e1 => cnd_of (fun e2 => ?_) (fun e2 => hA ?_)) (fun e1 => cnd_of (fun e => by cases e) (fun _ => hA ?_))
    · obtain ⟨t, ht, ht2⟩ := List.any_eq_true.1 e1
      have ht := List.mem_range.1 ht
      have e2 : (List.range (m0 + 1)).all (fun t => l4.getD (f + t) false) = false := by simpa using e2
      obtain ⟨u, hu, hu2⟩ := List.all_eq_false.1 e2
      have hu := List.mem_range.1 hu
      have gt := getD_bool (s := l4) (i := f + t) (by omega)
      have gu := getD_bool (s := l4) (i := f + u) (by omega)
      rw [ht2] at gt
      rw [(Bool.not_eq_true _).mp hu2] at gu
      rw [hf]
      refine lp_upto (fun i => (setR l4 f (f + i), ((f + i : Nat) : Int))) (m0 + 1) (by rw [Nat.add_zero, setR_none]) (fun Y i hi hY => ?_) (fun Y => ?_)
      · unfold M_ref4_reach_L4
        dsimp only at hY ⊢
        refine cnd_of (fun _ => ?_) (fun e => by simp at e; omega)
        have hlt : f + i < l4.length := by omega
        refine idx_nat (List.getElem?_eq_getElem (by rw [setR_len]; exact hlt)) ?_
        rw [Int.toNat_natCast, show w64 (((f + i : Nat) : Int) + 1) = ((f + (i + 1) : Nat) : Int) by rw [w64_id] <;> omega, setR_set (by omega) hlt]
        exact hY
      · unfold M_ref4_reach_L4
        dsimp only
        refine cnd_of (fun e => by simp at e; omega) (fun _ => ?_)
        refine hB _ ⟨by rw [setR_len]; exact hlen, ?_, fun C hCl hCc p hp => ?_⟩ (offs_lt gu (by omega) (by omega))
        · rw [setR_get, hcs, Option.map_some]; split <;> rfl
        · rw [setR_get] at hp
          by_cases hin : f ≤ p ∧ p < f + (m0 + 1)
          · obtain ⟨h1, h2⟩ := hC C hCl hCc (f + t) gt
            refine ⟨by omega, hCl x hx (f + t - 1) (p - 1) ?_ ?_ h2⟩
            · unfold InSpan; omega
            · unfold InSpan; omega
          · cases hs : l4[p]? with
            | none => rw [hs] at hp; cases hp
            | some y =>
              rw [hs, Option.map_some, if_neg hin] at hp
              exact hC C hCl hCc p (by rw [hs]; exact hp)
    · intro i j h1 h2 h3 h4 _
      have e2 : (List.range (m0 + 1)).all (fun t => l4.getD (f + t) false) = true := by simpa using e2
      have := List.all_eq_true.1 e2 (j - f) (List.mem_range.2 (by omega))
      have gj := getD_bool (s := l4) (i := j) (by omega)
      rw [show f + (j - f) = j by omega] at this
      rw [gj, this]
    · intro i j h1 h2 h3 h4 h5
      have := List.any_eq_false.1 e1 (i - f) (List.mem_range.2 (by omega))
      rw [show f + (i - f) = i by omega, List.getD_eq_getElem?_getD, h5] at this
      exact absurd rfl this
theorem S_ref4_reach {n : Nat} (hn : n ≤ 60) {l : List Through} (hl : ∀ x ∈ l, SpanOk n x) {c : Nat} (hc1 : 1 ≤ c) (hc2 : c ≤ n) {Q : List Bool → Prop} (h : Q (seenOf n l c)) : M_ref4_reach l (n : Int) (c : Int) Q := by
  unfold M_ref4_reach
  rw [show w64 ((n : Int) + 1) = ((n + 1 : Nat) : Int) by rw [w64_id] <;> omega]
  refine ⟨⟨Int.natCast_nonneg _, by omega⟩, ?_⟩
  rw [Int.toNat_natCast, Int.toNat_natCast]
  refine idx_nat (x := false) (by rw [List.getElem?_replicate, if_pos (by omega)]) ?_
  refine lp_intro (fun st => SInv n l c st.1 ∧ (st.2 = false → ∀ x ∈ l, SClosed x st.1)) (fun st => 2 * (offs st.1).sum.toNat + (if st.2 = true then 1 else 0))
    ⟨⟨by simp, by rw [List.getElem?_set, if_pos rfl, if_pos (by simp; omega)], fun C _ hCc p hp => ?_⟩, fun e => by cases e⟩ (fun X st hI hX => ?_)
  · rw [List.getElem?_set] at hp
    by_cases hcp : c = p
    · subst hcp; exact ⟨hc1, hCc⟩
    · rw [if_neg hcp, List.getElem?_replicate] at hp
      split at hp
      · simp at hp
      · cases hp
  obtain ⟨s, b⟩ := st
  obtain ⟨i1, i2⟩ := hI
  dsimp only at i1 i2 hX ⊢
  unfold M_ref4_reach_L1
  refine cnd_of (fun e => ?_) (fun e => by rw [← seen_is hl hc1 hc2 i1 (i2 e)] at h; exact h)
  refine forIn0 (fun k st => SInv n l c st.1 ∧ ((st.2 = false ∧ st.1 = s ∧ ∀ x ∈ l.take k, SClosed x s) ∨ (st.2 = true ∧ (offs st.1).sum < (offs s).sum))) ⟨i1, .inl ⟨rfl, rfl, fun x hx => by simp at hx⟩⟩ (fun k x st hx hI next hnx => ?_) (fun st hI => ?_)
  · obtain ⟨j1, j2⟩ := hI
    have hxm := List.mem_of_getElem? hx
    refine reach_span hn hxm (hl x hxm) j1 (fun hcl => hnx _ ⟨j1, ?_⟩) (fun r hr hlt => hnx _ ⟨hr, .inr ⟨rfl, ?_⟩⟩)
    · rcases j2 with ⟨q1, q2, q3⟩ | q
      · refine .inl ⟨q1, q2, fun y hy => ?_⟩
        rw [List.take_add_one, hx] at hy
        rcases List.mem_append.1 hy with hy | hy
        · exact q3 y hy
        · simp at hy; subst hy; rw [← q2]; exact hcl
      · exact .inr q
    · rcases j2 with ⟨q1, q2, q3⟩ | q
      · rw [← q2]; exact hlt
      · have := q.2; dsimp only; omega
  · obtain ⟨j1, j2⟩ := hI
    rw [List.take_length] at j2
    have h1 := offs_nonneg st.1
    have h2 := offs_nonneg s
    rcases j2 with ⟨q1, q2, q3⟩ | ⟨q1, q2⟩
    · refine hX (st.1, st.2) ⟨j1, fun _ => by dsimp only; rw [q2]; exact q3⟩ ?_
      dsimp only; rw [q1, q2, if_neg (by simp), if_pos e]; omega
    · refine hX (st.1, st.2) ⟨j1, fun e9 => by dsimp only at e9; rw [q1] at e9; cases e9⟩ ?_
      dsimp only; rw [q1, if_pos rfl, if_pos e]; omega
end Go.Proofs.Ytjkkefhfbcgahaa
